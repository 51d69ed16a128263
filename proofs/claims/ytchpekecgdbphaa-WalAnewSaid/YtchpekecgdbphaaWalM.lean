/-
  Small functions of a log: none, Room, Life, Last, may, Sync.
-/
import Derived.Test.YtchpekecgdbphaaWalO0
namespace Go.Proofs.Ytchpekecgdbphaa
open Go Go.RowKit Go.MapKept Go.ChangeMaps

def Only0 (w : World) (v : Value) (e : Ending) (w' : World) : Prop := e = .returned v ∧ Upd (fun _ => False) w w'
section
variable {w : World} {wb b : Nat} {size n l p f next used : Int}
theorem none_any (hw : WalAt w wb b size n l p f next used) : Calls Try.prog 22 #[.pointer (some ⟨wb, 0, none⟩)] w (Same w (.bool false)) := by
  have c0 := hw.c0
  clear hw
  go_enter Try.func22, Try.ntmps22
  go_wp2_with fail
  go_ret
  exact ⟨rfl, rfl⟩
theorem room_any (hw : WalAt w wb b size n l p f next used) (h0 : 0 ≤ size) (h1 : size ≤ 8190) (h2 : 0 ≤ used) (h3 : used ≤ size) : Calls Try.prog 10 #[.pointer (some ⟨wb, 0, none⟩)] w (Drew w (.int .i64 (size - used))) := by
  have c1 := hw.c1
  have c7 := hw.c7
  have HW := Lib.hid hw; clear hw
  go_enter Try.func10, Try.ntmps10
  go_wp2_with (go_at_call 22; refine (none_any HW.out).mono ?_; rintro e w' ⟨rfl, rfl⟩)
  go_region
  all_goals
    go_wp2_with fail
    go_ret
    exact ⟨rfl, rfl⟩
theorem life_any (hw : WalAt w wb b size n l p f next used) : Calls Try.prog 17 #[.pointer (some ⟨wb, 0, none⟩)] w (Same w (.int .i64 l)) := by
  have c3 := hw.c3
  have HW := Lib.hid hw; clear hw
  go_enter Try.func17, Try.ntmps17
  go_wp2_with (go_at_call 22; refine (none_any HW.out).mono ?_; rintro e w' ⟨rfl, rfl⟩)
  go_ret
  exact ⟨rfl, rfl⟩
theorem last_any (hw : WalAt w wb b size n l p f next used) (h0 : 1 ≤ next) (h1 : next ≤ 1152921504606846978) : Calls Try.prog 11 #[.pointer (some ⟨wb, 0, none⟩)] w (Same w (.int .i64 (next - 1))) := by
  have c6 := hw.c6
  have HW := Lib.hid hw; clear hw
  go_enter Try.func11, Try.ntmps11
  go_wp2_with (go_at_call 22; refine (none_any HW.out).mono ?_; rintro e w' ⟨rfl, rfl⟩)
  go_ret
  exact ⟨rfl, rfl⟩
end
theorem may_any (w : World) (a : Option Addr) (n c : Nat) (hn : n ≤ 140737488355328) : Calls Try.prog 23 #[.slice a n c] w (Same w (.bool (decide (1 ≤ n ∧ n ≤ 2000)))) := by
  by_cases h1 : 1 ≤ n
  · have q1 : (0 : Int) < n := by omega
    by_cases h2 : n ≤ 2000
    · rw [decide_eq_true ⟨h1, h2⟩]
      have q2 : (n : Int) ≤ 2000 := by omega
      go_enter Try.func23, Try.ntmps23
      go_wp2_with fail
      go_ret
      exact ⟨rfl, rfl⟩
    · rw [decide_eq_false (fun h => h2 h.2)]
      have q2 : ¬ (n : Int) ≤ 2000 := by omega
      go_enter Try.func23, Try.ntmps23
      go_wp2_with fail
      go_ret
      exact ⟨rfl, rfl⟩
  · rw [decide_eq_false (fun h => h1 h.1)]
    obtain rfl : n = 0 := by omega
    go_enter Try.func23, Try.ntmps23
    go_wp2_with fail
    go_ret
    exact ⟨rfl, rfl⟩
end Go.Proofs.Ytchpekecgdbphaa
