/-
  Plates that have failed, and their answers.
-/
import Derived.Test.YtcmhcibkpmbnoaaCrashy
set_option linter.unusedVariables false
namespace Go.Proofs.Ytcmhcibkpmbnoaa
open Go Go.RowKit Go.MapKept Go.ChangeMaps

/-- state tells r of p, here and later. -/
def StAt (w : World) (p : Value) (r : Int) : Prop := ∀ (w' : World), Upd (fun _ => False) w w' → Calls Try.prog 43 #[p] w' (Same w' (.int .i64 r))
theorem StAt.old {w w' : World} {p : Value} {r : Int} (h : StAt w p r) (u : Upd (fun _ => False) w w') : StAt w' p r := fun w'' hu => h w'' (u.trans hu)
theorem st_nil (w : World) : StAt w (.pointer none) 2 := fun w' _ => by
  go_enter Try.func43, Try.ntmps43
  go_wp2
  go_ret
  exact ⟨rfl, rfl⟩
theorem st_zero {w : World} {b : Nat} (h2 : w.cell? ⟨b, 2, none⟩ = some (.int .i64 0)) : StAt w (.pointer (some ⟨b, 0, none⟩)) 2 := fun w' u => by
  have c2 := (u.cell (p := ⟨b, 2, none⟩) (World.block_lt_of_cell? _ _ h2) (fun h => h)).trans h2
  clear h2 u
  go_enter Try.func43, Try.ntmps43
  go_wp2
  go_ret
  exact ⟨rfl, rfl⟩
theorem st_dead {w : World} {b n : Nat} (hn : 0 < n) (h2 : w.cell? ⟨b, 2, none⟩ = some (.int .i64 n)) (h3 : w.cell? ⟨b, 3, none⟩ = some (.bool true)) : StAt w (.pointer (some ⟨b, 0, none⟩)) 60 := fun w' u => by
  have c2 := (u.cell (p := ⟨b, 2, none⟩) (World.block_lt_of_cell? _ _ h2) (fun h => h)).trans h2
  have c3 := (u.cell (p := ⟨b, 3, none⟩) (World.block_lt_of_cell? _ _ h3) (fun h => h)).trans h3
  clear h2 h3 u
  go_enter Try.func43, Try.ntmps43
  go_wp2
  go_ret
  exact ⟨rfl, rfl⟩
theorem read_st (i : Int) (w : World) (p : Value) (r : Int) (hr : r = 2 ∨ r = 60) (h : StAt w p r) : Calls Try.prog 30 #[p, .int .i64 i] w (Same w (.tuple #[.slice none 0 0, .int .i64 r])) := by
  have HH := Lib.hid h; clear h
  rcases hr with rfl | rfl
  all_goals
    go_enter Try.func30, Try.ntmps30
    go_wp2_with (go_at_call 43; refine (HH.out _ (Upd.refl _ _)).mono ?_; rintro e w' ⟨rfl, rfl⟩)
    go_ret2
    exact ⟨rfl, rfl⟩
theorem write_st (i : Int) (w : World) (p v : Value) (r : Int) (hr : r = 2 ∨ r = 60) (h : StAt w p r) : Calls Try.prog 21 #[p, .int .i64 i, v] w (Same w (.int .i64 r)) := by
  have HH := Lib.hid h; clear h
  rcases hr with rfl | rfl
  all_goals
    go_enter Try.func21, Try.ntmps21
    go_wp2_with (go_at_call 43; refine (HH.out _ (Upd.refl _ _)).mono ?_; rintro e w' ⟨rfl, rfl⟩)
    go_ret
    exact ⟨rfl, rfl⟩
theorem sync_st (w : World) (p : Value) (r : Int) (hr : r = 2 ∨ r = 60) (h : StAt w p r) : Calls Try.prog 24 #[p] w (Same w (.int .i64 r)) := by
  have HH := Lib.hid h; clear h
  rcases hr with rfl | rfl
  all_goals
    go_enter Try.func24, Try.ntmps24
    go_wp2_with (go_at_call 43; refine (HH.out _ (Upd.refl _ _)).mono ?_; rintro e w' ⟨rfl, rfl⟩)
    go_ret
    exact ⟨rfl, rfl⟩
theorem crash_st (w : World) (p v : Value) (t n : Int) (r : Int) (hr : r = 2 ∨ r = 60) (h : StAt w p r) : Calls Try.prog 26 #[p, v, .int .i64 t, .int .i64 n] w (Same w (.int .i64 r)) := by
  have HH := Lib.hid h; clear h
  rcases hr with rfl | rfl
  all_goals
    go_enter Try.func26, Try.ntmps26
    go_wp2_with (go_at_call 43; refine (HH.out _ (Upd.refl _ _)).mono ?_; rintro e w' ⟨rfl, rfl⟩)
    go_ret
    exact ⟨rfl, rfl⟩
theorem fail_st (w : World) (p : Value) (r : Int) (hr : r = 2 ∨ r = 60) (h : StAt w p r) : Calls Try.prog 28 #[p] w (Same w (.int .i64 r)) := by
  have HH := Lib.hid h; clear h
  rcases hr with rfl | rfl
  all_goals
    go_enter Try.func28, Try.ntmps28
    go_wp2_with (go_at_call 43; refine (HH.out _ (Upd.refl _ _)).mono ?_; rintro e w' ⟨rfl, rfl⟩)
    go_ret
    exact ⟨rfl, rfl⟩
theorem image_st (w : World) (p : Value) (r : Int) (hr : r = 2 ∨ r = 60) (h : StAt w p r) : Calls Try.prog 39 #[p] w (Same w (.slice none 0 0)) := by
  have HH := Lib.hid h; clear h
  rcases hr with rfl | rfl
  all_goals
    go_enter Try.func39, Try.ntmps39
    go_wp2_with (go_at_call 43; refine (HH.out _ (Upd.refl _ _)).mono ?_; rintro e w' ⟨rfl, rfl⟩)
    go_ret
    exact ⟨rfl, rfl⟩
theorem dirty_st (w : World) (p : Value) (r : Int) (hr : r = 2 ∨ r = 60) (h : StAt w p r) : Calls Try.prog 37 #[p] w (Same w (.slice none 0 0)) := by
  have HH := Lib.hid h; clear h
  rcases hr with rfl | rfl
  all_goals
    go_enter Try.func37, Try.ntmps37
    go_wp2_with (go_at_call 43; refine (HH.out _ (Upd.refl _ _)).mono ?_; rintro e w' ⟨rfl, rfl⟩)
    go_ret
    exact ⟨rfl, rfl⟩
theorem sectors_p (w : World) (b n : Nat) (h2 : w.cell? ⟨b, 2, none⟩ = some (.int .i64 n)) : Calls Try.prog 10 #[.pointer (some ⟨b, 0, none⟩)] w (Same w (.int .i64 n)) := by
  go_enter Try.func10, Try.ntmps10
  go_wp2
  go_ret
  exact ⟨rfl, rfl⟩
theorem failed_p (w : World) (b : Nat) (x : Bool) (h3 : w.cell? ⟨b, 3, none⟩ = some (.bool x)) : Calls Try.prog 35 #[.pointer (some ⟨b, 0, none⟩)] w (Same w (.bool x)) := by
  go_enter Try.func35, Try.ntmps35
  go_wp2
  go_ret
  exact ⟨rfl, rfl⟩
end Go.Proofs.Ytcmhcibkpmbnoaa
