/-
  Open: what it answers.
  Small functions of a log: none, Room, Life, Last, may, Sync.
-/
import Derived.Test.YtchpekecgdbphaaWalL
import Derived.IntWalk
set_option linter.unusedVariables false
namespace Go.Proofs.Ytchpekecgdbphaa
open Go Go.RowKit Go.MapKept Go.ChangeMaps

/-- A new log. -/
structure NewLog (w : World) (b ab cm size : Nat) (D : List (List Int)) (wb : Nat) (e : Ending) (w' : World) : Prop where
  e : e = .returned (.tuple #[.pointer (some ⟨wb, 0, none⟩), .slice none 0 0, .int .i64 0])
  zero : ∀ i, i < D.length → D.getD i [] = zeros
  p : PlateAt w' b ab cm (headed D 1 (headB 1 1 0 1)) (fun _ => none)
  wal : WalAt w' wb b size 1 1 0 1 1 0
  up : Upd (fun k => k = ab ∨ k = cm) w w'
  ge : w.heap.size ≤ wb
/-- A log with its records. -/
structure OldLog (w : World) (b ab cm size : Nat) (D : List (List Int)) (wb place : Nat) (n l f : Int) (L : List (List Int)) (v : Value) (D' : List (List Int)) (e : Ending) (w' : World) : Prop where
  e : e = .returned (.tuple #[.pointer (some ⟨wb, 0, none⟩), v, .int .i64 0])
  best : Best (fun i => D.getD i []) size 2 n l place f
  n0 : n ≠ 0
  n2 : n < 1152921504606846976
  l2 : l < 1152921504606846976
  f2 : f < 1152921504606846976 - size
  o : Opened (fun i => D.getD i []) size place n l f L D'
  bytes : ∀ r, r ∈ L → IsB r
  p : PlateAt w' b ab cm D' (fun _ => none)
  wal : WalAt w' wb b size (n + 1) (l + 1) place f (f + L.length) (usedB L : Nat)
  li : Lists (w.heap.size + 1) w' v L
  up : Upd (fun k => k = ab ∨ k = cm) w w'
  ge : w.heap.size ≤ wb
/-- What an opening answers. -/
def OpenPost (w : World) (b ab cm size : Nat) (D : List (List Int)) (e : Ending) (w' : World) : Prop :=
  (e = .returned (.tuple #[.pointer none, .slice none 0 0, .int .i64 70]) ∧ (∀ s n l p f, s < 2 → ¬ IsHead (D.getD s []) s size n l p f) ∧ (¬ ∀ i, i < D.length → D.getD i [] = zeros) ∧ Upd (fun _ => False) w w') ∨
  (e = .returned (.tuple #[.pointer none, .slice none 0 0, .int .i64 4]) ∧ (∃ n l p f, Best (fun i => D.getD i []) size 2 n l p f ∧ n ≠ 0 ∧ (1152921504606846976 ≤ n ∨ 1152921504606846976 ≤ l ∨ 1152921504606846976 - (size : Int) ≤ f)) ∧ Upd (fun _ => False) w w') ∨
  (∃ wb, NewLog w b ab cm size D wb e w') ∨ ∃ wb place n l f L v D', OldLog w b ab cm size D wb place n l f L v D' e w'
theorem opened_of {V : Nat → List Int} {size place : Nat} {n l f : Int} {L : List (List Int)} {D1 : List (List Int)} (hs : 0 < size) (hpl : place < size) (hn : 1 ≤ n) (hrs : IsRecs V size place f L) (hmx : ∀ r, ¬ IsRec V size place (f + L.length) (usedB L) r) (hc : CleanIs V size place (usedB L) D1) :
    Opened V size place n l f L (headed D1 ((n + 1) % 2).toNat (headB (n + 1) (l + 1) place f)) := by
  have hl := hc.len
  have hroom := hrs.room
  refine ⟨by rw [headed_length, hl], hrs, hmx, headed_at (by omega), ?_, fun i hi => ?_, fun i h1 h2 => ?_⟩
  · rw [headed_other (by omega) (by omega)]
    exact hc.rest _ (by omega) (fun q h1 h2 e => by have := atS_ge size place q; omega)
  · have h2 := atS_ge size place i
    have h3 := atS_lt (p := place) (i := i) hs
    rw [headed_other (by omega) (by omega)]
    exact hc.rest _ h3 (fun q h1 h2 e => by have := atS_inj (by omega) h2 e; omega)
  · have h3 := atS_ge size place i
    have h4 := atS_lt (p := place) (i := i) hs
    rw [headed_other (by omega) (by omega)]
    exact hc.free i h1 h2
theorem updT2 {F G : Nat → Prop} {a b c : World} (h : Upd F a b) (k : Upd G b c) (hG : ∀ i, i < a.heap.size → G i → F i) : Upd F a c :=
  ⟨k.os.trans h.os, k.tape.trans h.tape, k.output.trans h.output, Nat.le_trans h.size k.size,
   fun i hi hF => (k.block i (Nat.lt_of_lt_of_le hi h.size) (fun g => hF (hG i hi g))).trans (h.block i hi hF)⟩
theorem Lists.lower {B B' : Nat} {w : World} {v : Value} {L : List (List Int)} (h : Lists B w v L) (hb : B' ≤ B) : Lists B' w v L := by
  obtain ⟨xs, ⟨h1, h2⟩, h3, h4⟩ := h.row
  refine ⟨xs, ⟨h1, h2.imp id ?_⟩, h3, fun i hi => ?_⟩
  · rintro ⟨g, cap, cur, hv, hg, r⟩
    exact ⟨g, cap, cur, hv, Nat.le_trans hb hg, r⟩
  · obtain ⟨sv, k1, k2⟩ := h4 i hi
    exact ⟨sv, k1, k2.lower hb⟩
theorem upd_new {w wr w' : World} {ab cm wb : Nat} (h : Upd (fun _ => False) w wr) (u : Upd (fun k => k = ab ∨ k = cm ∨ k = wb) wr w') (hb : w.heap.size ≤ wb) : Upd (fun k => k = ab ∨ k = cm) w w' :=
  updT2 (h.mono (fun _ _ h => h.elim)) u (fun i hi e => by rcases e with e | e | e; exact Or.inl e; exact Or.inr e; omega)
end Go.Proofs.Ytchpekecgdbphaa
namespace Go.Proofs.Ytchpekecgdbphaa
open Go Go.RowKit Go.MapKept Go.ChangeMaps

def Only0 (w : World) (v : Value) (e : Ending) (w' : World) : Prop := e = .returned v ∧ Upd (fun _ => False) w w'
section
variable {w : World} {wb b : Nat} {size n l p f next used : Int}
theorem none_any (hw : WalAt w wb b size n l p f next used) : Calls Try.prog 22 #[.pointer (some ⟨wb, 0, none⟩)] w (Same w (.bool false)) := by
  have c0 := hw.c0
  clear hw
  go_enter Try.func22, Try.ntmps22
  go_wp2_with fail
  go_ret
  exact ⟨rfl, rfl⟩
theorem room_any (hw : WalAt w wb b size n l p f next used) (h0 : 0 ≤ size) (h1 : size ≤ 8190) (h2 : 0 ≤ used) (h3 : used ≤ size) : Calls Try.prog 10 #[.pointer (some ⟨wb, 0, none⟩)] w (Drew w (.int .i64 (size - used))) := by
  have c1 := hw.c1
  have c7 := hw.c7
  have HW := Lib.hid hw; clear hw
  go_enter Try.func10, Try.ntmps10
  go_wp2_with (go_at_call 22; refine (none_any HW.out).mono ?_; rintro e w' ⟨rfl, rfl⟩)
  go_region
  all_goals
    go_wp2_with fail
    go_ret
    exact ⟨rfl, rfl⟩
theorem life_any (hw : WalAt w wb b size n l p f next used) : Calls Try.prog 17 #[.pointer (some ⟨wb, 0, none⟩)] w (Same w (.int .i64 l)) := by
  have c3 := hw.c3
  have HW := Lib.hid hw; clear hw
  go_enter Try.func17, Try.ntmps17
  go_wp2_with (go_at_call 22; refine (none_any HW.out).mono ?_; rintro e w' ⟨rfl, rfl⟩)
  go_ret
  exact ⟨rfl, rfl⟩
theorem last_any (hw : WalAt w wb b size n l p f next used) (h0 : 1 ≤ next) (h1 : next ≤ 1152921504606846978) : Calls Try.prog 11 #[.pointer (some ⟨wb, 0, none⟩)] w (Same w (.int .i64 (next - 1))) := by
  have c6 := hw.c6
  have HW := Lib.hid hw; clear hw
  go_enter Try.func11, Try.ntmps11
  go_wp2_with (go_at_call 22; refine (none_any HW.out).mono ?_; rintro e w' ⟨rfl, rfl⟩)
  go_ret
  exact ⟨rfl, rfl⟩
end
theorem may_any (w : World) (a : Option Addr) (n c : Nat) (hn : n ≤ 140737488355328) : Calls Try.prog 23 #[.slice a n c] w (Same w (.bool (decide (1 ≤ n ∧ n ≤ 2000)))) := by
  by_cases h1 : 1 ≤ n
  · have q1 : (0 : Int) < n := by omega
    by_cases h2 : n ≤ 2000
    · rw [decide_eq_true ⟨h1, h2⟩]
      have q2 : (n : Int) ≤ 2000 := by omega
      go_enter Try.func23, Try.ntmps23
      go_wp2_with fail
      go_ret
      exact ⟨rfl, rfl⟩
    · rw [decide_eq_false (fun h => h2 h.2)]
      have q2 : ¬ (n : Int) ≤ 2000 := by omega
      go_enter Try.func23, Try.ntmps23
      go_wp2_with fail
      go_ret
      exact ⟨rfl, rfl⟩
  · rw [decide_eq_false (fun h => h1 h.1)]
    obtain rfl : n = 0 := by omega
    go_enter Try.func23, Try.ntmps23
    go_wp2_with fail
    go_ret
    exact ⟨rfl, rfl⟩
end Go.Proofs.Ytchpekecgdbphaa
