/-
  parse: of any sector.
-/
import Derived.Test.YtchpekecgdbphaaWalBits
namespace Go.Proofs.Ytchpekecgdbphaa
open Go Go.RowKit Go.MapKept Go.ChangeMaps

/-- Four numbers. -/
structure Quads (w : World) (g : Nat → Int) (wr : World) : Prop where
  z : ∀ j, j < 4 → wr.cell? ⟨w.heap.size + 1, j, none⟩ = some (.int .i64 (g j))
  fz : ∀ j, wr.frozen? ⟨w.heap.size + 1, j, none⟩ = false
  up : Upd (fun _ => False) w wr
  lt : w.heap.size + 1 < wr.heap.size
  r : ∀ j, j < 4 → wr.cell? ⟨w.heap.size, j, none⟩ = some (.int .i64 0)
  rf : ∀ j, wr.frozen? ⟨w.heap.size, j, none⟩ = false
theorem Quads.put {w wr : World} {q : Nat} {g g' : Nat → Int} {x : Int} (h : Quads w g wr) (hq : q < 4) (hx : x = g' q) (hg : ∀ j, j ≠ q → g' j = g j) : Quads w g' (wr.setCell ⟨w.heap.size + 1, q, none⟩ (.int .i64 x)) := by
  refine ⟨fun j hj => ?_, fun j => ?_, h.up.setCell (p := ⟨w.heap.size + 1, q, none⟩) (Or.inr (Nat.le_succ _)) _, by simpa using h.lt, fun j hj => ?_, fun j => by rw [World.frozen?_setCell]; exact h.rf j⟩
  · by_cases e : j = q
    · subst e
      rw [← hx]
      exact World.cell?_setCell_same' _ _ _ (by rw [h.z j hj]; rfl)
    · rw [hg j e, World.cell?_setCell_other _ _ _ _ (fun e' => by simp only [Addr.mk.injEq] at e'; omega), h.z j hj]
  · rw [World.frozen?_setCell]
    exact h.fz j
  · rw [World.cell?_setCell_other _ _ _ _ (fun e' => by simp only [Addr.mk.injEq] at e'; omega), h.r j hj]
theorem Quads.congr {w wr : World} {g g' : Nat → Int} (h : Quads w g wr) (e : ∀ j, g' j = g j) : Quads w g' wr := ⟨fun j hj => by rw [e j]; exact h.z j hj, h.fz, h.up, h.lt, h.r, h.rf⟩
/-- The first q numbers are read, and j bytes of the next one. -/
def gj (l : List Int) (q j i : Nat) : Int := if i < q then bigAt l i else if i = q then wrap64 (bigJ l q j) else 0
theorem gj_zero (l : List Int) (q i : Nat) : gj l q 0 i = if i < q then bigAt l i else 0 := by
  unfold gj
  by_cases h : i < q
  · rw [if_pos h, if_pos h]
  · rw [if_neg h, if_neg h]
    by_cases e : i = q
    · rw [if_pos e]
      show wrap64 0 = 0
      exact IntWalk.wrap64_in _ (by omega)
    · rw [if_neg e]
theorem gj_done {l : List Int} (hB : IsB l) (hl : l.length = 64) {q : Nat} (hq : q < 4) (h0 : 0 ≤ gj l q 8 q) (h1 : gj l q 8 q ≤ 1152921504606846976) : gj l q 8 q = bigAt l q := by
  have hb := bigAt_bound hB hl hq
  have e : gj l q 8 q = wrap64 (bigAt l q) := by unfold gj; rw [if_neg (by omega), if_pos rfl]; rfl
  rw [e] at h0 h1 ⊢
  unfold wrap64 at *
  omega
theorem gj_next {l : List Int} (hB : IsB l) (hl : l.length = 64) {q : Nat} (hq : q < 4) (h0 : 0 ≤ gj l q 8 q) (h1 : gj l q 8 q ≤ 1152921504606846976) (i : Nat) : gj l (q + 1) 0 i = gj l q 8 i := by
  have hd := gj_done hB hl hq h0 h1
  rw [gj_zero]
  by_cases h : i < q
  · rw [if_pos (by omega)]; unfold gj; rw [if_pos h]
  · by_cases e : i = q
    · subst e; rw [if_pos (by omega), hd]
    · rw [if_neg (by omega)]; unfold gj; rw [if_neg h, if_neg e]
/-- What parse answers. -/
def ParsePost (w : World) (b : List Int) (s size : Int) (e : Ending) (w' : World) : Prop := Upd (fun _ => False) w w' ∧
  ∃ n l p f ok, e = .returned (.tuple #[.agg #[.int .i64 n, .int .i64 l, .int .i64 p, .int .i64 f], .bool ok]) ∧ (ok = true → IsHead b s size n l p f) ∧ (ok = false → ∀ n' l' p' f', ¬ IsHead b s size n' l' p' f')
/-- A number is out of range: no head. -/
theorem no_head {l : List Int} (hB : IsB l) (hl : l.length = 64) {q : Nat} (hq : q < 4) {s n : Int} (h : gj l q 8 q < 0 ∨ 1152921504606846976 < gj l q 8 q) : ∀ n' l' p' f', ¬ IsHead l s n n' l' p' f' := by
  intro n' l' p' f' hh
  obtain ⟨a0, a1, a2, a3⟩ := head_bigs hh
  have h0 := hh.n1; have h1 := hh.n2; have h2 := hh.l1; have h3 := hh.l2; have h4 := hh.p1; have h5 := hh.p3; have h6 := hh.f1; have h7 := hh.f2
  have hb : 0 ≤ bigAt l q ∧ bigAt l q ≤ 1152921504606846976 := by
    obtain rfl | rfl | rfl | rfl : q = 0 ∨ q = 1 ∨ q = 2 ∨ q = 3 := by omega
    · omega
    · omega
    · omega
    · omega
  have e : gj l q 8 q = wrap64 (bigAt l q) := by unfold gj; rw [if_neg (by omega), if_pos rfl]; rfl
  rw [e, IntWalk.wrap64_in _ (by omega)] at h
  omega
end Go.Proofs.Ytchpekecgdbphaa
