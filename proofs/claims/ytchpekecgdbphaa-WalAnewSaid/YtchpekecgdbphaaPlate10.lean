/-
  What stays of a plate's cache.
-/
import Derived.Test.YtchpekecgdbphaaCat
namespace Go.Proofs.Ytchpekecgdbphaa
open Go Go.RowKit Go.MapKept Go.ChangeMaps

theorem PlateAt.abNotB {w : World} {b ab cm : Nat} {D : List (List Int)} {C : Int → Option (List Int)} (h : PlateAt w b ab cm D C) : NotB w ab := by
  obtain ⟨v, _, hs⟩ := h.c0
  exact hs.notB
/-- What stays of the cache. -/
def keep (C : Int → Option (List Int)) (K : List Int) : Int → Option (List Int) := fun i => if i ∈ K then C i else none
/-- Behind q of those that are kept. -/
structure CrashI (w : World) (b ab cm cm2 : Nat) (D : List (List Int)) (C : Int → Option (List Int)) (K : List Int) (M : List (Int × Value)) (q : Nat) (wr : World) : Prop where
  p : PlateAt wr b ab cm2 D (keep C (K.take q))
  m : wr.im cm = some M
  up : Upd (fun k => k = b) w wr
theorem keep_take {C : Int → Option (List Int)} {K : List Int} {q : Nat} (hq : q < K.length) : keep C (K.take (q + 1)) = fun i => if i = K.getD q 0 then C i else keep C (K.take q) i := by
  funext i
  unfold keep
  rw [List.take_succ_eq_append_getElem hq, List.getD_eq_getElem?_getD, List.getElem?_eq_getElem hq]
  simp only [List.mem_append, List.mem_singleton, Option.getD_some]
  by_cases h1 : i = K[q] <;> by_cases h2 : i ∈ K.take q <;> simp [h1, h2]
end Go.Proofs.Ytchpekecgdbphaa
