/-
  What a torn crash leaves.
-/
import Derived.Test.YtchpekecgdbphaaWalLaw4
import Derived.Test.YtchpekecgdbphaaTear
namespace Go.Proofs.Ytchpekecgdbphaa
open Go Go.RowKit Go.MapKept Go.ChangeMaps

theorem crashed_torn {D : List (List Int)} {C : Int → Option (List Int)} {K : List Int} {t : Int} {N : Nat} : Crashed D C (viewL D (torn D C K t N)) := by
  refine ⟨viewL_length _ _, fun i hi hC => ?_, fun i l hi hC => ?_⟩
  · rw [viewL_get hi]
    unfold view torn
    by_cases h1 : (i : Int) ∈ K
    · rw [if_pos h1, hC]; rfl
    · rw [if_neg h1]
      by_cases h2 : (i : Int) = t
      · rw [if_pos h2, ← h2, hC]; rfl
      · rw [if_neg h2]; rfl
  · rw [viewL_get hi]
    unfold view torn
    by_cases h1 : (i : Int) ∈ K
    · rw [if_pos h1, hC]; exact .inl rfl
    · rw [if_neg h1]
      by_cases h2 : (i : Int) = t
      · rw [if_pos h2, ← h2, hC]
        exact .inr ⟨N, rfl⟩
      · rw [if_neg h2]
        exact .inr ⟨0, by simp⟩
end Go.Proofs.Ytchpekecgdbphaa
