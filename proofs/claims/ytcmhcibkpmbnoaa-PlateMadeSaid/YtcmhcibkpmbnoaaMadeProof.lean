/-
  PlateMade returns true for every input; what comes in reads afterwards as it read before.
-/
import Derived.Test.YtcmhcibkpmbnoaaRows
import Derived.Test.YtcmhcibkpmbnoaaMadeW
import Derived.Test.YtcmhcibkpmbnoaaMadeRead
import Derived.ProofKit
import Derived.OpenShut
import Derived.SizedLaws
set_option linter.unusedVariables false
namespace Go.Proofs.Ytcmhcibkpmbnoaa.plateMade
open Go Go.ChangeShapes Go.WideShapes Go.ChangeAt Go.RowKit
set_option linter.unusedVariables false

theorem own : ownKnob Try.prog.godebug = none := by kernel_rfl

theorem laidOut : laidOutB Try.prog = true := by kernel_rfl

set_option maxRecDepth 100000 in
theorem lifted (os : Os) (started : os.Started) (H : Type) (enc : TypeId × Value → H) :
    ReturnsInHanded {} Try.checked os 3 .any (Rows.plateMadeSpec.pre6 enc Try.prog Try.f3 Rows.plateMadeRow.domain false) (Rows.plateMadeSpec.post enc Try.prog Try.f3 false true false false) := by
  refine returnsInHanded_of_change_sized (C := Try.checked) own started (by kernel_rfl) Try.func3
    (ChangeSpec.witness6 (enc := enc) (C := Try.checked) false ⟨#[], #[.slice none 0 0, .slice none 0 0], []⟩ 8 (by kernel_rfl) (by kernel_rfl) (by kernel_rfl) (by kernel_rfl)) ?_
  intro W base args ds gs before hval0 hW _ hsz0 _
  have hsz : (DataW.weightsEach Try.prog (Try.f3.params.toList ++ Rows.plateMadeSpec.plain.varTypes Try.prog) (ds ++ gs)).all (· ≤ reachBytes) = true := hsz0
  clear hsz0
  have hval : ∀ (j : Nat) t v, Try.f3.params[j]? = some t → args[j]? = some v → Value.okWide Try.prog W .any base t v := hval0
  have hW' := hW
  obtain ⟨p, q, hA0, hV, rfl, _, _⟩ := hW
  have hA : DataW.TrodAll enc Try.prog W 0 (fun _ => true) true Try.f3.params.toList args.toList ds p := hA0
  rw [Try.params3] at hA hval hsz
  obtain ⟨v0, v1, d0, d1, p0, p1, rfl, rfl, rfl, h0, h1⟩ := trodAll_two hA
  obtain ⟨rfl, rfl⟩ := trodVars_none hV
  clear hA0
  obtain ⟨a0, len0, cap0, rfl⟩ := okWide_slice Try.underlying22 (hval 0 22 v0 rfl rfl)
  obtain ⟨a1, len1, cap1, rfl⟩ := okWide_slice Try.underlying23 (hval 1 23 v1 rfl rfl)
  have h0k := h0
  obtain ⟨fuel0, hf0⟩ := h0
  have h1k := h1
  obtain ⟨fuel1, hf1⟩ := h1
  clear hval0 hval
  simp only [List.append_nil] at hW'
  have hlt := hW'.lt
  have hargs0 : ∀ (W' : World), Below W.heap.size W W' → DataW.Trod enc Try.prog W' 0 (fun b => decide (b < W.heap.size)) true 22 (.slice a0 len0 cap0) d0 p0 :=
    fun W' hn => Below.trod laidOut (by kernel_rfl) (of_decide_eq_true (by kernel_rfl)) h0k hn (fun x hx => by have := hlt x (by simp [hx]); simpa using this)
  have hz0 : ∀ n ∈ DataW.weights Try.prog 22 d0, n ≤ reachBytes := fun n hn => by
    have := List.all_eq_true.1 hsz n (by
      simp only [List.append_nil] at *
      show n ∈ DataW.weightsEach Try.prog ([22, 23] ++ _) [d0, d1]
      simp [DataW.weightsEach, hn])
    simpa using this
  have hargs1 : ∀ (W' : World), Below W.heap.size W W' → DataW.Trod enc Try.prog W' 0 (fun b => decide (b < W.heap.size)) true 23 (.slice a1 len1 cap1) d1 p1 :=
    fun W' hn => Below.trod laidOut (by kernel_rfl) (of_decide_eq_true (by kernel_rfl)) h1k hn (fun x hx => by have := hlt x (by simp [hx]); simpa using this)
  have hz1 : ∀ n ∈ DataW.weights Try.prog 23 d1, n ≤ reachBytes := fun n hn => by
    have := List.all_eq_true.1 hsz n (by
      simp only [List.append_nil] at *
      show n ∈ DataW.weightsEach Try.prog ([22, 23] ++ _) [d0, d1]
      simp [DataW.weightsEach, hn])
    simpa using this
  obtain ⟨v0, l0, hcs, hv0, hl0, ht0⟩ := texts_readT hf0 hz0
  simp [Value.cells] at hcs
  subst hcs
  obtain ⟨v1, l1, hcs, hv1⟩ := dos_read hf1 hz1
  simp [Value.cells] at hcs
  subst hcs
  refine (made_walk W _ _ l0 l1 hv0 hl0 ht0 hv1).mono ?_
  rintro e W' ⟨rfl, hu⟩
  have hnx : Below W.heap.size W W' := hu.below (Nat.le_refl _) (fun _ _ h => h)
  exact ⟨_, rfl, _, _, _, [], _, [], hW', trodAll_mk1 (shut_bool Try.underlying4 true), trodAll_mk2 (hargs0 _ hnx) (hargs1 _ hnx), rfl, hnx.frame _, fun h => by cases h⟩

theorem plateMade_holds : Rows.PlateMadeSaid :=
  OpenClaim.holds_of_wide 3 Try.f3 rfl rfl rfl rfl rfl rfl rfl ⟨rfl, rfl, rfl, rfl, rfl⟩ rfl rfl rfl rfl rfl (by kernel_rfl) Try.func3 (by kernel_rfl)
    (of_decide_eq_true (by kernel_rfl)) (by unfold Func.isWrapper; first | (rw [if_pos (by decide +kernel)]; kernel_rfl) | (rw [if_neg (by decide +kernel)]; exact ⟨rfl, rfl⟩))
    (fun os started H enc _ => lifted os started H enc)
end Go.Proofs.Ytcmhcibkpmbnoaa.plateMade
#print axioms Go.Proofs.Ytcmhcibkpmbnoaa.plateMade.plateMade_holds
