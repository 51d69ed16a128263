/-
  PlatePlays returns true for every input; what comes in reads afterwards as it read before.
-/
import Derived.Test.YtcmhcibkpmbnoaaRows
import Derived.Test.YtcmhcibkpmbnoaaPPlayW
import Derived.Test.YtcmhcibkpmbnoaaPlayRead
import Derived.ProofKit
import Derived.OpenShut
import Derived.SizedLaws
set_option linter.unusedVariables false
namespace Go.Proofs.Ytcmhcibkpmbnoaa.platePlays
open Go Go.ChangeShapes Go.WideShapes Go.ChangeAt Go.RowKit
set_option linter.unusedVariables false

theorem own : ownKnob Try.prog.godebug = none := by kernel_rfl

theorem laidOut : laidOutB Try.prog = true := by kernel_rfl

set_option maxRecDepth 100000 in
theorem lifted (os : Os) (started : os.Started) (H : Type) (enc : TypeId × Value → H) :
    ReturnsInHanded {} Try.checked os 4 .any (Rows.platePlaysSpec.pre6 enc Try.prog Try.f4 Rows.platePlaysRow.domain false) (Rows.platePlaysSpec.post enc Try.prog Try.f4 false true false false) := by
  refine returnsInHanded_of_change_sized (C := Try.checked) own started (by kernel_rfl) Try.func4
    (ChangeSpec.witness6 (enc := enc) (C := Try.checked) false ⟨#[], #[.int .i64 0, .slice none 0 0], []⟩ 8 (by kernel_rfl) (by kernel_rfl) (by kernel_rfl) (by kernel_rfl)) ?_
  intro W base args ds gs before hval0 hW _ hsz0 _
  have hsz : (DataW.weightsEach Try.prog (Try.f4.params.toList ++ Rows.platePlaysSpec.plain.varTypes Try.prog) (ds ++ gs)).all (· ≤ reachBytes) = true := hsz0
  clear hsz0
  have hval : ∀ (j : Nat) t v, Try.f4.params[j]? = some t → args[j]? = some v → Value.okWide Try.prog W .any base t v := hval0
  have hW' := hW
  obtain ⟨p, q, hA0, hV, rfl, _, _⟩ := hW
  have hA : DataW.TrodAll enc Try.prog W 0 (fun _ => true) true Try.f4.params.toList args.toList ds p := hA0
  rw [Try.params4] at hA hval hsz
  obtain ⟨v0, v1, d0, d1, p0, p1, rfl, rfl, rfl, h0, h1⟩ := trodAll_two hA
  obtain ⟨rfl, rfl⟩ := trodVars_none hV
  clear hA0
  obtain ⟨n0, rfl, rfl, rfl, w0⟩ := open_int Try.underlying3 (hval 0 3 v0 rfl rfl) h0
  obtain ⟨a1, len1, cap1, rfl⟩ := okWide_slice Try.underlying23 (hval 1 23 v1 rfl rfl)
  have h1k := h1
  obtain ⟨fuel1, hf1⟩ := h1
  clear hval0 hval
  simp only [List.append_nil] at hW'
  have hlt := hW'.lt
  have hargs1 : ∀ (W' : World), Below W.heap.size W W' → DataW.Trod enc Try.prog W' 0 (fun b => decide (b < W.heap.size)) true 23 (.slice a1 len1 cap1) d1 p1 :=
    fun W' hn => Below.trod laidOut (by kernel_rfl) (of_decide_eq_true (by kernel_rfl)) h1k hn (fun x hx => by have := hlt x (by simp [hx]); simpa using this)
  have hz1 : ∀ n ∈ DataW.weights Try.prog 23 d1, n ≤ reachBytes := fun n hn => by
    have := List.all_eq_true.1 hsz n (by
      simp only [List.append_nil] at *
      show n ∈ DataW.weightsEach Try.prog ([3, 23] ++ _) [.lit (.int .i64 n0), d1]
      simp [DataW.weightsEach, hn])
    simpa using this
  obtain ⟨v1, l1, hcs, hv1⟩ := dos_read hf1 hz1
  simp [Value.cells] at hcs
  subst hcs
  refine (plays_walk W n0 _ l1 hv1).mono ?_
  rintro e W' ⟨rfl, hu⟩
  have hnx : Below W.heap.size W W' := hu.below (Nat.le_refl _) (fun _ _ h => h)
  exact ⟨_, rfl, _, _, _, [], _, [], hW', trodAll_mk1 (shut_bool Try.underlying4 true), trodAll_mk2 (shut_int Try.underlying3 w0) (hargs1 _ hnx), rfl, hnx.frame _, fun h => by cases h⟩

theorem platePlays_holds : Rows.PlatePlaysSaid :=
  OpenClaim.holds_of_wide 4 Try.f4 rfl rfl rfl rfl rfl rfl rfl ⟨rfl, rfl, rfl, rfl, rfl⟩ rfl rfl rfl rfl rfl (by kernel_rfl) Try.func4 (by kernel_rfl)
    (of_decide_eq_true (by kernel_rfl)) (by unfold Func.isWrapper; first | (rw [if_pos (by decide +kernel)]; kernel_rfl) | (rw [if_neg (by decide +kernel)]; exact ⟨rfl, rfl⟩))
    (fun os started H enc _ => lifted os started H enc)
end Go.Proofs.Ytcmhcibkpmbnoaa.platePlays
#print axioms Go.Proofs.Ytcmhcibkpmbnoaa.platePlays.platePlays_holds
