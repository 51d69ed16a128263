/-
  PlaceSame returns true for every input of bulk at most 1048576; what comes in reads afterwards as it read before.
-/
import Derived.Test.YtjocoaaeboapcaaRows
import Derived.Test.YtjocoaaeboapcaaPlace8
import Derived.Test.YtjocoaaeboapcaaIntBulk
import Derived.JoinedCond
import Derived.Deep.CondSized
import Derived.ProofKit
import Derived.OpenShut
import Derived.SizedLaws
namespace Go.Proofs.Ytjocoaaeboapcaa.placeSame
open Go Go.ChangeShapes Go.WideShapes Go.ChangeAt Go.RowKit
set_option linter.unusedVariables false

theorem own : ownKnob Try.prog.godebug = none := by kernel_rfl

theorem laidOut : laidOutB Try.prog = true := by kernel_rfl

set_option maxRecDepth 100000 in
theorem lifted (os : Os) (started : os.Started) (H : Type) (enc : TypeId × Value → H) (F : Stop.Interp) :
    ReturnsInHanded {} Try.checked os 6 .any ((Rows.OpenSpec.upto Rows.placeSameSpec).pre6 enc Try.prog Try.f6 Rows.placeSameUptoRow.domain false) (((Rows.OpenSpec.upto Rows.placeSameSpec).at F).post enc Try.prog Try.f6 false true false false) := by
  refine returnsInHanded_of_cond_sized (C := Try.checked) (s := Rows.OpenSpec.upto Rows.placeSameSpec) (k := Rows.uptoSmall) rfl own started (by kernel_rfl) Try.func6
    (OpenSpec.witness (enc := enc) (C := Try.checked) (s := Rows.OpenSpec.upto Rows.placeSameSpec) (k := Rows.uptoSmall) rfl false ⟨#[], #[.slice none 0 0, .int .i64 0, .int .i64 0], []⟩ 8 (by kernel_rfl) (by kernel_rfl) (by kernel_rfl)
      (x := ([.nil, .lit (.int .i64 0), .lit (.int .i64 0)], [], [])) (by kernel_rfl) rfl (by kernel_rfl)) ?_
  intro W base args ds gs before hval0 hW _ hk hsz0 _
  have hsz : (DataW.weightsEach Try.prog (Try.f6.params.toList ++ Rows.placeSameSpec.plain.varTypes Try.prog) (ds ++ gs)).all (· ≤ reachBytes) = true := hsz0
  clear hsz0
  have hval : ∀ (j : Nat) t v, Try.f6.params[j]? = some t → args[j]? = some v → Value.okWide Try.prog W .any base t v := hval0
  have hW' := hW
  obtain ⟨p, q, hA0, hV, rfl, _, _⟩ := hW
  have hA : DataW.TrodAll enc Try.prog W 0 (fun _ => true) true Try.f6.params.toList args.toList ds p := hA0
  rw [Try.params6] at hA hval hsz
  obtain ⟨v0, v1, v2, d0, d1, d2, p0, p1, p2, rfl, rfl, rfl, h0, h1, h2⟩ := trodAll_three hA
  obtain ⟨rfl, rfl⟩ := trodVars_none hV
  clear hA0
  obtain ⟨n1, rfl, rfl, rfl, w1⟩ := open_int Try.underlying3 (hval 1 3 v1 rfl rfl) h1
  obtain ⟨n2, rfl, rfl, rfl, w2⟩ := open_int Try.underlying3 (hval 2 3 v2 rfl rfl) h2
  obtain ⟨a0, len0, cap0, rfl⟩ := okWide_slice Try.underlying23 (hval 0 23 v0 rfl rfl)
  have h0k := h0
  obtain ⟨fuel0, hf0⟩ := h0
  clear hval0 hval
  simp only [List.append_nil] at hW'
  have hlt := hW'.lt
  have hargs0 : ∀ (W' : World), Below W.heap.size W W' → DataW.Trod enc Try.prog W' 0 (fun b => decide (b < W.heap.size)) true 23 (.slice a0 len0 cap0) d0 p0 :=
    fun W' hn => Below.trod laidOut (by kernel_rfl) (of_decide_eq_true (by kernel_rfl)) h0k hn (fun x hx => by have := hlt x (by simp [hx]); simpa using this)
  have hz0 : ∀ n ∈ DataW.weights Try.prog 23 d0, n ≤ reachBytes := fun n hn => by
    have := List.all_eq_true.1 hsz n (by
      simp only [List.append_nil] at *
      show n ∈ DataW.weightsEach Try.prog ([23, 3, 3] ++ _) [d0, .lit (.int .i64 n1), .lit (.int .i64 n2)]
      simp [DataW.weightsEach, hn])
    simpa using this
  obtain ⟨v0, l0, hcs0, hi0, hbk⟩ := ints_read2 hf0 hz0
  simp [Value.cells] at hcs0
  subst hcs0
  obtain ⟨a0', c0', he0⟩ := hi0.shape
  cases he0
  have hl0 : l0.length ≤ 100000000000 := by
    rcases hbk with e | ⟨es, sp, e1, e2⟩
    · rw [e]; simp
    · have := bulk_slice hk (es := es) (sp := sp) (n := l0.length) (by simp [← e1]) e2; omega
  refine (same_walk W _ l0 n1 n2 hi0 hl0).mono ?_
  rintro e W' ⟨rfl, hu⟩
  have hnx : Below W.heap.size W W' := hu.below (Nat.le_refl _) (fun _ _ h => h)
  exact ⟨_, rfl, _, _, _, [], _, [], hW', trodAll_mk1 (shut_bool Try.underlying4 true), trodAll_mk3 (hargs0 _ hnx) (shut_int Try.underlying3 w1) (shut_int Try.underlying3 w2), rfl, hnx.frame _, fun h => by cases h⟩

theorem placeSame_holds : Rows.PlaceSameUptoSaid :=
  OpenClaim.holds_of_cond 6 Try.f6 rfl rfl rfl rfl rfl rfl rfl ⟨rfl, rfl, rfl, rfl, rfl⟩ rfl rfl rfl rfl rfl (by kernel_rfl) Try.func6 (by kernel_rfl)
    (of_decide_eq_true (by kernel_rfl)) (by unfold Func.isWrapper; first | (rw [if_pos (by decide +kernel)]; kernel_rfl) | (rw [if_neg (by decide +kernel)]; exact ⟨rfl, rfl⟩))
    (fun os started H enc _ F => lifted os started H enc F)
end Go.Proofs.Ytjocoaaeboapcaa.placeSame
#print axioms Go.Proofs.Ytjocoaaeboapcaa.placeSame.placeSame_holds
