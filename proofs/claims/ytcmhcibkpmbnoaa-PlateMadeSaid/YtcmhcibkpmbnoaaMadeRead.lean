/-
  How an image that comes in is read.
-/
import Derived.Test.YtcmhcibkpmbnoaaMadeW
import Derived.Test.YtcmhcibkpmbnoaaPlayRead
set_option linter.unusedVariables false
namespace Go.Proofs.Ytcmhcibkpmbnoaa
open Go Go.RowKit Go.ChangeShapes Go.WideShapes Go.Deep

section
variable {H : Type} {enc : TypeId × Value → H} {w : World} {base : Nat} {spare : Nat → Bool} {held : Bool}
theorem texts_readT {fuel : Nat} {cs : List Value} {x : DataW H × List MemPlace} (h : DataW.trod enc Try.prog w base spare held fuel 22 cs = some x) (hz : ∀ n ∈ DataW.weights Try.prog 22 x.1, n ≤ reachBytes) :
    ∃ v L, cs = [v] ∧ Txt w v L ∧ L.length * 24 ≤ 140737488355328 ∧ ∀ i, i < L.length → (L.getD i []).length ≤ 140737488355328 := by
  obtain ⟨v, ds, rfl, hb, hr⟩ := rows_read (R := fun cs r => ∃ v, cs = [v] ∧ BytV w v r ∧ r.length ≤ 140737488355328) (k := 1) Try.underlying22 (by kernel_rfl) (by omega) h hz (fun n cs y hy hzy => by
    obtain ⟨v, l, h1, h2, h3⟩ := bytes_read hy hzy
    exact ⟨l, v, h1, h2, h3⟩)
  have hb24 : Try.prog.bytesOf 32 = 24 := by kernel_rfl
  rw [hb24] at hb
  have hfew : ds.length * 24 ≤ 140737488355328 := by unfold reachBytes at hb; omega
  rcases hr with ⟨rfl, a, c, rfl, hac⟩ | ⟨b, o, c, rfl, hl, hc, hi⟩
  · exact ⟨_, [], rfl, ⟨⟨_, _, rfl⟩, fun i hi => absurd hi (Nat.not_lt_zero _)⟩, by simp, fun i hi => absurd hi (Nat.not_lt_zero _)⟩
  · refine ⟨_, ds, rfl, ⟨⟨_, _, rfl⟩, fun i hi' => ?_⟩, hfew, fun i hi' => ?_⟩
    · obtain ⟨r, ⟨sv, rfl, h2, h3⟩, _, h4⟩ := hi i hi'
      have h5 := h4 0 (by omega)
      simp only [Nat.mul_one, Nat.add_zero] at h5
      exact ⟨b, o, c, sv, rfl, h5, h2⟩
    · obtain ⟨r, ⟨sv, rfl, h2, h3⟩, _, h4⟩ := hi i hi'
      exact h3
end
end Go.Proofs.Ytcmhcibkpmbnoaa
