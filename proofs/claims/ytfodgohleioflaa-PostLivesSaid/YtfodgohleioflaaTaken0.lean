/-
  PostTaken: the plain law on what is on the way.
-/
import Derived.Test.YtfodgohleioflaaPostRead
namespace Go.Proofs.Ytfodgohleioflaa
open Go Go.RowKit Go.MapKept Go.ChangeMaps

def un5 (x : Int) : Int := IntKind.u64.wrap x % 5
theorem un5_is (x : Int) : wrap64 ((IntKind.u64.wrap x).tmod 5) = un5 x := by
  have h : 0 ≤ IntKind.u64.wrap x := by rw [IntKind.wrap_u64]; omega
  unfold un5
  rw [Int.tmod_eq_emod_of_nonneg h]
  unfold wrap64; omega
theorem un5_range (x : Int) : 0 ≤ un5 x ∧ un5 x < 5 := by unfold un5; omega
structure Inv (ds : List DoN) (q : Nat) (M : List (Int × Value)) (last : Int) : Prop where
  l0 : 0 ≤ last
  lq : last ≤ q
  mq : M.length ≤ q
  ms : ∀ p ∈ M, 0 < p.1 ∧ p.1 ≤ last ∧ ∃ k : Nat, p.2 = .agg (msgN k) ∧ k < q ∧ un5 (ds.getD k default).op ≤ 1
theorem mem_of_aget {M : List (Int × Value)} {k : Int} {v : Value} (h : aget M k = some v) : (k, v) ∈ M := by
  unfold aget at h
  obtain ⟨p, hp, hp2⟩ := Option.map_eq_some_iff.1 h
  have h1 := List.mem_of_find?_eq_some hp
  have h2 := List.find?_some hp
  simp only [decide_eq_true_eq] at h2
  obtain ⟨a, b⟩ := p
  simp only at h2 hp2
  rw [← h2, ← hp2]; exact h1
theorem Inv.fresh {ds : List DoN} {q : Nat} {M : List (Int × Value)} {last : Int} (h : Inv ds q M last) : aget M (last + 1) = none := by
  cases hg : aget M (last + 1) with
  | none => rfl
  | some v => have := (h.ms _ (mem_of_aget hg)).2.1; simp only at this; omega
theorem Inv.keep {ds : List DoN} {q : Nat} {M : List (Int × Value)} {last : Int} (h : Inv ds q M last) : Inv ds (q + 1) M last :=
  ⟨h.l0, by have := h.lq; omega, by have := h.mq; omega, fun p hp => by
    obtain ⟨a, b, k, c, d, e⟩ := h.ms p hp
    exact ⟨a, b, k, c, by omega, e⟩⟩
theorem Inv.add {ds : List DoN} {q k : Nat} {M : List (Int × Value)} {last : Int} (h : Inv ds q M last) (hk : k ≤ q) (hs : un5 (ds.getD k default).op ≤ 1) : Inv ds (q + 1) (aput M (last + 1) (.agg (msgN k))) (last + 1) ∧ (aput M (last + 1) (.agg (msgN k))).length = M.length + 1 := by
  rw [aput_new _ h.fresh]
  refine ⟨⟨by have := h.l0; omega, by have := h.lq; omega, by have := h.mq; simp; omega, fun p hp => ?_⟩, by simp⟩
  rcases List.mem_append.1 hp with hp | hp
  · obtain ⟨a, b, k, c, d, e⟩ := h.ms p hp
    exact ⟨a, by omega, k, c, by omega, e⟩
  · obtain rfl := List.mem_singleton.1 hp
    have := h.l0
    exact ⟨by show 0 < last + 1; omega, Int.le_refl _, k, rfl, by omega, hs⟩
theorem Inv.del {ds : List DoN} {q : Nat} {M : List (Int × Value)} {last id : Int} {v : Value} (h : Inv ds q M last) (hn : (M.map (·.1)).Nodup) (hg : aget M id = some v) : Inv ds (q + 1) (adel M id) last ∧ (adel M id).length + 1 = M.length := by
  have hl := adel_length hn hg
  refine ⟨⟨h.l0, by have := h.lq; omega, by have := h.mq; omega, fun p hp => ?_⟩, hl⟩
  obtain ⟨a, b, k, c, d, e⟩ := h.ms p ((List.mem_filter.1 hp).1)
  exact ⟨a, b, k, c, by omega, e⟩
theorem Inv.bare {ds : List DoN} {q : Nat} {M : List (Int × Value)} {last : Int} (h : Inv ds q M last) (hq : q ≤ 61) : Bare M := fun p hp => by
  obtain ⟨a, b, k, c, _, _⟩ := h.ms p hp
  have := h.lq
  exact ⟨by omega, by omega, k, c⟩
theorem Inv.got {ds : List DoN} {q : Nat} {M : List (Int × Value)} {last id : Int} {v : Value} (h : Inv ds q M last) (hg : aget M id = some v) : ∃ k : Nat, v = .agg (msgN k) ∧ k < q ∧ un5 (ds.getD k default).op ≤ 1 := (h.ms _ (mem_of_aget hg)).2.2
def TakenRel (w : World) (b mb : Nat) (ds : List DoN) (left i : Value) (wr : World) : Prop :=
  ∃ (q : Nat) (M : List (Int × Value)) (last : Int), q ≤ ds.length ∧ q ≤ 61 ∧ i = .int .i64 q ∧ left = .int .i64 M.length ∧ PostAt wr b mb last M ∧ Inv ds q M last ∧ Upd (fun _ => False) w wr
end Go.Proofs.Ytfodgohleioflaa
