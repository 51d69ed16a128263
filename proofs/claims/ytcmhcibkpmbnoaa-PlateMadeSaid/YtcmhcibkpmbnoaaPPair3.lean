/-
  What a write, a sync, a crash make of a pair.
-/
import Derived.Test.YtcmhcibkpmbnoaaPPair2
set_option linter.unusedVariables false
namespace Go.Proofs.Ytcmhcibkpmbnoaa
open Go Go.RowKit Go.MapKept Go.ChangeMaps

theorem PairL.facts {w : World} {b ab cm x hb hw hd N : Nat} {B : Nat → List Int} {C : Int → Option (List Int)} (h : PairL w b ab cm x hb hw hd N B C) :
    (b < w.heap.size ∧ ab < w.heap.size ∧ cm < w.heap.size ∧ x < w.heap.size ∧ hb < w.heap.size ∧ hw < w.heap.size ∧ hd < w.heap.size) ∧ (∀ k, k = b ∨ k = ab ∨ k = cm ∨ k = x ∨ k = hb ∨ k = hw ∨ k = hd → NotB w k) ∧
    (b ≠ ab ∧ b ≠ cm ∧ ab ≠ cm) ∧ (∀ k, k = b ∨ k = ab ∨ k = cm → ∀ j, j = x ∨ j = hb ∨ j = hw ∨ j = hd → k ≠ j) := by
  obtain ⟨l1, l2, l3⟩ := h.p.lt
  obtain ⟨r1, r2, r3, r4⟩ := h.r.lt
  obtain ⟨curb, hbt⟩ := h.p.tag
  have hbt' : ∃ cur, w.heap[b]? = some (.cells cur 55 (0, 0)) := ⟨curb, hbt⟩
  have hat : ∃ cur, w.heap[ab]? = some (.cells cur 32 (0, 0)) := by
    obtain ⟨v, _, hs⟩ := h.p.c0
    obtain ⟨c, cur, _, _, hk, _⟩ := hs
    exact ⟨cur, hk⟩
  obtain ⟨M, hm, _⟩ := h.p.cache
  have hmn : ∀ k ty, (∃ cur, w.heap[k]? = some (.cells cur ty (0, 0))) → cm ≠ k := fun k ty hk e => by
    obtain ⟨cur, hk⟩ := hk
    unfold World.im at hm
    rw [e, hk] at hm; cases hm
  have hcB : NotB w cm := im_notB (by rw [hm]; rfl)
  refine ⟨⟨l1, l2, l3, r1, r2, r3, r4⟩, ?_, ⟨tag_ne hbt' hat (by decide), (hmn _ _ hbt').symm, (hmn _ _ hat).symm⟩, ?_⟩
  · rintro k (rfl | rfl | rfl | h4)
    · exact tag_notB hbt' (by decide)
    · exact tag_notB hat (by decide)
    · exact hcB
    · exact h.r.notB k h4
  · rintro k (rfl | rfl | rfl) j (rfl | rfl | rfl | rfl)
    · exact tag_ne hbt' h.r.tag (by decide)
    · exact tag_ne hbt' h.r.tb (by decide)
    · exact tag_ne hbt' h.r.tw (by decide)
    · exact tag_ne hbt' h.r.td (by decide)
    · exact tag_ne hat h.r.tag (by decide)
    · exact h.ne.1
    · exact h.ne.2
    · exact tag_ne hat h.r.td (by decide)
    · exact hmn _ _ h.r.tag
    · exact hmn _ _ h.r.tb
    · exact hmn _ _ h.r.tw
    · exact hmn _ _ h.r.td
/-- What was written is kept, whatever else changed. -/
theorem plate_put2 {F : Nat → Prop} {w wc : World} {b ab cm : Nat} {D : List (List Int)} {C : Int → Option (List Int)} {i : Nat} {l : List Int} {M : List (Int × Value)} {sv : Value} (h : PlateAt w b ab cm D C) (hi : i < D.length) (hm : w.im cm = some M)
    (h1 : wc.im cm = some (aput M i sv)) (h2 : Sec wc sv l) (hu : Upd F w wc) (hb : ¬ F b) (ha : ¬ F ab) (hF : ∀ k, F k → NotB w k) : PlateAt wc b ab cm D (cput C i l) := by
  obtain ⟨lb, la, lc⟩ := h.lt
  obtain ⟨v, h0, hs⟩ := h.c0
  obtain ⟨cur, ht⟩ := h.tag
  obtain ⟨M', hm', hM⟩ := h.cache
  obtain rfl : M' = M := by rw [hm] at hm'; cases hm'; rfl
  refine ⟨⟨v, (hu.cell (p := ⟨b, 0, none⟩) lb hb).trans h0, hs.upd hu ha hF⟩, (hu.cell (p := ⟨b, 1, none⟩) lb hb).trans h.c1, (hu.cell (p := ⟨b, 2, none⟩) lb hb).trans h.c2, (hu.cell (p := ⟨b, 3, none⟩) lb hb).trans h.c3, ⟨cur, (hu.block b lb hb).trans ht⟩,
    ⟨_, h1, fun j => ?_⟩, fun j l' hj => ?_, h.pos, h.few⟩
  · unfold cput
    by_cases e : j = i
    · simp only [e, if_true]
      exact ⟨sv, by rw [aget_aput, if_pos rfl], h2⟩
    · simp only [e, if_false]
      have := hM j
      cases hC : C j with
      | none => rw [hC] at this; simp only []; rw [aget_aput, if_neg e]; exact this
      | some l' =>
        rw [hC] at this
        obtain ⟨sv', k1, k2⟩ := this
        exact ⟨sv', by rw [aget_aput, if_neg e]; exact k1, k2.upd hu hF⟩
  · unfold cput at hj
    by_cases e : j = i
    · omega
    · simp only [e, if_false] at hj
      exact h.keys j l' hj
theorem now_put {B : Nat → List Int} {C : Int → Option (List Int)} {i : Nat} {l : List Int} (j : Nat) : nowV B (cput C i l) j = fset (nowV B C) i l j ∧ nowT (cput C i l) j = fset (nowT C) i true j := by
  unfold nowV nowT cput fset
  by_cases e : j = i
  · subst e; simp
  · have : ¬ (j : Int) = i := by omega
    simp [e, this]
/-- A write, and the Spoil of what was handed in (block g). -/
theorem PairL.write {w0 w1 w2 w3 w4 : World} {b ab cm x hb hw hd N g i : Nat} {B : Nat → List Int} {C : Int → Option (List Int)} {l : List Int} {M : List (Int × Value)} (h : PairL w0 b ab cm x hb hw hd N B C) (hi : i < N) (hm : w0.im cm = some M)
    (u1 : Upd (fun _ => False) w0 w1) (hc : CutF w1 cm M i l w2) (hr : RAt w3 x hb hw hd N B (fset (nowV B C) i l) (fset (nowT C) i true)) (u3 : Upd (fun k => k = hw ∨ k = hd) w2 w3) (ho : ∀ g, g < w2.heap.size → Off w2 hw N g → Off w3 hw N g)
    (u4 : Upd (fun k => k = g) w3 w4) (hg : w0.heap.size ≤ g) (hg1 : g < w1.heap.size) : PairL w4 b ab cm x hb hw hd N B (cput C i l) ∧ Upd (fun k => k = cm ∨ k = hw ∨ k = hd) w0 w4 := by
  obtain ⟨⟨l1, l2, l3, l4, l5, l6, l7⟩, hNB, ⟨n1, n2, n3⟩, hap⟩ := h.facts
  obtain ⟨sv, k1, k2, k3, k4⟩ := hc
  have z1 := u1.size
  have z2 := k4.size
  have z3 := u3.size
  have u2 : Upd (fun k => k = cm ∨ k = hw ∨ k = hd) w0 w2 := (u1.mono (fun _ _ h => h.elim)).trans (k4.mono (fun _ _ h => Or.inl h))
  have u23 : Upd (fun k => k = cm ∨ k = hw ∨ k = hd) w0 w3 := u2.trans (u3.mono (fun _ _ h => Or.inr h))
  have hu : Upd (fun k => k = cm ∨ k = hw ∨ k = hd) w0 w4 := u23.trans' u4 (fun i hi e => by omega)
  have a1 := hap cm (by simp) hw (by simp)
  have a2 := hap cm (by simp) hd (by simp)
  have a3 := hap cm (by simp) hb (by simp)
  have a4 := hap b (by simp) hw (by simp)
  have a5 := hap b (by simp) hd (by simp)
  have a6 := hap ab (by simp) hw (by simp)
  have a7 := hap ab (by simp) hd (by simp)
  have hsv : Sec w4 sv l := by
    have hs3 := k2.upd u3 (fun k e => by
      have hr2 := h.r.upd u1 (fun h => h) (fun h => h) (fun h => h) (fun h => h) (fun _ h => h.elim)
      have hr3 : RAt w2 x hb hw hd N B (nowV B C) (nowT C) := hr2.upd k4 (fun e => hap cm (by simp) x (by simp) e.symm) (fun e => a3 e.symm) (fun e => a1 e.symm) (fun e => a2 e.symm) (fun k e => by
        rw [e]
        obtain ⟨_, him⟩ : ∃ M, w1.im cm = some M := ⟨M, (u1.im l3 (fun h => h)).trans hm⟩
        exact im_notB (by rw [him]; rfl))
      rcases e with rfl | rfl
      · exact hr3.notB _ (by simp)
      · exact hr3.notB _ (by simp))
    exact sec_spoil hs3 u4 (fun k o n c e => by have := k3 k o n c e; omega)
  have him4 : w4.im cm = some (aput M i sv) := by
    have i3 := (u3.im (w := w2) (b := cm) (by omega) (fun e => by rcases e with e | e; exact a1 e; exact a2 e)).trans k1
    exact (u4.im (by omega) (by omega)).trans i3
  refine ⟨⟨plate_put2 h.p (by rw [rowL_length]; exact hi) hm him4 hsv hu (fun e => by rcases e with e | e | e; exact n2 e; exact a4 e; exact a5 e) (fun e => by rcases e with e | e | e; exact n3 e; exact a6 e; exact a7 e) (fun k e => hNB k (by rcases e with e | e | e <;> simp [e])), ?_, h.ne⟩, hu⟩
  have off := h.r.off hg
  have o2 : Off w2 hb N g ∧ Off w2 hw N g := by
    have uu : Upd (fun k => k = cm) w0 w2 := (u1.mono (fun _ _ h => h.elim)).trans k4
    exact ⟨off.1.upd uu l5 (fun e => a3 e.symm), off.2.upd uu l6 (fun e => a1 e.symm)⟩
  have o3 : Off w3 hb N g := o2.1.upd u3 (by omega) (fun e => by rcases e with e | e; exact h.r.ne e; exact h.r.apart.2.2.2.1 e)
  have o4 : Off w3 hw N g := ho g (by omega) o2.2
  have hr4 := hr.spoil o3 o4 u4 (by omega) (by omega) (by omega) (by omega)
  exact hr4.cong (fun _ _ => rfl) (fun j _ => (now_put (B := B) j).1) (fun j _ => (now_put (B := B) j).2)
/-- A sync. -/
theorem PairL.sync {w w1 w2 : World} {b ab cm x hb hw hd N : Nat} {B : Nat → List Int} {C : Int → Option (List Int)} (h : PairL w b ab cm x hb hw hd N B C) (hp : PlateAt w1 b ab cm (viewL (rowL B N) C) (fun _ => none)) (u1 : Upd (fun k => k = ab ∨ k = cm) w w1)
    (hr : RAt w2 x hb hw hd N (syB B (nowV B C) (nowT C)) (syB B (nowV B C) (nowT C)) (fun _ => false)) (u2 : Upd (fun k => k = hb ∨ k = hw ∨ k = hd) w1 w2) (hNB1 : ∀ k, k = hb ∨ k = hw ∨ k = hd → NotB w1 k) :
    PairL w2 b ab cm x hb hw hd N (nowV B C) (fun _ => none) := by
  obtain ⟨_, _, _, hap⟩ := h.facts
  have hsy : ∀ i, syB B (nowV B C) (nowT C) i = nowV B C i := fun i => by
    unfold syB nowT nowV
    cases hC : C i with
    | none => rfl
    | some l => rfl
  have hp2 := hp.upd u2 (fun e => by rcases e with e | e | e <;> exact hap b (by simp) _ (by simp) e) (fun e => by rcases e with e | e | e <;> exact hap ab (by simp) _ (by simp) e) (fun e => by rcases e with e | e | e <;> exact hap cm (by simp) _ (by simp) e) hNB1
  rw [viewL_row] at hp2
  exact ⟨hp2, hr.cong (fun i _ => (hsy i).symm) (fun i _ => (hsy i).symm) (fun _ _ => rfl), h.ne⟩
/-- A crash. -/
theorem torn_row {B : Nat → List Int} {C : Int → Option (List Int)} {K : List Int} {t : Int} {c N i : Nat} (hi : i < N) : nowV B (torn (rowL B N) C K t c) i = crB B (nowV B C) (nowT C) K t c i := by
  unfold nowV torn crB nowT
  by_cases h1 : (i : Int) ∈ K
  · rw [if_pos h1]
    cases hC : C i with
    | none => simp [hC]
    | some l => simp [hC, h1]
  · rw [if_neg h1]
    by_cases h2 : (i : Int) = t
    · subst h2
      rw [if_pos rfl]
      cases hC : C i with
      | none => simp [hC]
      | some l =>
        have hr := rowL_get (f := B) hi
        rw [List.getD_eq_getElem?_getD] at hr
        simp [hC, h1, hr]
    · rw [if_neg h2]
      simp [h1, h2]
theorem PairL.crash {w w1 w2 : World} {b ab cm cm2 x hb hw hd N c : Nat} {B : Nat → List Int} {C : Int → Option (List Int)} {K : List Int} {t : Int} (h : PairL w b ab cm x hb hw hd N B C) (hp : PlateAt w1 b ab cm2 (viewL (rowL B N) (torn (rowL B N) C K t c)) (fun _ => none)) (hcm : w.heap.size ≤ cm2) (u1 : Upd (fun k => k = b ∨ k = ab) w w1)
    (hr : RAt w2 x hb hw hd N (crB B (nowV B C) (nowT C) K t c) (crB B (nowV B C) (nowT C) K t c) (fun _ => false)) (u2 : Upd (fun k => k = hb ∨ k = hw ∨ k = hd) w1 w2) (hNB1 : ∀ k, k = hb ∨ k = hw ∨ k = hd → NotB w1 k) :
    PairL w2 b ab cm2 x hb hw hd N (crB B (nowV B C) (nowT C) K t c) (fun _ => none) := by
  obtain ⟨⟨l1, l2, l3, l4, l5, l6, l7⟩, _, _, hap⟩ := h.facts
  have hp2 := hp.upd u2 (fun e => by rcases e with e | e | e <;> exact hap b (by simp) _ (by simp) e) (fun e => by rcases e with e | e | e <;> exact hap ab (by simp) _ (by simp) e) (fun e => by rcases e with e | e | e <;> omega) hNB1
  rw [viewL_row, rowL_cong (fun i hi => torn_row hi)] at hp2
  exact ⟨hp2, hr.cong (fun i _ => rfl) (fun i _ => rfl) (fun _ _ => rfl), h.ne⟩
end Go.Proofs.Ytcmhcibkpmbnoaa
