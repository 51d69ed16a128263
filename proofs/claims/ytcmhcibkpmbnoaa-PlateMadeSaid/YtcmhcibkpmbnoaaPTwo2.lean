/-
  Fail and Write on both plates of a pair.
-/
import Derived.Test.YtcmhcibkpmbnoaaPTwo
set_option linter.unusedVariables false
namespace Go.Proofs.Ytcmhcibkpmbnoaa
open Go Go.RowKit Go.MapKept Go.ChangeMaps

theorem fail_two {G : Nat → Prop} {w : World} {b x N : Nat} (h : PairAt G w b x N) : ∃ (er : Int) (Mid : World → Prop), Calls Try.prog 28 #[.pointer (some ⟨b, 0, none⟩)] w (MidP er Mid) ∧ (∀ w1, Mid w1 → Chg G w w1) ∧
    ∀ w1, Mid w1 → Calls Try.prog 29 #[.pointer (some ⟨x, 0, none⟩)] w1 (MidP er (AfterP G w b x N)) := by
  cases h with
  | dead h g gm gr =>
    refine ⟨60, fun w1 => w1 = w, (fail_st w _ 60 (Or.inr rfl) h.p.st).mono ?_, fun w1 e1 => ⟨fun _ => False, by rw [e1]; exact Upd.refl _ _, fun _ h => h.elim⟩, fun w1 e1 => ?_⟩
    · rintro e w' ⟨rfl, rfl⟩
      exact ⟨rfl, rfl⟩
    · subst e1
      refine (rfail_dead h.r).mono ?_
      rintro e w' ⟨rfl, rfl⟩
      exact ⟨rfl, AfterP.same (.dead h g gm gr) (Upd.refl _ _)⟩
  | live ab cm hb hw hd B C h g =>
    obtain ⟨⟨l1, l2, l3, l4, l5, l6, l7⟩, hNB, ⟨n1, n2, n3⟩, hap⟩ := h.facts
    obtain ⟨g1, g2, g3, g4, g5, g6, g7⟩ := g
    have hbx := hap b (by simp) x (by simp)
    refine ⟨0, fun w1 => DeadAt w1 b N ∧ Upd (fun k => k = b) w w1 ∧ w1.cell? ⟨b, 1, none⟩ = some (.map none), (fail_any w b ab cm _ C h.p).mono ?_, fun w1 ⟨_, hu1, _⟩ => ⟨_, hu1, fun k e => by subst e; exact g1⟩, fun w1 ⟨hd1, hu1, hc1⟩ => ?_⟩
    · rintro e w' ⟨rfl, h1, h2, h3⟩
      rw [rowL_length] at h1
      exact ⟨rfl, h1, h2, h3⟩
    · have hr1 : RAt w1 x hb hw hd N B (nowV B C) (nowT C) := h.r.upd hu1 (fun e => hbx e.symm) (fun e => hap b (by simp) hb (by simp) e.symm) (fun e => hap b (by simp) hw (by simp) e.symm) (fun e => hap b (by simp) hd (by simp) e.symm) (fun k e => hNB k (by simp [e]))
      refine (rfail_ok w1 x hb hw hd N B _ _ hr1).mono ?_
      rintro e w2 ⟨rfl, hr2, hu2, hge⟩
      have hz := hu1.size
      have hlb : b < w1.heap.size := by omega
      have hc2 := (hu2.cell (p := ⟨b, 1, none⟩) hlb hbx).trans hc1
      have hd2 := hd1.upd hu2 hbx (fun m e => by rw [hc1] at e; cases e)
      refine ⟨rfl, .dead ⟨hd2, hr2⟩ ⟨.inl g1, .inl g4⟩ (fun m e => by rw [hc2] at e; cases e) (fun m e k o n c e2 => by subst e2; exact .inr (Nat.le_trans hz (hge k o n c e))), (fun k => k = b ∨ k = x), (hu1.mono (fun _ _ e => Or.inl e)).trans (hu2.mono (fun _ _ e => Or.inr e)), fun k e => ?_⟩
      rcases e with rfl | rfl
      · exact ⟨g1, hNB _ (by simp), l1⟩
      · exact ⟨g4, hNB _ (by simp), l4⟩
/-- Write on both, and then a Spoil of what was handed to the first (its own block, if it has one, is new). -/
theorem write_two {G : Nat → Prop} {w w0 : World} {b x N : Nat} (h : PairAt G w b x N) (u0 : Upd (fun _ => False) w w0) (i : Int) (v v' : Value) (l : List Int) (hv : BytV w0 v l) (hv' : BytV w0 v' l) (hl : l.length ≤ 140737488355328)
    (hnew : ∀ k, Blk v k → w.heap.size ≤ k ∧ k < w0.heap.size) (hG : ∀ k, Blk v' k → ¬ G k) :
    ∃ (er : Int) (Mid Fin : World → Prop), Calls Try.prog 21 #[.pointer (some ⟨b, 0, none⟩), .int .i64 i, v] w0 (MidP er Mid) ∧ (∀ w1, Mid w1 → Chg G w0 w1) ∧
    (∀ w1, Mid w1 → Calls Try.prog 22 #[.pointer (some ⟨x, 0, none⟩), .int .i64 i, v'] w1 (MidP er Fin)) ∧
    (∀ w2, Fin w2 → w0.heap.size ≤ w2.heap.size ∧ ∃ F : Nat → Prop, Upd F w0 w2 ∧ ∀ k, F k → G k ∧ k < w.heap.size ∧ NotB w k) ∧ ∀ w2 w3, Fin w2 → Upd (fun k => Blk v k) w2 w3 → AfterP G w b x N w3 := by
  have hsp : ∀ {w2 w3 : World} {F : Nat → Prop}, Upd F w w2 → Upd (fun k => Blk v k) w2 w3 → Upd F w w3 := fun u u' => u.trans' u' (fun k hk e => by have := hnew k e; omega)
  cases h with
  | dead h g gm gr =>
    refine ⟨60, fun w1 => w1 = w0, fun w1 => w1 = w0, (write_st i w0 _ v 60 (Or.inr rfl) (h.p.old u0).st).mono ?_, fun w1 e1 => ⟨fun _ => False, by rw [e1]; exact Upd.refl _ _, fun _ h => h.elim⟩, fun w1 e1 => ?_, fun w2 e => ?_, fun w2 w3 e u => ?_⟩
    · rintro e w' ⟨rfl, rfl⟩
      exact ⟨rfl, rfl⟩
    · subst e1
      refine (rwrite_dead i v' (h.r.old u0)).mono ?_
      rintro e w' ⟨rfl, rfl⟩
      exact ⟨rfl, rfl⟩
    · subst e
      exact ⟨Nat.le_refl _, _, Upd.refl (fun _ => False) _, fun _ h => h.elim⟩
    · subst e
      exact AfterP.same (.dead h g gm gr) (hsp u0 u)
  | live ab cm hb hw hd B C h g =>
    obtain ⟨⟨l1, l2, l3, l4, l5, l6, l7⟩, hNB, ⟨n1, n2, n3⟩, hap⟩ := h.facts
    have g' := g
    obtain ⟨g1, g2, g3, g4, g5, g6, g7⟩ := g'
    by_cases hok : (0 ≤ i ∧ i < N) ∧ l.length = 64
    · obtain ⟨⟨hi0, hi1⟩, h64⟩ := hok
      obtain ⟨j, rfl⟩ : ∃ j : Nat, i = j := ⟨i.toNat, by omega⟩
      have hj : j < N := by omega
      obtain ⟨M, hm, _⟩ := h.p.cache
      have hm0 := (u0.im l3 (fun h => h)).trans hm
      refine ⟨0, fun w1 => CutF w0 cm M j l w1, fun w2 => ∃ w1, CutF w0 cm M j l w1 ∧ RAt w2 x hb hw hd N B (fset (nowV B C) j l) (fset (nowT C) j true) ∧ Upd (fun k => k = hw ∨ k = hd) w1 w2 ∧ ∀ g, g < w1.heap.size → Off w1 hw N g → Off w2 hw N g,
        (write_own j w0 b ab cm _ C M v l (h.p.old u0) hm0 (by rw [rowL_length]; exact hj) hv h64).mono ?_, fun w1 ⟨_, _, _, _, hu1⟩ => ⟨_, hu1, fun k e => by subst e; exact g3⟩, fun w1 hc => ?_, fun w2 hf => ?_, fun w2 w3 hf u => ?_⟩
      · rintro e w' ⟨rfl, h1⟩
        exact ⟨rfl, h1⟩
      · have hc' := hc
        obtain ⟨sv, k1, k2, k3, k4⟩ := hc'
        have hr1 : RAt w1 x hb hw hd N B (nowV B C) (nowT C) := (h.r.old u0).upd k4 (fun e => hap cm (by simp) x (by simp) e.symm) (fun e => hap cm (by simp) hb (by simp) e.symm) (fun e => hap cm (by simp) hw (by simp) e.symm) (fun e => hap cm (by simp) hd (by simp) e.symm) (fun k e => by rw [e]; exact im_notB (by rw [hm0]; rfl))
        have hv1 : BytV w1 v' l := by
          rcases hv' with hz | ⟨k, o, c, rfl, hcl⟩
          · exact .inl hz
          · refine .inr ⟨k, o, c, rfl, fun q hq => ?_⟩
            exact (k4.cell (p := ⟨k, o + q, none⟩) (World.block_lt_of_cell? _ _ (hcl q hq)) (fun e => hG k ⟨o, _, c, rfl, by omega⟩ (by rw [show k = cm from e]; exact g3))).trans (hcl q hq)
        refine (rwrite_ok j w1 x hb hw hd N B _ _ v' l hr1 hj hv1 h64).mono ?_
        rintro e w2 ⟨rfl, hr2, hu2, ho⟩
        exact ⟨rfl, w1, hc, hr2, hu2, ho⟩
      · obtain ⟨w1, ⟨sv, k1, k2, k3, k4⟩, hr, hu, ho⟩ := hf
        refine ⟨Nat.le_trans k4.size hu.size, (fun k => k = cm ∨ k = hw ∨ k = hd), (k4.mono (fun _ _ e => Or.inl e)).trans (hu.mono (fun _ _ e => Or.inr e)), fun k e => ?_⟩
        rcases e with rfl | rfl | rfl
        · exact ⟨g3, l3, hNB _ (by simp)⟩
        · exact ⟨g6, l6, hNB _ (by simp)⟩
        · exact ⟨g7, l7, hNB _ (by simp)⟩
      · obtain ⟨w1, hc, hr, hu, ho⟩ := hf
        obtain ⟨gk, hgk⟩ : ∃ gk, Blk v gk := by
          rcases hv with ⟨rfl, _⟩ | ⟨k, o, c, rfl, _⟩
          · simp at h64
          · exact ⟨k, o, _, c, rfl, by omega⟩
        obtain ⟨q1, q2⟩ := hnew gk hgk
        have u' : Upd (fun k => k = gk) w2 w3 := u.mono (fun k _ e => by
          obtain ⟨o, m, c, e1, _⟩ := e
          obtain ⟨o', m', c', e2, _⟩ := hgk
          rw [e1] at e2; cases e2; rfl)
        obtain ⟨hp, hup⟩ := h.write hj hm u0 hc hr hu ho u' q1 q2
        refine ⟨(PairAt.live ab cm hb hw hd _ _ hp g).mono (fun _ h => Or.inl h), _, hup, fun k e => ?_⟩
        rcases e with rfl | rfl | rfl
        · exact ⟨g3, hNB _ (by simp), l3⟩
        · exact ⟨g6, hNB _ (by simp), l6⟩
        · exact ⟨g7, hNB _ (by simp), l7⟩
    · have hbad : ¬ (0 ≤ i ∧ i < N) ∨ l.length ≠ 64 := by
        by_cases h1 : 0 ≤ i ∧ i < N
        · exact .inr (fun h2 => hok ⟨h1, h2⟩)
        · exact .inl h1
      refine ⟨1, fun w1 => w1 = w0, fun w1 => w1 = w0, (write_bad i w0 b ab cm _ C v l (h.p.old u0) hv hl (by rw [rowL_length]; exact hbad)).mono ?_, fun w1 e1 => ⟨fun _ => False, by rw [e1]; exact Upd.refl _ _, fun _ h => h.elim⟩, fun w1 e1 => ?_, fun w2 e => ?_, fun w2 w3 e u => ?_⟩
      · rintro e w' ⟨rfl, rfl⟩
        exact ⟨rfl, rfl⟩
      · subst e1
        refine (rwrite_no i _ x hb hw hd N B _ _ v' l (h.r.old u0) hv' hl hbad).mono ?_
        rintro e w' ⟨rfl, rfl⟩
        exact ⟨rfl, rfl⟩
      · subst e
        exact ⟨Nat.le_refl _, _, Upd.refl (fun _ => False) _, fun _ h => h.elim⟩
      · subst e
        exact AfterP.same (.live ab cm hb hw hd B C h g) (hsp u0 u)
end Go.Proofs.Ytcmhcibkpmbnoaa
