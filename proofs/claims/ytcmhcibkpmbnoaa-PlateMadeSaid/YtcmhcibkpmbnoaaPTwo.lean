/-
  Each call on both plates of a pair, one behind the other: both answer alike.
-/
import Derived.Test.YtcmhcibkpmbnoaaPCall
set_option linter.unusedVariables false
namespace Go.Proofs.Ytcmhcibkpmbnoaa
open Go Go.RowKit Go.MapKept Go.ChangeMaps

/-- What a call on both leaves. -/
def AfterP (G : Nat → Prop) (w : World) (b x N : Nat) (w' : World) : Prop :=
  PairAt (fun k => G k ∨ w.heap.size ≤ k) w' b x N ∧ ∃ F : Nat → Prop, Upd F w w' ∧ ∀ k, F k → G k ∧ NotB w k ∧ k < w.heap.size
theorem AfterP.old {G : Nat → Prop} {w w' w'' : World} {b x N : Nat} (h : AfterP G w b x N w') (u : Upd (fun _ => False) w' w'') : AfterP G w b x N w'' := by
  obtain ⟨h1, F, h2, h3⟩ := h
  exact ⟨h1.old u, F, h2.trans (u.mono (fun _ _ h => h.elim)), h3⟩
theorem AfterP.same {G : Nat → Prop} {w w' : World} {b x N : Nat} (h : PairAt G w b x N) (u : Upd (fun _ => False) w w') : AfterP G w b x N w' :=
  ⟨(h.old u).mono (fun _ h => Or.inl h), _, u, fun _ h => h.elim⟩
theorem AfterP.lift {G : Nat → Prop} {w w0 w' : World} {b x N : Nat} (u : Upd (fun _ => False) w w0) (h : AfterP G w0 b x N w') : AfterP G w b x N w' := by
  obtain ⟨h1, F, h2, h3⟩ := h
  have hz := u.size
  refine ⟨h1.mono (fun k e => e.imp id (fun e => Nat.le_trans hz e)), fun k => F k ∧ k < w.heap.size, ?_, fun k e => ⟨(h3 k e.1).1, ?_, e.2⟩⟩
  · exact ⟨h2.os.trans u.os, h2.tape.trans u.tape, h2.output.trans u.output, Nat.le_trans u.size h2.size, fun k hk hF => (h2.block k (Nat.lt_of_lt_of_le hk hz) (fun e => hF ⟨e, hk⟩)).trans (u.block k hk (fun h => h))⟩
  · exact fun cur fr e2 => (h3 k e.1).2.1 cur fr ((u.block k e.2 (fun h => h)).trans e2)
/-- What changed is of G. -/
def Chg (G : Nat → Prop) (a c : World) : Prop := ∃ F : Nat → Prop, Upd F a c ∧ ∀ k, F k → G k
def RdP (w : World) (l : List Int) (er : Int) (e : Ending) (w' : World) : Prop := ∃ v, e = .returned (.tuple #[v, .int .i64 er]) ∧ BytV w' v l ∧ Upd (fun _ => False) w w'
theorem read_two {G : Nat → Prop} {w : World} {b x N : Nat} (h : PairAt G w b x N) (i : Int) : ∃ (l : List Int) (er : Int), (∀ W, Upd (fun _ => False) w W → Calls Try.prog 30 #[.pointer (some ⟨b, 0, none⟩), .int .i64 i] W (RdP W l er)) ∧
    ∀ W, Upd (fun _ => False) w W → Calls Try.prog 31 #[.pointer (some ⟨x, 0, none⟩), .int .i64 i] W (RdP W l er) := by
  cases h with
  | dead h g gm gr =>
    refine ⟨[], 60, fun W u => (read_st i W _ 60 (Or.inr rfl) (h.p.old u).st).mono ?_, fun W u => (rread_dead i (h.r.old u)).mono ?_⟩
    · rintro e w' ⟨rfl, rfl⟩
      exact ⟨_, rfl, .inl ⟨rfl, _, _, rfl⟩, Upd.refl _ _⟩
    · rintro e w' ⟨rfl, rfl⟩
      exact ⟨_, rfl, .inl ⟨rfl, _, _, rfl⟩, Upd.refl _ _⟩
  | live ab cm hb hw hd B C h g =>
    by_cases hi : 0 ≤ i ∧ i < N
    · obtain ⟨j, rfl⟩ : ∃ j : Nat, i = j := ⟨i.toNat, by omega⟩
      have hj : j < N := by omega
      refine ⟨nowV B C j, 0, fun W u => (read_any j W b ab cm _ C (h.p.old u) (by rw [rowL_length]; exact hj)).mono ?_, fun W u => (rread_ok j W x hb hw hd N _ _ _ (h.r.old u) hj).mono ?_⟩
      · rintro e w' ⟨v, rfl, hs, _, hu⟩
        rw [view_row hj] at hs
        exact ⟨v, rfl, hs.byt, hu⟩
      · rintro e w' ⟨v, rfl, hs, _, hu⟩
        exact ⟨v, rfl, hs.byt, hu⟩
    · refine ⟨[], 1, fun W u => (read_arg i W b ab cm _ C (h.p.old u) (by rw [rowL_length]; exact hi)).mono ?_, fun W u => (rread_no i W x hb hw hd N _ _ _ (h.r.old u) hi).mono ?_⟩
      · rintro e w' ⟨rfl, rfl⟩
        exact ⟨_, rfl, .inl ⟨rfl, _, _, rfl⟩, Upd.refl _ _⟩
      · rintro e w' ⟨rfl, rfl⟩
        exact ⟨_, rfl, .inl ⟨rfl, _, _, rfl⟩, Upd.refl _ _⟩
/-- The first of two calls. -/
def MidP (er : Int) (Mid : World → Prop) (e : Ending) (w' : World) : Prop := e = .returned (.int .i64 er) ∧ Mid w'
theorem notB_upd {F : Nat → Prop} {w w' : World} {k : Nat} (h : NotB w k) (hk : k < w.heap.size) (u : Upd F w w') (hF : ¬ F k) : NotB w' k := fun cur fr e => h cur fr ((u.block k hk hF).symm.trans e)
theorem sync_two {G : Nat → Prop} {w : World} {b x N : Nat} (h : PairAt G w b x N) : ∃ (er : Int) (Mid : World → Prop), Calls Try.prog 24 #[.pointer (some ⟨b, 0, none⟩)] w (MidP er Mid) ∧ (∀ w1, Mid w1 → Chg G w w1) ∧
    ∀ w1, Mid w1 → Calls Try.prog 25 #[.pointer (some ⟨x, 0, none⟩)] w1 (MidP er (AfterP G w b x N)) := by
  cases h with
  | dead h g gm gr =>
    refine ⟨60, fun w1 => w1 = w, (sync_st w _ 60 (Or.inr rfl) h.p.st).mono ?_, fun w1 e1 => ⟨fun _ => False, by rw [e1]; exact Upd.refl _ _, fun _ h => h.elim⟩, fun w1 e1 => ?_⟩
    · rintro e w' ⟨rfl, rfl⟩
      exact ⟨rfl, rfl⟩
    · subst e1
      refine (rsync_dead h.r).mono ?_
      rintro e w' ⟨rfl, rfl⟩
      exact ⟨rfl, AfterP.same (.dead h g gm gr) (Upd.refl _ _)⟩
  | live ab cm hb hw hd B C h g =>
    obtain ⟨⟨l1, l2, l3, l4, l5, l6, l7⟩, hNB, ⟨n1, n2, n3⟩, hap⟩ := h.facts
    obtain ⟨g1, g2, g3, g4, g5, g6, g7⟩ := g
    refine ⟨0, fun w1 => PlateAt w1 b ab cm (viewL (rowL B N) C) (fun _ => none) ∧ Upd (fun k => k = ab ∨ k = cm) w w1, (sync_any w b ab cm _ C h.p).mono ?_, fun w1 ⟨_, hu1⟩ => ⟨_, hu1, fun k e => by rcases e with rfl | rfl <;> assumption⟩, fun w1 ⟨hp1, hu1⟩ => ?_⟩
    · rintro e w' ⟨rfl, h1, h2⟩
      exact ⟨rfl, h1, h2⟩
    · have hr1 : RAt w1 x hb hw hd N B (nowV B C) (nowT C) := h.r.upd hu1 (fun e => by rcases e with e | e; exact hap ab (by simp) x (by simp) e.symm; exact hap cm (by simp) x (by simp) e.symm) (fun e => by rcases e with e | e; exact hap ab (by simp) hb (by simp) e.symm; exact hap cm (by simp) hb (by simp) e.symm) (fun e => by rcases e with e | e; exact hap ab (by simp) hw (by simp) e.symm; exact hap cm (by simp) hw (by simp) e.symm) (fun e => by rcases e with e | e; exact hap ab (by simp) hd (by simp) e.symm; exact hap cm (by simp) hd (by simp) e.symm) (fun k e => hNB k (by rcases e with e | e <;> simp [e]))
      refine (rsync_any w1 x hb hw hd N B _ _ hr1).mono ?_
      rintro e w2 ⟨rfl, hr2, hu2⟩
      have hp := h.sync hp1 hu1 hr2 hu2 (fun k e => hr1.notB k (Or.inr e))
      refine ⟨rfl, .live ab cm hb hw hd _ _ hp ⟨.inl g1, .inl g2, .inl g3, .inl g4, .inl g5, .inl g6, .inl g7⟩, (fun k => k = ab ∨ k = cm ∨ k = hb ∨ k = hw ∨ k = hd), (hu1.mono (fun _ _ e => by rcases e with e | e <;> simp [e])).trans (hu2.mono (fun _ _ e => by rcases e with e | e | e <;> simp [e])), fun k e => ?_⟩
      rcases e with rfl | rfl | rfl | rfl | rfl
      · exact ⟨g2, hNB _ (by simp), l2⟩
      · exact ⟨g3, hNB _ (by simp), l3⟩
      · exact ⟨g5, hNB _ (by simp), l5⟩
      · exact ⟨g6, hNB _ (by simp), l6⟩
      · exact ⟨g7, hNB _ (by simp), l7⟩
theorem crash_two {G : Nat → Prop} {w : World} {b x N : Nat} (h : PairAt G w b x N) (kv kv' : Value) (K : List Int) (t n : Int) (hk : Ints w kv K) (hk' : Ints w kv' K) (hf : ∀ k o m c, kv = .slice (some ⟨k, o, none⟩) m c → w.heap.size ≤ k ∨ ¬ G k) (hf' : 1 ≤ K.length → ∀ k o m c, kv' = .slice (some ⟨k, o, none⟩) m c → ¬ G k) :
    ∃ (er : Int) (Mid : World → Prop), Calls Try.prog 26 #[.pointer (some ⟨b, 0, none⟩), kv, .int .i64 t, .int .i64 n] w (MidP er Mid) ∧ (∀ w1, Mid w1 → Chg G w w1) ∧
    ∀ w1, Mid w1 → Calls Try.prog 27 #[.pointer (some ⟨x, 0, none⟩), kv', .int .i64 t, .int .i64 n] w1 (MidP er (AfterP G w b x N)) := by
  have hKl : K.length ≤ 17592186044416 := by have := hk.2; omega
  cases h with
  | dead h g gm gr =>
    refine ⟨60, fun w1 => w1 = w, (crash_st w _ kv t n 60 (Or.inr rfl) h.p.st).mono ?_, fun w1 e1 => ⟨fun _ => False, by rw [e1]; exact Upd.refl _ _, fun _ h => h.elim⟩, fun w1 e1 => ?_⟩
    · rintro e w' ⟨rfl, rfl⟩
      exact ⟨rfl, rfl⟩
    · subst e1
      refine (rcrash_dead kv' t n h.r).mono ?_
      rintro e w' ⟨rfl, rfl⟩
      exact ⟨rfl, AfterP.same (.dead h g gm gr) (Upd.refl _ _)⟩
  | live ab cm hb hw hd B C h g =>
    obtain ⟨⟨l1, l2, l3, l4, l5, l6, l7⟩, hNB, ⟨n1, n2, n3⟩, hap⟩ := h.facts
    obtain ⟨g1, g2, g3, g4, g5, g6, g7⟩ := g
    obtain ⟨c, hc, hc64⟩ := tornN n
    refine ⟨0, fun w1 => ∃ cm2, PlateAt w1 b ab cm2 (viewL (rowL B N) (torn (rowL B N) C K t c)) (fun _ => none) ∧ w.heap.size ≤ cm2 ∧ Upd (fun k => k = b ∨ k = ab) w w1, (crash_keep w b ab cm _ C kv K t n c hc hc64 h.p hk hKl (fun kb o cc k e => by rcases hf kb o k cc e with h | h; omega; exact fun e2 => h (by rw [e2]; exact g1))).mono ?_, fun w1 ⟨_, _, _, hu1⟩ => ⟨_, hu1, fun k e => by rcases e with rfl | rfl <;> assumption⟩, fun w1 ⟨cm2, hp1, hcm, hu1⟩ => ?_⟩
    · rintro e w' ⟨rfl, cm2, h1, h2, h3⟩
      exact ⟨rfl, cm2, h1, h2, h3⟩
    · have hr1 : RAt w1 x hb hw hd N B (nowV B C) (nowT C) := h.r.upd hu1 (fun e => by rcases e with e | e; exact hap b (by simp) x (by simp) e.symm; exact hap ab (by simp) x (by simp) e.symm) (fun e => by rcases e with e | e; exact hap b (by simp) hb (by simp) e.symm; exact hap ab (by simp) hb (by simp) e.symm) (fun e => by rcases e with e | e; exact hap b (by simp) hw (by simp) e.symm; exact hap ab (by simp) hw (by simp) e.symm) (fun e => by rcases e with e | e; exact hap b (by simp) hd (by simp) e.symm; exact hap ab (by simp) hd (by simp) e.symm) (fun k e => hNB k (by rcases e with e | e <;> simp [e]))
      have hk1 : Ints w1 kv' K := by
        by_cases h0 : 1 ≤ K.length
        · exact hk'.upd hu1 (fun k o m cc e _ hF => by have := hf' h0 k o m cc e; rcases hF with rfl | rfl; exact this g1; exact this g2)
        · obtain rfl : K = [] := List.eq_nil_of_length_eq_zero (by omega)
          exact ⟨by rcases hk'.1 with h | ⟨b', o', c', e', h2, h3, h4⟩; exact .inl h; exact .inr ⟨b', o', c', e', h2, h3, fun j i hj => absurd hj (by simp)⟩, hk'.2⟩
      refine (rcrash_any w1 x hb hw hd N B _ _ kv' K t n c hc hc64 hr1 hk1 (by omega) (fun h0 k o m cc e => by have := hf' h0 k o m cc e; exact ⟨fun e => this (by rw [e]; exact g5), fun e => this (by rw [e]; exact g6), fun e => this (by rw [e]; exact g7)⟩)).mono ?_
      rintro e w2 ⟨rfl, hr2, hu2⟩
      have hp := h.crash hp1 hcm hu1 hr2 hu2 (fun k e => hr1.notB k (Or.inr e))
      refine ⟨rfl, .live ab cm2 hb hw hd _ _ hp ⟨.inl g1, .inl g2, .inr hcm, .inl g4, .inl g5, .inl g6, .inl g7⟩, (fun k => k = b ∨ k = ab ∨ k = hb ∨ k = hw ∨ k = hd), (hu1.mono (fun _ _ e => by rcases e with e | e <;> simp [e])).trans (hu2.mono (fun _ _ e => by rcases e with e | e | e <;> simp [e])), fun k e => ?_⟩
      rcases e with rfl | rfl | rfl | rfl | rfl
      · exact ⟨g1, hNB _ (by simp), l1⟩
      · exact ⟨g2, hNB _ (by simp), l2⟩
      · exact ⟨g5, hNB _ (by simp), l5⟩
      · exact ⟨g6, hNB _ (by simp), l6⟩
      · exact ⟨g7, hNB _ (by simp), l7⟩
end Go.Proofs.Ytcmhcibkpmbnoaa
