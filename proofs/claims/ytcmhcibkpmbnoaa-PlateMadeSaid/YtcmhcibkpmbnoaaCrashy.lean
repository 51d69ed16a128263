/-
  What stays of a plate's cache.
  Crash, where no sector is torn.
  Crash, where a sector may be torn.
-/
import Derived.Test.YtcmhcibkpmbnoaaConc
import Derived.Deep.RegionHeld3
set_option linter.unusedVariables false
namespace Go.Proofs.Ytcmhcibkpmbnoaa
open Go Go.RowKit Go.MapKept Go.ChangeMaps

theorem PlateAt.abNotB {w : World} {b ab cm : Nat} {D : List (List Int)} {C : Int → Option (List Int)} (h : PlateAt w b ab cm D C) : NotB w ab := by
  obtain ⟨v, _, hs⟩ := h.c0
  exact hs.notB
/-- What stays of the cache. -/
def keep (C : Int → Option (List Int)) (K : List Int) : Int → Option (List Int) := fun i => if i ∈ K then C i else none
/-- Behind q of those that are kept. -/
structure CrashI (w : World) (b ab cm cm2 : Nat) (D : List (List Int)) (C : Int → Option (List Int)) (K : List Int) (M : List (Int × Value)) (q : Nat) (wr : World) : Prop where
  p : PlateAt wr b ab cm2 D (keep C (K.take q))
  m : wr.im cm = some M
  up : Upd (fun k => k = b) w wr
theorem keep_take {C : Int → Option (List Int)} {K : List Int} {q : Nat} (hq : q < K.length) : keep C (K.take (q + 1)) = fun i => if i = K.getD q 0 then C i else keep C (K.take q) i := by
  funext i
  unfold keep
  rw [List.take_succ_eq_append_getElem hq, List.getD_eq_getElem?_getD, List.getElem?_eq_getElem hq]
  simp only [List.mem_append, List.mem_singleton, Option.getD_some]
  by_cases h1 : i = K[q] <;> by_cases h2 : i ∈ K.take q <;> simp [h1, h2]
end Go.Proofs.Ytcmhcibkpmbnoaa
namespace Go.Proofs.Ytcmhcibkpmbnoaa
open Go Go.RowKit Go.MapKept Go.ChangeMaps

theorem PlateAt.bNotB {w : World} {b ab cm : Nat} {D : List (List Int)} {C : Int → Option (List Int)} (h : PlateAt w b ab cm D C) : ∀ k, k = b ∨ k = ab → NotB w k := fun k e => by
  rcases e with rfl | rfl
  · intro cur' fr e'
    obtain ⟨cur, ht⟩ := h.tag
    rw [ht] at e'; cases e'
  · exact h.abNotB
theorem keep_all {C : Int → Option (List Int)} {K : List Int} (h : ∀ i, i ∈ K ↔ C i ≠ none) : keep C K = C := by
  funext i
  unfold keep
  by_cases e : i ∈ K
  · rw [if_pos e]
  · rw [if_neg e]
    cases hC : C i with
    | none => rfl
    | some l => exact absurd ((h i).2 (by rw [hC]; exact fun e => by cases e)) e
theorem keep_nil {C : Int → Option (List Int)} : keep C [] = fun _ => none := by
  funext i; unfold keep; simp
theorem view_none (D : List (List Int)) (i : Nat) : view D (fun _ => none) i = D.getD i [] := rfl
/-- The image of a plate whose cache is empty, and what it reads as. -/
theorem Secs.of_view {w : World} {v : Value} {h : Nat} {D N : List (List Int)} {C : Int → Option (List Int)} (H : Secs w v h (viewL D C)) (hD : D.length = 6) (hN : N.length = 6) (his : ∀ i, i < 6 → N.getD i [] = view D C i) : Secs w v h N :=
  H.congr (by rw [viewL_length, hD, hN]) (fun i hi => by rw [viewL_length, hD] at hi; rw [viewL_get (by rw [hD]; exact hi)]; exact his i hi)
theorem Upd.trans2 {F G : Nat → Prop} {a b c : World} (h : Upd F a b) (k : Upd G b c) (hG : ∀ i, i < a.heap.size → G i → F i) : Upd F a c :=
  ⟨k.os.trans h.os, k.tape.trans h.tape, k.output.trans h.output, Nat.le_trans h.size k.size,
   fun i hi hF => (k.block i (Nat.lt_of_lt_of_le hi h.size) (fun g => hF (hG i hi g))).trans (h.block i hi hF)⟩
theorem keep_none {C : Int → Option (List Int)} {K : List Int} {q : Nat} (hq : q < K.length) (h : C (K.getD q 0) = none) : keep C (K.take (q + 1)) = keep C (K.take q) := by
  rw [keep_take hq]
  funext i
  by_cases e : i = K.getD q 0
  · rw [if_pos e, e, h]
    unfold keep
    rw [h]; simp
  · rw [if_neg e]
theorem keep_some {C : Int → Option (List Int)} {K : List Int} {q x : Nat} {l : List Int} (hq : q < K.length) (hx : K.getD q 0 = (x : Int)) (h : C x = some l) : keep C (K.take (q + 1)) = cput (keep C (K.take q)) x l := by
  rw [keep_take hq]
  funext i
  unfold cput
  by_cases e : i = x
  · rw [if_pos (by rw [hx]; exact e), if_pos e, e, h]
  · rw [if_neg (by rw [hx]; exact e), if_neg e]
theorem crash_start {w : World} {b ab cm : Nat} {D : List (List Int)} {C : Int → Option (List Int)} (h : PlateAt w b ab cm D C) :
    PlateAt ((w.setCell ⟨b, 1, none⟩ (.map (some w.heap.size))).alloc (.map #[] 0)) b ab w.heap.size D (fun _ => none) ∧ Upd (fun k => k = b) w ((w.setCell ⟨b, 1, none⟩ (.map (some w.heap.size))).alloc (.map #[] 0)) := by
  obtain ⟨lb, la, lc⟩ := h.lt
  obtain ⟨v, h0, hs⟩ := h.c0
  obtain ⟨cur, ht⟩ := h.tag
  have hba : b ≠ ab := fun e => by
    obtain ⟨c, cur', _, _, hk, _⟩ := hs
    rw [e, hk] at ht; cases ht
  have hu : Upd (fun k => k = b) w ((w.setCell ⟨b, 1, none⟩ (.map (some w.heap.size))).alloc (.map #[] 0)) := ((Upd.refl (fun k => k = b) w).setCell (p := ⟨b, 1, none⟩) (Or.inl rfl) _).alloc _
  have hsz : (w.setCell ⟨b, 1, none⟩ (.map (some w.heap.size))).heap.size = w.heap.size := by simp
  have him : ((w.setCell ⟨b, 1, none⟩ (.map (some w.heap.size))).alloc (.map #[] 0)).im w.heap.size = some [] := by
    have := (MapKept.heap_alloc (w.setCell ⟨b, 1, none⟩ (.map (some w.heap.size))) (.map #[] 0)).1
    rw [hsz] at this
    exact im_intro this (stamped_empty 0) (by simp)
  have hnb : ∀ k, k = b → NotB w k := fun k e cur' fr e' => by rw [e, ht] at e'; cases e'
  have hc : ∀ o, o ≠ 1 → ((w.setCell ⟨b, 1, none⟩ (.map (some w.heap.size))).alloc (.map #[] 0)).cell? ⟨b, o, none⟩ = w.cell? ⟨b, o, none⟩ := fun o ho => by
    rw [World.cell?_alloc_old _ _ _ (by show b ≠ _; omega), World.cell?_setCell_other _ _ _ _ (fun e => by cases e; exact ho rfl)]
  refine ⟨⟨⟨v, (hc 0 (by omega)).trans h0, hs.upd hu (fun e => hba e.symm) hnb⟩, by rw [World.cell?_alloc_old _ _ _ (by show b ≠ _; omega)]; exact World.cell?_setCell_same' _ _ _ (by rw [h.c1]; rfl), (hc 2 (by omega)).trans h.c2, (hc 3 (by omega)).trans h.c3, ?_, ⟨[], him, fun i => rfl⟩, fun i l hh => (by cases hh), h.pos, h.few⟩, hu⟩
  refine ⟨cur.setIfInBounds 1 (.map (some w.heap.size)), ?_⟩
  have h1 : (w.setCell ⟨b, 1, none⟩ (.map (some w.heap.size))).heap[b]? = some (.cells (cur.setIfInBounds 1 (.map (some w.heap.size))) 55 (0, 0)) := by
    show (w.heap.modify b _)[b]? = _
    rw [Array.getElem?_modify, if_pos rfl, ht]
    rfl
  exact ((MapKept.heap_alloc _ _).2 b (by rw [hsz]; exact lb)).trans h1
def CrashPost (w : World) (b ab : Nat) (D : List (List Int)) (C : Int → Option (List Int)) (K : List Int) (e : Ending) (w' : World) : Prop :=
  e = .returned (.int .i64 0) ∧ ∃ cm2, PlateAt w' b ab cm2 (viewL D (keep C K)) (fun _ => none) ∧ w.heap.size ≤ cm2 ∧ Upd (fun k => k = b ∨ k = ab) w w'
set_option maxRecDepth 100000 in
set_option maxHeartbeats 4000000 in
theorem crash_plain (w : World) (b ab cm : Nat) (D : List (List Int)) (C : Int → Option (List Int)) (kv : Value) (K : List Int) (t n : Int) (h : PlateAt w b ab cm D C) (hk : Ints w kv K) (hK : K.length ≤ 17592186044416) (hKb : ∀ kb o c k, kv = .slice (some ⟨kb, o, none⟩) k c → kb ≠ b) (ht : C t = none) :
    Calls Try.prog 26 #[.pointer (some ⟨b, 0, none⟩), kv, .int .i64 t, .int .i64 n] w (CrashPost w b ab D C K) := by
  have hmm := @run_makeMap Try.prog
  have lv := look_sec
  have pv := put_sec
  have c1 := h.c1
  obtain ⟨M, hm, hM⟩ := h.cache
  obtain ⟨lb, la, lc⟩ := h.lt
  obtain ⟨cur, htag⟩ := h.tag
  have hfz : w.frozen? ⟨b, 1, none⟩ = false := by simp [World.frozen?, htag]
  have hbc : cm ≠ b := fun e => by have := cell_im h.c1; simp only [] at this; rw [← e, hm] at this; cases this
  have hMt : aget M t = none := by have := hM t; rw [ht] at this; exact this
  obtain ⟨hst, hu0⟩ := crash_start h
  have hm1 := (hu0.im lc hbc).trans hm
  have hnb : ∀ k, k = b → NotB w k := fun k e cur' fr e' => by rw [e, htag] at e'; cases e'
  have HST := Lib.hid (state_ok w b ab cm D C h)
  have HM := Lib.hid hM; clear hM
  have HH := Lib.hid h; clear h
  have hstart : CrashI w b ab cm w.heap.size D C K M 0 ((w.setCell ⟨b, 1, none⟩ (.map (some w.heap.size))).alloc (.map #[] 0)) :=
    ⟨by have : keep C (K.take 0) = fun _ => none := by funext i; unfold keep; simp
        rw [this]; exact hst, hm1, hu0⟩
  have HSTART := Lib.hid hstart; clear hstart hst hu0 hm1
  obtain ⟨ka, kc, rfl⟩ := hk.shape
  have HK := Lib.hid hk; clear hk
  have HNB := Lib.hid hnb; clear hnb htag
  go_enter Try.func26, Try.ntmps26
  go_wp2_with (go_at_call 43; refine HST.out.mono ?_; rintro e w' ⟨rfl, rfl⟩)
  clear c1 hfz hmm hm
  go_loopw [34] (fun i wr => ∃ q : Nat, q ≤ K.length ∧ i = .int .i64 q ∧ CrashI w b ab cm w.heap.size D C K M q wr) (fun i _ => K.length - (intOf i).toNat)
  case atStart => exact ⟨0, Nat.zero_le _, rfl, HSTART.out⟩
  case round =>
    obtain ⟨q, hq, rfl, hI⟩ := hrel
    have HI := Lib.hid hI; clear hI
    have hmr := HI.out.m
    obtain ⟨M2, hm2, hM2⟩ := HI.out.p.cache
    have c1r := HI.out.p.c1
    by_cases hlt : q < K.length
    · obtain ⟨bb, o, hka, hcell⟩ : ∃ bb o, ka = some ⟨bb, o, none⟩ ∧ wr.cell? ⟨bb, o + q, none⟩ = some (.int .i64 (K.getD q 0)) := by
        rcases HK.out.cells with ⟨e, _⟩ | ⟨bb, o, c, e, _, hc⟩
        · rw [e] at hlt; exact absurd hlt (Nat.not_lt_zero _)
        · cases e
          have h1 := hc q hlt
          have h2 := hKb bb o kc K.length rfl
          exact ⟨bb, o, rfl, (HI.out.up.cell (p := ⟨bb, o + q, none⟩) (World.block_lt_of_cell? _ _ h1) h2).trans h1⟩
      subst hka
      have hkn := keep_none (C := C) (K := K) hlt
      have hks := fun (x : Nat) (l : List Int) (hx : K.getD q 0 = (x : Int)) (h : C x = some l) => keep_some (C := C) (K := K) hlt hx h
      generalize K.getD q 0 = x at hcell hkn hks
      have HKN := Lib.hid hkn; clear hkn
      have HKS := Lib.hid hks; clear hks
      have hMx := HM.out x
      cases hC : C x with
      | none =>
        rw [hC] at hMx
        simp only [] at hMx
        go_wp2_with fail
        go_roundw
        case rel => exact ⟨q + 1, hlt, by go_num, by rw [HKN.out hC]; exact HI.out.p, HI.out.m, HI.out.up⟩
        case measure => simp [intOf]; omega
      | some l =>
        rw [hC] at hMx
        obtain ⟨sv, k1, k2⟩ := hMx
        obtain ⟨kq1, kq2⟩ := HH.out.keys x l hC
        obtain ⟨y, rfl⟩ : ∃ y : Nat, x = y := ⟨x.toNat, by omega⟩
        have hput := plate_put HI.out.p (i := y) (l := l) (by omega) hm2 (wc := wr.mput w.heap.size (.int .i64 y) sv) ⟨sv, im_mput_same hm2 _, (k2.upd HI.out.up HNB.out).upd ((Upd.refl (fun k => k = w.heap.size) wr).mput (Or.inl rfl) _ _) (fun k e => by rw [e]; exact im_notB (by rw [hm2]; rfl)), (Upd.refl (fun k => k = w.heap.size) wr).mput (by exact Or.inl rfl) _ _⟩
        have HPUT := Lib.hid hput; clear hput
        have him2 : (wr.mput w.heap.size (.int .i64 y) sv).im cm = some M := by rw [im_mput_other _ _ (by omega)]; exact hmr
        have HIM2 := Lib.hid him2; clear him2
        have hup : Upd (fun k => k = b) w (wr.mput w.heap.size (.int .i64 y) sv) := HI.out.up.mput (Or.inr (Nat.le_refl _)) _ _
        have HUP := Lib.hid hup; clear hup
        obtain ⟨sk, so, sc, rfl, _⟩ := k2.shape
        have HC := Lib.hid hC; clear hC
        clear k2
        go_wp2_with fail
        go_roundw
        case rel => exact ⟨q + 1, hlt, by go_num, by rw [HKS.out y l rfl HC.out]; exact HPUT.out, HIM2.out, HUP.out⟩
        case measure => simp [intOf]; omega
    · obtain rfl : q = K.length := by omega
      have hP := HI.out.p
      rw [List.take_length] at hP hM2
      have hM2t := hM2 t
      have hkt : keep C K t = none := by unfold keep; rw [ht]; simp
      rw [hkt] at hM2t
      simp only [] at hM2t
      have HP := Lib.hid hP; clear hP hM2 hkt
      go_wp2_with fail
      refine (sync_any _ b ab w.heap.size D _ HP.out).mono ?_
      rintro e w3 ⟨rfl, hp3, hu3⟩
      have HP3 := Lib.hid hp3; clear hp3
      have HU3 := Lib.hid hu3; clear hu3
      go_wp2_with fail
      go_ret
      exact ⟨rfl, w.heap.size, HP3.out, Nat.le_refl _, (HI.out.up.mono (G := fun k => k = b ∨ k = ab) (fun _ _ h => Or.inl h)).trans2 HU3.out (fun i hi e => by
        rcases e with e | e
        · exact Or.inr e
        · omega)⟩
end Go.Proofs.Ytcmhcibkpmbnoaa
namespace Go.Proofs.Ytcmhcibkpmbnoaa
open Go Go.RowKit Go.MapKept Go.ChangeMaps

theorem BytV.front {w : World} {k o c c' N : Nat} {l : List Int} (h : Sec w (.slice (some ⟨k, o, none⟩) 64 c) l) (hN : N ≤ 64) : BytV w (.slice (some ⟨k, o, none⟩) N c') (l.take N) := by
  obtain ⟨k', o', c2, cur, hv, hl, _, hc⟩ := h
  cases hv
  have hlen : (l.take N).length = N := by rw [List.length_take]; omega
  refine .inr ⟨k, o, c', by rw [hlen], fun j hj => ?_⟩
  rw [hlen] at hj
  rw [hc j (by omega), List.getD_eq_getElem?_getD, List.getD_eq_getElem?_getD, List.getElem?_take_of_lt hj]
theorem BytV.back {w : World} {k o c c' N : Nat} {l : List Int} (h : Sec w (.slice (some ⟨k, o, none⟩) 64 c) l) (hN : N ≤ 64) : BytV w (.slice (some ⟨k, o + N, none⟩) (64 - N) c') (l.drop N) := by
  obtain ⟨k', o', c2, cur, hv, hl, _, hc⟩ := h
  cases hv
  have hlen : (l.drop N).length = 64 - N := by rw [List.length_drop]; omega
  refine .inr ⟨k, o + N, c', by rw [hlen], fun j hj => ?_⟩
  rw [hlen] at hj
  rw [Nat.add_assoc, hc (N + j) (by omega), List.getD_eq_getElem?_getD, List.getD_eq_getElem?_getD, List.getElem?_drop]
theorem BytV.none {w w' : World} {k o c : Nat} {l : List Int} (h : Sec w (.slice (some ⟨k, o, none⟩) 64 c) l) : BytV w' (.slice (some ⟨k, o, none⟩) 0 0) (l.drop 64) :=
  .inl ⟨List.drop_eq_nil_of_le (by rw [h.len]; exact Nat.le_refl _), _, _, rfl⟩
theorem Own.sec {B : Nat} {w : World} {v : Value} {l : List Int} (h : Own B w v l) (hl : l.length = 64) : Sec w v l := by
  unfold Own at h
  rw [hl] at h
  exact sec_of_owns hl h
/-- What stays of the cache, where a sector is torn. -/
def torn (D : List (List Int)) (C : Int → Option (List Int)) (K : List Int) (t : Int) (N : Nat) : Int → Option (List Int) :=
  fun i => if i ∈ K then C i else if i = t then (C t).map (fun l => l.take N ++ (D.getD t.toNat []).drop N) else none
theorem torn_none {D : List (List Int)} {C : Int → Option (List Int)} {K : List Int} {t : Int} {N : Nat} (h : C t = none) : torn D C K t N = keep C K := by
  funext i
  unfold torn keep
  by_cases h1 : i ∈ K
  · rw [if_pos h1, if_pos h1]
  · rw [if_neg h1, if_neg h1]
    by_cases h2 : i = t
    · rw [if_pos h2, h]; rfl
    · rw [if_neg h2]
theorem torn_in {D : List (List Int)} {C : Int → Option (List Int)} {K : List Int} {t : Int} {N : Nat} (h : t ∈ K) : torn D C K t N = keep C K := by
  funext i
  unfold torn keep
  by_cases h1 : i ∈ K
  · rw [if_pos h1, if_pos h1]
  · rw [if_neg h1, if_neg h1, if_neg (fun e => h1 (by rw [e]; exact h))]
theorem torn_out {D : List (List Int)} {C : Int → Option (List Int)} {K : List Int} {y N : Nat} {l : List Int} (h : (y : Int) ∉ K) (hC : C y = some l) : torn D C K y N = cput (keep C K) y (l.take N ++ (D.getD y []).drop N) := by
  funext i
  unfold torn keep cput
  by_cases h2 : i = y
  · subst h2
    rw [if_neg h, if_pos rfl, if_pos rfl, hC]
    simp
  · by_cases h1 : i ∈ K <;> simp [h1, h2]
theorem tornN (n : Int) : ∃ N : Nat, min (max n 0) 64 = (N : Int) ∧ N ≤ 64 := ⟨(min (max n 0) 64).toNat, by omega, by omega⟩
theorem concat2 (W : World) (hb hc : Nat) (v1 v2 : Value) (a b : List Int) (h1 : W.cell? ⟨hb, 0, none⟩ = some v1) (h2 : W.cell? ⟨hb, 1, none⟩ = some v2) (k1 : BytV W v1 a) (k2 : BytV W v2 b) (hl : (a ++ b).length = 64) :
    Calls Try.prog 46 #[.slice (some ⟨hb, 0, none⟩) 2 hc] W (ClonePost W (a ++ b)) := by
  have hf : [a, b].flatten = a ++ b := by simp
  refine (concat_any W hb hc [a, b] (fun q hq => ?_) (by simp) (by rw [hf, hl]; omega)).mono ?_
  · match q, hq with
    | 0, _ => exact ⟨_, h1, k1⟩
    | 1, _ => exact ⟨_, h2, k2⟩
  · rintro e w' ⟨v', rfl, ho, hu⟩
    rw [hf] at ho
    exact ⟨v', rfl, ho.sec hl, ho.fresh, hu⟩
def TornPost (w : World) (b ab : Nat) (D : List (List Int)) (CC : Int → Option (List Int)) (e : Ending) (w' : World) : Prop :=
  e = .returned (.int .i64 0) ∧ ∃ cm2, PlateAt w' b ab cm2 (viewL D CC) (fun _ => none) ∧ w.heap.size ≤ cm2 ∧ Upd (fun k => k = b ∨ k = ab) w w'
def CutT (w : World) (b ab cm2 : Nat) (D : List (List Int)) (C2 : Int → Option (List Int)) (wc : World) : Prop := PlateAt wc b ab cm2 D C2 ∧ Upd (fun k => k = cm2) w wc
set_option maxRecDepth 100000 in
set_option maxHeartbeats 8000000 in
theorem crash_keep (w : World) (b ab cm : Nat) (D : List (List Int)) (C : Int → Option (List Int)) (kv : Value) (K : List Int) (t n : Int) (N : Nat) (hN : min (max n 0) 64 = (N : Int)) (hN64 : N ≤ 64) (h : PlateAt w b ab cm D C) (hk : Ints w kv K) (hK : K.length ≤ 17592186044416) (hKb : ∀ kb o c k, kv = .slice (some ⟨kb, o, none⟩) k c → kb ≠ b) :
    Calls Try.prog 26 #[.pointer (some ⟨b, 0, none⟩), kv, .int .i64 t, .int .i64 n] w (TornPost w b ab D (torn D C K t N)) := by
  have hmm := @run_makeMap Try.prog
  have lv := look_sec
  have pv := put_sec
  have c1 := h.c1
  obtain ⟨M, hm, hM⟩ := h.cache
  obtain ⟨lb, la, lc⟩ := h.lt
  obtain ⟨cur, htag⟩ := h.tag
  have hfz : w.frozen? ⟨b, 1, none⟩ = false := by simp [World.frozen?, htag]
  have hbc : cm ≠ b := fun e => by have := cell_im h.c1; simp only [] at this; rw [← e, hm] at this; cases this
  obtain ⟨hst, hu0⟩ := crash_start h
  have hm1 := (hu0.im lc hbc).trans hm
  have hnb : ∀ k, k = b → NotB w k := fun k e cur' fr e' => by rw [e, htag] at e'; cases e'
  have HST := Lib.hid (state_ok w b ab cm D C h)
  have HM := Lib.hid hM; clear hM
  have HH := Lib.hid h; clear h
  have hstart : CrashI w b ab cm w.heap.size D C K M 0 ((w.setCell ⟨b, 1, none⟩ (.map (some w.heap.size))).alloc (.map #[] 0)) :=
    ⟨by have : keep C (K.take 0) = fun _ => none := by funext i; unfold keep; simp
        rw [this]; exact hst, hm1, hu0⟩
  have HSTART := Lib.hid hstart; clear hstart hst hu0 hm1
  obtain ⟨ka, kc, rfl⟩ := hk.shape
  have HK := Lib.hid hk; clear hk
  have HNB := Lib.hid hnb; clear hnb htag
  go_enter Try.func26, Try.ntmps26
  go_wp2_with (go_at_call 43; refine HST.out.mono ?_; rintro e w' ⟨rfl, rfl⟩)
  clear c1 hfz hmm hm
  go_loopw [34] (fun i wr => ∃ q : Nat, q ≤ K.length ∧ i = .int .i64 q ∧ CrashI w b ab cm w.heap.size D C K M q wr) (fun i _ => K.length - (intOf i).toNat)
  case atStart => exact ⟨0, Nat.zero_le _, rfl, HSTART.out⟩
  case round =>
    obtain ⟨q, hq, rfl, hI⟩ := hrel
    have HI := Lib.hid hI; clear hI
    have hmr := HI.out.m
    obtain ⟨M2, hm2, hM2⟩ := HI.out.p.cache
    have c1r := HI.out.p.c1
    by_cases hlt : q < K.length
    · obtain ⟨bb, o, hka, hcell⟩ : ∃ bb o, ka = some ⟨bb, o, none⟩ ∧ wr.cell? ⟨bb, o + q, none⟩ = some (.int .i64 (K.getD q 0)) := by
        rcases HK.out.cells with ⟨e, _⟩ | ⟨bb, o, c, e, _, hc⟩
        · rw [e] at hlt; exact absurd hlt (Nat.not_lt_zero _)
        · cases e
          have h1 := hc q hlt
          have h2 := hKb bb o kc K.length rfl
          exact ⟨bb, o, rfl, (HI.out.up.cell (p := ⟨bb, o + q, none⟩) (World.block_lt_of_cell? _ _ h1) h2).trans h1⟩
      subst hka
      have hkn := keep_none (C := C) (K := K) hlt
      have hks := fun (x : Nat) (l : List Int) (hx : K.getD q 0 = (x : Int)) (h : C x = some l) => keep_some (C := C) (K := K) hlt hx h
      generalize K.getD q 0 = x at hcell hkn hks
      have HKN := Lib.hid hkn; clear hkn
      have HKS := Lib.hid hks; clear hks
      have hMx := HM.out x
      cases hC : C x with
      | none =>
        rw [hC] at hMx
        simp only [] at hMx
        go_wp2_with fail
        go_roundw
        case rel => exact ⟨q + 1, hlt, by go_num, by rw [HKN.out hC]; exact HI.out.p, HI.out.m, HI.out.up⟩
        case measure => simp [intOf]; omega
      | some l =>
        rw [hC] at hMx
        obtain ⟨sv, k1, k2⟩ := hMx
        obtain ⟨kq1, kq2⟩ := HH.out.keys x l hC
        obtain ⟨y, rfl⟩ : ∃ y : Nat, x = y := ⟨x.toNat, by omega⟩
        have hput := plate_put HI.out.p (i := y) (l := l) (by omega) hm2 (wc := wr.mput w.heap.size (.int .i64 y) sv) ⟨sv, im_mput_same hm2 _, (k2.upd HI.out.up HNB.out).upd ((Upd.refl (fun k => k = w.heap.size) wr).mput (Or.inl rfl) _ _) (fun k e => by rw [e]; exact im_notB (by rw [hm2]; rfl)), (Upd.refl (fun k => k = w.heap.size) wr).mput (by exact Or.inl rfl) _ _⟩
        have HPUT := Lib.hid hput; clear hput
        have him2 : (wr.mput w.heap.size (.int .i64 y) sv).im cm = some M := by rw [im_mput_other _ _ (by omega)]; exact hmr
        have HIM2 := Lib.hid him2; clear him2
        have hup : Upd (fun k => k = b) w (wr.mput w.heap.size (.int .i64 y) sv) := HI.out.up.mput (Or.inr (Nat.le_refl _)) _ _
        have HUP := Lib.hid hup; clear hup
        obtain ⟨sk, so, sc, rfl, _⟩ := k2.shape
        have HC := Lib.hid hC; clear hC
        clear k2
        go_wp2_with fail
        go_roundw
        case rel => exact ⟨q + 1, hlt, by go_num, by rw [HKS.out y l rfl HC.out]; exact HPUT.out, HIM2.out, HUP.out⟩
        case measure => simp [intOf]; omega
    · obtain rfl : q = K.length := by omega
      have hP := HI.out.p
      rw [List.take_length] at hP hM2
      have hMt := HM.out t
      have hM2t := hM2 t
      have HP := Lib.hid hP; clear hP hM2
      have hb2 : b < wr.heap.size := HP.out.lt.1
      cases hC : C t with
      | none =>
        have HCT := Lib.hid (torn_none (D := D) (K := K) (N := N) hC)
        rw [hC] at hMt
        have hkt : keep C K t = none := by unfold keep; rw [hC]; simp
        rw [hkt] at hM2t
        simp only [] at hM2t hMt
        clear hkt
        --{A
        go_wp2_with fail
        refine (sync_any _ b ab w.heap.size D _ HP.out).mono ?_
        rintro e w3 ⟨rfl, hp3, hu3⟩
        have HP3 := Lib.hid hp3; clear hp3
        have HU3 := Lib.hid hu3; clear hu3
        go_wp2_with fail
        go_ret
        exact ⟨rfl, w.heap.size, by rw [HCT.out]; exact HP3.out, Nat.le_refl _, (HI.out.up.mono (G := fun k => k = b ∨ k = ab) (fun _ _ h => Or.inl h)).trans2 HU3.out (fun i hi e => by
          rcases e with e | e
          · exact Or.inr e
          · omega)⟩
        --}A
      | some lt =>
        rw [hC] at hMt
        obtain ⟨kq1, kq2⟩ := HH.out.keys t lt hC
        obtain ⟨y, rfl⟩ : ∃ y : Nat, t = y := ⟨t.toNat, by omega⟩
        obtain ⟨sv, k1, k2⟩ := hMt
        obtain ⟨sk, so, sc, rfl, _⟩ := k2.shape
        have HSV := Lib.hid (k2.upd HI.out.up HNB.out); clear k2
        by_cases hin : (y : Int) ∈ K
        · have HCT := Lib.hid (torn_in (D := D) (C := C) (N := N) hin)
          have hkt : keep C K y = some lt := by unfold keep; rw [if_pos hin, hC]
          rw [hkt] at hM2t
          obtain ⟨sv2, k3, k4⟩ := hM2t
          obtain ⟨sk2, so2, sc2, rfl, _⟩ := k4.shape
          clear k4 hkt
          --{B
          go_wp2_with fail
          refine (sync_any _ b ab w.heap.size D _ HP.out).mono ?_
          rintro e w3 ⟨rfl, hp3, hu3⟩
          have HP3 := Lib.hid hp3; clear hp3
          have HU3 := Lib.hid hu3; clear hu3
          go_wp2_with fail
          go_ret
          exact ⟨rfl, w.heap.size, by rw [HCT.out]; exact HP3.out, Nat.le_refl _, (HI.out.up.mono (G := fun k => k = b ∨ k = ab) (fun _ _ h => Or.inl h)).trans2 HU3.out (fun i hi e => by
            rcases e with e | e
            · exact Or.inr e
            · omega)⟩
          --}B
        · have HCT := Lib.hid (torn_out (D := D) (N := N) hin hC)
          have hkt : keep C K y = none := by unfold keep; rw [if_neg hin]
          rw [hkt] at hM2t
          simp only [] at hM2t
          clear hkt
          obtain ⟨pv0, c0, hs0⟩ := HP.out.c0
          obtain ⟨pc, _, rfl, _, _, _⟩ := id hs0
          obtain ⟨dv, hdc, hds, _⟩ := hs0.cellAt (i := y) (by omega)
          obtain ⟨dk, do', dc, rfl, _⟩ := hds.shape
          have HDS := Lib.hid hds; clear hds hs0
          have hlen : (lt.take N ++ (D.getD y []).drop N).length = 64 := by
            have := HSV.out.len
            have := HDS.out.len
            rw [List.length_append, List.length_take, List.length_drop]; omega
          have HLEN := Lib.hid hlen; clear hlen
          have hcap1 := HSV.out.cap
          have hcap2 := HDS.out.cap
          have HM2 := Lib.hid hm2
          have hsp : (¬ dc = N) ∨ (dc = 64 ∧ N = 64) := by omega
          obtain ⟨X, hX⟩ : ∃ X, X = lt.take N ++ (D.getD y []).drop N := ⟨_, rfl⟩
          have hcc : ∀ (W : World) (hb hc c1 c2 : Nat) (v1 v2 : Value), W.cell? ⟨hb, 0, none⟩ = some v1 → W.cell? ⟨hb, 1, none⟩ = some v2 → v1 = .slice (some ⟨sk, so, none⟩) N c1 → (v2 = .slice (some ⟨dk, do' + N, none⟩) (64 - N) c2 ∨ N = 64 ∧ v2 = .slice (some ⟨dk, do', none⟩) 0 0) → Upd (fun _ => False) wr W →
              Calls Try.prog 46 #[.slice (some ⟨hb, 0, none⟩) 2 hc] W (ClonePost W X) := fun W hb hc c1 c2 v1 v2 e1 e2 ev1 ev2 u => by
            rw [hX]
            refine concat2 W hb hc v1 v2 _ _ e1 e2 ?_ ?_ HLEN.out
            · rw [ev1]; exact (BytV.front HSV.out hN64).old u
            · rcases ev2 with ev2 | ⟨rfl, ev2⟩
              · rw [ev2]; exact (BytV.back HDS.out hN64).old u
              · rw [ev2]; exact BytV.none HDS.out
          have HCC := Lib.hid hcc; clear hcc
          rw [← hX] at HCT
          have HX := Lib.hid hX; clear hX HLEN
          have i1 : (0 : Int) ≤ (N : Int) := by omega
          have i2 : (N : Int) ≤ 64 := by omega
          have i3 : (N : Int) ≤ (sc : Int) := by omega
          have i4 : (64 : Int) ≤ (dc : Int) := by omega
          have i5 : (64 : Int) ≤ (sc : Int) := by omega
          rcases hsp with hsp | ⟨rfl, rfl⟩
          · go_upto_region 17 with (fail)
            go_cut [] (fun wc => CutT wr b ab w.heap.size D (cput (keep C K) y X) wc)
            case first =>
              --{C
              go_region_held3 (fun w' => w'.cell? ⟨b, 1, none⟩ = some (.map (some w.heap.size)) ∧ w'.cell? ⟨b, 0, none⟩ = some (.slice (some ⟨ab, 0, none⟩) D.length pc) ∧ w'.cell? ⟨ab, y, none⟩ = some (.slice (some ⟨dk, do', none⟩) 64 dc)) (first | go_keep | exact ⟨wc1, wc0, wcd⟩ | (simp only [cell_mput]; exact ⟨wc1, wc0, wcd⟩)) ((go_at_call 46; refine (HCC.out _ wr.heap.size 2 _ _ _ _ (by simp [go_sem] <;> rfl) (by simp [go_sem] <;> rfl) rfl (by first | exact Or.inl rfl | exact Or.inr ⟨rfl, rfl⟩) (by first | exact (Upd.refl _ _).alloc _ | exact ((Upd.refl _ _).drew).alloc _ | exact ((Upd.refl _ _).alloc _).drew)).mono ?_; rintro e w3 ⟨v', rfl, hv', hf', hu'⟩; obtain ⟨k', o', c', rfl, hk'⟩ := hv'.shape; have U3 : Upd (fun _ => False) wr w3 := (by first | exact ((Upd.refl _ _).alloc _).trans hu' | exact (((Upd.refl _ _).drew).alloc _).trans hu' | exact (((Upd.refl _ _).alloc _).drew).trans hu'); have wc1 := (U3.cell (p := ⟨b, 1, none⟩) hb2 (fun h => h)).trans c1r; have wc0 := (U3.cell (p := ⟨b, 0, none⟩) hb2 (fun h => h)).trans c0; have wcd := (U3.cell (p := ⟨ab, y, none⟩) (World.block_lt_of_cell? _ _ hdc) (fun h => h)).trans hdc; have wim := (U3.im (im_lt (by rw [HM2.out]; rfl)) (fun h => h)).trans HM2.out; have lbw : b < w3.heap.size := (by have := U3.size; omega); have HV' := Lib.hid hv'; clear hv'; clear hf' hu'; have HU3 := Lib.hid U3; clear U3))
              all_goals
                go_wp2_with fail
                go_meet
                case rel => exact ⟨plate_put HP.out (by omega) HM2.out ⟨_, im_mput_same wim _, HV'.out.upd ((Upd.refl (fun k => k = w.heap.size) w3).mput (Or.inl rfl) _ _) (fun k e => by rw [e]; exact im_notB (by rw [wim]; rfl)), (HU3.out.mono (G := fun k => k = w.heap.size) (fun _ _ h => h.elim)).mput (by exact Or.inl rfl) _ _⟩, (HU3.out.mono (G := fun k => k = w.heap.size) (fun _ _ h => h.elim)).mput (by exact Or.inl rfl) _ _⟩
              --}C
            case rest =>
              --{D
              obtain ⟨hpt, hut⟩ := hcut
              have HPT := Lib.hid hpt; clear hpt
              have HUT := Lib.hid hut; clear hut
              go_wp2_with fail
              refine (sync_any _ b ab w.heap.size D _ HPT.out).mono ?_
              rintro e w4 ⟨rfl, hp4, hu4⟩
              have HP4 := Lib.hid hp4; clear hp4
              have HU4 := Lib.hid hu4; clear hu4
              go_wp2_with fail
              go_ret
              exact ⟨rfl, w.heap.size, by rw [HCT.out]; exact HP4.out, Nat.le_refl _, ((HI.out.up.mono (G := fun k => k = b ∨ k = ab) (fun _ _ h => Or.inl h)).trans2 HUT.out (fun i hi e => by omega)).trans2 HU4.out (fun i hi e => by
                rcases e with e | e
                · exact Or.inr e
                · omega)⟩
              --}D
          · go_upto_region 17 with (fail)
            go_cut [] (fun wc => CutT wr b ab w.heap.size D (cput (keep C K) y X) wc)
            case first =>
              --{C2
              go_region_held3 (fun w' => w'.cell? ⟨b, 1, none⟩ = some (.map (some w.heap.size)) ∧ w'.cell? ⟨b, 0, none⟩ = some (.slice (some ⟨ab, 0, none⟩) D.length pc) ∧ w'.cell? ⟨ab, y, none⟩ = some (.slice (some ⟨dk, do', none⟩) 64 64)) (first | go_keep | exact ⟨wc1, wc0, wcd⟩ | (simp only [cell_mput]; exact ⟨wc1, wc0, wcd⟩)) ((go_at_call 46; refine (HCC.out _ wr.heap.size 2 _ 0 _ _ (by simp [go_sem] <;> rfl) (by simp [go_sem] <;> rfl) rfl (Or.inr ⟨rfl, rfl⟩) (by first | exact (Upd.refl _ _).alloc _ | exact ((Upd.refl _ _).drew).alloc _ | exact ((Upd.refl _ _).alloc _).drew)).mono ?_; rintro e w3 ⟨v', rfl, hv', hf', hu'⟩; obtain ⟨k', o', c', rfl, hk'⟩ := hv'.shape; have U3 : Upd (fun _ => False) wr w3 := (by first | exact ((Upd.refl _ _).alloc _).trans hu' | exact (((Upd.refl _ _).drew).alloc _).trans hu' | exact (((Upd.refl _ _).alloc _).drew).trans hu'); have wc1 := (U3.cell (p := ⟨b, 1, none⟩) hb2 (fun h => h)).trans c1r; have wc0 := (U3.cell (p := ⟨b, 0, none⟩) hb2 (fun h => h)).trans c0; have wcd := (U3.cell (p := ⟨ab, y, none⟩) (World.block_lt_of_cell? _ _ hdc) (fun h => h)).trans hdc; have wim := (U3.im (im_lt (by rw [HM2.out]; rfl)) (fun h => h)).trans HM2.out; have lbw : b < w3.heap.size := (by have := U3.size; omega); have HV' := Lib.hid hv'; clear hv'; clear hf' hu'; have HU3 := Lib.hid U3; clear U3))
              all_goals
                go_wp2_with fail
                go_meet
                case rel => exact ⟨plate_put HP.out (by omega) HM2.out ⟨_, im_mput_same wim _, HV'.out.upd ((Upd.refl (fun k => k = w.heap.size) w3).mput (Or.inl rfl) _ _) (fun k e => by rw [e]; exact im_notB (by rw [wim]; rfl)), (HU3.out.mono (G := fun k => k = w.heap.size) (fun _ _ h => h.elim)).mput (by exact Or.inl rfl) _ _⟩, (HU3.out.mono (G := fun k => k = w.heap.size) (fun _ _ h => h.elim)).mput (by exact Or.inl rfl) _ _⟩
              --}C2
            case rest =>
              --{D2
              obtain ⟨hpt, hut⟩ := hcut
              have HPT := Lib.hid hpt; clear hpt
              have HUT := Lib.hid hut; clear hut
              go_wp2_with fail
              refine (sync_any _ b ab w.heap.size D _ HPT.out).mono ?_
              rintro e w4 ⟨rfl, hp4, hu4⟩
              have HP4 := Lib.hid hp4; clear hp4
              have HU4 := Lib.hid hu4; clear hu4
              go_wp2_with fail
              go_ret
              exact ⟨rfl, w.heap.size, by rw [HCT.out]; exact HP4.out, Nat.le_refl _, ((HI.out.up.mono (G := fun k => k = b ∨ k = ab) (fun _ _ h => Or.inl h)).trans2 HUT.out (fun i hi e => by omega)).trans2 HU4.out (fun i hi e => by
                rcases e with e | e
                · exact Or.inr e
                · omega)⟩
              --}D2
theorem crash_any (w : World) (b ab cm : Nat) (D : List (List Int)) (C : Int → Option (List Int)) (kv : Value) (K : List Int) (t n : Int) (N : Nat) (hN : min (max n 0) 64 = (N : Int)) (hN64 : N ≤ 64) (h : PlateAt w b ab cm D C) (hk : Ints w kv K) (hK : K.length ≤ 8192) (hKb : ∀ kb o c k, kv = .slice (some ⟨kb, o, none⟩) k c → kb ≠ b) :
    Calls Try.prog 26 #[.pointer (some ⟨b, 0, none⟩), kv, .int .i64 t, .int .i64 n] w (TornPost w b ab D (torn D C K t N)) :=
  crash_keep w b ab cm D C kv K t n N hN hN64 h hk (Nat.le_trans hK (by decide)) hKb
end Go.Proofs.Ytcmhcibkpmbnoaa
