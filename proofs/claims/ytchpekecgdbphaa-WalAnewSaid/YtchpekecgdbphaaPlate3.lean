/-
  Sync; clones of sectors.
-/
import Derived.Test.YtchpekecgdbphaaPlate2
namespace Go.Proofs.Ytchpekecgdbphaa
open Go Go.RowKit Go.MapKept Go.ChangeMaps

def keyIn (l : List (Int × Value)) (k : Int) : Prop := ∃ v, (k, v) ∈ l
theorem keyIn_adel {l : List (Int × Value)} {k k' : Int} : keyIn (adel l k) k' ↔ keyIn l k' ∧ k' ≠ k := by
  unfold keyIn adel
  constructor
  · rintro ⟨v, h⟩
    obtain ⟨h1, h2⟩ := List.mem_filter.1 h
    exact ⟨⟨v, h1⟩, by simpa using h2⟩
  · rintro ⟨⟨v, h⟩, hne⟩
    exact ⟨v, List.mem_filter.2 ⟨h, by simpa using hne⟩⟩
noncomputable def leftN (wr : World) (r : Nat) : Nat :=
  match wr.heap[r]? with
  | some (.mapIter (some m) _ seen _) => match wr.heap[m]? with | some (.map es _) => (leftOf es seen).size | _ => 0
  | _ => 0
theorem IterAt.count {w : World} {r m : Nat} {left : List (Int × Value)} (h : IterAt w r m left) : leftN w r = left.length := by
  obtain ⟨es, c, since, seen, c0, h1, h2, _, _, _, _, rfl⟩ := h
  unfold leftN
  rw [h1]; simp only []; rw [h2]; simp
theorem IterAt.notB {w : World} {r m : Nat} {left : List (Int × Value)} (h : IterAt w r m left) : NotB w r := by
  obtain ⟨es, c, since, seen, c0, h1, _⟩ := h
  intro cur fr e
  rw [h1] at e; cases e

/-- A header is put. -/
theorem Secs.put {w : World} {v sv : Value} {h q : Nat} {L : List (List Int)} {l : List Int} (H : Secs w v h L) (hq : q < L.length) (hs : Sec w sv l) : Secs (w.setCell ⟨h, q, none⟩ sv) v h (L.set q l) ∧ Upd (fun k => k = h) w (w.setCell ⟨h, q, none⟩ sv) := by
  have hn := H.notB
  obtain ⟨c, cur, hv, hl, hk, hc⟩ := H
  have hlt : h < w.heap.size := (Array.getElem?_eq_some_iff.1 hk).1
  have hu : Upd (fun k => k = h) w (w.setCell ⟨h, q, none⟩ sv) := (Upd.refl (fun k => k = h) w).setCell (p := ⟨h, q, none⟩) (Or.inl rfl) _
  have hF : ∀ k, k = h → NotB w k := fun k e => by rw [e]; exact hn
  refine ⟨⟨c, cur.setIfInBounds q sv, by rw [List.length_set]; exact hv, by rw [List.length_set]; exact hl, ?_, fun i hi => ?_⟩, hu⟩
  · show (w.heap.modify h _)[h]? = _
    rw [Array.getElem?_modify, if_pos rfl, hk]
    rfl
  · rw [List.length_set] at hi
    by_cases e : i = q
    · subst e
      obtain ⟨u, h1, _⟩ := hc i hi
      refine ⟨sv, World.cell?_setCell_same' _ _ _ (by rw [h1]; rfl), ?_⟩
      rw [List.getD_eq_getElem?_getD, List.getElem?_set_self hi]
      exact hs.upd hu hF
    · obtain ⟨u, h1, h2⟩ := hc i hi
      refine ⟨u, ?_, ?_⟩
      · rw [World.cell?_setCell_other _ _ _ _ (fun e' => by cases e'; exact e rfl)]; exact h1
      · rw [List.getD_eq_getElem?_getD, List.getElem?_set_ne (fun e' => e e'.symm), ← List.getD_eq_getElem?_getD]
        exact h2.upd hu hF
theorem Secs.cellAt {w : World} {v : Value} {h i : Nat} {L : List (List Int)} (H : Secs w v h L) (hi : i < L.length) : ∃ sv, w.cell? ⟨h, i, none⟩ = some sv ∧ Sec w sv (L.getD i []) ∧ w.frozen? ⟨h, i, none⟩ = false := by
  obtain ⟨c, cur, hv, hl, hk, hc⟩ := H
  obtain ⟨sv, h1, h2⟩ := hc i hi
  exact ⟨sv, h1, h2, by simp [World.frozen?, hk]⟩

/-- A state of the walk over the cache. -/
structure SyncI (w : World) (b ab cm r : Nat) (D : List (List Int)) (C : Int → Option (List Int)) (M left : List (Int × Value)) (v : Value) (E : List (List Int)) (wr : World) : Prop where
  it : IterAt wr r cm left
  sub : ∀ p ∈ left, p ∈ M
  all : Secs wr v ab E
  len : E.length = D.length
  is : ∀ i : Nat, i < D.length → (keyIn left i → E.getD i [] = D.getD i []) ∧ (¬ keyIn left i → E.getD i [] = view D C i)
  up : Upd (fun k => k = ab) w wr
def SyncEx (w : World) (b ab cm r : Nat) (D : List (List Int)) (C : Int → Option (List Int)) (M : List (Int × Value)) (v : Value) (wr : World) : Prop :=
  ∃ left E, SyncI w b ab cm r D C M left v E wr
def viewL (D : List (List Int)) (C : Int → Option (List Int)) : List (List Int) := (List.range D.length).map (view D C)
theorem viewL_length (D : List (List Int)) (C : Int → Option (List Int)) : (viewL D C).length = D.length := by simp [viewL]
theorem viewL_get {D : List (List Int)} {C : Int → Option (List Int)} {i : Nat} (h : i < D.length) : (viewL D C).getD i [] = view D C i := by
  unfold viewL
  rw [List.getD_eq_getElem?_getD, List.getElem?_map, List.getElem?_range h]
  rfl
def SyncPost (w : World) (b ab cm : Nat) (D : List (List Int)) (C : Int → Option (List Int)) (e : Ending) (w' : World) : Prop :=
  e = .returned (.int .i64 0) ∧ PlateAt w' b ab cm (viewL D C) (fun _ => none) ∧ Upd (fun k => k = ab ∨ k = cm) w w'
theorem Secs.congr {w : World} {v : Value} {h : Nat} {L L' : List (List Int)} (H : Secs w v h L) (hl : L'.length = L.length) (he : ∀ i, i < L.length → L'.getD i [] = L.getD i []) : Secs w v h L' := by
  obtain ⟨c, cur, hv, hlc, hk, hc⟩ := H
  refine ⟨c, cur, by rw [hl]; exact hv, by rw [hl]; exact hlc, hk, fun i hi => ?_⟩
  rw [hl] at hi
  obtain ⟨sv, h1, h2⟩ := hc i hi
  exact ⟨sv, h1, by rw [he i hi]; exact h2⟩
theorem sync_step {w wr w1 : World} {b ab cm r q : Nat} {D : List (List Int)} {C : Int → Option (List Int)} {M left : List (Int × Value)} {v sv : Value} {E : List (List Int)} {l : List Int} (h : SyncI w b ab cm r D C M left v E wr)
    (hmem : ((q : Int), sv) ∈ left) (hq : q < D.length) (hC : C q = some l) (hs : Sec w sv l) (hit : IterAt w1 r cm (adel left q)) (hu : Upd (fun k => k = r) wr w1) (hra : r ≠ ab) (hrw : w.heap.size ≤ r) (hca : cm ≠ ab) (hna : NotB w ab) :
    SyncI w b ab cm r D C M (adel left q) v (E.set q l) (w1.setCell ⟨ab, q, none⟩ sv) := by
  have hF : ∀ k, k = r → NotB wr k := fun k e => by rw [e]; exact h.it.notB
  have h1 : Secs w1 v ab E := h.all.upd hu (fun e => hra e.symm) hF
  have hs1 : Sec w1 sv l := (hs.upd h.up (fun k e => by rw [e]; exact hna)).upd hu hF
  obtain ⟨h2, hu2⟩ := h1.put (q := q) (sv := sv) (l := l) (by rw [h.len]; exact hq) hs1
  refine ⟨hit.upd hu2 hra hca, fun p hp => h.sub p (List.mem_filter.1 hp).1, h2, by rw [List.length_set]; exact h.len, fun i hi => ?_, (h.up.trans' hu (fun i hi e => by omega)).trans hu2⟩
  have hi' := h.is i hi
  by_cases e : i = q
  · subst e
    refine ⟨fun hk => absurd rfl (keyIn_adel.1 hk).2, fun _ => ?_⟩
    rw [List.getD_eq_getElem?_getD, List.getElem?_set_self (by rw [h.len]; exact hi)]
    unfold view
    rw [hC]
    rfl
  · have e' : (i : Int) ≠ q := by omega
    rw [List.getD_eq_getElem?_getD, List.getElem?_set_ne (fun e' => e e'.symm), ← List.getD_eq_getElem?_getD]
    exact ⟨fun hk => hi'.1 (keyIn_adel.1 hk).1, fun hk => hi'.2 (fun hk' => hk (keyIn_adel.2 ⟨hk', e'⟩))⟩
set_option maxHeartbeats 2000000 in
theorem sync_any (w : World) (b ab cm : Nat) (D : List (List Int)) (C : Int → Option (List Int)) (h : PlateAt w b ab cm D C) :
    Calls Try.prog 28 #[.pointer (some ⟨b, 0, none⟩)] w (SyncPost w b ab cm D C) := by
  have c1 := h.c1
  obtain ⟨M, hm, hM⟩ := h.cache
  obtain ⟨lb, la, lc⟩ := h.lt
  obtain ⟨v, h0, hs⟩ := h.c0
  have hna := hs.notB
  have hba : b ≠ ab := fun e => by
    obtain ⟨cur, ht⟩ := h.tag
    obtain ⟨c, cur', _, _, hk, _⟩ := hs
    rw [e, hk] at ht; cases ht
  have hca : cm ≠ ab := fun e => by
    obtain ⟨c, cur, _, _, hk, _⟩ := hs
    unfold World.im at hm
    rw [e, hk] at hm; cases hm
  have hbc : b ≠ cm := fun e => by have := cell_im h.c1; simp only [] at this; rw [e, hm] at this; cases this
  have HST := Lib.hid (state_ok w b ab cm D C h)
  have HM := Lib.hid hM; clear hM
  have HH := Lib.hid h; clear h
  have hs' := hs
  obtain ⟨vc, _, rfl, _, _, _⟩ := hs'
  have hdl := HH.out.few
  have HS := Lib.hid hs; clear hs
  go_enter Try.func28, Try.ntmps28
  go_wp2_with (first
    | (go_at_call 29; refine HST.out.mono ?_; rintro e w' ⟨rfl, rfl⟩)
    | (at_range; refine wpList_range_im rfl _ 55 _ _ rfl Try.underlying55 cm M rfl hm ?_; intro w0 hit0 hu0 hs0 hc0; clear hc0))
  go_frame
  have hst : SyncI w b ab cm w.heap.size D C M M (.slice (some ⟨ab, 0, none⟩) D.length vc) D w0 := by
    refine ⟨hit0, fun _ h => h, HS.out.old hu0, rfl, fun i hi => ⟨fun _ => rfl, fun hk => ?_⟩, hu0.mono (fun _ _ h => h.elim)⟩
    have := HM.out i
    unfold view
    cases hC : C i with
    | none => rfl
    | some l =>
      rw [hC] at this
      obtain ⟨sv, k1, _⟩ := this
      refine absurd ?_ hk
      unfold aget at k1
      obtain ⟨p, hp, hp2⟩ := Option.map_eq_some_iff.1 k1
      have h1 := List.mem_of_find?_eq_some hp
      have h2 := List.find?_some hp
      simp only [decide_eq_true_eq] at h2
      exact ⟨sv, by rw [← h2, ← hp2]; exact h1⟩
  have HST0 := Lib.hid hst; clear hst hit0 hu0 hs0
  have HC0 := Lib.hid h0; clear h0
  have HMM := Lib.hid hm; clear hm
  clear HST
  go_loopw [] (fun wr => SyncEx w b ab cm w.heap.size D C M (.slice (some ⟨ab, 0, none⟩) D.length vc) wr) (fun wr => leftN wr w.heap.size)
  case atStart => exact ⟨_, _, HST0.out⟩
  case round =>
    obtain ⟨left, E, hI⟩ := hrel
    have HI := Lib.hid hI; clear hI
    have w1c := (HI.out.up.cell (p := ⟨b, 1, none⟩) lb hba).trans c1
    go_wp2_with (at_next; refine wpList_next_im rfl _ rfl w.heap.size cm left rfl HI.out.it ?_ ?_)
    · intro hl0
      subst hl0
      obtain ⟨wc, hrun, him, huc⟩ := clear_im (w := wr) (b := cm) (l := M) ((HI.out.up.im lc hca).trans HMM.out)
      have HUC := Lib.hid huc; clear huc
      have HIM := Lib.hid him; clear him
      go_wp2_with fail
      go_ret
      have hF : ∀ k, k = cm → NotB wr k := fun k e => by rw [e]; exact im_notB (by rw [(HI.out.up.im lc hca).trans HMM.out]; rfl)
      have hse : Secs wr (.slice (some ⟨ab, 0, none⟩) D.length vc) ab (viewL D C) := HI.out.all.congr (by rw [viewL_length, HI.out.len]) (fun i hi => by
        rw [HI.out.len] at hi
        rw [viewL_get hi, (HI.out.is i hi).2 (fun hk => by obtain ⟨v, hv⟩ := hk; cases hv)])
      have cw : ∀ o, wc.cell? ⟨b, o, none⟩ = w.cell? ⟨b, o, none⟩ := fun o => (HUC.out.cell (p := ⟨b, o, none⟩) (by have := HI.out.up.size; show b < _; omega) hbc).trans (HI.out.up.cell (p := ⟨b, o, none⟩) lb hba)
      refine ⟨rfl, ⟨⟨_, (cw 0).trans HC0.out, hse.upd HUC.out (fun e => hca e.symm) hF⟩, (cw 1).trans HH.out.c1, by rw [viewL_length]; exact (cw 2).trans HH.out.c2, (cw 3).trans HH.out.c3, ?_, ⟨[], HIM.out, fun i => rfl⟩, fun i l h => (by cases h), by rw [viewL_length]; exact HH.out.pos, by rw [viewL_length]; exact HH.out.few⟩, ?_⟩
      · obtain ⟨cur, ht⟩ := HH.out.tag
        exact ⟨cur, (HUC.out.block b (by have := HI.out.up.size; omega) hbc).trans ((HI.out.up.block b lb hba).trans ht)⟩
      · exact (HI.out.up.mono (fun _ _ h => Or.inl h)).trans (HUC.out.mono (fun _ _ h => Or.inr h))
    · intro k v w' hmem hit' hlt hu hsz hc him hen
      have hget := im_mem HMM.out (HI.out.sub _ hmem)
      have hMk := HM.out k
      cases hC : C k with
      | none => rw [hC] at hMk; simp only [] at hMk; rw [hget] at hMk; cases hMk
      | some l =>
        rw [hC] at hMk
        obtain ⟨sv, k1, k2⟩ := hMk
        obtain rfl : v = sv := by rw [hget] at k1; cases k1; rfl
        obtain ⟨kq1, kq2⟩ := HH.out.keys k l hC
        obtain ⟨q, rfl⟩ : ∃ q : Nat, k = q := ⟨k.toNat, by omega⟩
        have hq : q < D.length := by omega
        have HIN := Lib.hid (sync_step HI.out hmem hq hC k2 hit' hu (by omega) (Nat.le_refl _) hca hna)
        obtain ⟨sk, so, sc, rfl, _⟩ := k2.shape
        obtain ⟨ov, a1, _, a3⟩ := (HI.out.all.upd hu (fun e => by omega) (fun k e => by rw [e]; exact HI.out.it.notB)).cellAt (i := q) (by rw [HI.out.len]; exact hq)
        have HIT := Lib.hid (IterAt.count hit')
        have HLT := Lib.hid hlt; clear hlt
        have c0w := (hc ⟨b, 0, none⟩).trans ((HI.out.up.cell (p := ⟨b, 0, none⟩) lb hba).trans HC0.out)
        clear hget k1 k2 hmem hit' hu hc him w1c hC
        go_wp2_with fail
        go_roundw
        case rel => exact ⟨_, _, HIN.out⟩
        case measure => rw [HIN.out.it.count, HI.out.it.count]; exact HLT.out
end Go.Proofs.Ytchpekecgdbphaa
