/-
  Copy of a plate that lives: what is made first.
-/
import Derived.Test.YtcmhcibkpmbnoaaCrashy
set_option linter.unusedVariables false
namespace Go.Proofs.Ytcmhcibkpmbnoaa
open Go Go.RowKit Go.MapKept Go.ChangeMaps

theorem plate_made {X : World} {h1 cm' vc : Nat} {D : List (List Int)} (hs : Secs X (.slice (some ⟨h1, 0, none⟩) D.length vc) h1 D) (him : X.im cm' = some []) (hp : 0 < D.length) (hf : D.length ≤ 8192) :
    PlateAt (X.alloc (.cells #[.slice (some ⟨h1, 0, none⟩) D.length vc, .map (some cm'), .int .i64 D.length, .bool false] 55)) X.heap.size h1 cm' D (fun _ => none) := by
  have hlt := im_lt (w := X) (b := cm') (by rw [him]; rfl)
  refine ⟨⟨_, by simp [go_sem], hs.old ((Upd.refl _ _).alloc _)⟩, by simp [go_sem], by simp [go_sem], by simp [go_sem], ⟨_, (MapKept.heap_alloc X _).1⟩, ⟨[], by rw [im_alloc_old _ hlt]; exact him, fun i => rfl⟩, fun i l h => (by cases h), hp, hf⟩
/-- A new plate, with nothing in its cache. -/
def CutK (w : World) (D : List (List Int)) (v : Value) (wc : World) : Prop :=
  ∃ b' ab' cm', v = .pointer (some ⟨b', 0, none⟩) ∧ PlateAt wc b' ab' cm' D (fun _ => none) ∧ w.heap.size ≤ b' ∧ w.heap.size ≤ ab' ∧ w.heap.size ≤ cm' ∧ Upd (fun _ => False) w wc
theorem cutK_a {w w1 : World} {h1 vc : Nat} {D : List (List Int)} (hu : Upd (fun _ => False) w w1) (hs : Secs w1 (.slice (some ⟨h1, 0, none⟩) D.length vc) h1 D) (hh : w.heap.size ≤ h1) (hp : 0 < D.length) (hf : D.length ≤ 8192) {n : Nat} (hn : n = w1.heap.size) {n' : Nat} (hn' : n' = w1.heap.size + 1) :
    CutK w D (.pointer (some ⟨n', 0, none⟩)) ((w1.alloc (.map #[] 0)).alloc (.cells #[.slice (some ⟨h1, 0, none⟩) D.length vc, .map (some n), .int .i64 D.length, .bool false] 55)) := by
  subst hn hn'
  have := plate_made (X := w1.alloc (.map #[] 0)) (cm' := w1.heap.size) (hs.old ((Upd.refl _ _).alloc _)) (by simp [go_sem]) hp hf
  rw [World.size_alloc] at this
  exact ⟨_, _, _, rfl, this, by have := hu.size; omega, hh, hu.size, (hu.alloc _).alloc _⟩
theorem cutK_b {w w1 : World} {h1 vc : Nat} {D : List (List Int)} (hu : Upd (fun _ => False) (w.alloc (.map #[] 0)) w1) (hs : Secs w1 (.slice (some ⟨h1, 0, none⟩) D.length vc) h1 D) (hh : w.heap.size ≤ h1) (hp : 0 < D.length) (hf : D.length ≤ 8192) {n : Nat} (hn : n = w.heap.size) {n' : Nat} (hn' : n' = w1.heap.size) :
    CutK w D (.pointer (some ⟨n', 0, none⟩)) (w1.alloc (.cells #[.slice (some ⟨h1, 0, none⟩) D.length vc, .map (some n), .int .i64 D.length, .bool false] 55)) := by
  subst hn hn'
  have := plate_made (X := w1) (cm' := w.heap.size) hs ((hu.im (by simp) (fun h => h)).trans (by simp [go_sem])) hp hf
  have u : Upd (fun _ => False) w w1 := ((Upd.refl _ _).alloc _).trans hu
  exact ⟨_, _, _, rfl, this, u.size, hh, Nat.le_refl _, u.alloc _⟩
theorem CutK.drew {w wc : World} {D : List (List Int)} {v : Value} (h : CutK w D v wc) : CutK w D v wc.drew := by
  obtain ⟨b', ab', cm', h1, h2, h3, h4, h5, h6⟩ := h
  exact ⟨b', ab', cm', h1, h2.old ((Upd.refl _ _).drew), h3, h4, h5, h6.drew⟩
/-- What the copy's walk over the cache says. -/
structure CopyI (w : World) (b' ab' cm' cm r : Nat) (D : List (List Int)) (C C' : Int → Option (List Int)) (M left : List (Int × Value)) (wr : World) : Prop where
  it : IterAt wr r cm left
  sub : ∀ p ∈ left, p ∈ M
  p : PlateAt wr b' ab' cm' D C'
  is : ∀ i : Int, (keyIn left i → C' i = none) ∧ (¬ keyIn left i → C' i = C i)
  up : Upd (fun _ => False) w wr
def CutR (w : World) (b' ab' cm' q : Nat) (D : List (List Int)) (C' : Int → Option (List Int)) (l : List Int) (wc : World) : Prop := PlateAt wc b' ab' cm' D (cput C' q l) ∧ Upd (fun k => k = cm') w wc
theorem copy_step {w wr w1 w2 : World} {b' ab' cm' cm r q : Nat} {D : List (List Int)} {C C' : Int → Option (List Int)} {M left : List (Int × Value)} {sv : Value} {l : List Int} (h : CopyI w b' ab' cm' cm r D C C' M left wr)
    (_ : ((q : Int), sv) ∈ left) (hC : C q = some l) (hit : IterAt w1 r cm (adel left q)) (hu : Upd (fun k => k = r) wr w1) (hp : CutR w1 b' ab' cm' q D C' l w2) (hrw : w.heap.size ≤ r) (hcw : w.heap.size ≤ cm') (hr : r ≠ cm') (hc : cm ≠ cm') :
    CopyI w b' ab' cm' cm r D C (cput C' q l) M (adel left q) w2 := by
  obtain ⟨hp, hu2⟩ := hp
  refine ⟨hit.upd hu2 hr hc, fun p hp => h.sub p (List.mem_filter.1 hp).1, hp, fun i => ?_, (h.up.trans' hu (fun i hi e => by omega)).trans' hu2 (fun i hi e => by omega)⟩
  obtain ⟨i1, i2⟩ := h.is i
  unfold cput
  by_cases e : i = q
  · subst e
    refine ⟨fun hk => absurd rfl (keyIn_adel.1 hk).2, fun _ => ?_⟩
    simp only [if_true]
    exact hC.symm
  · simp only [e, if_false]
    exact ⟨fun hk => i1 (keyIn_adel.1 hk).1, fun hk => i2 (fun hk' => hk (keyIn_adel.2 ⟨hk', e⟩))⟩
def CopyPost (w : World) (D : List (List Int)) (C : Int → Option (List Int)) (e : Ending) (w' : World) : Prop :=
  ∃ b' ab' cm', e = .returned (.pointer (some ⟨b', 0, none⟩)) ∧ PlateAt w' b' ab' cm' D C ∧ w.heap.size ≤ b' ∧ w.heap.size ≤ ab' ∧ w.heap.size ≤ cm' ∧ Upd (fun _ => False) w w'
set_option maxRecDepth 100000 in
set_option maxHeartbeats 8000000 in
theorem copy_any (w : World) (b ab cm : Nat) (D : List (List Int)) (C : Int → Option (List Int)) (h : PlateAt w b ab cm D C) : Calls Try.prog 13 #[.pointer (some ⟨b, 0, none⟩)] w (CopyPost w D C) := by
  have hmm := @run_makeMap Try.prog
  have hp := h.pos
  have hf := h.few
  obtain ⟨v0, c0, hs0⟩ := h.c0
  obtain ⟨vc0, _, rfl, _, _, _⟩ := id hs0
  have c1 := h.c1
  have c2 := h.c2
  have c3 := h.c3
  obtain ⟨M, hm, hM⟩ := h.cache
  obtain ⟨lb, la, lc⟩ := h.lt
  have HS0 := Lib.hid hs0; clear hs0
  have HM := Lib.hid hM; clear hM
  have HMM := Lib.hid hm; clear hm
  have HH := Lib.hid h; clear h
  go_enter Try.func13, Try.ntmps13
  go_upto_region 3 with (fail)
  go_cut [3] (fun v wc => CutK w D v wc)
  case first =>
    --{R
    go_region_with (go_at_call 19; refine (clone_any _ b ab (.slice (some ⟨ab, 0, none⟩) D.length vc0) D (by first | exact c0 | exact (((Upd.refl (fun _ => False) w).alloc _).cell (p := ⟨b, 0, none⟩) lb (fun h => h)).trans c0) (by first | exact HS0.out | exact HS0.out.old ((Upd.refl _ _).drew) | exact HS0.out.old ((Upd.refl _ _).alloc _) | exact HS0.out.old (((Upd.refl _ _).drew).alloc _) | exact HS0.out.old (((Upd.refl _ _).alloc _).drew)) hp hf).mono ?_; rintro e w1 ⟨v1, h1, rfl, hs1, hh1, hu1⟩; obtain ⟨vc1, _, rfl, _, _, _⟩ := id hs1; have U1 : Upd (fun _ => False) w w1 := (by first | exact hu1 | exact ((Upd.refl _ _).drew).trans hu1 | exact ((Upd.refl _ _).alloc _).trans hu1 | exact (((Upd.refl _ _).drew).alloc _).trans hu1 | exact (((Upd.refl _ _).alloc _).drew).trans hu1); have d2 := (U1.cell (p := ⟨b, 2, none⟩) lb (fun h => h)).trans c2; have d3 := (U1.cell (p := ⟨b, 3, none⟩) lb (fun h => h)).trans c3; have lb1 : b < w1.heap.size := (by have := U1.size; omega); have hz1 : w.heap.size ≤ h1 := (by first | exact hh1 | (simp at hh1; omega)); have HS1 := Lib.hid hs1; clear hs1; have HU1 := Lib.hid hu1; clear hu1; have HUU := Lib.hid U1; clear U1; clear hh1)
    all_goals
      go_wp2_with fail
      go_meet
      case rel =>
        first
        | exact (cutK_a (w := w) HUU.out HS1.out hz1 hp hf rfl (by simp)).drew
        | exact cutK_a (w := w) HUU.out HS1.out hz1 hp hf rfl (by simp)
        | exact (cutK_b (w := w) HU1.out HS1.out hz1 hp hf rfl rfl).drew
        | exact cutK_b (w := w) HU1.out HS1.out hz1 hp hf rfl rfl
        | exact (cutK_b (w := w) (w1 := w1) ⟨HU1.out.os, HU1.out.tape, HU1.out.output, HU1.out.size, HU1.out.block⟩ HS1.out hz1 hp hf rfl rfl).drew
        | exact cutK_b (w := w) (w1 := w1) ⟨HU1.out.os, HU1.out.tape, HU1.out.output, HU1.out.size, HU1.out.block⟩ HS1.out hz1 hp hf rfl rfl
    --}R
  case rest =>
    obtain ⟨b', ab', cm', rfl, hp', l1, l2, l3, hu⟩ := hcut
    have c1' := (hu.cell (p := ⟨b, 1, none⟩) lb (fun h => h)).trans c1
    have hmc := (hu.im lc (fun h => h)).trans HMM.out
    have HP' := Lib.hid hp'; clear hp'
    have HU := Lib.hid hu; clear hu
    clear c0 c1 c2 c3 hmm
    go_wp2_with (at_range; refine wpList_range_im rfl _ 53 _ _ rfl Try.underlying53 cm M rfl hmc ?_; intro w0 hit0 hu0 hs0 hc0; clear hc0)
    go_frame
    have hst : CopyI w b' ab' cm' cm wc.heap.size D C (fun _ => none) M M w0 := by
      refine ⟨hit0, fun _ h => h, HP'.out.old hu0, fun i => ⟨fun _ => rfl, fun hk => ?_⟩, HU.out.trans hu0⟩
      have := HM.out i
      cases hC : C i with
      | none => rfl
      | some l =>
        rw [hC] at this
        obtain ⟨sv, k1, _⟩ := this
        refine absurd ?_ hk
        unfold aget at k1
        obtain ⟨p, hp, hp2⟩ := Option.map_eq_some_iff.1 k1
        have h1 := List.mem_of_find?_eq_some hp
        have h2 := List.find?_some hp
        simp only [decide_eq_true_eq] at h2
        exact ⟨sv, by rw [← h2, ← hp2]; exact h1⟩
    have HST0 := Lib.hid hst; clear hst hit0 hu0 hs0 c1' hmc
    have hwz := HU.out.size
    have hcz := HP'.out.lt
    go_loopw [] (fun wr => ∃ left C', CopyI w b' ab' cm' cm wc.heap.size D C C' M left wr) (fun wr => leftN wr wc.heap.size)
    case atStart => exact ⟨_, _, HST0.out⟩
    case round =>
      obtain ⟨left, C', hI⟩ := hrel
      have HI := Lib.hid hI; clear hI
      go_wp2_with (at_next; refine wpList_next_im rfl _ rfl wc.heap.size cm left rfl HI.out.it ?_ ?_)
      · intro hl0
        subst hl0
        have hCC : C' = C := funext fun i => (HI.out.is i).2 (fun hk => by obtain ⟨v, hv⟩ := hk; cases hv)
        subst hCC
        go_wp2_with fail
        go_ret
        exact ⟨b', ab', cm', rfl, HI.out.p, l1, l2, l3, HI.out.up⟩
      · intro k v w' hmem hit' hlt hu hsz hc him hen
        have hget := im_mem HMM.out (HI.out.sub _ hmem)
        have hMk := HM.out k
        cases hC : C k with
        | none => rw [hC] at hMk; simp only [] at hMk; rw [hget] at hMk; cases hMk
        | some l =>
          rw [hC] at hMk
          obtain ⟨sv, k1, k2⟩ := hMk
          obtain rfl : v = sv := by rw [hget] at k1; cases k1; rfl
          obtain ⟨kq1, kq2⟩ := HH.out.keys k l hC
          obtain ⟨q, rfl⟩ : ∃ q : Nat, k = q := ⟨k.toNat, by omega⟩
          have hF : ∀ k, k = wc.heap.size → NotB wr k := fun k e => by rw [e]; exact HI.out.it.notB
          have hPw : PlateAt w' b' ab' cm' D C' := HI.out.p.upd hu (by omega) (by omega) (by omega) hF
          have hSw := (k2.old HI.out.up).upd hu hF
          obtain ⟨M', hm', _⟩ := hPw.cache
          have c1w := hPw.c1
          obtain ⟨lb', _, lc'⟩ := hPw.lt
          have pv := put_sec
          obtain ⟨sk, so, sc, rfl, _⟩ := k2.shape
          have HPW := Lib.hid hPw; clear hPw
          have HSW := Lib.hid hSw; clear hSw
          have HIT := Lib.hid hit'; clear hit'
          have HUR := Lib.hid hu; clear hu
          have HMEM := Lib.hid hmem; clear hmem
          have HLT := Lib.hid hlt; clear hlt
          have HCQ := Lib.hid hC; clear hC
          clear hget k1 k2 hc him hF
          go_upto_region 7 with (fail)
          --{S
          go_region_with (go_at_call 16; refine (clone_sec _ _ l (by exact HSW.out)).mono ?_; rintro e w3 ⟨v', rfl, hv', hf', hu'⟩; obtain ⟨k', o', c', rfl, hk'⟩ := hv'.shape; have U3 : Upd (fun _ => False) w' w3 := ((Upd.refl (fun _ => False) _).drew).trans hu'; have wc1 := (U3.cell (p := ⟨b', 1, none⟩) lb' (fun h => h)).trans c1w; have wim := (U3.im lc' (fun h => h)).trans hm'; have lbw : b' < w3.heap.size := (by have := U3.size; omega); have hcr : CutR w' b' ab' cm' q D C' l (w3.mput cm' (.int .i64 q) (.slice (some ⟨k', o', none⟩) 64 c')) := ⟨plate_put HPW.out (by omega) hm' ⟨_, im_mput_same wim _, hv'.upd ((Upd.refl (fun k => k = cm') w3).mput (Or.inl rfl) _ _) (fun k e => by rw [e]; exact im_notB (by rw [wim]; rfl)), (U3.mono (G := fun k => k = cm') (fun _ _ h => h.elim)).mput (by exact Or.inl rfl) _ _⟩, (U3.mono (G := fun k => k = cm') (fun _ _ h => h.elim)).mput (by exact Or.inl rfl) _ _⟩; have HIN := Lib.hid (copy_step HI.out HMEM.out HCQ.out HIT.out HUR.out hcr hwz l3 (by omega) (by omega)); clear hv' hf' hu' U3 hcr)
          all_goals
            go_wp2_with fail
            go_roundw
            case rel => exact ⟨_, _, HIN.out⟩
            case measure => rw [HIN.out.it.count, HI.out.it.count]; exact HLT.out
          --}S
end Go.Proofs.Ytcmhcibkpmbnoaa
