/-
  Crash, where no sector is torn.
-/
import Derived.Test.YtchpekecgdbphaaPlate10
namespace Go.Proofs.Ytchpekecgdbphaa
open Go Go.RowKit Go.MapKept Go.ChangeMaps

theorem PlateAt.bNotB {w : World} {b ab cm : Nat} {D : List (List Int)} {C : Int → Option (List Int)} (h : PlateAt w b ab cm D C) : ∀ k, k = b ∨ k = ab → NotB w k := fun k e => by
  rcases e with rfl | rfl
  · intro cur' fr e'
    obtain ⟨cur, ht⟩ := h.tag
    rw [ht] at e'; cases e'
  · exact h.abNotB
theorem keep_all {C : Int → Option (List Int)} {K : List Int} (h : ∀ i, i ∈ K ↔ C i ≠ none) : keep C K = C := by
  funext i
  unfold keep
  by_cases e : i ∈ K
  · rw [if_pos e]
  · rw [if_neg e]
    cases hC : C i with
    | none => rfl
    | some l => exact absurd ((h i).2 (by rw [hC]; exact fun e => by cases e)) e
theorem keep_nil {C : Int → Option (List Int)} : keep C [] = fun _ => none := by
  funext i; unfold keep; simp
theorem view_none (D : List (List Int)) (i : Nat) : view D (fun _ => none) i = D.getD i [] := rfl
/-- The image of a plate whose cache is empty, and what it reads as. -/
theorem Secs.of_view {w : World} {v : Value} {h : Nat} {D N : List (List Int)} {C : Int → Option (List Int)} (H : Secs w v h (viewL D C)) (hD : D.length = 6) (hN : N.length = 6) (his : ∀ i, i < 6 → N.getD i [] = view D C i) : Secs w v h N :=
  H.congr (by rw [viewL_length, hD, hN]) (fun i hi => by rw [viewL_length, hD] at hi; rw [viewL_get (by rw [hD]; exact hi)]; exact his i hi)
theorem Upd.trans2 {F G : Nat → Prop} {a b c : World} (h : Upd F a b) (k : Upd G b c) (hG : ∀ i, i < a.heap.size → G i → F i) : Upd F a c :=
  ⟨k.os.trans h.os, k.tape.trans h.tape, k.output.trans h.output, Nat.le_trans h.size k.size,
   fun i hi hF => (k.block i (Nat.lt_of_lt_of_le hi h.size) (fun g => hF (hG i hi g))).trans (h.block i hi hF)⟩
theorem keep_none {C : Int → Option (List Int)} {K : List Int} {q : Nat} (hq : q < K.length) (h : C (K.getD q 0) = none) : keep C (K.take (q + 1)) = keep C (K.take q) := by
  rw [keep_take hq]
  funext i
  by_cases e : i = K.getD q 0
  · rw [if_pos e, e, h]
    unfold keep
    rw [h]; simp
  · rw [if_neg e]
theorem keep_some {C : Int → Option (List Int)} {K : List Int} {q x : Nat} {l : List Int} (hq : q < K.length) (hx : K.getD q 0 = (x : Int)) (h : C x = some l) : keep C (K.take (q + 1)) = cput (keep C (K.take q)) x l := by
  rw [keep_take hq]
  funext i
  unfold cput
  by_cases e : i = x
  · rw [if_pos (by rw [hx]; exact e), if_pos e, e, h]
  · rw [if_neg (by rw [hx]; exact e), if_neg e]
theorem crash_start {w : World} {b ab cm : Nat} {D : List (List Int)} {C : Int → Option (List Int)} (h : PlateAt w b ab cm D C) :
    PlateAt ((w.setCell ⟨b, 1, none⟩ (.map (some w.heap.size))).alloc (.map #[] 0)) b ab w.heap.size D (fun _ => none) ∧ Upd (fun k => k = b) w ((w.setCell ⟨b, 1, none⟩ (.map (some w.heap.size))).alloc (.map #[] 0)) := by
  obtain ⟨lb, la, lc⟩ := h.lt
  obtain ⟨v, h0, hs⟩ := h.c0
  obtain ⟨cur, ht⟩ := h.tag
  have hba : b ≠ ab := fun e => by
    obtain ⟨c, cur', _, _, hk, _⟩ := hs
    rw [e, hk] at ht; cases ht
  have hu : Upd (fun k => k = b) w ((w.setCell ⟨b, 1, none⟩ (.map (some w.heap.size))).alloc (.map #[] 0)) := ((Upd.refl (fun k => k = b) w).setCell (p := ⟨b, 1, none⟩) (Or.inl rfl) _).alloc _
  have hsz : (w.setCell ⟨b, 1, none⟩ (.map (some w.heap.size))).heap.size = w.heap.size := by simp
  have him : ((w.setCell ⟨b, 1, none⟩ (.map (some w.heap.size))).alloc (.map #[] 0)).im w.heap.size = some [] := by
    have := (MapKept.heap_alloc (w.setCell ⟨b, 1, none⟩ (.map (some w.heap.size))) (.map #[] 0)).1
    rw [hsz] at this
    exact im_intro this (stamped_empty 0) (by simp)
  have hnb : ∀ k, k = b → NotB w k := fun k e cur' fr e' => by rw [e, ht] at e'; cases e'
  have hc : ∀ o, o ≠ 1 → ((w.setCell ⟨b, 1, none⟩ (.map (some w.heap.size))).alloc (.map #[] 0)).cell? ⟨b, o, none⟩ = w.cell? ⟨b, o, none⟩ := fun o ho => by
    rw [World.cell?_alloc_old _ _ _ (by show b ≠ _; omega), World.cell?_setCell_other _ _ _ _ (fun e => by cases e; exact ho rfl)]
  refine ⟨⟨⟨v, (hc 0 (by omega)).trans h0, hs.upd hu (fun e => hba e.symm) hnb⟩, by rw [World.cell?_alloc_old _ _ _ (by show b ≠ _; omega)]; exact World.cell?_setCell_same' _ _ _ (by rw [h.c1]; rfl), (hc 2 (by omega)).trans h.c2, (hc 3 (by omega)).trans h.c3, ?_, ⟨[], him, fun i => rfl⟩, fun i l hh => (by cases hh), h.pos, h.few⟩, hu⟩
  refine ⟨cur.setIfInBounds 1 (.map (some w.heap.size)), ?_⟩
  have h1 : (w.setCell ⟨b, 1, none⟩ (.map (some w.heap.size))).heap[b]? = some (.cells (cur.setIfInBounds 1 (.map (some w.heap.size))) 57 (0, 0)) := by
    show (w.heap.modify b _)[b]? = _
    rw [Array.getElem?_modify, if_pos rfl, ht]
    rfl
  exact ((MapKept.heap_alloc _ _).2 b (by rw [hsz]; exact lb)).trans h1
def CrashPost (w : World) (b ab : Nat) (D : List (List Int)) (C : Int → Option (List Int)) (K : List Int) (e : Ending) (w' : World) : Prop :=
  e = .returned (.int .i64 0) ∧ ∃ cm2, PlateAt w' b ab cm2 (viewL D (keep C K)) (fun _ => none) ∧ w.heap.size ≤ cm2 ∧ Upd (fun k => k = b ∨ k = ab) w w'
set_option maxRecDepth 100000 in
set_option maxHeartbeats 4000000 in
theorem crash_plain (w : World) (b ab cm : Nat) (D : List (List Int)) (C : Int → Option (List Int)) (kv : Value) (K : List Int) (t n : Int) (h : PlateAt w b ab cm D C) (hk : Ints w kv K) (hK : K.length ≤ 8192) (hKb : ∀ kb o c k, kv = .slice (some ⟨kb, o, none⟩) k c → kb ≠ b) (ht : C t = none) :
    Calls Try.prog 14 #[.pointer (some ⟨b, 0, none⟩), kv, .int .i64 t, .int .i64 n] w (CrashPost w b ab D C K) := by
  have hmm := @run_makeMap Try.prog
  have lv := look_sec
  have pv := put_sec
  have c1 := h.c1
  obtain ⟨M, hm, hM⟩ := h.cache
  obtain ⟨lb, la, lc⟩ := h.lt
  obtain ⟨cur, htag⟩ := h.tag
  have hfz : w.frozen? ⟨b, 1, none⟩ = false := by simp [World.frozen?, htag]
  have hbc : cm ≠ b := fun e => by have := cell_im h.c1; simp only [] at this; rw [← e, hm] at this; cases this
  have hMt : aget M t = none := by have := hM t; rw [ht] at this; exact this
  obtain ⟨hst, hu0⟩ := crash_start h
  have hm1 := (hu0.im lc hbc).trans hm
  have hnb : ∀ k, k = b → NotB w k := fun k e cur' fr e' => by rw [e, htag] at e'; cases e'
  have HST := Lib.hid (state_ok w b ab cm D C h)
  have HM := Lib.hid hM; clear hM
  have HH := Lib.hid h; clear h
  have hstart : CrashI w b ab cm w.heap.size D C K M 0 ((w.setCell ⟨b, 1, none⟩ (.map (some w.heap.size))).alloc (.map #[] 0)) :=
    ⟨by have : keep C (K.take 0) = fun _ => none := by funext i; unfold keep; simp
        rw [this]; exact hst, hm1, hu0⟩
  have HSTART := Lib.hid hstart; clear hstart hst hu0 hm1
  obtain ⟨ka, kc, rfl⟩ := hk.shape
  have HK := Lib.hid hk; clear hk
  have HNB := Lib.hid hnb; clear hnb htag
  go_enter Try.func14, Try.ntmps14
  go_wp2_with (go_at_call 29; refine HST.out.mono ?_; rintro e w' ⟨rfl, rfl⟩)
  clear c1 hfz hmm hm
  go_loopw [34] (fun i wr => ∃ q : Nat, q ≤ K.length ∧ i = .int .i64 q ∧ CrashI w b ab cm w.heap.size D C K M q wr) (fun i _ => K.length - (intOf i).toNat)
  case atStart => exact ⟨0, Nat.zero_le _, rfl, HSTART.out⟩
  case round =>
    obtain ⟨q, hq, rfl, hI⟩ := hrel
    have HI := Lib.hid hI; clear hI
    have hmr := HI.out.m
    obtain ⟨M2, hm2, hM2⟩ := HI.out.p.cache
    have c1r := HI.out.p.c1
    by_cases hlt : q < K.length
    · obtain ⟨bb, o, hka, hcell⟩ : ∃ bb o, ka = some ⟨bb, o, none⟩ ∧ wr.cell? ⟨bb, o + q, none⟩ = some (.int .i64 (K.getD q 0)) := by
        rcases HK.out.cells with ⟨e, _⟩ | ⟨bb, o, c, e, _, hc⟩
        · rw [e] at hlt; exact absurd hlt (Nat.not_lt_zero _)
        · cases e
          have h1 := hc q hlt
          have h2 := hKb bb o kc K.length rfl
          exact ⟨bb, o, rfl, (HI.out.up.cell (p := ⟨bb, o + q, none⟩) (World.block_lt_of_cell? _ _ h1) h2).trans h1⟩
      subst hka
      have hkn := keep_none (C := C) (K := K) hlt
      have hks := fun (x : Nat) (l : List Int) (hx : K.getD q 0 = (x : Int)) (h : C x = some l) => keep_some (C := C) (K := K) hlt hx h
      generalize K.getD q 0 = x at hcell hkn hks
      have HKN := Lib.hid hkn; clear hkn
      have HKS := Lib.hid hks; clear hks
      have hMx := HM.out x
      cases hC : C x with
      | none =>
        rw [hC] at hMx
        simp only [] at hMx
        go_wp2_with fail
        go_roundw
        case rel => exact ⟨q + 1, hlt, by go_num, by rw [HKN.out hC]; exact HI.out.p, HI.out.m, HI.out.up⟩
        case measure => simp [intOf]; omega
      | some l =>
        rw [hC] at hMx
        obtain ⟨sv, k1, k2⟩ := hMx
        obtain ⟨kq1, kq2⟩ := HH.out.keys x l hC
        obtain ⟨y, rfl⟩ : ∃ y : Nat, x = y := ⟨x.toNat, by omega⟩
        have hput := plate_put HI.out.p (i := y) (l := l) (by omega) hm2 (wc := wr.mput w.heap.size (.int .i64 y) sv) ⟨sv, im_mput_same hm2 _, (k2.upd HI.out.up HNB.out).upd ((Upd.refl (fun k => k = w.heap.size) wr).mput (Or.inl rfl) _ _) (fun k e => by rw [e]; exact im_notB (by rw [hm2]; rfl)), (Upd.refl (fun k => k = w.heap.size) wr).mput (by exact Or.inl rfl) _ _⟩
        have HPUT := Lib.hid hput; clear hput
        have him2 : (wr.mput w.heap.size (.int .i64 y) sv).im cm = some M := by rw [im_mput_other _ _ (by omega)]; exact hmr
        have HIM2 := Lib.hid him2; clear him2
        have hup : Upd (fun k => k = b) w (wr.mput w.heap.size (.int .i64 y) sv) := HI.out.up.mput (Or.inr (Nat.le_refl _)) _ _
        have HUP := Lib.hid hup; clear hup
        obtain ⟨sk, so, sc, rfl, _⟩ := k2.shape
        have HC := Lib.hid hC; clear hC
        clear k2
        go_wp2_with fail
        go_roundw
        case rel => exact ⟨q + 1, hlt, by go_num, by rw [HKS.out y l rfl HC.out]; exact HPUT.out, HIM2.out, HUP.out⟩
        case measure => simp [intOf]; omega
    · obtain rfl : q = K.length := by omega
      have hP := HI.out.p
      rw [List.take_length] at hP hM2
      have hM2t := hM2 t
      have hkt : keep C K t = none := by unfold keep; rw [ht]; simp
      rw [hkt] at hM2t
      simp only [] at hM2t
      have HP := Lib.hid hP; clear hP hM2 hkt
      go_wp2_with fail
      refine (sync_any _ b ab w.heap.size D _ HP.out).mono ?_
      rintro e w3 ⟨rfl, hp3, hu3⟩
      have HP3 := Lib.hid hp3; clear hp3
      have HU3 := Lib.hid hu3; clear hu3
      go_wp2_with fail
      go_ret
      exact ⟨rfl, w.heap.size, HP3.out, Nat.le_refl _, (HI.out.up.mono (G := fun k => k = b ∨ k = ab) (fun _ _ h => Or.inl h)).trans2 HU3.out (fun i hi e => by
        rcases e with e | e
        · exact Or.inr e
        · omega)⟩
end Go.Proofs.Ytchpekecgdbphaa
