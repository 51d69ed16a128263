/-
  EpochNobody: the walk.
-/
import Derived.Test.YtmpjbolopgccpaaGreatEpSame
set_option linter.unusedVariables false
namespace Go.Proofs.YtmpjbolopgccpaaGreat
open Go Go.RowKit Go.MapKept Go.ChangeMaps
set_option linter.unusedVariables false
set_option linter.unusedSimpArgs false

set_option maxRecDepth 100000 in
set_option maxHeartbeats 4000000 in
theorem same_self (w : World) (b m1 m2 m3 m4 m5 : Nat) (q : Value) (h : FullAt w b m1 m2 m3 m4 m5 q) : Calls Tryz.prog 18 #[.pointer (some ⟨b, 0, none⟩), .pointer (some ⟨b, 0, none⟩)] w (BoolPost w true) := by
  have HD := h.old ((Upd.refl _ _).drew)
  obtain ⟨qb, nv, hqe, _⟩ := h.qu
  subst hqe
  have c0 := h.st.c0
  clear h
  have HH := Lib.hid HD; clear HD
  go_enter Tryz.func18, Tryz.ntmps18
  go_wp2_with (go_at_call 21; refine (none_ok _ _ c0).mono ?_; rintro e w' ⟨rfl, rfl⟩)
  refine wp_region_sched (ops := opsS) (S := SS b m1 m2 m3 m4 m5 qb) (by kernel_rfl) (by kernel_rfl) noS (fun _ _ d _ _ h => by cases d <;> exact h) schedS sizeS okS (cells_of HH.out.st) ?_
  refine same_walk w b m1 m2 m3 m4 m5 qb HH.out _ _ rfl rfl rfl rfl (fun a' w' h4 hd hu => ?_)
  go_wp2_with fail
  refine bodyPost_ret (v := .bool true) (by simp [results, Tryz.results18, go_sem, h4]) hd ?_
  exact ⟨rfl, ((Upd.refl _ _).drew).trans hu⟩
def NoRelN (w0 : World) (i : Value) (wr : World) : Prop := ∃ k : Nat, k ≤ 2 ∧ i = .int .i64 k ∧ Upd (fun _ => False) w0 wr
theorem out_cells {w : World} {b : Nat} (h : w.heap[b]? = some (.cells out0 41 (0, 0))) : w.cell? ⟨b, 0, none⟩ = some (.int .i64 0) ∧ w.cell? ⟨b, 1, none⟩ = some (.int .i64 0) ∧ w.cell? ⟨b, 2, none⟩ = some (.int .i64 0) ∧ w.cell? ⟨b, 3, none⟩ = some (.int .u32 0) ∧ w.cell? ⟨b, 4, none⟩ = some (.int .i64 0) ∧ w.cell? ⟨b, 5, none⟩ = some (.int .i64 0) ∧ w.cell? ⟨b, 6, none⟩ = some (.slice none 0 0) ∧ w.cell? ⟨b, 7, none⟩ = some (.int .i64 0) := by
  have c : ∀ j, w.cell? ⟨b, j, none⟩ = out0[j]? := fun j => by unfold World.cell?; rw [h]; simp
  exact ⟨(c 0).trans rfl, (c 1).trans rfl, (c 2).trans rfl, (c 3).trans rfl, (c 4).trans rfl, (c 5).trans rfl, (c 6).trans rfl, (c 7).trans rfl⟩
set_option maxHeartbeats 8000000 in
set_option maxRecDepth 100000 in
theorem epNobody_walk (w : World) (n : Int) (i0 i1 : Int) (s2 : ByteArray) (i3 i4 i5 i6 i7 i8 i9 i10 : Int) (va : Option Addr) (vn vk : Nat) : Calls Tryz.prog 3 #[.agg (cmdCells i0 i1 s2 i3 i4 i5 i6 i7 i8 i9 i10 va vn vk), .int .i64 n] w (BoolPost w true) := by
  go_enter Tryz.func3, Tryz.ntmps3
  unfold cmdCells
  go_wp2_with fail
  have hW : ∃ (w0 : World) (cb tb sb : Nat), _ = w0 ∧ w.heap.size = cb ∧ w.heap.size + 1 = tb ∧ w.heap.size + 1 + 1 = sb := ⟨((w.alloc (.cells #[.int .i64 i0, .int .i64 i1, .string s2, .int .i64 i3, .int .i64 i4, .int .i64 i5, .int .i64 i6, .int .i64 i7, .int .u32 i8, .int .i64 i9, .int .i64 i10, .slice va vn vk] 27)).alloc (.cells #[.int .i64 0, .int .i64 0, .int .i64 0, .map none, .map none, .slice none 0 0, .int .i64 0, .int .i64 0, .map none, .map none, .slice none 0 0, .slice none 0 0, .map none] 36)).alloc (.cells #[.pointer none, .pointer (some ⟨w.heap.size + 1, 0, none⟩)] 28), _, _, _, rfl, rfl, rfl, rfl⟩
  obtain ⟨w0, cb, tb, sb, hw0, hcb, htb, hsb⟩ := hW
  have hu0 : Upd (fun _ => False) w w0 := by rw [← hw0]; exact (((Upd.refl _ _).alloc _).alloc _).alloc _
  have hp0 : w0.cell? ⟨sb, 0, none⟩ = some (.pointer none) := by rw [← hw0, ← hsb]; simp [go_sem]
  have hp1 : w0.cell? ⟨sb, 1, none⟩ = some (.pointer (some ⟨tb, 0, none⟩)) := by rw [← hw0, ← hsb, ← htb]; simp [go_sem]
  have h0 : w0.cell? ⟨tb, 0, none⟩ = some (.int .i64 0) := by rw [← hw0, ← htb]; simp [go_sem]
  have hcl : sb < w0.heap.size := by rw [← hw0, ← hsb]; simp
  have hcbl : cb < w0.heap.size := by rw [← hw0, ← hcb]; simp; omega
  have hcc : ∀ j, j < 12 → w0.cell? ⟨cb, j, none⟩ = (cmdCells i0 i1 s2 i3 i4 i5 i6 i7 i8 i9 i10 va vn vk)[j]? := by
    intro j hj
    rw [← hw0, ← hcb]
    unfold cmdCells
    match j, hj with
    | 0, _ | 1, _ | 2, _ | 3, _ | 4, _ | 5, _ | 6, _ | 7, _ | 8, _ | 9, _ | 10, _ | 11, _ => simp [go_sem]
  rw [hw0, hsb, htb, hcb]
  have HU0 := Lib.hid hu0; clear hu0
  have HP0 := Lib.hid hp0; clear hp0
  have HP1 := Lib.hid hp1; clear hp1
  have HCC := Lib.hid hcc; clear hcc
  have HS := Lib.hid (noSt_zero h0)
  clear hw0 htb hsb hcb h0
  go_loopw [19] (fun i wr => NoRelN w0 i wr) (fun i _ => 2 - (intOf i).toNat)
  case atStart => exact ⟨0, by omega, rfl, Upd.refl _ _⟩
  case round =>
    obtain ⟨k, hk, rfl, hu⟩ := hrel
    by_cases hlt : k < 2
    · obtain ⟨a, hp, hst⟩ : ∃ a, wr.cell? ⟨sb, k, none⟩ = some (.pointer a) ∧ NoSt wr (.pointer a) := by
        match k, hlt with
        | 0, _ => exact ⟨none, (hu.cell (p := ⟨sb, 0, none⟩) hcl (fun h => h)).trans HP0.out, noSt_nil wr⟩
        | 1, _ => exact ⟨_, (hu.cell (p := ⟨sb, 1, none⟩) hcl (fun h => h)).trans HP1.out, HS.out.old hu⟩
      have HU := Lib.hid hu; clear hu
      have HST := Lib.hid hst; clear hst
      have hcj : ∀ j, j < 12 → wr.cell? ⟨cb, j, none⟩ = (cmdCells i0 i1 s2 i3 i4 i5 i6 i7 i8 i9 i10 va vn vk)[j]? := fun j hj => (HU.out.cell (p := ⟨cb, j, none⟩) hcbl (fun h => h)).trans (HCC.out j hj)
      have d0 := hcj 0 (by omega)
      have d1 := hcj 1 (by omega)
      have d2 := hcj 2 (by omega)
      have d3 := hcj 3 (by omega)
      have d4 := hcj 4 (by omega)
      have d5 := hcj 5 (by omega)
      have d6 := hcj 6 (by omega)
      have d7 := hcj 7 (by omega)
      have d8 := hcj 8 (by omega)
      have d9 := hcj 9 (by omega)
      have d10 := hcj 10 (by omega)
      have d11 := hcj 11 (by omega)
      simp only [cmdCells, List.getElem?_toArray, List.getElem?_cons_succ, List.getElem?_cons_zero] at d0 d1 d2 d3 d4 d5 d6 d7 d8 d9 d10 d11
      clear hcj
      go_wp2_with fail
      refine (apply_no _ a _ HST.out).mono ?_
      rintro e w1 ⟨rfl, hu1⟩
      have HST1 := Lib.hid (HST.out.old hu1)
      have HU1 := Lib.hid (HU.out.trans hu1); clear hu1 d0 d1 d2 d3 d4 d5 d6 d7 d8 d9 d10 d11
      have hob : (w1.alloc (.cells out0 41)).heap[w1.heap.size]? = some (.cells out0 41 (0, 0)) := (MapKept.heap_alloc _ _).1
      have HOB := Lib.hid hob; clear hob
      unfold out0
      go_wp2_with fail
      refine (blob_no _ _ _ (HST1.out.old ((Upd.refl _ _).alloc _))).mono ?_
      rintro e w2 ⟨rfl, hu2⟩
      have hu12 := ((Upd.refl (fun _ => False) w1).alloc (.cells out0 41)).trans hu2
      have HOB2 := Lib.hid ((hu2.block _ (Array.getElem?_eq_some_iff.1 HOB.out).1 (fun h => h)).trans HOB.out)
      have HST2 := Lib.hid (HST1.out.old hu12)
      have HU2 := Lib.hid (HU1.out.trans hu12); clear hu12 hu2
      unfold blob0
      go_wp2_with fail
      refine (find_no _ _ _ (HST2.out.old ((Upd.refl _ _).alloc _))).mono ?_
      rintro e w3 ⟨rfl, hu3⟩
      have hu23 : Upd (fun _ => False) w2 w3 := ((Upd.refl (fun _ => False) w2).alloc _).trans hu3
      have HOB3 := Lib.hid ((hu23.block _ (Array.getElem?_eq_some_iff.1 HOB2.out).1 (fun h => h)).trans HOB2.out)
      have HST3 := Lib.hid (HST2.out.old hu23)
      have HU3 := Lib.hid (HU2.out.trans hu23); clear hu23 hu3
      unfold blob0
      obtain ⟨o0, o1, o2, o3, o4, o5, o6, o7⟩ := out_cells HOB3.out
      have hl3 := (Array.getElem?_eq_some_iff.1 HOB3.out).1
      go_wp2_with fail
      have HST4 := Lib.hid (HST3.out.old ((Upd.refl _ _).alloc (.cells #[.int .i64 0, .int .i64 0, .int .u32 0, .int .i64 0, .int .i64 0, .slice none 0 0] 39)))
      have HU4 := Lib.hid (HU3.out.alloc (.cells #[.int .i64 0, .int .i64 0, .int .u32 0, .int .i64 0, .int .i64 0, .slice none 0 0] 39))
      refine (sameOut_zero _).mono ?_
      rintro e w5 ⟨rfl, hu5⟩
      have HST5 := Lib.hid (HST4.out.old hu5)
      have HU5 := Lib.hid (HU4.out.trans hu5); clear hu5 o0 o1 o2 o3 o4 o5 o6 o7
      go_wp2_with (first
        | (go_at_call 8; refine (epoch_no _ _ HST5.out).mono ?_; rintro e w' ⟨rfl, rfl⟩)
        | (go_at_call 9; refine (slot_no _ _ HST5.out).mono ?_; rintro e w' ⟨rfl, rfl⟩)
        | (go_at_call 10; refine (voters_no _ _ _ HST5.out).mono ?_; rintro e w' ⟨rfl, rfl⟩)
        | (go_at_call 11; refine (members_no _ _ HST5.out).mono ?_; rintro e w' ⟨rfl, rfl⟩)
        | (go_at_call 12; refine (keys_no _ _ HST5.out).mono ?_; rintro e w' ⟨rfl, rfl⟩)
        | (go_at_call 13; refine (moves_no _ _ HST5.out).mono ?_; rintro e w' ⟨rfl, rfl⟩)
        | (go_at_call 14; refine (recodes_no _ _ HST5.out).mono ?_; rintro e w' ⟨rfl, rfl⟩))
      refine (mine_no _ _ _ HST5.out).mono ?_
      rintro e w6 ⟨rfl, hu6⟩
      have HST6 := Lib.hid (HST5.out.old hu6)
      have HU6 := Lib.hid (HU5.out.trans hu6); clear hu6
      go_wp2_with (go_at_call 16; refine (failed_no _ _ _ HST6.out).mono ?_; rintro e w' ⟨rfl, rfl⟩)
      refine (copy_no _ _ HST6.out).mono ?_
      rintro e w7 ⟨rfl, hu7⟩
      have HST7 := Lib.hid (HST6.out.old hu7)
      have HU7 := Lib.hid (HU6.out.trans hu7); clear hu7
      go_wp2_with (go_at_call 18; refine (same_no _ _ _ HST7.out).mono ?_; rintro e w' ⟨rfl, rfl⟩)
      refine (code_no _ _ HST7.out).mono ?_
      rintro e w8 ⟨rfl, hu8⟩
      have HU8 := Lib.hid (HU7.out.trans hu8); clear hu8
      go_wp2_with fail
      go_roundw
      case rel => exact ⟨k + 1, hlt, by go_num, HU8.out⟩
      case measure => simp [intOf]; omega
    · have HUA := Lib.hid (HU0.out.trans hu); clear hu
      go_wp2_with fail
      refine (new_one _).mono ?_
      rintro e w1 ⟨b, m1, m2, m3, m4, m5, q, rfl, hs, hi, hq, hu1⟩
      have HF := Lib.hid (FullAt.mk hs hi hq); clear hs hi hq
      have HU1 := Lib.hid (HUA.out.trans hu1); clear hu1
      go_wp2_with fail
      refine (same_self _ b m1 m2 m3 m4 m5 q HF.out).mono ?_
      rintro e w2 ⟨rfl, hu2⟩
      have HU2 := Lib.hid (HU1.out.trans hu2); clear hu2
      go_wp2_with fail
      go_ret
      exact ⟨rfl, HU2.out⟩
end Go.Proofs.YtmpjbolopgccpaaGreat
