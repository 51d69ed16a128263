/-
  EpochNobody: Same of a state and itself: the walk of its great region.
-/
import Derived.Test.YtmpjbolopgccpaaGreatEpSameOps
set_option linter.unusedVariables false
namespace Go.Proofs.YtmpjbolopgccpaaGreat
set_option linter.unusedVariables false
set_option linter.unusedSimpArgs false
open Go Go.RowKit Go.MapKept Go.ChangeMaps
theorem none_ok (w : World) (b : Nat) (h : w.cell? ⟨b, 0, none⟩ = some (.int .i64 1)) : Calls Tryz.prog 21 #[.pointer (some ⟨b, 0, none⟩)] w (Same w (.bool false)) := by
  go_enter Tryz.func21, Tryz.ntmps21
  go_wp2
  go_ret
  exact ⟨rfl, rfl⟩
theorem QuAt.old {w w' : World} {q : Value} (h : QuAt w q) (u : Upd (fun _ => False) w w') : QuAt w' q := by
  obtain ⟨qb, nv, e, h0, h1, hn⟩ := h
  have hb := World.block_lt_of_cell? _ _ h0
  exact ⟨qb, nv, e, (u.cell (p := ⟨qb, 0, none⟩) hb (fun h => h)).trans h0, (u.cell (p := ⟨qb, 1, none⟩) hb (fun h => h)).trans h1, hn.old u⟩
/-- A state with all that Same asks. -/
structure FullAt (w : World) (b m1 m2 m3 m4 m5 : Nat) (q : Value) : Prop where
  st : StAt w b m1 m2 m3 m4 m5 q
  i1 : w.im m1 = some [(0, .bool true)]
  qu : QuAt w q
theorem FullAt.old {w w' : World} {b m1 m2 m3 m4 m5 : Nat} {q : Value} (h : FullAt w b m1 m2 m3 m4 m5 q) (u : Upd (fun _ => False) w w') : FullAt w' b m1 m2 m3 m4 m5 q :=
  ⟨h.st.old u, (u.im (im_lt (w := w) (by rw [h.i1]; rfl)) (fun h => h)).trans h.i1, h.qu.old u⟩
theorem same_upd {w w' : World} (h : w = w') : Upd (fun _ => False) w w' := h ▸ Upd.refl _ _
theorem same_map (w : World) (b m1 m2 m3 m4 m5 : Nat) (q : Value) (h : FullAt w b m1 m2 m3 m4 m5 q) (m : Nat) (hm : m = m1 ∨ m = m2 ∨ m = m5) : Calls Tryz.prog 46 #[.map (some m), .map (some m)] w (BoolPost w true) := by
  rcases hm with rfl | rfl | rfl
  · exact mapEqual _ _ _ h.i1 (fun p hp => by simp at hp; subst hp; exact ⟨rfl, rfl⟩)
  · exact mapEqual _ _ _ h.st.i2 (fun p hp => by cases hp)
  · exact mapEqual _ _ _ h.st.i5 (fun p hp => by cases hp)
def SS (b m1 m2 m3 m4 m5 qb : Nat) (w : World) : Prop := w.cell? ⟨b, 0, none⟩ = some (.int .i64 1) ∧ w.cell? ⟨b, 1, none⟩ = some (.int .i64 1) ∧ w.cell? ⟨b, 2, none⟩ = some (.int .i64 1) ∧ w.cell? ⟨b, 3, none⟩ = some (.map (some m1)) ∧ w.cell? ⟨b, 4, none⟩ = some (.map (some m2)) ∧ w.cell? ⟨b, 5, none⟩ = some (.slice (some ⟨qb, 0, none⟩) 1 1) ∧ w.cell? ⟨b, 6, none⟩ = some (.int .i64 1) ∧ w.cell? ⟨b, 7, none⟩ = some (.int .i64 0) ∧
      w.cell? ⟨b, 8, none⟩ = some (.map (some m3)) ∧ w.cell? ⟨b, 9, none⟩ = some (.map (some m4)) ∧ w.cell? ⟨b, 10, none⟩ = some (.slice none 0 0) ∧ w.cell? ⟨b, 11, none⟩ = some (.slice none 0 0) ∧ w.cell? ⟨b, 12, none⟩ = some (.map (some m5))
theorem cells_of {w : World} {b m1 m2 m3 m4 m5 qb : Nat} (h : StAt w b m1 m2 m3 m4 m5 (.slice (some ⟨qb, 0, none⟩) 1 1)) : SS b m1 m2 m3 m4 m5 qb w :=
  ⟨h.c0, h.c1, h.c2, h.c3, h.c4, h.c5, h.c6, h.c7, h.c8, h.c9, h.c10, h.c11, h.c12⟩
theorem eval_func (a : Act) (f : Nat) : a.eval (Operand.func f) = Value.func (.func f) #[] #[] := rfl
set_option maxRecDepth 100000 in
set_option maxHeartbeats 40000000 in
theorem same_walk (w : World) (b m1 m2 m3 m4 m5 qb : Nat) (H : FullAt w.drew b m1 m2 m3 m4 m5 (.slice (some ⟨qb, 0, none⟩) 1 1)) (Q : Exit → Act → World → Prop) (a : Act) (f0 : a.tmps[0]? = some (.pointer (some ⟨b, 0, none⟩))) (f1 : a.tmps[1]? = some (.pointer (some ⟨b, 0, none⟩))) (sz : a.tmps.size = 141) (df : a.defers = [])
    (hend : ∀ (a' : Act) (w' : World), a'.tmps[4]? = some (.bool true) → a'.defers = [] → Upd (fun _ => False) w.drew w' → Q .normal a' w') : wpSched Tryz.prog opsS Q (SS b m1 m2 m3 m4 m5 qb) 0 schedS a w.drew := by
  have HD := Lib.hid H; clear H
  unfold schedS
  refine sched_take oS_0 (.pointer (some ⟨b, 0, none⟩)) guard_none (by rw [sz]; decide) (cells_of HD.out.st) (fun o ho w hs => ?_) ?_
  · obtain ⟨s0, s1, s2, s3, s4, s5, s6, s7, s8, s9, s10, s11, s12⟩ := hs;  simp [execOp, ho, f0, go_sem, s0, s1, s2, s3, s4, s5, s6, s7, s8, s9, s10, s11, s12]
  intro a1 n0; have sz0 := n0.size.trans sz; have fd0 := n0.here; have f0_0 := (n0.keep 0 (by decide)).trans f0; have f1_0 := (n0.keep 1 (by decide)).trans f1; have df0 := n0.defers.trans df
  refine sched_take oS_1 (.pointer (some ⟨b, 0, none⟩)) guard_none (by rw [sz0]; decide) (cells_of HD.out.st) (fun o ho w hs => ?_) ?_
  · obtain ⟨s0, s1, s2, s3, s4, s5, s6, s7, s8, s9, s10, s11, s12⟩ := hs;  simp [execOp, ho, fd0, go_sem, s0, s1, s2, s3, s4, s5, s6, s7, s8, s9, s10, s11, s12]
  intro a2 n1; have sz1 := n1.size.trans sz0; have fd1 := n1.here; have f0_1 := (n1.keep 0 (by decide)).trans f0_0; have f1_1 := (n1.keep 1 (by decide)).trans f1_0; have df1 := n1.defers.trans df0; clear f0_0 f1_0 fd0 sz0 n1 df0
  refine sched_take oS_2 (.pointer (some ⟨b, 0, none⟩)) guard_none (by rw [sz1]; decide) (cells_of HD.out.st) (fun o ho w hs => ?_) ?_
  · obtain ⟨s0, s1, s2, s3, s4, s5, s6, s7, s8, s9, s10, s11, s12⟩ := hs;  simp [execOp, ho, fd1, go_sem, s0, s1, s2, s3, s4, s5, s6, s7, s8, s9, s10, s11, s12]
  intro a3 n2; have sz2 := n2.size.trans sz1; have fd2 := n2.here; have f0_2 := (n2.keep 0 (by decide)).trans f0_1; have f1_2 := (n2.keep 1 (by decide)).trans f1_1; have df2 := n2.defers.trans df1; clear f0_1 f1_1 fd1 sz1 n2 df1
  refine sched_take oS_3 (.int .i64 1) guard_none (by rw [sz2]; decide) (cells_of HD.out.st) (fun o ho w hs => ?_) ?_
  · obtain ⟨s0, s1, s2, s3, s4, s5, s6, s7, s8, s9, s10, s11, s12⟩ := hs;  simp [execOp, ho, fd2, go_sem, s0, s1, s2, s3, s4, s5, s6, s7, s8, s9, s10, s11, s12]
  intro a4 n3; have sz3 := n3.size.trans sz2; have fd3 := n3.here; have f0_3 := (n3.keep 0 (by decide)).trans f0_2; have f1_3 := (n3.keep 1 (by decide)).trans f1_2; have df3 := n3.defers.trans df2; clear f0_2 f1_2 fd2 sz2 n3 df2
  refine sched_take oS_4 (.pointer (some ⟨b, 0, none⟩)) guard_none (by rw [sz3]; decide) (cells_of HD.out.st) (fun o ho w hs => ?_) ?_
  · obtain ⟨s0, s1, s2, s3, s4, s5, s6, s7, s8, s9, s10, s11, s12⟩ := hs;  simp [execOp, ho, f1_3, go_sem, s0, s1, s2, s3, s4, s5, s6, s7, s8, s9, s10, s11, s12]
  intro a5 n4; have sz4 := n4.size.trans sz3; have fd4 := n4.here; have f0_4 := (n4.keep 0 (by decide)).trans f0_3; have f1_4 := (n4.keep 1 (by decide)).trans f1_3; have f14_4 := (n4.keep 14 (by decide)).trans fd3; have df4 := n4.defers.trans df3; clear f0_3 f1_3 fd3 sz3 n4 df3
  refine sched_take oS_5 (.pointer (some ⟨b, 0, none⟩)) guard_none (by rw [sz4]; decide) (cells_of HD.out.st) (fun o ho w hs => ?_) ?_
  · obtain ⟨s0, s1, s2, s3, s4, s5, s6, s7, s8, s9, s10, s11, s12⟩ := hs;  simp [execOp, ho, fd4, go_sem, s0, s1, s2, s3, s4, s5, s6, s7, s8, s9, s10, s11, s12]
  intro a6 n5; have sz5 := n5.size.trans sz4; have fd5 := n5.here; have f0_5 := (n5.keep 0 (by decide)).trans f0_4; have f1_5 := (n5.keep 1 (by decide)).trans f1_4; have f14_5 := (n5.keep 14 (by decide)).trans f14_4; have df5 := n5.defers.trans df4; clear f0_4 f1_4 f14_4 fd4 sz4 n5 df4
  refine sched_take oS_6 (.pointer (some ⟨b, 0, none⟩)) guard_none (by rw [sz5]; decide) (cells_of HD.out.st) (fun o ho w hs => ?_) ?_
  · obtain ⟨s0, s1, s2, s3, s4, s5, s6, s7, s8, s9, s10, s11, s12⟩ := hs;  simp [execOp, ho, fd5, go_sem, s0, s1, s2, s3, s4, s5, s6, s7, s8, s9, s10, s11, s12]
  intro a7 n6; have sz6 := n6.size.trans sz5; have fd6 := n6.here; have f0_6 := (n6.keep 0 (by decide)).trans f0_5; have f1_6 := (n6.keep 1 (by decide)).trans f1_5; have f14_6 := (n6.keep 14 (by decide)).trans f14_5; have df6 := n6.defers.trans df5; clear f0_5 f1_5 f14_5 fd5 sz5 n6 df5
  refine sched_take oS_7 (.int .i64 1) guard_none (by rw [sz6]; decide) (cells_of HD.out.st) (fun o ho w hs => ?_) ?_
  · obtain ⟨s0, s1, s2, s3, s4, s5, s6, s7, s8, s9, s10, s11, s12⟩ := hs;  simp [execOp, ho, fd6, go_sem, s0, s1, s2, s3, s4, s5, s6, s7, s8, s9, s10, s11, s12]
  intro a8 n7; have sz7 := n7.size.trans sz6; have fd7 := n7.here; have f0_7 := (n7.keep 0 (by decide)).trans f0_6; have f1_7 := (n7.keep 1 (by decide)).trans f1_6; have f14_7 := (n7.keep 14 (by decide)).trans f14_6; have df7 := n7.defers.trans df6; clear f0_6 f1_6 f14_6 fd6 sz6 n7 df6
  refine sched_take oS_8 (.bool true) guard_none (by rw [sz7]; decide) (cells_of HD.out.st) (fun o ho w hs => ?_) ?_
  · obtain ⟨s0, s1, s2, s3, s4, s5, s6, s7, s8, s9, s10, s11, s12⟩ := hs;  simp [execOp, ho, f14_7, fd7, go_sem, s0, s1, s2, s3, s4, s5, s6, s7, s8, s9, s10, s11, s12]
  intro a9 n8; have sz8 := n8.size.trans sz7; have fd8 := n8.here; have f0_8 := (n8.keep 0 (by decide)).trans f0_7; have f1_8 := (n8.keep 1 (by decide)).trans f1_7; have df8 := n8.defers.trans df7; clear f0_7 f1_7 f14_7 fd7 sz7 n8 df7
  refine sched_take oS_9 (.bool true) guard_none (by rw [sz8]; decide) (cells_of HD.out.st) (fun o ho w hs => ?_) ?_
  · obtain ⟨s0, s1, s2, s3, s4, s5, s6, s7, s8, s9, s10, s11, s12⟩ := hs;  simp [execOp, ho, fd8, go_sem, s0, s1, s2, s3, s4, s5, s6, s7, s8, s9, s10, s11, s12]
  intro a10 n9; have sz9 := n9.size.trans sz8; have fd9 := n9.here; have f0_9 := (n9.keep 0 (by decide)).trans f0_8; have f1_9 := (n9.keep 1 (by decide)).trans f1_8; have df9 := n9.defers.trans df8; clear f0_8 f1_8 fd8 sz8 n9 df8
  refine sched_take oS_10 (.pointer (some ⟨b, 0, none⟩)) (guard_of oS_9 fd9) (by rw [sz9]; decide) (cells_of HD.out.st) (fun o ho w hs => ?_) ?_
  · obtain ⟨s0, s1, s2, s3, s4, s5, s6, s7, s8, s9, s10, s11, s12⟩ := hs;  simp [execOp, ho, f0_9, go_sem, s0, s1, s2, s3, s4, s5, s6, s7, s8, s9, s10, s11, s12]
  intro a11 n10; have sz10 := n10.size.trans sz9; have fd10 := n10.here; have f0_10 := (n10.keep 0 (by decide)).trans f0_9; have f1_10 := (n10.keep 1 (by decide)).trans f1_9; have f20_10 := (n10.keep 20 (by decide)).trans fd9; have df10 := n10.defers.trans df9; clear f0_9 f1_9 fd9 sz9 n10 df9
  refine sched_take oS_11 (.pointer (some ⟨b, 0, none⟩)) (guard_of oS_9 f20_10) (by rw [sz10]; decide) (cells_of HD.out.st) (fun o ho w hs => ?_) ?_
  · obtain ⟨s0, s1, s2, s3, s4, s5, s6, s7, s8, s9, s10, s11, s12⟩ := hs;  simp [execOp, ho, fd10, go_sem, s0, s1, s2, s3, s4, s5, s6, s7, s8, s9, s10, s11, s12]
  intro a12 n11; have sz11 := n11.size.trans sz10; have fd11 := n11.here; have f0_11 := (n11.keep 0 (by decide)).trans f0_10; have f1_11 := (n11.keep 1 (by decide)).trans f1_10; have f20_11 := (n11.keep 20 (by decide)).trans f20_10; have df11 := n11.defers.trans df10; clear f0_10 f1_10 f20_10 fd10 sz10 n11 df10
  refine sched_take oS_12 (.pointer (some ⟨b, 1, none⟩)) (guard_of oS_9 f20_11) (by rw [sz11]; decide) (cells_of HD.out.st) (fun o ho w hs => ?_) ?_
  · obtain ⟨s0, s1, s2, s3, s4, s5, s6, s7, s8, s9, s10, s11, s12⟩ := hs;  simp [execOp, ho, fd11, go_sem, s0, s1, s2, s3, s4, s5, s6, s7, s8, s9, s10, s11, s12]
  intro a13 n12; have sz12 := n12.size.trans sz11; have fd12 := n12.here; have f0_12 := (n12.keep 0 (by decide)).trans f0_11; have f1_12 := (n12.keep 1 (by decide)).trans f1_11; have f20_12 := (n12.keep 20 (by decide)).trans f20_11; have df12 := n12.defers.trans df11; clear f0_11 f1_11 f20_11 fd11 sz11 n12 df11
  refine sched_take oS_13 (.int .i64 1) (guard_of oS_9 f20_12) (by rw [sz12]; decide) (cells_of HD.out.st) (fun o ho w hs => ?_) ?_
  · obtain ⟨s0, s1, s2, s3, s4, s5, s6, s7, s8, s9, s10, s11, s12⟩ := hs;  simp [execOp, ho, fd12, go_sem, s0, s1, s2, s3, s4, s5, s6, s7, s8, s9, s10, s11, s12]
  intro a14 n13; have sz13 := n13.size.trans sz12; have fd13 := n13.here; have f0_13 := (n13.keep 0 (by decide)).trans f0_12; have f1_13 := (n13.keep 1 (by decide)).trans f1_12; have f20_13 := (n13.keep 20 (by decide)).trans f20_12; have df13 := n13.defers.trans df12; clear f0_12 f1_12 f20_12 fd12 sz12 n13 df12
  refine sched_take oS_14 (.pointer (some ⟨b, 0, none⟩)) (guard_of oS_9 f20_13) (by rw [sz13]; decide) (cells_of HD.out.st) (fun o ho w hs => ?_) ?_
  · obtain ⟨s0, s1, s2, s3, s4, s5, s6, s7, s8, s9, s10, s11, s12⟩ := hs;  simp [execOp, ho, f1_13, go_sem, s0, s1, s2, s3, s4, s5, s6, s7, s8, s9, s10, s11, s12]
  intro a15 n14; have sz14 := n14.size.trans sz13; have fd14 := n14.here; have f0_14 := (n14.keep 0 (by decide)).trans f0_13; have f1_14 := (n14.keep 1 (by decide)).trans f1_13; have f20_14 := (n14.keep 20 (by decide)).trans f20_13; have f24_14 := (n14.keep 24 (by decide)).trans fd13; have df14 := n14.defers.trans df13; clear f0_13 f1_13 f20_13 fd13 sz13 n14 df13
  refine sched_take oS_15 (.pointer (some ⟨b, 0, none⟩)) (guard_of oS_9 f20_14) (by rw [sz14]; decide) (cells_of HD.out.st) (fun o ho w hs => ?_) ?_
  · obtain ⟨s0, s1, s2, s3, s4, s5, s6, s7, s8, s9, s10, s11, s12⟩ := hs;  simp [execOp, ho, fd14, go_sem, s0, s1, s2, s3, s4, s5, s6, s7, s8, s9, s10, s11, s12]
  intro a16 n15; have sz15 := n15.size.trans sz14; have fd15 := n15.here; have f0_15 := (n15.keep 0 (by decide)).trans f0_14; have f1_15 := (n15.keep 1 (by decide)).trans f1_14; have f20_15 := (n15.keep 20 (by decide)).trans f20_14; have f24_15 := (n15.keep 24 (by decide)).trans f24_14; have df15 := n15.defers.trans df14; clear f0_14 f1_14 f20_14 f24_14 fd14 sz14 n15 df14
  refine sched_take oS_16 (.pointer (some ⟨b, 1, none⟩)) (guard_of oS_9 f20_15) (by rw [sz15]; decide) (cells_of HD.out.st) (fun o ho w hs => ?_) ?_
  · obtain ⟨s0, s1, s2, s3, s4, s5, s6, s7, s8, s9, s10, s11, s12⟩ := hs;  simp [execOp, ho, fd15, go_sem, s0, s1, s2, s3, s4, s5, s6, s7, s8, s9, s10, s11, s12]
  intro a17 n16; have sz16 := n16.size.trans sz15; have fd16 := n16.here; have f0_16 := (n16.keep 0 (by decide)).trans f0_15; have f1_16 := (n16.keep 1 (by decide)).trans f1_15; have f20_16 := (n16.keep 20 (by decide)).trans f20_15; have f24_16 := (n16.keep 24 (by decide)).trans f24_15; have df16 := n16.defers.trans df15; clear f0_15 f1_15 f20_15 f24_15 fd15 sz15 n16 df15
  refine sched_take oS_17 (.int .i64 1) (guard_of oS_9 f20_16) (by rw [sz16]; decide) (cells_of HD.out.st) (fun o ho w hs => ?_) ?_
  · obtain ⟨s0, s1, s2, s3, s4, s5, s6, s7, s8, s9, s10, s11, s12⟩ := hs;  simp [execOp, ho, fd16, go_sem, s0, s1, s2, s3, s4, s5, s6, s7, s8, s9, s10, s11, s12]
  intro a18 n17; have sz17 := n17.size.trans sz16; have fd17 := n17.here; have f0_17 := (n17.keep 0 (by decide)).trans f0_16; have f1_17 := (n17.keep 1 (by decide)).trans f1_16; have f20_17 := (n17.keep 20 (by decide)).trans f20_16; have f24_17 := (n17.keep 24 (by decide)).trans f24_16; have df17 := n17.defers.trans df16; clear f0_16 f1_16 f20_16 f24_16 fd16 sz16 n17 df16
  refine sched_take oS_18 (.bool true) (guard_of oS_9 f20_17) (by rw [sz17]; decide) (cells_of HD.out.st) (fun o ho w hs => ?_) ?_
  · obtain ⟨s0, s1, s2, s3, s4, s5, s6, s7, s8, s9, s10, s11, s12⟩ := hs;  simp [execOp, ho, f24_17, fd17, go_sem, s0, s1, s2, s3, s4, s5, s6, s7, s8, s9, s10, s11, s12]
  intro a19 n18; have sz18 := n18.size.trans sz17; have fd18 := n18.here; have f0_18 := (n18.keep 0 (by decide)).trans f0_17; have f1_18 := (n18.keep 1 (by decide)).trans f1_17; have f20_18 := (n18.keep 20 (by decide)).trans f20_17; have df18 := n18.defers.trans df17; clear f0_17 f1_17 f20_17 f24_17 fd17 sz17 n18 df17
  refine sched_take oS_19 (.bool true) guard_none (by rw [sz18]; decide) (cells_of HD.out.st) (fun o ho w hs => ?_) ?_
  · obtain ⟨s0, s1, s2, s3, s4, s5, s6, s7, s8, s9, s10, s11, s12⟩ := hs;  simp [execOp, ho, f20_18, fd18, go_sem, s0, s1, s2, s3, s4, s5, s6, s7, s8, s9, s10, s11, s12]
  intro a20 n19; have sz19 := n19.size.trans sz18; have fd19 := n19.here; have f0_19 := (n19.keep 0 (by decide)).trans f0_18; have f1_19 := (n19.keep 1 (by decide)).trans f1_18; have df19 := n19.defers.trans df18; clear f0_18 f1_18 f20_18 fd18 sz18 n19 df18
  refine sched_take oS_20 (.bool true) guard_none (by rw [sz19]; decide) (cells_of HD.out.st) (fun o ho w hs => ?_) ?_
  · obtain ⟨s0, s1, s2, s3, s4, s5, s6, s7, s8, s9, s10, s11, s12⟩ := hs;  simp [execOp, ho, fd19, go_sem, s0, s1, s2, s3, s4, s5, s6, s7, s8, s9, s10, s11, s12]
  intro a21 n20; have sz20 := n20.size.trans sz19; have fd20 := n20.here; have f0_20 := (n20.keep 0 (by decide)).trans f0_19; have f1_20 := (n20.keep 1 (by decide)).trans f1_19; have df20 := n20.defers.trans df19; clear f0_19 f1_19 fd19 sz19 n20 df19
  refine sched_take oS_21 (.pointer (some ⟨b, 0, none⟩)) (guard_of oS_20 fd20) (by rw [sz20]; decide) (cells_of HD.out.st) (fun o ho w hs => ?_) ?_
  · obtain ⟨s0, s1, s2, s3, s4, s5, s6, s7, s8, s9, s10, s11, s12⟩ := hs;  simp [execOp, ho, f0_20, go_sem, s0, s1, s2, s3, s4, s5, s6, s7, s8, s9, s10, s11, s12]
  intro a22 n21; have sz21 := n21.size.trans sz20; have fd21 := n21.here; have f0_21 := (n21.keep 0 (by decide)).trans f0_20; have f1_21 := (n21.keep 1 (by decide)).trans f1_20; have f31_21 := (n21.keep 31 (by decide)).trans fd20; have df21 := n21.defers.trans df20; clear f0_20 f1_20 fd20 sz20 n21 df20
  refine sched_take oS_22 (.pointer (some ⟨b, 0, none⟩)) (guard_of oS_20 f31_21) (by rw [sz21]; decide) (cells_of HD.out.st) (fun o ho w hs => ?_) ?_
  · obtain ⟨s0, s1, s2, s3, s4, s5, s6, s7, s8, s9, s10, s11, s12⟩ := hs;  simp [execOp, ho, fd21, go_sem, s0, s1, s2, s3, s4, s5, s6, s7, s8, s9, s10, s11, s12]
  intro a23 n22; have sz22 := n22.size.trans sz21; have fd22 := n22.here; have f0_22 := (n22.keep 0 (by decide)).trans f0_21; have f1_22 := (n22.keep 1 (by decide)).trans f1_21; have f31_22 := (n22.keep 31 (by decide)).trans f31_21; have df22 := n22.defers.trans df21; clear f0_21 f1_21 f31_21 fd21 sz21 n22 df21
  refine sched_take oS_23 (.pointer (some ⟨b, 2, none⟩)) (guard_of oS_20 f31_22) (by rw [sz22]; decide) (cells_of HD.out.st) (fun o ho w hs => ?_) ?_
  · obtain ⟨s0, s1, s2, s3, s4, s5, s6, s7, s8, s9, s10, s11, s12⟩ := hs;  simp [execOp, ho, fd22, go_sem, s0, s1, s2, s3, s4, s5, s6, s7, s8, s9, s10, s11, s12]
  intro a24 n23; have sz23 := n23.size.trans sz22; have fd23 := n23.here; have f0_23 := (n23.keep 0 (by decide)).trans f0_22; have f1_23 := (n23.keep 1 (by decide)).trans f1_22; have f31_23 := (n23.keep 31 (by decide)).trans f31_22; have df23 := n23.defers.trans df22; clear f0_22 f1_22 f31_22 fd22 sz22 n23 df22
  refine sched_take oS_24 (.int .i64 1) (guard_of oS_20 f31_23) (by rw [sz23]; decide) (cells_of HD.out.st) (fun o ho w hs => ?_) ?_
  · obtain ⟨s0, s1, s2, s3, s4, s5, s6, s7, s8, s9, s10, s11, s12⟩ := hs;  simp [execOp, ho, fd23, go_sem, s0, s1, s2, s3, s4, s5, s6, s7, s8, s9, s10, s11, s12]
  intro a25 n24; have sz24 := n24.size.trans sz23; have fd24 := n24.here; have f0_24 := (n24.keep 0 (by decide)).trans f0_23; have f1_24 := (n24.keep 1 (by decide)).trans f1_23; have f31_24 := (n24.keep 31 (by decide)).trans f31_23; have df24 := n24.defers.trans df23; clear f0_23 f1_23 f31_23 fd23 sz23 n24 df23
  refine sched_take oS_25 (.pointer (some ⟨b, 0, none⟩)) (guard_of oS_20 f31_24) (by rw [sz24]; decide) (cells_of HD.out.st) (fun o ho w hs => ?_) ?_
  · obtain ⟨s0, s1, s2, s3, s4, s5, s6, s7, s8, s9, s10, s11, s12⟩ := hs;  simp [execOp, ho, f1_24, go_sem, s0, s1, s2, s3, s4, s5, s6, s7, s8, s9, s10, s11, s12]
  intro a26 n25; have sz25 := n25.size.trans sz24; have fd25 := n25.here; have f0_25 := (n25.keep 0 (by decide)).trans f0_24; have f1_25 := (n25.keep 1 (by decide)).trans f1_24; have f31_25 := (n25.keep 31 (by decide)).trans f31_24; have f35_25 := (n25.keep 35 (by decide)).trans fd24; have df25 := n25.defers.trans df24; clear f0_24 f1_24 f31_24 fd24 sz24 n25 df24
  refine sched_take oS_26 (.pointer (some ⟨b, 0, none⟩)) (guard_of oS_20 f31_25) (by rw [sz25]; decide) (cells_of HD.out.st) (fun o ho w hs => ?_) ?_
  · obtain ⟨s0, s1, s2, s3, s4, s5, s6, s7, s8, s9, s10, s11, s12⟩ := hs;  simp [execOp, ho, fd25, go_sem, s0, s1, s2, s3, s4, s5, s6, s7, s8, s9, s10, s11, s12]
  intro a27 n26; have sz26 := n26.size.trans sz25; have fd26 := n26.here; have f0_26 := (n26.keep 0 (by decide)).trans f0_25; have f1_26 := (n26.keep 1 (by decide)).trans f1_25; have f31_26 := (n26.keep 31 (by decide)).trans f31_25; have f35_26 := (n26.keep 35 (by decide)).trans f35_25; have df26 := n26.defers.trans df25; clear f0_25 f1_25 f31_25 f35_25 fd25 sz25 n26 df25
  refine sched_take oS_27 (.pointer (some ⟨b, 2, none⟩)) (guard_of oS_20 f31_26) (by rw [sz26]; decide) (cells_of HD.out.st) (fun o ho w hs => ?_) ?_
  · obtain ⟨s0, s1, s2, s3, s4, s5, s6, s7, s8, s9, s10, s11, s12⟩ := hs;  simp [execOp, ho, fd26, go_sem, s0, s1, s2, s3, s4, s5, s6, s7, s8, s9, s10, s11, s12]
  intro a28 n27; have sz27 := n27.size.trans sz26; have fd27 := n27.here; have f0_27 := (n27.keep 0 (by decide)).trans f0_26; have f1_27 := (n27.keep 1 (by decide)).trans f1_26; have f31_27 := (n27.keep 31 (by decide)).trans f31_26; have f35_27 := (n27.keep 35 (by decide)).trans f35_26; have df27 := n27.defers.trans df26; clear f0_26 f1_26 f31_26 f35_26 fd26 sz26 n27 df26
  refine sched_take oS_28 (.int .i64 1) (guard_of oS_20 f31_27) (by rw [sz27]; decide) (cells_of HD.out.st) (fun o ho w hs => ?_) ?_
  · obtain ⟨s0, s1, s2, s3, s4, s5, s6, s7, s8, s9, s10, s11, s12⟩ := hs;  simp [execOp, ho, fd27, go_sem, s0, s1, s2, s3, s4, s5, s6, s7, s8, s9, s10, s11, s12]
  intro a29 n28; have sz28 := n28.size.trans sz27; have fd28 := n28.here; have f0_28 := (n28.keep 0 (by decide)).trans f0_27; have f1_28 := (n28.keep 1 (by decide)).trans f1_27; have f31_28 := (n28.keep 31 (by decide)).trans f31_27; have f35_28 := (n28.keep 35 (by decide)).trans f35_27; have df28 := n28.defers.trans df27; clear f0_27 f1_27 f31_27 f35_27 fd27 sz27 n28 df27
  refine sched_take oS_29 (.bool true) (guard_of oS_20 f31_28) (by rw [sz28]; decide) (cells_of HD.out.st) (fun o ho w hs => ?_) ?_
  · obtain ⟨s0, s1, s2, s3, s4, s5, s6, s7, s8, s9, s10, s11, s12⟩ := hs;  simp [execOp, ho, f35_28, fd28, go_sem, s0, s1, s2, s3, s4, s5, s6, s7, s8, s9, s10, s11, s12]
  intro a30 n29; have sz29 := n29.size.trans sz28; have fd29 := n29.here; have f0_29 := (n29.keep 0 (by decide)).trans f0_28; have f1_29 := (n29.keep 1 (by decide)).trans f1_28; have f31_29 := (n29.keep 31 (by decide)).trans f31_28; have df29 := n29.defers.trans df28; clear f0_28 f1_28 f31_28 f35_28 fd28 sz28 n29 df28
  refine sched_take oS_30 (.bool true) guard_none (by rw [sz29]; decide) (cells_of HD.out.st) (fun o ho w hs => ?_) ?_
  · obtain ⟨s0, s1, s2, s3, s4, s5, s6, s7, s8, s9, s10, s11, s12⟩ := hs;  simp [execOp, ho, f31_29, fd29, go_sem, s0, s1, s2, s3, s4, s5, s6, s7, s8, s9, s10, s11, s12]
  intro a31 n30; have sz30 := n30.size.trans sz29; have fd30 := n30.here; have f0_30 := (n30.keep 0 (by decide)).trans f0_29; have f1_30 := (n30.keep 1 (by decide)).trans f1_29; have df30 := n30.defers.trans df29; clear f0_29 f1_29 f31_29 fd29 sz29 n30 df29
  refine sched_take oS_31 (.bool true) guard_none (by rw [sz30]; decide) (cells_of HD.out.st) (fun o ho w hs => ?_) ?_
  · obtain ⟨s0, s1, s2, s3, s4, s5, s6, s7, s8, s9, s10, s11, s12⟩ := hs;  simp [execOp, ho, fd30, go_sem, s0, s1, s2, s3, s4, s5, s6, s7, s8, s9, s10, s11, s12]
  intro a32 n31; have sz31 := n31.size.trans sz30; have fd31 := n31.here; have f0_31 := (n31.keep 0 (by decide)).trans f0_30; have f1_31 := (n31.keep 1 (by decide)).trans f1_30; have df31 := n31.defers.trans df30; clear f0_30 f1_30 fd30 sz30 n31 df30
  refine sched_take oS_32 (.pointer (some ⟨b, 0, none⟩)) (guard_of oS_31 fd31) (by rw [sz31]; decide) (cells_of HD.out.st) (fun o ho w hs => ?_) ?_
  · obtain ⟨s0, s1, s2, s3, s4, s5, s6, s7, s8, s9, s10, s11, s12⟩ := hs;  simp [execOp, ho, f0_31, go_sem, s0, s1, s2, s3, s4, s5, s6, s7, s8, s9, s10, s11, s12]
  intro a33 n32; have sz32 := n32.size.trans sz31; have fd32 := n32.here; have f0_32 := (n32.keep 0 (by decide)).trans f0_31; have f1_32 := (n32.keep 1 (by decide)).trans f1_31; have f42_32 := (n32.keep 42 (by decide)).trans fd31; have df32 := n32.defers.trans df31; clear f0_31 f1_31 fd31 sz31 n32 df31
  refine sched_take oS_33 (.pointer (some ⟨b, 0, none⟩)) (guard_of oS_31 f42_32) (by rw [sz32]; decide) (cells_of HD.out.st) (fun o ho w hs => ?_) ?_
  · obtain ⟨s0, s1, s2, s3, s4, s5, s6, s7, s8, s9, s10, s11, s12⟩ := hs;  simp [execOp, ho, fd32, go_sem, s0, s1, s2, s3, s4, s5, s6, s7, s8, s9, s10, s11, s12]
  intro a34 n33; have sz33 := n33.size.trans sz32; have fd33 := n33.here; have f0_33 := (n33.keep 0 (by decide)).trans f0_32; have f1_33 := (n33.keep 1 (by decide)).trans f1_32; have f42_33 := (n33.keep 42 (by decide)).trans f42_32; have df33 := n33.defers.trans df32; clear f0_32 f1_32 f42_32 fd32 sz32 n33 df32
  refine sched_take oS_34 (.pointer (some ⟨b, 6, none⟩)) (guard_of oS_31 f42_33) (by rw [sz33]; decide) (cells_of HD.out.st) (fun o ho w hs => ?_) ?_
  · obtain ⟨s0, s1, s2, s3, s4, s5, s6, s7, s8, s9, s10, s11, s12⟩ := hs;  simp [execOp, ho, fd33, go_sem, s0, s1, s2, s3, s4, s5, s6, s7, s8, s9, s10, s11, s12]
  intro a35 n34; have sz34 := n34.size.trans sz33; have fd34 := n34.here; have f0_34 := (n34.keep 0 (by decide)).trans f0_33; have f1_34 := (n34.keep 1 (by decide)).trans f1_33; have f42_34 := (n34.keep 42 (by decide)).trans f42_33; have df34 := n34.defers.trans df33; clear f0_33 f1_33 f42_33 fd33 sz33 n34 df33
  refine sched_take oS_35 (.agg #[.int .i64 1, .int .i64 0]) (guard_of oS_31 f42_34) (by rw [sz34]; decide) (cells_of HD.out.st) (fun o ho w hs => ?_) ?_
  · obtain ⟨s0, s1, s2, s3, s4, s5, s6, s7, s8, s9, s10, s11, s12⟩ := hs;  simp [execOp, ho, fd34, go_sem, s0, s1, s2, s3, s4, s5, s6, s7, s8, s9, s10, s11, s12]
  intro a36 n35; have sz35 := n35.size.trans sz34; have fd35 := n35.here; have f0_35 := (n35.keep 0 (by decide)).trans f0_34; have f1_35 := (n35.keep 1 (by decide)).trans f1_34; have f42_35 := (n35.keep 42 (by decide)).trans f42_34; have df35 := n35.defers.trans df34; clear f0_34 f1_34 f42_34 fd34 sz34 n35 df34
  refine sched_take oS_36 (.pointer (some ⟨b, 0, none⟩)) (guard_of oS_31 f42_35) (by rw [sz35]; decide) (cells_of HD.out.st) (fun o ho w hs => ?_) ?_
  · obtain ⟨s0, s1, s2, s3, s4, s5, s6, s7, s8, s9, s10, s11, s12⟩ := hs;  simp [execOp, ho, f1_35, go_sem, s0, s1, s2, s3, s4, s5, s6, s7, s8, s9, s10, s11, s12]
  intro a37 n36; have sz36 := n36.size.trans sz35; have fd36 := n36.here; have f0_36 := (n36.keep 0 (by decide)).trans f0_35; have f1_36 := (n36.keep 1 (by decide)).trans f1_35; have f42_36 := (n36.keep 42 (by decide)).trans f42_35; have f46_36 := (n36.keep 46 (by decide)).trans fd35; have df36 := n36.defers.trans df35; clear f0_35 f1_35 f42_35 fd35 sz35 n36 df35
  refine sched_take oS_37 (.pointer (some ⟨b, 0, none⟩)) (guard_of oS_31 f42_36) (by rw [sz36]; decide) (cells_of HD.out.st) (fun o ho w hs => ?_) ?_
  · obtain ⟨s0, s1, s2, s3, s4, s5, s6, s7, s8, s9, s10, s11, s12⟩ := hs;  simp [execOp, ho, fd36, go_sem, s0, s1, s2, s3, s4, s5, s6, s7, s8, s9, s10, s11, s12]
  intro a38 n37; have sz37 := n37.size.trans sz36; have fd37 := n37.here; have f0_37 := (n37.keep 0 (by decide)).trans f0_36; have f1_37 := (n37.keep 1 (by decide)).trans f1_36; have f42_37 := (n37.keep 42 (by decide)).trans f42_36; have f46_37 := (n37.keep 46 (by decide)).trans f46_36; have df37 := n37.defers.trans df36; clear f0_36 f1_36 f42_36 f46_36 fd36 sz36 n37 df36
  refine sched_take oS_38 (.pointer (some ⟨b, 6, none⟩)) (guard_of oS_31 f42_37) (by rw [sz37]; decide) (cells_of HD.out.st) (fun o ho w hs => ?_) ?_
  · obtain ⟨s0, s1, s2, s3, s4, s5, s6, s7, s8, s9, s10, s11, s12⟩ := hs;  simp [execOp, ho, fd37, go_sem, s0, s1, s2, s3, s4, s5, s6, s7, s8, s9, s10, s11, s12]
  intro a39 n38; have sz38 := n38.size.trans sz37; have fd38 := n38.here; have f0_38 := (n38.keep 0 (by decide)).trans f0_37; have f1_38 := (n38.keep 1 (by decide)).trans f1_37; have f42_38 := (n38.keep 42 (by decide)).trans f42_37; have f46_38 := (n38.keep 46 (by decide)).trans f46_37; have df38 := n38.defers.trans df37; clear f0_37 f1_37 f42_37 f46_37 fd37 sz37 n38 df37
  refine sched_take oS_39 (.agg #[.int .i64 1, .int .i64 0]) (guard_of oS_31 f42_38) (by rw [sz38]; decide) (cells_of HD.out.st) (fun o ho w hs => ?_) ?_
  · obtain ⟨s0, s1, s2, s3, s4, s5, s6, s7, s8, s9, s10, s11, s12⟩ := hs;  simp [execOp, ho, fd38, go_sem, s0, s1, s2, s3, s4, s5, s6, s7, s8, s9, s10, s11, s12]
  intro a40 n39; have sz39 := n39.size.trans sz38; have fd39 := n39.here; have f0_39 := (n39.keep 0 (by decide)).trans f0_38; have f1_39 := (n39.keep 1 (by decide)).trans f1_38; have f42_39 := (n39.keep 42 (by decide)).trans f42_38; have f46_39 := (n39.keep 46 (by decide)).trans f46_38; have df39 := n39.defers.trans df38; clear f0_38 f1_38 f42_38 f46_38 fd38 sz38 n39 df38
  refine sched_take oS_40 (.bool true) (guard_of oS_31 f42_39) (by rw [sz39]; decide) (cells_of HD.out.st) (fun o ho w hs => ?_) ?_
  · obtain ⟨s0, s1, s2, s3, s4, s5, s6, s7, s8, s9, s10, s11, s12⟩ := hs;  simp [execOp, ho, f46_39, fd39, go_sem, s0, s1, s2, s3, s4, s5, s6, s7, s8, s9, s10, s11, s12]
  intro a41 n40; have sz40 := n40.size.trans sz39; have fd40 := n40.here; have f0_40 := (n40.keep 0 (by decide)).trans f0_39; have f1_40 := (n40.keep 1 (by decide)).trans f1_39; have f42_40 := (n40.keep 42 (by decide)).trans f42_39; have df40 := n40.defers.trans df39; clear f0_39 f1_39 f42_39 f46_39 fd39 sz39 n40 df39
  refine sched_take oS_41 (.bool true) guard_none (by rw [sz40]; decide) (cells_of HD.out.st) (fun o ho w hs => ?_) ?_
  · obtain ⟨s0, s1, s2, s3, s4, s5, s6, s7, s8, s9, s10, s11, s12⟩ := hs;  simp [execOp, ho, f42_40, fd40, go_sem, s0, s1, s2, s3, s4, s5, s6, s7, s8, s9, s10, s11, s12]
  intro a42 n41; have sz41 := n41.size.trans sz40; have fd41 := n41.here; have f0_41 := (n41.keep 0 (by decide)).trans f0_40; have f1_41 := (n41.keep 1 (by decide)).trans f1_40; have df41 := n41.defers.trans df40; clear f0_40 f1_40 f42_40 fd40 sz40 n41 df40
  refine sched_take oS_42 (.bool true) guard_none (by rw [sz41]; decide) (cells_of HD.out.st) (fun o ho w hs => ?_) ?_
  · obtain ⟨s0, s1, s2, s3, s4, s5, s6, s7, s8, s9, s10, s11, s12⟩ := hs;  simp [execOp, ho, fd41, go_sem, s0, s1, s2, s3, s4, s5, s6, s7, s8, s9, s10, s11, s12]
  intro a43 n42; have sz42 := n42.size.trans sz41; have fd42 := n42.here; have f0_42 := (n42.keep 0 (by decide)).trans f0_41; have f1_42 := (n42.keep 1 (by decide)).trans f1_41; have df42 := n42.defers.trans df41; clear f0_41 f1_41 fd41 sz41 n42 df41
  refine sched_take oS_43 (.pointer (some ⟨b, 0, none⟩)) (guard_of oS_42 fd42) (by rw [sz42]; decide) (cells_of HD.out.st) (fun o ho w hs => ?_) ?_
  · obtain ⟨s0, s1, s2, s3, s4, s5, s6, s7, s8, s9, s10, s11, s12⟩ := hs;  simp [execOp, ho, f0_42, go_sem, s0, s1, s2, s3, s4, s5, s6, s7, s8, s9, s10, s11, s12]
  intro a44 n43; have sz43 := n43.size.trans sz42; have fd43 := n43.here; have f0_43 := (n43.keep 0 (by decide)).trans f0_42; have f1_43 := (n43.keep 1 (by decide)).trans f1_42; have f53_43 := (n43.keep 53 (by decide)).trans fd42; have df43 := n43.defers.trans df42; clear f0_42 f1_42 fd42 sz42 n43 df42
  refine sched_take oS_44 (.pointer (some ⟨b, 0, none⟩)) (guard_of oS_42 f53_43) (by rw [sz43]; decide) (cells_of HD.out.st) (fun o ho w hs => ?_) ?_
  · obtain ⟨s0, s1, s2, s3, s4, s5, s6, s7, s8, s9, s10, s11, s12⟩ := hs;  simp [execOp, ho, fd43, go_sem, s0, s1, s2, s3, s4, s5, s6, s7, s8, s9, s10, s11, s12]
  intro a45 n44; have sz44 := n44.size.trans sz43; have fd44 := n44.here; have f0_44 := (n44.keep 0 (by decide)).trans f0_43; have f1_44 := (n44.keep 1 (by decide)).trans f1_43; have f53_44 := (n44.keep 53 (by decide)).trans f53_43; have df44 := n44.defers.trans df43; clear f0_43 f1_43 f53_43 fd43 sz43 n44 df43
  refine sched_take oS_45 (.pointer (some ⟨b, 3, none⟩)) (guard_of oS_42 f53_44) (by rw [sz44]; decide) (cells_of HD.out.st) (fun o ho w hs => ?_) ?_
  · obtain ⟨s0, s1, s2, s3, s4, s5, s6, s7, s8, s9, s10, s11, s12⟩ := hs;  simp [execOp, ho, fd44, go_sem, s0, s1, s2, s3, s4, s5, s6, s7, s8, s9, s10, s11, s12]
  intro a46 n45; have sz45 := n45.size.trans sz44; have fd45 := n45.here; have f0_45 := (n45.keep 0 (by decide)).trans f0_44; have f1_45 := (n45.keep 1 (by decide)).trans f1_44; have f53_45 := (n45.keep 53 (by decide)).trans f53_44; have df45 := n45.defers.trans df44; clear f0_44 f1_44 f53_44 fd44 sz44 n45 df44
  refine sched_take oS_46 (.map (some m1)) (guard_of oS_42 f53_45) (by rw [sz45]; decide) (cells_of HD.out.st) (fun o ho w hs => ?_) ?_
  · obtain ⟨s0, s1, s2, s3, s4, s5, s6, s7, s8, s9, s10, s11, s12⟩ := hs;  simp [execOp, ho, fd45, go_sem, s0, s1, s2, s3, s4, s5, s6, s7, s8, s9, s10, s11, s12]
  intro a47 n46; have sz46 := n46.size.trans sz45; have fd46 := n46.here; have f0_46 := (n46.keep 0 (by decide)).trans f0_45; have f1_46 := (n46.keep 1 (by decide)).trans f1_45; have f53_46 := (n46.keep 53 (by decide)).trans f53_45; have df46 := n46.defers.trans df45; clear f0_45 f1_45 f53_45 fd45 sz45 n46 df45
  refine sched_take oS_47 (.pointer (some ⟨b, 0, none⟩)) (guard_of oS_42 f53_46) (by rw [sz46]; decide) (cells_of HD.out.st) (fun o ho w hs => ?_) ?_
  · obtain ⟨s0, s1, s2, s3, s4, s5, s6, s7, s8, s9, s10, s11, s12⟩ := hs;  simp [execOp, ho, f1_46, go_sem, s0, s1, s2, s3, s4, s5, s6, s7, s8, s9, s10, s11, s12]
  intro a48 n47; have sz47 := n47.size.trans sz46; have fd47 := n47.here; have f0_47 := (n47.keep 0 (by decide)).trans f0_46; have f1_47 := (n47.keep 1 (by decide)).trans f1_46; have f53_47 := (n47.keep 53 (by decide)).trans f53_46; have f57_47 := (n47.keep 57 (by decide)).trans fd46; have df47 := n47.defers.trans df46; clear f0_46 f1_46 f53_46 fd46 sz46 n47 df46
  refine sched_take oS_48 (.pointer (some ⟨b, 0, none⟩)) (guard_of oS_42 f53_47) (by rw [sz47]; decide) (cells_of HD.out.st) (fun o ho w hs => ?_) ?_
  · obtain ⟨s0, s1, s2, s3, s4, s5, s6, s7, s8, s9, s10, s11, s12⟩ := hs;  simp [execOp, ho, fd47, go_sem, s0, s1, s2, s3, s4, s5, s6, s7, s8, s9, s10, s11, s12]
  intro a49 n48; have sz48 := n48.size.trans sz47; have fd48 := n48.here; have f0_48 := (n48.keep 0 (by decide)).trans f0_47; have f1_48 := (n48.keep 1 (by decide)).trans f1_47; have f53_48 := (n48.keep 53 (by decide)).trans f53_47; have f57_48 := (n48.keep 57 (by decide)).trans f57_47; have df48 := n48.defers.trans df47; clear f0_47 f1_47 f53_47 f57_47 fd47 sz47 n48 df47
  refine sched_take oS_49 (.pointer (some ⟨b, 3, none⟩)) (guard_of oS_42 f53_48) (by rw [sz48]; decide) (cells_of HD.out.st) (fun o ho w hs => ?_) ?_
  · obtain ⟨s0, s1, s2, s3, s4, s5, s6, s7, s8, s9, s10, s11, s12⟩ := hs;  simp [execOp, ho, fd48, go_sem, s0, s1, s2, s3, s4, s5, s6, s7, s8, s9, s10, s11, s12]
  intro a50 n49; have sz49 := n49.size.trans sz48; have fd49 := n49.here; have f0_49 := (n49.keep 0 (by decide)).trans f0_48; have f1_49 := (n49.keep 1 (by decide)).trans f1_48; have f53_49 := (n49.keep 53 (by decide)).trans f53_48; have f57_49 := (n49.keep 57 (by decide)).trans f57_48; have df49 := n49.defers.trans df48; clear f0_48 f1_48 f53_48 f57_48 fd48 sz48 n49 df48
  refine sched_take oS_50 (.map (some m1)) (guard_of oS_42 f53_49) (by rw [sz49]; decide) (cells_of HD.out.st) (fun o ho w hs => ?_) ?_
  · obtain ⟨s0, s1, s2, s3, s4, s5, s6, s7, s8, s9, s10, s11, s12⟩ := hs;  simp [execOp, ho, fd49, go_sem, s0, s1, s2, s3, s4, s5, s6, s7, s8, s9, s10, s11, s12]
  intro a51 n50; have sz50 := n50.size.trans sz49; have fd50 := n50.here; have f0_50 := (n50.keep 0 (by decide)).trans f0_49; have f1_50 := (n50.keep 1 (by decide)).trans f1_49; have f53_50 := (n50.keep 53 (by decide)).trans f53_49; have f57_50 := (n50.keep 57 (by decide)).trans f57_49; have df50 := n50.defers.trans df49; clear f0_49 f1_49 f53_49 f57_49 fd49 sz49 n50 df49
  refine sched_call oS_51 (guard_of oS_42 f53_50) (by rw [sz50]; decide) 46 #[(.map (some m1)), (.map (some m1))] (fun o ho => ?_) (same_map _ b m1 m2 m3 m4 m5 _ HD.out _ (Or.inl rfl)) ?_
  · have e57 := eval_tmp f57_50; have e61 := eval_tmp fd50; have he := enters_of Tryz.func46 (by kernel_rfl) rfl; simp [execOp, ho, e57, e61, resolve, Deferred.ofValue, invoke, he, eval_func]
  rintro e w1 ⟨rfl, hu1⟩
  have H1 := Lib.hid (HD.out.old hu1)
  have hU1 := hu1
  refine ⟨_, rfl, cells_of H1.out.st, ?_⟩
  intro a52 n51; have sz51 := n51.size.trans sz50; have fd51 := n51.here; have f0_51 := (n51.keep 0 (by decide)).trans f0_50; have f1_51 := (n51.keep 1 (by decide)).trans f1_50; have f53_51 := (n51.keep 53 (by decide)).trans f53_50; have df51 := n51.defers.trans df50; clear f0_50 f1_50 f53_50 f57_50 fd50 sz50 n51 df50
  refine sched_take oS_52 (.bool true) guard_none (by rw [sz51]; decide) (cells_of H1.out.st) (fun o ho w hs => ?_) ?_
  · obtain ⟨s0, s1, s2, s3, s4, s5, s6, s7, s8, s9, s10, s11, s12⟩ := hs;  simp [execOp, ho, f53_51, fd51, go_sem, s0, s1, s2, s3, s4, s5, s6, s7, s8, s9, s10, s11, s12]
  intro a53 n52; have sz52 := n52.size.trans sz51; have fd52 := n52.here; have f0_52 := (n52.keep 0 (by decide)).trans f0_51; have f1_52 := (n52.keep 1 (by decide)).trans f1_51; have df52 := n52.defers.trans df51; clear f0_51 f1_51 f53_51 fd51 sz51 n52 df51
  refine sched_take oS_53 (.bool true) guard_none (by rw [sz52]; decide) (cells_of H1.out.st) (fun o ho w hs => ?_) ?_
  · obtain ⟨s0, s1, s2, s3, s4, s5, s6, s7, s8, s9, s10, s11, s12⟩ := hs;  simp [execOp, ho, fd52, go_sem, s0, s1, s2, s3, s4, s5, s6, s7, s8, s9, s10, s11, s12]
  intro a54 n53; have sz53 := n53.size.trans sz52; have fd53 := n53.here; have f0_53 := (n53.keep 0 (by decide)).trans f0_52; have f1_53 := (n53.keep 1 (by decide)).trans f1_52; have df53 := n53.defers.trans df52; clear f0_52 f1_52 fd52 sz52 n53 df52
  refine sched_take oS_54 (.pointer (some ⟨b, 0, none⟩)) (guard_of oS_53 fd53) (by rw [sz53]; decide) (cells_of H1.out.st) (fun o ho w hs => ?_) ?_
  · obtain ⟨s0, s1, s2, s3, s4, s5, s6, s7, s8, s9, s10, s11, s12⟩ := hs;  simp [execOp, ho, f0_53, go_sem, s0, s1, s2, s3, s4, s5, s6, s7, s8, s9, s10, s11, s12]
  intro a55 n54; have sz54 := n54.size.trans sz53; have fd54 := n54.here; have f0_54 := (n54.keep 0 (by decide)).trans f0_53; have f1_54 := (n54.keep 1 (by decide)).trans f1_53; have f64_54 := (n54.keep 64 (by decide)).trans fd53; have df54 := n54.defers.trans df53; clear f0_53 f1_53 fd53 sz53 n54 df53
  refine sched_take oS_55 (.pointer (some ⟨b, 0, none⟩)) (guard_of oS_53 f64_54) (by rw [sz54]; decide) (cells_of H1.out.st) (fun o ho w hs => ?_) ?_
  · obtain ⟨s0, s1, s2, s3, s4, s5, s6, s7, s8, s9, s10, s11, s12⟩ := hs;  simp [execOp, ho, fd54, go_sem, s0, s1, s2, s3, s4, s5, s6, s7, s8, s9, s10, s11, s12]
  intro a56 n55; have sz55 := n55.size.trans sz54; have fd55 := n55.here; have f0_55 := (n55.keep 0 (by decide)).trans f0_54; have f1_55 := (n55.keep 1 (by decide)).trans f1_54; have f64_55 := (n55.keep 64 (by decide)).trans f64_54; have df55 := n55.defers.trans df54; clear f0_54 f1_54 f64_54 fd54 sz54 n55 df54
  refine sched_take oS_56 (.pointer (some ⟨b, 4, none⟩)) (guard_of oS_53 f64_55) (by rw [sz55]; decide) (cells_of H1.out.st) (fun o ho w hs => ?_) ?_
  · obtain ⟨s0, s1, s2, s3, s4, s5, s6, s7, s8, s9, s10, s11, s12⟩ := hs;  simp [execOp, ho, fd55, go_sem, s0, s1, s2, s3, s4, s5, s6, s7, s8, s9, s10, s11, s12]
  intro a57 n56; have sz56 := n56.size.trans sz55; have fd56 := n56.here; have f0_56 := (n56.keep 0 (by decide)).trans f0_55; have f1_56 := (n56.keep 1 (by decide)).trans f1_55; have f64_56 := (n56.keep 64 (by decide)).trans f64_55; have df56 := n56.defers.trans df55; clear f0_55 f1_55 f64_55 fd55 sz55 n56 df55
  refine sched_take oS_57 (.map (some m2)) (guard_of oS_53 f64_56) (by rw [sz56]; decide) (cells_of H1.out.st) (fun o ho w hs => ?_) ?_
  · obtain ⟨s0, s1, s2, s3, s4, s5, s6, s7, s8, s9, s10, s11, s12⟩ := hs;  simp [execOp, ho, fd56, go_sem, s0, s1, s2, s3, s4, s5, s6, s7, s8, s9, s10, s11, s12]
  intro a58 n57; have sz57 := n57.size.trans sz56; have fd57 := n57.here; have f0_57 := (n57.keep 0 (by decide)).trans f0_56; have f1_57 := (n57.keep 1 (by decide)).trans f1_56; have f64_57 := (n57.keep 64 (by decide)).trans f64_56; have df57 := n57.defers.trans df56; clear f0_56 f1_56 f64_56 fd56 sz56 n57 df56
  refine sched_take oS_58 (.pointer (some ⟨b, 0, none⟩)) (guard_of oS_53 f64_57) (by rw [sz57]; decide) (cells_of H1.out.st) (fun o ho w hs => ?_) ?_
  · obtain ⟨s0, s1, s2, s3, s4, s5, s6, s7, s8, s9, s10, s11, s12⟩ := hs;  simp [execOp, ho, f1_57, go_sem, s0, s1, s2, s3, s4, s5, s6, s7, s8, s9, s10, s11, s12]
  intro a59 n58; have sz58 := n58.size.trans sz57; have fd58 := n58.here; have f0_58 := (n58.keep 0 (by decide)).trans f0_57; have f1_58 := (n58.keep 1 (by decide)).trans f1_57; have f64_58 := (n58.keep 64 (by decide)).trans f64_57; have f68_58 := (n58.keep 68 (by decide)).trans fd57; have df58 := n58.defers.trans df57; clear f0_57 f1_57 f64_57 fd57 sz57 n58 df57
  refine sched_take oS_59 (.pointer (some ⟨b, 0, none⟩)) (guard_of oS_53 f64_58) (by rw [sz58]; decide) (cells_of H1.out.st) (fun o ho w hs => ?_) ?_
  · obtain ⟨s0, s1, s2, s3, s4, s5, s6, s7, s8, s9, s10, s11, s12⟩ := hs;  simp [execOp, ho, fd58, go_sem, s0, s1, s2, s3, s4, s5, s6, s7, s8, s9, s10, s11, s12]
  intro a60 n59; have sz59 := n59.size.trans sz58; have fd59 := n59.here; have f0_59 := (n59.keep 0 (by decide)).trans f0_58; have f1_59 := (n59.keep 1 (by decide)).trans f1_58; have f64_59 := (n59.keep 64 (by decide)).trans f64_58; have f68_59 := (n59.keep 68 (by decide)).trans f68_58; have df59 := n59.defers.trans df58; clear f0_58 f1_58 f64_58 f68_58 fd58 sz58 n59 df58
  refine sched_take oS_60 (.pointer (some ⟨b, 4, none⟩)) (guard_of oS_53 f64_59) (by rw [sz59]; decide) (cells_of H1.out.st) (fun o ho w hs => ?_) ?_
  · obtain ⟨s0, s1, s2, s3, s4, s5, s6, s7, s8, s9, s10, s11, s12⟩ := hs;  simp [execOp, ho, fd59, go_sem, s0, s1, s2, s3, s4, s5, s6, s7, s8, s9, s10, s11, s12]
  intro a61 n60; have sz60 := n60.size.trans sz59; have fd60 := n60.here; have f0_60 := (n60.keep 0 (by decide)).trans f0_59; have f1_60 := (n60.keep 1 (by decide)).trans f1_59; have f64_60 := (n60.keep 64 (by decide)).trans f64_59; have f68_60 := (n60.keep 68 (by decide)).trans f68_59; have df60 := n60.defers.trans df59; clear f0_59 f1_59 f64_59 f68_59 fd59 sz59 n60 df59
  refine sched_take oS_61 (.map (some m2)) (guard_of oS_53 f64_60) (by rw [sz60]; decide) (cells_of H1.out.st) (fun o ho w hs => ?_) ?_
  · obtain ⟨s0, s1, s2, s3, s4, s5, s6, s7, s8, s9, s10, s11, s12⟩ := hs;  simp [execOp, ho, fd60, go_sem, s0, s1, s2, s3, s4, s5, s6, s7, s8, s9, s10, s11, s12]
  intro a62 n61; have sz61 := n61.size.trans sz60; have fd61 := n61.here; have f0_61 := (n61.keep 0 (by decide)).trans f0_60; have f1_61 := (n61.keep 1 (by decide)).trans f1_60; have f64_61 := (n61.keep 64 (by decide)).trans f64_60; have f68_61 := (n61.keep 68 (by decide)).trans f68_60; have df61 := n61.defers.trans df60; clear f0_60 f1_60 f64_60 f68_60 fd60 sz60 n61 df60
  refine sched_call oS_62 (guard_of oS_53 f64_61) (by rw [sz61]; decide) 46 #[(.map (some m2)), (.map (some m2))] (fun o ho => ?_) (same_map _ b m1 m2 m3 m4 m5 _ H1.out _ (Or.inr (Or.inl rfl))) ?_
  · have e68 := eval_tmp f68_61; have e72 := eval_tmp fd61; have he := enters_of Tryz.func46 (by kernel_rfl) rfl; simp [execOp, ho, e68, e72, resolve, Deferred.ofValue, invoke, he, eval_func]
  rintro e w2 ⟨rfl, hu2⟩
  have H2 := Lib.hid (H1.out.old hu2)
  have hU2 := hU1.trans hu2
  refine ⟨_, rfl, cells_of H2.out.st, ?_⟩
  intro a63 n62; have sz62 := n62.size.trans sz61; have fd62 := n62.here; have f0_62 := (n62.keep 0 (by decide)).trans f0_61; have f1_62 := (n62.keep 1 (by decide)).trans f1_61; have f64_62 := (n62.keep 64 (by decide)).trans f64_61; have df62 := n62.defers.trans df61; clear f0_61 f1_61 f64_61 f68_61 fd61 sz61 n62 df61
  refine sched_take oS_63 (.bool true) guard_none (by rw [sz62]; decide) (cells_of H2.out.st) (fun o ho w hs => ?_) ?_
  · obtain ⟨s0, s1, s2, s3, s4, s5, s6, s7, s8, s9, s10, s11, s12⟩ := hs;  simp [execOp, ho, f64_62, fd62, go_sem, s0, s1, s2, s3, s4, s5, s6, s7, s8, s9, s10, s11, s12]
  intro a64 n63; have sz63 := n63.size.trans sz62; have fd63 := n63.here; have f0_63 := (n63.keep 0 (by decide)).trans f0_62; have f1_63 := (n63.keep 1 (by decide)).trans f1_62; have df63 := n63.defers.trans df62; clear f0_62 f1_62 f64_62 fd62 sz62 n63 df62
  refine sched_take oS_64 (.bool true) guard_none (by rw [sz63]; decide) (cells_of H2.out.st) (fun o ho w hs => ?_) ?_
  · obtain ⟨s0, s1, s2, s3, s4, s5, s6, s7, s8, s9, s10, s11, s12⟩ := hs;  simp [execOp, ho, fd63, go_sem, s0, s1, s2, s3, s4, s5, s6, s7, s8, s9, s10, s11, s12]
  intro a65 n64; have sz64 := n64.size.trans sz63; have fd64 := n64.here; have f0_64 := (n64.keep 0 (by decide)).trans f0_63; have f1_64 := (n64.keep 1 (by decide)).trans f1_63; have df64 := n64.defers.trans df63; clear f0_63 f1_63 fd63 sz63 n64 df63
  refine sched_take oS_65 (.pointer (some ⟨b, 0, none⟩)) (guard_of oS_64 fd64) (by rw [sz64]; decide) (cells_of H2.out.st) (fun o ho w hs => ?_) ?_
  · obtain ⟨s0, s1, s2, s3, s4, s5, s6, s7, s8, s9, s10, s11, s12⟩ := hs;  simp [execOp, ho, f0_64, go_sem, s0, s1, s2, s3, s4, s5, s6, s7, s8, s9, s10, s11, s12]
  intro a66 n65; have sz65 := n65.size.trans sz64; have fd65 := n65.here; have f0_65 := (n65.keep 0 (by decide)).trans f0_64; have f1_65 := (n65.keep 1 (by decide)).trans f1_64; have f75_65 := (n65.keep 75 (by decide)).trans fd64; have df65 := n65.defers.trans df64; clear f0_64 f1_64 fd64 sz64 n65 df64
  refine sched_take oS_66 (.pointer (some ⟨b, 0, none⟩)) (guard_of oS_64 f75_65) (by rw [sz65]; decide) (cells_of H2.out.st) (fun o ho w hs => ?_) ?_
  · obtain ⟨s0, s1, s2, s3, s4, s5, s6, s7, s8, s9, s10, s11, s12⟩ := hs;  simp [execOp, ho, fd65, go_sem, s0, s1, s2, s3, s4, s5, s6, s7, s8, s9, s10, s11, s12]
  intro a67 n66; have sz66 := n66.size.trans sz65; have fd66 := n66.here; have f0_66 := (n66.keep 0 (by decide)).trans f0_65; have f1_66 := (n66.keep 1 (by decide)).trans f1_65; have f75_66 := (n66.keep 75 (by decide)).trans f75_65; have df66 := n66.defers.trans df65; clear f0_65 f1_65 f75_65 fd65 sz65 n66 df65
  refine sched_take oS_67 (.pointer (some ⟨b, 9, none⟩)) (guard_of oS_64 f75_66) (by rw [sz66]; decide) (cells_of H2.out.st) (fun o ho w hs => ?_) ?_
  · obtain ⟨s0, s1, s2, s3, s4, s5, s6, s7, s8, s9, s10, s11, s12⟩ := hs;  simp [execOp, ho, fd66, go_sem, s0, s1, s2, s3, s4, s5, s6, s7, s8, s9, s10, s11, s12]
  intro a68 n67; have sz67 := n67.size.trans sz66; have fd67 := n67.here; have f0_67 := (n67.keep 0 (by decide)).trans f0_66; have f1_67 := (n67.keep 1 (by decide)).trans f1_66; have f75_67 := (n67.keep 75 (by decide)).trans f75_66; have df67 := n67.defers.trans df66; clear f0_66 f1_66 f75_66 fd66 sz66 n67 df66
  refine sched_take oS_68 (.map (some m4)) (guard_of oS_64 f75_67) (by rw [sz67]; decide) (cells_of H2.out.st) (fun o ho w hs => ?_) ?_
  · obtain ⟨s0, s1, s2, s3, s4, s5, s6, s7, s8, s9, s10, s11, s12⟩ := hs;  simp [execOp, ho, fd67, go_sem, s0, s1, s2, s3, s4, s5, s6, s7, s8, s9, s10, s11, s12]
  intro a69 n68; have sz68 := n68.size.trans sz67; have fd68 := n68.here; have f0_68 := (n68.keep 0 (by decide)).trans f0_67; have f1_68 := (n68.keep 1 (by decide)).trans f1_67; have f75_68 := (n68.keep 75 (by decide)).trans f75_67; have df68 := n68.defers.trans df67; clear f0_67 f1_67 f75_67 fd67 sz67 n68 df67
  refine sched_take oS_69 (.pointer (some ⟨b, 0, none⟩)) (guard_of oS_64 f75_68) (by rw [sz68]; decide) (cells_of H2.out.st) (fun o ho w hs => ?_) ?_
  · obtain ⟨s0, s1, s2, s3, s4, s5, s6, s7, s8, s9, s10, s11, s12⟩ := hs;  simp [execOp, ho, f1_68, go_sem, s0, s1, s2, s3, s4, s5, s6, s7, s8, s9, s10, s11, s12]
  intro a70 n69; have sz69 := n69.size.trans sz68; have fd69 := n69.here; have f0_69 := (n69.keep 0 (by decide)).trans f0_68; have f1_69 := (n69.keep 1 (by decide)).trans f1_68; have f75_69 := (n69.keep 75 (by decide)).trans f75_68; have f79_69 := (n69.keep 79 (by decide)).trans fd68; have df69 := n69.defers.trans df68; clear f0_68 f1_68 f75_68 fd68 sz68 n69 df68
  refine sched_take oS_70 (.pointer (some ⟨b, 0, none⟩)) (guard_of oS_64 f75_69) (by rw [sz69]; decide) (cells_of H2.out.st) (fun o ho w hs => ?_) ?_
  · obtain ⟨s0, s1, s2, s3, s4, s5, s6, s7, s8, s9, s10, s11, s12⟩ := hs;  simp [execOp, ho, fd69, go_sem, s0, s1, s2, s3, s4, s5, s6, s7, s8, s9, s10, s11, s12]
  intro a71 n70; have sz70 := n70.size.trans sz69; have fd70 := n70.here; have f0_70 := (n70.keep 0 (by decide)).trans f0_69; have f1_70 := (n70.keep 1 (by decide)).trans f1_69; have f75_70 := (n70.keep 75 (by decide)).trans f75_69; have f79_70 := (n70.keep 79 (by decide)).trans f79_69; have df70 := n70.defers.trans df69; clear f0_69 f1_69 f75_69 f79_69 fd69 sz69 n70 df69
  refine sched_take oS_71 (.pointer (some ⟨b, 9, none⟩)) (guard_of oS_64 f75_70) (by rw [sz70]; decide) (cells_of H2.out.st) (fun o ho w hs => ?_) ?_
  · obtain ⟨s0, s1, s2, s3, s4, s5, s6, s7, s8, s9, s10, s11, s12⟩ := hs;  simp [execOp, ho, fd70, go_sem, s0, s1, s2, s3, s4, s5, s6, s7, s8, s9, s10, s11, s12]
  intro a72 n71; have sz71 := n71.size.trans sz70; have fd71 := n71.here; have f0_71 := (n71.keep 0 (by decide)).trans f0_70; have f1_71 := (n71.keep 1 (by decide)).trans f1_70; have f75_71 := (n71.keep 75 (by decide)).trans f75_70; have f79_71 := (n71.keep 79 (by decide)).trans f79_70; have df71 := n71.defers.trans df70; clear f0_70 f1_70 f75_70 f79_70 fd70 sz70 n71 df70
  refine sched_take oS_72 (.map (some m4)) (guard_of oS_64 f75_71) (by rw [sz71]; decide) (cells_of H2.out.st) (fun o ho w hs => ?_) ?_
  · obtain ⟨s0, s1, s2, s3, s4, s5, s6, s7, s8, s9, s10, s11, s12⟩ := hs;  simp [execOp, ho, fd71, go_sem, s0, s1, s2, s3, s4, s5, s6, s7, s8, s9, s10, s11, s12]
  intro a73 n72; have sz72 := n72.size.trans sz71; have fd72 := n72.here; have f0_72 := (n72.keep 0 (by decide)).trans f0_71; have f1_72 := (n72.keep 1 (by decide)).trans f1_71; have f75_72 := (n72.keep 75 (by decide)).trans f75_71; have f79_72 := (n72.keep 79 (by decide)).trans f79_71; have df72 := n72.defers.trans df71; clear f0_71 f1_71 f75_71 f79_71 fd71 sz71 n72 df71
  refine sched_call oS_73 (guard_of oS_64 f75_72) (by rw [sz72]; decide) 47 #[(.map (some m4)), (.map (some m4))] (fun o ho => ?_) (textEqual _ m4 H2.out.st.i4) ?_
  · have e79 := eval_tmp f79_72; have e83 := eval_tmp fd72; have he := enters_of Tryz.func47 (by kernel_rfl) rfl; simp [execOp, ho, e79, e83, resolve, Deferred.ofValue, invoke, he, eval_func]
  rintro e w3 ⟨rfl, hu3⟩
  have H3 := Lib.hid (H2.out.old hu3)
  have hU3 := hU2.trans hu3
  refine ⟨_, rfl, cells_of H3.out.st, ?_⟩
  intro a74 n73; have sz73 := n73.size.trans sz72; have fd73 := n73.here; have f0_73 := (n73.keep 0 (by decide)).trans f0_72; have f1_73 := (n73.keep 1 (by decide)).trans f1_72; have f75_73 := (n73.keep 75 (by decide)).trans f75_72; have df73 := n73.defers.trans df72; clear f0_72 f1_72 f75_72 f79_72 fd72 sz72 n73 df72
  refine sched_take oS_74 (.bool true) guard_none (by rw [sz73]; decide) (cells_of H3.out.st) (fun o ho w hs => ?_) ?_
  · obtain ⟨s0, s1, s2, s3, s4, s5, s6, s7, s8, s9, s10, s11, s12⟩ := hs;  simp [execOp, ho, f75_73, fd73, go_sem, s0, s1, s2, s3, s4, s5, s6, s7, s8, s9, s10, s11, s12]
  intro a75 n74; have sz74 := n74.size.trans sz73; have fd74 := n74.here; have f0_74 := (n74.keep 0 (by decide)).trans f0_73; have f1_74 := (n74.keep 1 (by decide)).trans f1_73; have df74 := n74.defers.trans df73; clear f0_73 f1_73 f75_73 fd73 sz73 n74 df73
  refine sched_take oS_75 (.bool true) guard_none (by rw [sz74]; decide) (cells_of H3.out.st) (fun o ho w hs => ?_) ?_
  · obtain ⟨s0, s1, s2, s3, s4, s5, s6, s7, s8, s9, s10, s11, s12⟩ := hs;  simp [execOp, ho, fd74, go_sem, s0, s1, s2, s3, s4, s5, s6, s7, s8, s9, s10, s11, s12]
  intro a76 n75; have sz75 := n75.size.trans sz74; have fd75 := n75.here; have f0_75 := (n75.keep 0 (by decide)).trans f0_74; have f1_75 := (n75.keep 1 (by decide)).trans f1_74; have df75 := n75.defers.trans df74; clear f0_74 f1_74 fd74 sz74 n75 df74
  refine sched_take oS_76 (.pointer (some ⟨b, 0, none⟩)) (guard_of oS_75 fd75) (by rw [sz75]; decide) (cells_of H3.out.st) (fun o ho w hs => ?_) ?_
  · obtain ⟨s0, s1, s2, s3, s4, s5, s6, s7, s8, s9, s10, s11, s12⟩ := hs;  simp [execOp, ho, f0_75, go_sem, s0, s1, s2, s3, s4, s5, s6, s7, s8, s9, s10, s11, s12]
  intro a77 n76; have sz76 := n76.size.trans sz75; have fd76 := n76.here; have f0_76 := (n76.keep 0 (by decide)).trans f0_75; have f1_76 := (n76.keep 1 (by decide)).trans f1_75; have f86_76 := (n76.keep 86 (by decide)).trans fd75; have df76 := n76.defers.trans df75; clear f0_75 f1_75 fd75 sz75 n76 df75
  refine sched_take oS_77 (.pointer (some ⟨b, 0, none⟩)) (guard_of oS_75 f86_76) (by rw [sz76]; decide) (cells_of H3.out.st) (fun o ho w hs => ?_) ?_
  · obtain ⟨s0, s1, s2, s3, s4, s5, s6, s7, s8, s9, s10, s11, s12⟩ := hs;  simp [execOp, ho, fd76, go_sem, s0, s1, s2, s3, s4, s5, s6, s7, s8, s9, s10, s11, s12]
  intro a78 n77; have sz77 := n77.size.trans sz76; have fd77 := n77.here; have f0_77 := (n77.keep 0 (by decide)).trans f0_76; have f1_77 := (n77.keep 1 (by decide)).trans f1_76; have f86_77 := (n77.keep 86 (by decide)).trans f86_76; have df77 := n77.defers.trans df76; clear f0_76 f1_76 f86_76 fd76 sz76 n77 df76
  refine sched_take oS_78 (.pointer (some ⟨b, 12, none⟩)) (guard_of oS_75 f86_77) (by rw [sz77]; decide) (cells_of H3.out.st) (fun o ho w hs => ?_) ?_
  · obtain ⟨s0, s1, s2, s3, s4, s5, s6, s7, s8, s9, s10, s11, s12⟩ := hs;  simp [execOp, ho, fd77, go_sem, s0, s1, s2, s3, s4, s5, s6, s7, s8, s9, s10, s11, s12]
  intro a79 n78; have sz78 := n78.size.trans sz77; have fd78 := n78.here; have f0_78 := (n78.keep 0 (by decide)).trans f0_77; have f1_78 := (n78.keep 1 (by decide)).trans f1_77; have f86_78 := (n78.keep 86 (by decide)).trans f86_77; have df78 := n78.defers.trans df77; clear f0_77 f1_77 f86_77 fd77 sz77 n78 df77
  refine sched_take oS_79 (.map (some m5)) (guard_of oS_75 f86_78) (by rw [sz78]; decide) (cells_of H3.out.st) (fun o ho w hs => ?_) ?_
  · obtain ⟨s0, s1, s2, s3, s4, s5, s6, s7, s8, s9, s10, s11, s12⟩ := hs;  simp [execOp, ho, fd78, go_sem, s0, s1, s2, s3, s4, s5, s6, s7, s8, s9, s10, s11, s12]
  intro a80 n79; have sz79 := n79.size.trans sz78; have fd79 := n79.here; have f0_79 := (n79.keep 0 (by decide)).trans f0_78; have f1_79 := (n79.keep 1 (by decide)).trans f1_78; have f86_79 := (n79.keep 86 (by decide)).trans f86_78; have df79 := n79.defers.trans df78; clear f0_78 f1_78 f86_78 fd78 sz78 n79 df78
  refine sched_take oS_80 (.pointer (some ⟨b, 0, none⟩)) (guard_of oS_75 f86_79) (by rw [sz79]; decide) (cells_of H3.out.st) (fun o ho w hs => ?_) ?_
  · obtain ⟨s0, s1, s2, s3, s4, s5, s6, s7, s8, s9, s10, s11, s12⟩ := hs;  simp [execOp, ho, f1_79, go_sem, s0, s1, s2, s3, s4, s5, s6, s7, s8, s9, s10, s11, s12]
  intro a81 n80; have sz80 := n80.size.trans sz79; have fd80 := n80.here; have f0_80 := (n80.keep 0 (by decide)).trans f0_79; have f1_80 := (n80.keep 1 (by decide)).trans f1_79; have f86_80 := (n80.keep 86 (by decide)).trans f86_79; have f90_80 := (n80.keep 90 (by decide)).trans fd79; have df80 := n80.defers.trans df79; clear f0_79 f1_79 f86_79 fd79 sz79 n80 df79
  refine sched_take oS_81 (.pointer (some ⟨b, 0, none⟩)) (guard_of oS_75 f86_80) (by rw [sz80]; decide) (cells_of H3.out.st) (fun o ho w hs => ?_) ?_
  · obtain ⟨s0, s1, s2, s3, s4, s5, s6, s7, s8, s9, s10, s11, s12⟩ := hs;  simp [execOp, ho, fd80, go_sem, s0, s1, s2, s3, s4, s5, s6, s7, s8, s9, s10, s11, s12]
  intro a82 n81; have sz81 := n81.size.trans sz80; have fd81 := n81.here; have f0_81 := (n81.keep 0 (by decide)).trans f0_80; have f1_81 := (n81.keep 1 (by decide)).trans f1_80; have f86_81 := (n81.keep 86 (by decide)).trans f86_80; have f90_81 := (n81.keep 90 (by decide)).trans f90_80; have df81 := n81.defers.trans df80; clear f0_80 f1_80 f86_80 f90_80 fd80 sz80 n81 df80
  refine sched_take oS_82 (.pointer (some ⟨b, 12, none⟩)) (guard_of oS_75 f86_81) (by rw [sz81]; decide) (cells_of H3.out.st) (fun o ho w hs => ?_) ?_
  · obtain ⟨s0, s1, s2, s3, s4, s5, s6, s7, s8, s9, s10, s11, s12⟩ := hs;  simp [execOp, ho, fd81, go_sem, s0, s1, s2, s3, s4, s5, s6, s7, s8, s9, s10, s11, s12]
  intro a83 n82; have sz82 := n82.size.trans sz81; have fd82 := n82.here; have f0_82 := (n82.keep 0 (by decide)).trans f0_81; have f1_82 := (n82.keep 1 (by decide)).trans f1_81; have f86_82 := (n82.keep 86 (by decide)).trans f86_81; have f90_82 := (n82.keep 90 (by decide)).trans f90_81; have df82 := n82.defers.trans df81; clear f0_81 f1_81 f86_81 f90_81 fd81 sz81 n82 df81
  refine sched_take oS_83 (.map (some m5)) (guard_of oS_75 f86_82) (by rw [sz82]; decide) (cells_of H3.out.st) (fun o ho w hs => ?_) ?_
  · obtain ⟨s0, s1, s2, s3, s4, s5, s6, s7, s8, s9, s10, s11, s12⟩ := hs;  simp [execOp, ho, fd82, go_sem, s0, s1, s2, s3, s4, s5, s6, s7, s8, s9, s10, s11, s12]
  intro a84 n83; have sz83 := n83.size.trans sz82; have fd83 := n83.here; have f0_83 := (n83.keep 0 (by decide)).trans f0_82; have f1_83 := (n83.keep 1 (by decide)).trans f1_82; have f86_83 := (n83.keep 86 (by decide)).trans f86_82; have f90_83 := (n83.keep 90 (by decide)).trans f90_82; have df83 := n83.defers.trans df82; clear f0_82 f1_82 f86_82 f90_82 fd82 sz82 n83 df82
  refine sched_call oS_84 (guard_of oS_75 f86_83) (by rw [sz83]; decide) 46 #[(.map (some m5)), (.map (some m5))] (fun o ho => ?_) (same_map _ b m1 m2 m3 m4 m5 _ H3.out _ (Or.inr (Or.inr rfl))) ?_
  · have e90 := eval_tmp f90_83; have e94 := eval_tmp fd83; have he := enters_of Tryz.func46 (by kernel_rfl) rfl; simp [execOp, ho, e90, e94, resolve, Deferred.ofValue, invoke, he, eval_func]
  rintro e w4 ⟨rfl, hu4⟩
  have H4 := Lib.hid (H3.out.old hu4)
  have hU4 := hU3.trans hu4
  refine ⟨_, rfl, cells_of H4.out.st, ?_⟩
  intro a85 n84; have sz84 := n84.size.trans sz83; have fd84 := n84.here; have f0_84 := (n84.keep 0 (by decide)).trans f0_83; have f1_84 := (n84.keep 1 (by decide)).trans f1_83; have f86_84 := (n84.keep 86 (by decide)).trans f86_83; have df84 := n84.defers.trans df83; clear f0_83 f1_83 f86_83 f90_83 fd83 sz83 n84 df83
  refine sched_take oS_85 (.bool true) guard_none (by rw [sz84]; decide) (cells_of H4.out.st) (fun o ho w hs => ?_) ?_
  · obtain ⟨s0, s1, s2, s3, s4, s5, s6, s7, s8, s9, s10, s11, s12⟩ := hs;  simp [execOp, ho, f86_84, fd84, go_sem, s0, s1, s2, s3, s4, s5, s6, s7, s8, s9, s10, s11, s12]
  intro a86 n85; have sz85 := n85.size.trans sz84; have fd85 := n85.here; have f0_85 := (n85.keep 0 (by decide)).trans f0_84; have f1_85 := (n85.keep 1 (by decide)).trans f1_84; have df85 := n85.defers.trans df84; clear f0_84 f1_84 f86_84 fd84 sz84 n85 df84
  refine sched_take oS_86 (.bool true) guard_none (by rw [sz85]; decide) (cells_of H4.out.st) (fun o ho w hs => ?_) ?_
  · obtain ⟨s0, s1, s2, s3, s4, s5, s6, s7, s8, s9, s10, s11, s12⟩ := hs;  simp [execOp, ho, fd85, go_sem, s0, s1, s2, s3, s4, s5, s6, s7, s8, s9, s10, s11, s12]
  intro a87 n86; have sz86 := n86.size.trans sz85; have fd86 := n86.here; have f0_86 := (n86.keep 0 (by decide)).trans f0_85; have f1_86 := (n86.keep 1 (by decide)).trans f1_85; have df86 := n86.defers.trans df85; clear f0_85 f1_85 fd85 sz85 n86 df85
  refine sched_take oS_87 (.pointer (some ⟨b, 0, none⟩)) (guard_of oS_86 fd86) (by rw [sz86]; decide) (cells_of H4.out.st) (fun o ho w hs => ?_) ?_
  · obtain ⟨s0, s1, s2, s3, s4, s5, s6, s7, s8, s9, s10, s11, s12⟩ := hs;  simp [execOp, ho, f0_86, go_sem, s0, s1, s2, s3, s4, s5, s6, s7, s8, s9, s10, s11, s12]
  intro a88 n87; have sz87 := n87.size.trans sz86; have fd87 := n87.here; have f0_87 := (n87.keep 0 (by decide)).trans f0_86; have f1_87 := (n87.keep 1 (by decide)).trans f1_86; have f97_87 := (n87.keep 97 (by decide)).trans fd86; have df87 := n87.defers.trans df86; clear f0_86 f1_86 fd86 sz86 n87 df86
  refine sched_take oS_88 (.pointer (some ⟨b, 0, none⟩)) (guard_of oS_86 f97_87) (by rw [sz87]; decide) (cells_of H4.out.st) (fun o ho w hs => ?_) ?_
  · obtain ⟨s0, s1, s2, s3, s4, s5, s6, s7, s8, s9, s10, s11, s12⟩ := hs;  simp [execOp, ho, fd87, go_sem, s0, s1, s2, s3, s4, s5, s6, s7, s8, s9, s10, s11, s12]
  intro a89 n88; have sz88 := n88.size.trans sz87; have fd88 := n88.here; have f0_88 := (n88.keep 0 (by decide)).trans f0_87; have f1_88 := (n88.keep 1 (by decide)).trans f1_87; have f97_88 := (n88.keep 97 (by decide)).trans f97_87; have df88 := n88.defers.trans df87; clear f0_87 f1_87 f97_87 fd87 sz87 n88 df87
  refine sched_take oS_89 (.pointer (some ⟨b, 5, none⟩)) (guard_of oS_86 f97_88) (by rw [sz88]; decide) (cells_of H4.out.st) (fun o ho w hs => ?_) ?_
  · obtain ⟨s0, s1, s2, s3, s4, s5, s6, s7, s8, s9, s10, s11, s12⟩ := hs;  simp [execOp, ho, fd88, go_sem, s0, s1, s2, s3, s4, s5, s6, s7, s8, s9, s10, s11, s12]
  intro a90 n89; have sz89 := n89.size.trans sz88; have fd89 := n89.here; have f0_89 := (n89.keep 0 (by decide)).trans f0_88; have f1_89 := (n89.keep 1 (by decide)).trans f1_88; have f97_89 := (n89.keep 97 (by decide)).trans f97_88; have df89 := n89.defers.trans df88; clear f0_88 f1_88 f97_88 fd88 sz88 n89 df88
  refine sched_take oS_90 (.slice (some ⟨qb, 0, none⟩) 1 1) (guard_of oS_86 f97_89) (by rw [sz89]; decide) (cells_of H4.out.st) (fun o ho w hs => ?_) ?_
  · obtain ⟨s0, s1, s2, s3, s4, s5, s6, s7, s8, s9, s10, s11, s12⟩ := hs;  simp [execOp, ho, fd89, go_sem, s0, s1, s2, s3, s4, s5, s6, s7, s8, s9, s10, s11, s12]
  intro a91 n90; have sz90 := n90.size.trans sz89; have fd90 := n90.here; have f0_90 := (n90.keep 0 (by decide)).trans f0_89; have f1_90 := (n90.keep 1 (by decide)).trans f1_89; have f97_90 := (n90.keep 97 (by decide)).trans f97_89; have df90 := n90.defers.trans df89; clear f0_89 f1_89 f97_89 fd89 sz89 n90 df89
  refine sched_take oS_91 (.pointer (some ⟨b, 0, none⟩)) (guard_of oS_86 f97_90) (by rw [sz90]; decide) (cells_of H4.out.st) (fun o ho w hs => ?_) ?_
  · obtain ⟨s0, s1, s2, s3, s4, s5, s6, s7, s8, s9, s10, s11, s12⟩ := hs;  simp [execOp, ho, f1_90, go_sem, s0, s1, s2, s3, s4, s5, s6, s7, s8, s9, s10, s11, s12]
  intro a92 n91; have sz91 := n91.size.trans sz90; have fd91 := n91.here; have f0_91 := (n91.keep 0 (by decide)).trans f0_90; have f1_91 := (n91.keep 1 (by decide)).trans f1_90; have f97_91 := (n91.keep 97 (by decide)).trans f97_90; have f101_91 := (n91.keep 101 (by decide)).trans fd90; have df91 := n91.defers.trans df90; clear f0_90 f1_90 f97_90 fd90 sz90 n91 df90
  refine sched_take oS_92 (.pointer (some ⟨b, 0, none⟩)) (guard_of oS_86 f97_91) (by rw [sz91]; decide) (cells_of H4.out.st) (fun o ho w hs => ?_) ?_
  · obtain ⟨s0, s1, s2, s3, s4, s5, s6, s7, s8, s9, s10, s11, s12⟩ := hs;  simp [execOp, ho, fd91, go_sem, s0, s1, s2, s3, s4, s5, s6, s7, s8, s9, s10, s11, s12]
  intro a93 n92; have sz92 := n92.size.trans sz91; have fd92 := n92.here; have f0_92 := (n92.keep 0 (by decide)).trans f0_91; have f1_92 := (n92.keep 1 (by decide)).trans f1_91; have f97_92 := (n92.keep 97 (by decide)).trans f97_91; have f101_92 := (n92.keep 101 (by decide)).trans f101_91; have df92 := n92.defers.trans df91; clear f0_91 f1_91 f97_91 f101_91 fd91 sz91 n92 df91
  refine sched_take oS_93 (.pointer (some ⟨b, 5, none⟩)) (guard_of oS_86 f97_92) (by rw [sz92]; decide) (cells_of H4.out.st) (fun o ho w hs => ?_) ?_
  · obtain ⟨s0, s1, s2, s3, s4, s5, s6, s7, s8, s9, s10, s11, s12⟩ := hs;  simp [execOp, ho, fd92, go_sem, s0, s1, s2, s3, s4, s5, s6, s7, s8, s9, s10, s11, s12]
  intro a94 n93; have sz93 := n93.size.trans sz92; have fd93 := n93.here; have f0_93 := (n93.keep 0 (by decide)).trans f0_92; have f1_93 := (n93.keep 1 (by decide)).trans f1_92; have f97_93 := (n93.keep 97 (by decide)).trans f97_92; have f101_93 := (n93.keep 101 (by decide)).trans f101_92; have df93 := n93.defers.trans df92; clear f0_92 f1_92 f97_92 f101_92 fd92 sz92 n93 df92
  refine sched_take oS_94 (.slice (some ⟨qb, 0, none⟩) 1 1) (guard_of oS_86 f97_93) (by rw [sz93]; decide) (cells_of H4.out.st) (fun o ho w hs => ?_) ?_
  · obtain ⟨s0, s1, s2, s3, s4, s5, s6, s7, s8, s9, s10, s11, s12⟩ := hs;  simp [execOp, ho, fd93, go_sem, s0, s1, s2, s3, s4, s5, s6, s7, s8, s9, s10, s11, s12]
  intro a95 n94; have sz94 := n94.size.trans sz93; have fd94 := n94.here; have f0_94 := (n94.keep 0 (by decide)).trans f0_93; have f1_94 := (n94.keep 1 (by decide)).trans f1_93; have f97_94 := (n94.keep 97 (by decide)).trans f97_93; have f101_94 := (n94.keep 101 (by decide)).trans f101_93; have df94 := n94.defers.trans df93; clear f0_93 f1_93 f97_93 f101_93 fd93 sz93 n94 df93
  refine sched_call oS_95 (guard_of oS_86 f97_94) (by rw [sz94]; decide) 48 #[(.slice (some ⟨qb, 0, none⟩) 1 1), (.slice (some ⟨qb, 0, none⟩) 1 1), (.func (.func 49) #[] #[])] (fun o ho => ?_) (quorumsEqual _ _ H4.out.qu) ?_
  · have e101 := eval_tmp f101_94; have e105 := eval_tmp fd94; have he := enters_of Tryz.func48 (by kernel_rfl) rfl; simp [execOp, ho, e101, e105, resolve, Deferred.ofValue, invoke, he, eval_func]
  rintro e w5 ⟨rfl, hu5⟩
  have H5 := Lib.hid (H4.out.old hu5)
  have hU5 := hU4.trans hu5
  refine ⟨_, rfl, cells_of H5.out.st, ?_⟩
  intro a96 n95; have sz95 := n95.size.trans sz94; have fd95 := n95.here; have f0_95 := (n95.keep 0 (by decide)).trans f0_94; have f1_95 := (n95.keep 1 (by decide)).trans f1_94; have f97_95 := (n95.keep 97 (by decide)).trans f97_94; have df95 := n95.defers.trans df94; clear f0_94 f1_94 f97_94 f101_94 fd94 sz94 n95 df94
  refine sched_take oS_96 (.bool true) guard_none (by rw [sz95]; decide) (cells_of H5.out.st) (fun o ho w hs => ?_) ?_
  · obtain ⟨s0, s1, s2, s3, s4, s5, s6, s7, s8, s9, s10, s11, s12⟩ := hs;  simp [execOp, ho, f97_95, fd95, go_sem, s0, s1, s2, s3, s4, s5, s6, s7, s8, s9, s10, s11, s12]
  intro a97 n96; have sz96 := n96.size.trans sz95; have fd96 := n96.here; have f0_96 := (n96.keep 0 (by decide)).trans f0_95; have f1_96 := (n96.keep 1 (by decide)).trans f1_95; have df96 := n96.defers.trans df95; clear f0_95 f1_95 f97_95 fd95 sz95 n96 df95
  refine sched_take oS_97 (.bool true) guard_none (by rw [sz96]; decide) (cells_of H5.out.st) (fun o ho w hs => ?_) ?_
  · obtain ⟨s0, s1, s2, s3, s4, s5, s6, s7, s8, s9, s10, s11, s12⟩ := hs;  simp [execOp, ho, fd96, go_sem, s0, s1, s2, s3, s4, s5, s6, s7, s8, s9, s10, s11, s12]
  intro a98 n97; have sz97 := n97.size.trans sz96; have fd97 := n97.here; have f0_97 := (n97.keep 0 (by decide)).trans f0_96; have f1_97 := (n97.keep 1 (by decide)).trans f1_96; have df97 := n97.defers.trans df96; clear f0_96 f1_96 fd96 sz96 n97 df96
  refine sched_take oS_98 (.pointer (some ⟨b, 0, none⟩)) (guard_of oS_97 fd97) (by rw [sz97]; decide) (cells_of H5.out.st) (fun o ho w hs => ?_) ?_
  · obtain ⟨s0, s1, s2, s3, s4, s5, s6, s7, s8, s9, s10, s11, s12⟩ := hs;  simp [execOp, ho, f0_97, go_sem, s0, s1, s2, s3, s4, s5, s6, s7, s8, s9, s10, s11, s12]
  intro a99 n98; have sz98 := n98.size.trans sz97; have fd98 := n98.here; have f0_98 := (n98.keep 0 (by decide)).trans f0_97; have f1_98 := (n98.keep 1 (by decide)).trans f1_97; have f108_98 := (n98.keep 108 (by decide)).trans fd97; have df98 := n98.defers.trans df97; clear f0_97 f1_97 fd97 sz97 n98 df97
  refine sched_take oS_99 (.pointer (some ⟨b, 0, none⟩)) (guard_of oS_97 f108_98) (by rw [sz98]; decide) (cells_of H5.out.st) (fun o ho w hs => ?_) ?_
  · obtain ⟨s0, s1, s2, s3, s4, s5, s6, s7, s8, s9, s10, s11, s12⟩ := hs;  simp [execOp, ho, fd98, go_sem, s0, s1, s2, s3, s4, s5, s6, s7, s8, s9, s10, s11, s12]
  intro a100 n99; have sz99 := n99.size.trans sz98; have fd99 := n99.here; have f0_99 := (n99.keep 0 (by decide)).trans f0_98; have f1_99 := (n99.keep 1 (by decide)).trans f1_98; have f108_99 := (n99.keep 108 (by decide)).trans f108_98; have df99 := n99.defers.trans df98; clear f0_98 f1_98 f108_98 fd98 sz98 n99 df98
  refine sched_take oS_100 (.pointer (some ⟨b, 10, none⟩)) (guard_of oS_97 f108_99) (by rw [sz99]; decide) (cells_of H5.out.st) (fun o ho w hs => ?_) ?_
  · obtain ⟨s0, s1, s2, s3, s4, s5, s6, s7, s8, s9, s10, s11, s12⟩ := hs;  simp [execOp, ho, fd99, go_sem, s0, s1, s2, s3, s4, s5, s6, s7, s8, s9, s10, s11, s12]
  intro a101 n100; have sz100 := n100.size.trans sz99; have fd100 := n100.here; have f0_100 := (n100.keep 0 (by decide)).trans f0_99; have f1_100 := (n100.keep 1 (by decide)).trans f1_99; have f108_100 := (n100.keep 108 (by decide)).trans f108_99; have df100 := n100.defers.trans df99; clear f0_99 f1_99 f108_99 fd99 sz99 n100 df99
  refine sched_take oS_101 (.slice none 0 0) (guard_of oS_97 f108_100) (by rw [sz100]; decide) (cells_of H5.out.st) (fun o ho w hs => ?_) ?_
  · obtain ⟨s0, s1, s2, s3, s4, s5, s6, s7, s8, s9, s10, s11, s12⟩ := hs;  simp [execOp, ho, fd100, go_sem, s0, s1, s2, s3, s4, s5, s6, s7, s8, s9, s10, s11, s12]
  intro a102 n101; have sz101 := n101.size.trans sz100; have fd101 := n101.here; have f0_101 := (n101.keep 0 (by decide)).trans f0_100; have f1_101 := (n101.keep 1 (by decide)).trans f1_100; have f108_101 := (n101.keep 108 (by decide)).trans f108_100; have df101 := n101.defers.trans df100; clear f0_100 f1_100 f108_100 fd100 sz100 n101 df100
  refine sched_take oS_102 (.pointer (some ⟨b, 0, none⟩)) (guard_of oS_97 f108_101) (by rw [sz101]; decide) (cells_of H5.out.st) (fun o ho w hs => ?_) ?_
  · obtain ⟨s0, s1, s2, s3, s4, s5, s6, s7, s8, s9, s10, s11, s12⟩ := hs;  simp [execOp, ho, f1_101, go_sem, s0, s1, s2, s3, s4, s5, s6, s7, s8, s9, s10, s11, s12]
  intro a103 n102; have sz102 := n102.size.trans sz101; have fd102 := n102.here; have f0_102 := (n102.keep 0 (by decide)).trans f0_101; have f1_102 := (n102.keep 1 (by decide)).trans f1_101; have f108_102 := (n102.keep 108 (by decide)).trans f108_101; have f112_102 := (n102.keep 112 (by decide)).trans fd101; have df102 := n102.defers.trans df101; clear f0_101 f1_101 f108_101 fd101 sz101 n102 df101
  refine sched_take oS_103 (.pointer (some ⟨b, 0, none⟩)) (guard_of oS_97 f108_102) (by rw [sz102]; decide) (cells_of H5.out.st) (fun o ho w hs => ?_) ?_
  · obtain ⟨s0, s1, s2, s3, s4, s5, s6, s7, s8, s9, s10, s11, s12⟩ := hs;  simp [execOp, ho, fd102, go_sem, s0, s1, s2, s3, s4, s5, s6, s7, s8, s9, s10, s11, s12]
  intro a104 n103; have sz103 := n103.size.trans sz102; have fd103 := n103.here; have f0_103 := (n103.keep 0 (by decide)).trans f0_102; have f1_103 := (n103.keep 1 (by decide)).trans f1_102; have f108_103 := (n103.keep 108 (by decide)).trans f108_102; have f112_103 := (n103.keep 112 (by decide)).trans f112_102; have df103 := n103.defers.trans df102; clear f0_102 f1_102 f108_102 f112_102 fd102 sz102 n103 df102
  refine sched_take oS_104 (.pointer (some ⟨b, 10, none⟩)) (guard_of oS_97 f108_103) (by rw [sz103]; decide) (cells_of H5.out.st) (fun o ho w hs => ?_) ?_
  · obtain ⟨s0, s1, s2, s3, s4, s5, s6, s7, s8, s9, s10, s11, s12⟩ := hs;  simp [execOp, ho, fd103, go_sem, s0, s1, s2, s3, s4, s5, s6, s7, s8, s9, s10, s11, s12]
  intro a105 n104; have sz104 := n104.size.trans sz103; have fd104 := n104.here; have f0_104 := (n104.keep 0 (by decide)).trans f0_103; have f1_104 := (n104.keep 1 (by decide)).trans f1_103; have f108_104 := (n104.keep 108 (by decide)).trans f108_103; have f112_104 := (n104.keep 112 (by decide)).trans f112_103; have df104 := n104.defers.trans df103; clear f0_103 f1_103 f108_103 f112_103 fd103 sz103 n104 df103
  refine sched_take oS_105 (.slice none 0 0) (guard_of oS_97 f108_104) (by rw [sz104]; decide) (cells_of H5.out.st) (fun o ho w hs => ?_) ?_
  · obtain ⟨s0, s1, s2, s3, s4, s5, s6, s7, s8, s9, s10, s11, s12⟩ := hs;  simp [execOp, ho, fd104, go_sem, s0, s1, s2, s3, s4, s5, s6, s7, s8, s9, s10, s11, s12]
  intro a106 n105; have sz105 := n105.size.trans sz104; have fd105 := n105.here; have f0_105 := (n105.keep 0 (by decide)).trans f0_104; have f1_105 := (n105.keep 1 (by decide)).trans f1_104; have f108_105 := (n105.keep 108 (by decide)).trans f108_104; have f112_105 := (n105.keep 112 (by decide)).trans f112_104; have df105 := n105.defers.trans df104; clear f0_104 f1_104 f108_104 f112_104 fd104 sz104 n105 df104
  refine sched_call oS_106 (guard_of oS_97 f108_105) (by rw [sz105]; decide) 51 #[(.slice none 0 0), (.slice none 0 0)] (fun o ho => ?_) (movesEqual _) ?_
  · have e112 := eval_tmp f112_105; have e116 := eval_tmp fd105; have he := enters_of Tryz.func51 (by kernel_rfl) rfl; simp [execOp, ho, e112, e116, resolve, Deferred.ofValue, invoke, he, eval_func]
  rintro e w6 ⟨rfl, hu6⟩
  have hu6 := same_upd hu6
  have H6 := Lib.hid (H5.out.old hu6)
  have hU6 := hU5.trans hu6
  refine ⟨_, rfl, cells_of H6.out.st, ?_⟩
  intro a107 n106; have sz106 := n106.size.trans sz105; have fd106 := n106.here; have f0_106 := (n106.keep 0 (by decide)).trans f0_105; have f1_106 := (n106.keep 1 (by decide)).trans f1_105; have f108_106 := (n106.keep 108 (by decide)).trans f108_105; have df106 := n106.defers.trans df105; clear f0_105 f1_105 f108_105 f112_105 fd105 sz105 n106 df105
  refine sched_take oS_107 (.bool true) guard_none (by rw [sz106]; decide) (cells_of H6.out.st) (fun o ho w hs => ?_) ?_
  · obtain ⟨s0, s1, s2, s3, s4, s5, s6, s7, s8, s9, s10, s11, s12⟩ := hs;  simp [execOp, ho, f108_106, fd106, go_sem, s0, s1, s2, s3, s4, s5, s6, s7, s8, s9, s10, s11, s12]
  intro a108 n107; have sz107 := n107.size.trans sz106; have fd107 := n107.here; have f0_107 := (n107.keep 0 (by decide)).trans f0_106; have f1_107 := (n107.keep 1 (by decide)).trans f1_106; have df107 := n107.defers.trans df106; clear f0_106 f1_106 f108_106 fd106 sz106 n107 df106
  refine sched_take oS_108 (.bool true) guard_none (by rw [sz107]; decide) (cells_of H6.out.st) (fun o ho w hs => ?_) ?_
  · obtain ⟨s0, s1, s2, s3, s4, s5, s6, s7, s8, s9, s10, s11, s12⟩ := hs;  simp [execOp, ho, fd107, go_sem, s0, s1, s2, s3, s4, s5, s6, s7, s8, s9, s10, s11, s12]
  intro a109 n108; have sz108 := n108.size.trans sz107; have fd108 := n108.here; have f0_108 := (n108.keep 0 (by decide)).trans f0_107; have f1_108 := (n108.keep 1 (by decide)).trans f1_107; have df108 := n108.defers.trans df107; clear f0_107 f1_107 fd107 sz107 n108 df107
  refine sched_take oS_109 (.pointer (some ⟨b, 0, none⟩)) (guard_of oS_108 fd108) (by rw [sz108]; decide) (cells_of H6.out.st) (fun o ho w hs => ?_) ?_
  · obtain ⟨s0, s1, s2, s3, s4, s5, s6, s7, s8, s9, s10, s11, s12⟩ := hs;  simp [execOp, ho, f0_108, go_sem, s0, s1, s2, s3, s4, s5, s6, s7, s8, s9, s10, s11, s12]
  intro a110 n109; have sz109 := n109.size.trans sz108; have fd109 := n109.here; have f0_109 := (n109.keep 0 (by decide)).trans f0_108; have f1_109 := (n109.keep 1 (by decide)).trans f1_108; have f119_109 := (n109.keep 119 (by decide)).trans fd108; have df109 := n109.defers.trans df108; clear f0_108 f1_108 fd108 sz108 n109 df108
  refine sched_take oS_110 (.pointer (some ⟨b, 0, none⟩)) (guard_of oS_108 f119_109) (by rw [sz109]; decide) (cells_of H6.out.st) (fun o ho w hs => ?_) ?_
  · obtain ⟨s0, s1, s2, s3, s4, s5, s6, s7, s8, s9, s10, s11, s12⟩ := hs;  simp [execOp, ho, fd109, go_sem, s0, s1, s2, s3, s4, s5, s6, s7, s8, s9, s10, s11, s12]
  intro a111 n110; have sz110 := n110.size.trans sz109; have fd110 := n110.here; have f0_110 := (n110.keep 0 (by decide)).trans f0_109; have f1_110 := (n110.keep 1 (by decide)).trans f1_109; have f119_110 := (n110.keep 119 (by decide)).trans f119_109; have df110 := n110.defers.trans df109; clear f0_109 f1_109 f119_109 fd109 sz109 n110 df109
  refine sched_take oS_111 (.pointer (some ⟨b, 11, none⟩)) (guard_of oS_108 f119_110) (by rw [sz110]; decide) (cells_of H6.out.st) (fun o ho w hs => ?_) ?_
  · obtain ⟨s0, s1, s2, s3, s4, s5, s6, s7, s8, s9, s10, s11, s12⟩ := hs;  simp [execOp, ho, fd110, go_sem, s0, s1, s2, s3, s4, s5, s6, s7, s8, s9, s10, s11, s12]
  intro a112 n111; have sz111 := n111.size.trans sz110; have fd111 := n111.here; have f0_111 := (n111.keep 0 (by decide)).trans f0_110; have f1_111 := (n111.keep 1 (by decide)).trans f1_110; have f119_111 := (n111.keep 119 (by decide)).trans f119_110; have df111 := n111.defers.trans df110; clear f0_110 f1_110 f119_110 fd110 sz110 n111 df110
  refine sched_take oS_112 (.slice none 0 0) (guard_of oS_108 f119_111) (by rw [sz111]; decide) (cells_of H6.out.st) (fun o ho w hs => ?_) ?_
  · obtain ⟨s0, s1, s2, s3, s4, s5, s6, s7, s8, s9, s10, s11, s12⟩ := hs;  simp [execOp, ho, fd111, go_sem, s0, s1, s2, s3, s4, s5, s6, s7, s8, s9, s10, s11, s12]
  intro a113 n112; have sz112 := n112.size.trans sz111; have fd112 := n112.here; have f0_112 := (n112.keep 0 (by decide)).trans f0_111; have f1_112 := (n112.keep 1 (by decide)).trans f1_111; have f119_112 := (n112.keep 119 (by decide)).trans f119_111; have df112 := n112.defers.trans df111; clear f0_111 f1_111 f119_111 fd111 sz111 n112 df111
  refine sched_take oS_113 (.pointer (some ⟨b, 0, none⟩)) (guard_of oS_108 f119_112) (by rw [sz112]; decide) (cells_of H6.out.st) (fun o ho w hs => ?_) ?_
  · obtain ⟨s0, s1, s2, s3, s4, s5, s6, s7, s8, s9, s10, s11, s12⟩ := hs;  simp [execOp, ho, f1_112, go_sem, s0, s1, s2, s3, s4, s5, s6, s7, s8, s9, s10, s11, s12]
  intro a114 n113; have sz113 := n113.size.trans sz112; have fd113 := n113.here; have f0_113 := (n113.keep 0 (by decide)).trans f0_112; have f1_113 := (n113.keep 1 (by decide)).trans f1_112; have f119_113 := (n113.keep 119 (by decide)).trans f119_112; have f123_113 := (n113.keep 123 (by decide)).trans fd112; have df113 := n113.defers.trans df112; clear f0_112 f1_112 f119_112 fd112 sz112 n113 df112
  refine sched_take oS_114 (.pointer (some ⟨b, 0, none⟩)) (guard_of oS_108 f119_113) (by rw [sz113]; decide) (cells_of H6.out.st) (fun o ho w hs => ?_) ?_
  · obtain ⟨s0, s1, s2, s3, s4, s5, s6, s7, s8, s9, s10, s11, s12⟩ := hs;  simp [execOp, ho, fd113, go_sem, s0, s1, s2, s3, s4, s5, s6, s7, s8, s9, s10, s11, s12]
  intro a115 n114; have sz114 := n114.size.trans sz113; have fd114 := n114.here; have f0_114 := (n114.keep 0 (by decide)).trans f0_113; have f1_114 := (n114.keep 1 (by decide)).trans f1_113; have f119_114 := (n114.keep 119 (by decide)).trans f119_113; have f123_114 := (n114.keep 123 (by decide)).trans f123_113; have df114 := n114.defers.trans df113; clear f0_113 f1_113 f119_113 f123_113 fd113 sz113 n114 df113
  refine sched_take oS_115 (.pointer (some ⟨b, 11, none⟩)) (guard_of oS_108 f119_114) (by rw [sz114]; decide) (cells_of H6.out.st) (fun o ho w hs => ?_) ?_
  · obtain ⟨s0, s1, s2, s3, s4, s5, s6, s7, s8, s9, s10, s11, s12⟩ := hs;  simp [execOp, ho, fd114, go_sem, s0, s1, s2, s3, s4, s5, s6, s7, s8, s9, s10, s11, s12]
  intro a116 n115; have sz115 := n115.size.trans sz114; have fd115 := n115.here; have f0_115 := (n115.keep 0 (by decide)).trans f0_114; have f1_115 := (n115.keep 1 (by decide)).trans f1_114; have f119_115 := (n115.keep 119 (by decide)).trans f119_114; have f123_115 := (n115.keep 123 (by decide)).trans f123_114; have df115 := n115.defers.trans df114; clear f0_114 f1_114 f119_114 f123_114 fd114 sz114 n115 df114
  refine sched_take oS_116 (.slice none 0 0) (guard_of oS_108 f119_115) (by rw [sz115]; decide) (cells_of H6.out.st) (fun o ho w hs => ?_) ?_
  · obtain ⟨s0, s1, s2, s3, s4, s5, s6, s7, s8, s9, s10, s11, s12⟩ := hs;  simp [execOp, ho, fd115, go_sem, s0, s1, s2, s3, s4, s5, s6, s7, s8, s9, s10, s11, s12]
  intro a117 n116; have sz116 := n116.size.trans sz115; have fd116 := n116.here; have f0_116 := (n116.keep 0 (by decide)).trans f0_115; have f1_116 := (n116.keep 1 (by decide)).trans f1_115; have f119_116 := (n116.keep 119 (by decide)).trans f119_115; have f123_116 := (n116.keep 123 (by decide)).trans f123_115; have df116 := n116.defers.trans df115; clear f0_115 f1_115 f119_115 f123_115 fd115 sz115 n116 df115
  refine sched_call oS_117 (guard_of oS_108 f119_116) (by rw [sz116]; decide) 52 #[(.slice none 0 0), (.slice none 0 0), (.func (.func 53) #[] #[])] (fun o ho => ?_) (recodesEqual _) ?_
  · have e123 := eval_tmp f123_116; have e127 := eval_tmp fd116; have he := enters_of Tryz.func52 (by kernel_rfl) rfl; simp [execOp, ho, e123, e127, resolve, Deferred.ofValue, invoke, he, eval_func]
  rintro e w7 ⟨rfl, hu7⟩
  have hu7 := same_upd hu7
  have H7 := Lib.hid (H6.out.old hu7)
  have hU7 := hU6.trans hu7
  refine ⟨_, rfl, cells_of H7.out.st, ?_⟩
  intro a118 n117; have sz117 := n117.size.trans sz116; have fd117 := n117.here; have f0_117 := (n117.keep 0 (by decide)).trans f0_116; have f1_117 := (n117.keep 1 (by decide)).trans f1_116; have f119_117 := (n117.keep 119 (by decide)).trans f119_116; have df117 := n117.defers.trans df116; clear f0_116 f1_116 f119_116 f123_116 fd116 sz116 n117 df116
  refine sched_take oS_118 (.bool true) guard_none (by rw [sz117]; decide) (cells_of H7.out.st) (fun o ho w hs => ?_) ?_
  · obtain ⟨s0, s1, s2, s3, s4, s5, s6, s7, s8, s9, s10, s11, s12⟩ := hs;  simp [execOp, ho, f119_117, fd117, go_sem, s0, s1, s2, s3, s4, s5, s6, s7, s8, s9, s10, s11, s12]
  intro a119 n118; have sz118 := n118.size.trans sz117; have fd118 := n118.here; have f0_118 := (n118.keep 0 (by decide)).trans f0_117; have f1_118 := (n118.keep 1 (by decide)).trans f1_117; have df118 := n118.defers.trans df117; clear f0_117 f1_117 f119_117 fd117 sz117 n118 df117
  refine sched_take oS_119 (.bool true) guard_none (by rw [sz118]; decide) (cells_of H7.out.st) (fun o ho w hs => ?_) ?_
  · obtain ⟨s0, s1, s2, s3, s4, s5, s6, s7, s8, s9, s10, s11, s12⟩ := hs;  simp [execOp, ho, fd118, go_sem, s0, s1, s2, s3, s4, s5, s6, s7, s8, s9, s10, s11, s12]
  intro a120 n119; have sz119 := n119.size.trans sz118; have fd119 := n119.here; have f0_119 := (n119.keep 0 (by decide)).trans f0_118; have f1_119 := (n119.keep 1 (by decide)).trans f1_118; have df119 := n119.defers.trans df118; clear f0_118 f1_118 fd118 sz118 n119 df118
  refine sched_take oS_120 (.pointer (some ⟨b, 0, none⟩)) (guard_of oS_119 fd119) (by rw [sz119]; decide) (cells_of H7.out.st) (fun o ho w hs => ?_) ?_
  · obtain ⟨s0, s1, s2, s3, s4, s5, s6, s7, s8, s9, s10, s11, s12⟩ := hs;  simp [execOp, ho, f0_119, go_sem, s0, s1, s2, s3, s4, s5, s6, s7, s8, s9, s10, s11, s12]
  intro a121 n120; have sz120 := n120.size.trans sz119; have fd120 := n120.here; have f1_120 := (n120.keep 1 (by decide)).trans f1_119; have f130_120 := (n120.keep 130 (by decide)).trans fd119; have df120 := n120.defers.trans df119; clear f0_119 f1_119 fd119 sz119 n120 df119
  refine sched_take oS_121 (.pointer (some ⟨b, 0, none⟩)) (guard_of oS_119 f130_120) (by rw [sz120]; decide) (cells_of H7.out.st) (fun o ho w hs => ?_) ?_
  · obtain ⟨s0, s1, s2, s3, s4, s5, s6, s7, s8, s9, s10, s11, s12⟩ := hs;  simp [execOp, ho, fd120, go_sem, s0, s1, s2, s3, s4, s5, s6, s7, s8, s9, s10, s11, s12]
  intro a122 n121; have sz121 := n121.size.trans sz120; have fd121 := n121.here; have f1_121 := (n121.keep 1 (by decide)).trans f1_120; have f130_121 := (n121.keep 130 (by decide)).trans f130_120; have df121 := n121.defers.trans df120; clear f1_120 f130_120 fd120 sz120 n121 df120
  refine sched_take oS_122 (.pointer (some ⟨b, 8, none⟩)) (guard_of oS_119 f130_121) (by rw [sz121]; decide) (cells_of H7.out.st) (fun o ho w hs => ?_) ?_
  · obtain ⟨s0, s1, s2, s3, s4, s5, s6, s7, s8, s9, s10, s11, s12⟩ := hs;  simp [execOp, ho, fd121, go_sem, s0, s1, s2, s3, s4, s5, s6, s7, s8, s9, s10, s11, s12]
  intro a123 n122; have sz122 := n122.size.trans sz121; have fd122 := n122.here; have f1_122 := (n122.keep 1 (by decide)).trans f1_121; have f130_122 := (n122.keep 130 (by decide)).trans f130_121; have df122 := n122.defers.trans df121; clear f1_121 f130_121 fd121 sz121 n122 df121
  refine sched_take oS_123 (.map (some m3)) (guard_of oS_119 f130_122) (by rw [sz122]; decide) (cells_of H7.out.st) (fun o ho w hs => ?_) ?_
  · obtain ⟨s0, s1, s2, s3, s4, s5, s6, s7, s8, s9, s10, s11, s12⟩ := hs;  simp [execOp, ho, fd122, go_sem, s0, s1, s2, s3, s4, s5, s6, s7, s8, s9, s10, s11, s12]
  intro a124 n123; have sz123 := n123.size.trans sz122; have fd123 := n123.here; have f1_123 := (n123.keep 1 (by decide)).trans f1_122; have f130_123 := (n123.keep 130 (by decide)).trans f130_122; have df123 := n123.defers.trans df122; clear f1_122 f130_122 fd122 sz122 n123 df122
  refine sched_take oS_124 (.pointer (some ⟨b, 0, none⟩)) (guard_of oS_119 f130_123) (by rw [sz123]; decide) (cells_of H7.out.st) (fun o ho w hs => ?_) ?_
  · obtain ⟨s0, s1, s2, s3, s4, s5, s6, s7, s8, s9, s10, s11, s12⟩ := hs;  simp [execOp, ho, f1_123, go_sem, s0, s1, s2, s3, s4, s5, s6, s7, s8, s9, s10, s11, s12]
  intro a125 n124; have sz124 := n124.size.trans sz123; have fd124 := n124.here; have f130_124 := (n124.keep 130 (by decide)).trans f130_123; have f134_124 := (n124.keep 134 (by decide)).trans fd123; have df124 := n124.defers.trans df123; clear f1_123 f130_123 fd123 sz123 n124 df123
  refine sched_take oS_125 (.pointer (some ⟨b, 0, none⟩)) (guard_of oS_119 f130_124) (by rw [sz124]; decide) (cells_of H7.out.st) (fun o ho w hs => ?_) ?_
  · obtain ⟨s0, s1, s2, s3, s4, s5, s6, s7, s8, s9, s10, s11, s12⟩ := hs;  simp [execOp, ho, fd124, go_sem, s0, s1, s2, s3, s4, s5, s6, s7, s8, s9, s10, s11, s12]
  intro a126 n125; have sz125 := n125.size.trans sz124; have fd125 := n125.here; have f130_125 := (n125.keep 130 (by decide)).trans f130_124; have f134_125 := (n125.keep 134 (by decide)).trans f134_124; have df125 := n125.defers.trans df124; clear f130_124 f134_124 fd124 sz124 n125 df124
  refine sched_take oS_126 (.pointer (some ⟨b, 8, none⟩)) (guard_of oS_119 f130_125) (by rw [sz125]; decide) (cells_of H7.out.st) (fun o ho w hs => ?_) ?_
  · obtain ⟨s0, s1, s2, s3, s4, s5, s6, s7, s8, s9, s10, s11, s12⟩ := hs;  simp [execOp, ho, fd125, go_sem, s0, s1, s2, s3, s4, s5, s6, s7, s8, s9, s10, s11, s12]
  intro a127 n126; have sz126 := n126.size.trans sz125; have fd126 := n126.here; have f130_126 := (n126.keep 130 (by decide)).trans f130_125; have f134_126 := (n126.keep 134 (by decide)).trans f134_125; have df126 := n126.defers.trans df125; clear f130_125 f134_125 fd125 sz125 n126 df125
  refine sched_take oS_127 (.map (some m3)) (guard_of oS_119 f130_126) (by rw [sz126]; decide) (cells_of H7.out.st) (fun o ho w hs => ?_) ?_
  · obtain ⟨s0, s1, s2, s3, s4, s5, s6, s7, s8, s9, s10, s11, s12⟩ := hs;  simp [execOp, ho, fd126, go_sem, s0, s1, s2, s3, s4, s5, s6, s7, s8, s9, s10, s11, s12]
  intro a128 n127; have sz127 := n127.size.trans sz126; have fd127 := n127.here; have f130_127 := (n127.keep 130 (by decide)).trans f130_126; have f134_127 := (n127.keep 134 (by decide)).trans f134_126; have df127 := n127.defers.trans df126; clear f130_126 f134_126 fd126 sz126 n127 df126
  refine sched_call oS_128 (guard_of oS_119 f130_127) (by rw [sz127]; decide) 54 #[(.map (some m3)), (.map (some m3)), (.func (.func 55) #[] #[])] (fun o ho => ?_) (entryEqual _ m3 H7.out.st.i3) ?_
  · have e134 := eval_tmp f134_127; have e138 := eval_tmp fd127; have he := enters_of Tryz.func54 (by kernel_rfl) rfl; simp [execOp, ho, e134, e138, resolve, Deferred.ofValue, invoke, he, eval_func]
  rintro e w8 ⟨rfl, hu8⟩
  have H8 := Lib.hid (H7.out.old hu8)
  have hU8 := hU7.trans hu8
  refine ⟨_, rfl, cells_of H8.out.st, ?_⟩
  intro a129 n128; have sz128 := n128.size.trans sz127; have fd128 := n128.here; have f130_128 := (n128.keep 130 (by decide)).trans f130_127; have df128 := n128.defers.trans df127; clear f130_127 f134_127 fd127 sz127 n128 df127
  refine sched_take oS_129 (.bool true) guard_none (by rw [sz128]; decide) (cells_of H8.out.st) (fun o ho w hs => ?_) ?_
  · obtain ⟨s0, s1, s2, s3, s4, s5, s6, s7, s8, s9, s10, s11, s12⟩ := hs;  simp [execOp, ho, f130_128, fd128, go_sem, s0, s1, s2, s3, s4, s5, s6, s7, s8, s9, s10, s11, s12]
  intro a130 n129; have sz129 := n129.size.trans sz128; have fd129 := n129.here; have df129 := n129.defers.trans df128; clear f130_128 fd128 sz128 n129 df128
  refine sched_take oS_130 (.bool true) guard_none (by rw [sz129]; decide) (cells_of H8.out.st) (fun o ho w hs => ?_) ?_
  · obtain ⟨s0, s1, s2, s3, s4, s5, s6, s7, s8, s9, s10, s11, s12⟩ := hs;  simp [execOp, ho, fd129, go_sem, s0, s1, s2, s3, s4, s5, s6, s7, s8, s9, s10, s11, s12]
  intro a131 n130; have sz130 := n130.size.trans sz129; have fd130 := n130.here; have df130 := n130.defers.trans df129; clear fd129 sz129 n130 df129
  exact hend _ _ fd130 df130 hU8

end Go.Proofs.YtmpjbolopgccpaaGreat
