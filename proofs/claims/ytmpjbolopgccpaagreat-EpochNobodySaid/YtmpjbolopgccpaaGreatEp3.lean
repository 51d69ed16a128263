/-
  EpochNobody: New of one node that votes.
-/
import Derived.Test.YtmpjbolopgccpaaGreatEp2
import Derived.Test.YtmpjbolopgccpaaGreatIntOwn
import Derived.OwnWalk
import Derived.Deep.DeepMust
set_option linter.unusedVariables false
namespace Go.Proofs.YtmpjbolopgccpaaGreat
open Go Go.RowKit Go.MapKept Go.ChangeMaps
set_option linter.unusedVariables false

set_option maxRecDepth 100000 in
theorem can_one (w : World) : Calls Tryz.prog 56 #[.agg #[.int .i64 1, .int .i64 0]] w (BoolPost w true) := by
  go_enter Tryz.func56, Tryz.ntmps56
  go_wp2
  go_ret
  exact ⟨rfl, (Upd.refl _ _).alloc _⟩
theorem put_bool (w : World) (b : Nat) (k : Int) (v : Value) : (Instr.mapUpdate 29 (.map (some b)) (.int .i64 k) v).run Tryz.prog w = putR w b k v (PutElse Tryz.prog 29 b k v w) (w.im b) :=
  run_mapUpdate_any Tryz.underlying29 Tryz.underlying3 w b k v
/-- A state at block b: five maps, its quorums. -/
structure StAt (w : World) (b m1 m2 m3 m4 m5 : Nat) (q : Value) : Prop where
  c0 : w.cell? ⟨b, 0, none⟩ = some (.int .i64 1)
  c1 : w.cell? ⟨b, 1, none⟩ = some (.int .i64 1)
  c2 : w.cell? ⟨b, 2, none⟩ = some (.int .i64 1)
  c3 : w.cell? ⟨b, 3, none⟩ = some (.map (some m1))
  c4 : w.cell? ⟨b, 4, none⟩ = some (.map (some m2))
  c5 : w.cell? ⟨b, 5, none⟩ = some q
  c6 : w.cell? ⟨b, 6, none⟩ = some (.int .i64 1)
  c7 : w.cell? ⟨b, 7, none⟩ = some (.int .i64 0)
  c8 : w.cell? ⟨b, 8, none⟩ = some (.map (some m3))
  c9 : w.cell? ⟨b, 9, none⟩ = some (.map (some m4))
  c10 : w.cell? ⟨b, 10, none⟩ = some (.slice none 0 0)
  c11 : w.cell? ⟨b, 11, none⟩ = some (.slice none 0 0)
  c12 : w.cell? ⟨b, 12, none⟩ = some (.map (some m5))
  i2 : w.im m2 = some []
  i3 : w.im m3 = some []
  i4 : w.im m4 = some []
  i5 : w.im m5 = some []
theorem StAt.upd {F : Nat → Prop} {w w' : World} {b m1 m2 m3 m4 m5 : Nat} {q : Value} (h : StAt w b m1 m2 m3 m4 m5 q) (u : Upd F w w') (hb : ¬ F b) (h2 : ¬ F m2) (h3 : ¬ F m3) (h4 : ¬ F m4) (h5 : ¬ F m5) : StAt w' b m1 m2 m3 m4 m5 q := by
  have lb := World.block_lt_of_cell? _ _ h.c0
  have c := fun j => u.cell (p := ⟨b, j, none⟩) lb hb
  have l2 := im_lt (w := w) (b := m2) (by rw [h.i2]; rfl)
  have l3 := im_lt (w := w) (b := m3) (by rw [h.i3]; rfl)
  have l4 := im_lt (w := w) (b := m4) (by rw [h.i4]; rfl)
  have l5 := im_lt (w := w) (b := m5) (by rw [h.i5]; rfl)
  exact ⟨(c 0).trans h.c0, (c 1).trans h.c1, (c 2).trans h.c2, (c 3).trans h.c3, (c 4).trans h.c4, (c 5).trans h.c5, (c 6).trans h.c6, (c 7).trans h.c7, (c 8).trans h.c8, (c 9).trans h.c9, (c 10).trans h.c10, (c 11).trans h.c11, (c 12).trans h.c12,
    (u.im l2 h2).trans h.i2, (u.im l3 h3).trans h.i3, (u.im l4 h4).trans h.i4, (u.im l5 h5).trans h.i5⟩
theorem StAt.old {w w' : World} {b m1 m2 m3 m4 m5 : Nat} {q : Value} (h : StAt w b m1 m2 m3 m4 m5 q) (u : Upd (fun _ => False) w w') : StAt w' b m1 m2 m3 m4 m5 q := h.upd u (fun h => h) (fun h => h) (fun h => h) (fun h => h) (fun h => h)
theorem StAt.setQ {w : World} {b m1 m2 m3 m4 m5 : Nat} {q : Value} (h : StAt w b m1 m2 m3 m4 m5 q) (q' : Value) : StAt (w.setCell ⟨b, 5, none⟩ q') b m1 m2 m3 m4 m5 q' := by
  have o : ∀ j, j ≠ 5 → (w.setCell ⟨b, 5, none⟩ q').cell? ⟨b, j, none⟩ = w.cell? ⟨b, j, none⟩ := fun j hj => World.cell?_setCell_other _ _ _ _ (fun e => by injection e; omega)
  exact ⟨(o 0 (by omega)).trans h.c0, (o 1 (by omega)).trans h.c1, (o 2 (by omega)).trans h.c2, (o 3 (by omega)).trans h.c3, (o 4 (by omega)).trans h.c4, by rw [cell_setCell_self, h.c5]; rfl, (o 6 (by omega)).trans h.c6, (o 7 (by omega)).trans h.c7,
    (o 8 (by omega)).trans h.c8, (o 9 (by omega)).trans h.c9, (o 10 (by omega)).trans h.c10, (o 11 (by omega)).trans h.c11, (o 12 (by omega)).trans h.c12, by rw [im_setCell]; exact h.i2, by rw [im_setCell]; exact h.i3, by rw [im_setCell]; exact h.i4, by rw [im_setCell]; exact h.i5⟩
/-- The quorums of one: from slot 1 on node 0 votes. -/
def QuAt (w : World) (q : Value) : Prop := ∃ qb nv, q = .slice (some ⟨qb, 0, none⟩) 1 1 ∧ w.cell? ⟨qb, 0, none⟩ = some (.int .i64 1) ∧ w.cell? ⟨qb, 1, none⟩ = some nv ∧ Ints w nv [0]
def NewPost (w : World) (e : Ending) (w' : World) : Prop :=
  ∃ b m1 m2 m3 m4 m5 q, e = .returned (.tuple #[.pointer (some ⟨b, 0, none⟩), .int .i64 0]) ∧ StAt w' b m1 m2 m3 m4 m5 q ∧ w'.im m1 = some [(0, .bool true)] ∧ QuAt w' q ∧ Upd (fun _ => False) w w'
def NewRel (W : World) (b m1 m2 m3 m4 m5 qv : Nat) (i : Value) (wr : World) : Prop :=
  (i = .int .i64 0 ∧ wr = W) ∨ (i = .int .i64 1 ∧ StAt wr b m1 m2 m3 m4 m5 (.slice none 0 0) ∧ wr.im m1 = some [(0, .bool true)] ∧ Upd (fun k => k = m1 ∨ k = qv) W wr ∧ wr.cell? ⟨qv, 0, none⟩ = some (.int .i64 1) ∧ ∃ nv, wr.cell? ⟨qv, 1, none⟩ = some nv ∧ Ints wr nv [0] ∧ ∀ b' o n c, nv = .slice (some ⟨b', o, none⟩) n c → qv < b')
set_option maxRecDepth 100000 in
set_option maxHeartbeats 4000000 in
theorem new_one (w : World) : Calls Tryz.prog 20 #[.agg #[.int .i64 1, .int .i64 1, .int .i64 0, .int .i64 1, .int .i64 0]] w (NewPost w) := by
  have hmm := @run_makeMap Tryz.prog
  have hpu := put_bool
  go_enter Tryz.func20, Tryz.ntmps20
  go_wp2_with (go_at_call 56; refine (can_one _).mono ?_; rintro e w' ⟨rfl, hu⟩; have hlt : w.heap.size < w'.heap.size := (by have := hu.size; simp at this; omega); have hc := fun j => (hu.cell (p := ⟨w.heap.size, j, none⟩) (by simp) (fun h => h)); have hc0 := hc 0; have hc1 := hc 1; have hc3 := hc 3; have hc4 := hc 4; simp [go_sem] at hc0 hc1 hc3 hc4; clear hc; have hl1 : w.heap.size < w'.heap.size + 1 := (by omega); have hl2 : w.heap.size < w'.heap.size + 1 + 1 := (by omega); have hl3 : w.heap.size < w'.heap.size + 1 + 1 + 1 := (by omega); have hl4 : w.heap.size < w'.heap.size + 1 + 1 + 1 + 1 := (by omega); have hl5 : w.heap.size < w'.heap.size + 1 + 1 + 1 + 1 + 1 := (by omega); have hl6 : w.heap.size < w'.heap.size + 1 + 1 + 1 + 1 + 1 + 1 := (by omega); have HU := Lib.hid (((Upd.refl _ _).alloc _).trans hu); clear hu)
  clear hl1 hl2 hl3 hl4 hl5 hl6
  have hW : ∃ (W : World) (m1 m2 m3 m4 m5 b qv xb : Nat), _ = W ∧ w'.heap.size = m1 ∧ w'.heap.size + 1 = m2 ∧ w'.heap.size + 1 + 1 = m3 ∧ w'.heap.size + 1 + 1 + 1 = m4 ∧ w'.heap.size + 1 + 1 + 1 + 1 = m5 ∧ w'.heap.size + 1 + 1 + 1 + 1 + 1 = b ∧ w'.heap.size + 1 + 1 + 1 + 1 + 1 + 1 = qv ∧ w.heap.size = xb :=
    ⟨((((((w'.alloc (.map #[] 0)).alloc (.map #[] 0)).alloc (.map #[] 0)).alloc (.map #[] 0)).alloc (.map #[] 0)).alloc (.cells #[.int .i64 1, .int .i64 1, .int .i64 1, .map (some w'.heap.size), .map (some (w'.heap.size + 1)), .slice none 0 0, .int .i64 1, .int .i64 0, .map (some (w'.heap.size + 1 + 1)), .map (some (w'.heap.size + 1 + 1 + 1)), .slice none 0 0, .slice none 0 0, .map (some (w'.heap.size + 1 + 1 + 1 + 1))] 36)).alloc (.cells #[.int .i64 1, .slice none 0 0] 80), _, _, _, _, _, _, _, _, rfl, rfl, rfl, rfl, rfl, rfl, rfl, rfl, rfl⟩
  obtain ⟨W, m1, m2, m3, m4, m5, b, qv, xb, hw, hm1, hm2, hm3, hm4, hm5, hb, hqv, hxb⟩ := hW
  have hS : StAt W b m1 m2 m3 m4 m5 (.slice none 0 0) := by
    subst hw hm1 hm2 hm3 hm4 hm5 hb hqv
    constructor <;> simp [go_sem]
  have hi1 : W.im m1 = some [] := by
    subst hw hm1
    simp [go_sem]
  have hq : W.cell? ⟨qv, 0, none⟩ = some (.int .i64 1) ∧ W.cell? ⟨qv, 1, none⟩ = some (.slice none 0 0) ∧ W.frozen? ⟨qv, 1, none⟩ = false ∧ W.frozen? ⟨b, 5, none⟩ = false := by
    subst hw hqv hb
    refine ⟨?_, ?_, ?_, ?_⟩ <;> simp [go_sem]
  have hU0 : Upd (fun _ => False) w' W := by
    subst hw
    exact (((((((Upd.refl _ _).alloc _).alloc _).alloc _).alloc _).alloc _).alloc _).alloc _
  have hsz : W.heap.size = qv + 1 := by
    subst hw hqv
    simp
  have hx0 : W.cell? ⟨xb, 0, none⟩ = some (.int .i64 1) := by rw [← hxb]; exact (hU0.cell (p := ⟨w.heap.size, 0, none⟩) hlt (fun h => h)).trans hc0
  have hx1 : W.cell? ⟨xb, 1, none⟩ = some (.int .i64 1) := by rw [← hxb]; exact (hU0.cell (p := ⟨w.heap.size, 1, none⟩) hlt (fun h => h)).trans hc1
  have hne : (m2 ≠ m1 ∧ m3 ≠ m1 ∧ m4 ≠ m1 ∧ m5 ≠ m1 ∧ b ≠ m1 ∧ xb ≠ m1 ∧ qv ≠ m1) ∧ (m2 ≠ qv ∧ m3 ≠ qv ∧ m4 ≠ qv ∧ m5 ≠ qv ∧ b ≠ qv ∧ xb ≠ qv) ∧ m1 < W.heap.size ∧ xb < m1 ∧ w.heap.size ≤ m1 ∧ w.heap.size ≤ qv ∧ w.heap.size ≤ b ∧ b < qv := by omega
  rw [hw, hqv, hb, hm5, hm4, hm3, hm2, hm1, hxb]
  have HUW := Lib.hid (HU.out.trans hU0); clear HU hU0 hc0 hc1 hc3 hc4
  have HNE := Lib.hid hne; clear hne
  have HS := Lib.hid hS; clear hS
  have HQ := Lib.hid hq; clear hq
  have HSZ := Lib.hid hsz; clear hsz
  have HI1 := Lib.hid hi1; clear hi1
  have HX := Lib.hid (And.intro hx0 hx1); clear hx0 hx1
  clear hw hm1 hm2 hm3 hm4 hm5 hb hqv hxb hlt
  go_loopw [59] (fun i wr => NewRel W b m1 m2 m3 m4 m5 qv i wr) (fun i _ => 1 - (intOf i).toNat)
  case atStart => exact Or.inl ⟨rfl, rfl⟩
  case round =>
    rcases hrel with ⟨rfl, rfl⟩ | ⟨rfl, hS, hi1, hu, hq0, nv, hq1, hn, hfar⟩
    · have c3 := HS.out.c3
      have i1 := HI1.out
      have q0 := HQ.out.1
      have q1 := HQ.out.2.1
      have x0 := HX.out.1
      have x1 := HX.out.2
      obtain ⟨⟨n1, n2, n3, n4, n5, n6, n7⟩, ⟨n8, n9, n10, n11, n12, n13⟩, n14, n15, n16, n17, n18, n19⟩ := HNE.out
      have hsz := HSZ.out
      have hqs : qv < wr.heap.size := by omega
      have hum : Upd (fun k => k = m1) wr ((wr.mput m1 (.int .i64 0) (.bool true)).alloc (.cells #[.int .i64 0] 3)) := ((Upd.refl (fun k => k = m1) wr).mput (Or.inl rfl) _ _).alloc _
      go_wp2_with (at_builtin; go_must (refine wpList_append_ints rfl _ _ rfl wr.heap.size (.slice none 0 0) _ [] [0] rfl (IOwn.nil _ _) rfl ?hb (by decide) ?hB ?_))
      case hb => exact ints_one _ 0 _ 1 (Nat.le_refl _) (by rw [World.cell?_alloc_at _ _ _ _ (by rw [size_mput]; omega)]; rfl)
      case hB => simp [go_sem]
      intro v' w1 ho1 hu1
      have hu1' : Upd (fun k => k = m1) wr w1 := hum.trans' hu1 (fun i hi e => by cases e)
      have y1 := (hu1'.cell (p := ⟨qv, 1, none⟩) hqs n7).trans q1
      have z1 := (hu1'.frozen (p := ⟨qv, 1, none⟩) hqs n7).trans HQ.out.2.2.1
      have im1 : w1.im m1 = some [(0, .bool true)] := (hu1.im (b := m1) (by simp [go_sem]; omega) (fun e => by cases e)).trans (by rw [im_alloc_old _ (by rw [size_mput]; omega)]; exact im_mput_same i1 _)
      obtain ⟨va, vc, rfl⟩ := ho1.shape
      have hn := ho1.ints (by simp)
      have HN := Lib.hid hn; clear hn
      have HF := Lib.hid ho1.ge; clear ho1
      have HU1 := Lib.hid hu1'; clear hu1' hu1 hum
      have HIM := Lib.hid im1; clear im1
      clear i1 c3 q1
      go_wp2_with fail
      go_roundw
      case rel =>
        have u2 : Upd (fun k => k = m1 ∨ k = qv) wr (w1.setCell ⟨qv, 1, none⟩ (.slice va 1 vc)) := (HU1.out.mono (fun _ _ e => Or.inl e)).setCell (p := ⟨qv, 1, none⟩) (by exact Or.inl (Or.inr rfl)) _
        refine Or.inr ⟨rfl, HS.out.upd u2 ?_ ?_ ?_ ?_ ?_, ?_, u2, ?_, ?_⟩
        · exact fun e => e.elim n5 n12
        · exact fun e => e.elim n1 n8
        · exact fun e => e.elim n2 n9
        · exact fun e => e.elim n3 n10
        · exact fun e => e.elim n4 n11
        · rw [im_setCell]; exact HIM.out
        · rw [World.cell?_setCell_other _ _ _ _ (fun e => by injection e; omega)]; exact (HU1.out.cell (p := ⟨qv, 0, none⟩) hqs n7).trans HQ.out.1
        · have hfar : ∀ b' o n c, (Value.slice va 1 vc) = .slice (some ⟨b', o, none⟩) n c → qv < b' := fun b' o n c e => by
            have := HF.out b' (by show some b' = (Value.slice va 1 vc).ownBlock; rw [e]; rfl)
            omega
          refine ⟨_, by rw [cell_setCell_self, y1]; rfl, HN.out.setCell _ _ (fun b' o n c e => ?_), hfar⟩
          have := hfar b' o n c e
          show b' ≠ qv
          omega
      case measure => simp [intOf]
    · obtain ⟨⟨n1, n2, n3, n4, n5, n6, n7⟩, ⟨n8, n9, n10, n11, n12, n13⟩, n14, n15, n16, n17, n18, n19⟩ := HNE.out
      have lb := World.block_lt_of_cell? _ _ HS.out.c0
      have c5 := hS.c5
      have f5 := (hu.frozen (p := ⟨b, 5, none⟩) lb (fun e => e.elim n5 n12)).trans HQ.out.2.2.2
      have lbw := World.block_lt_of_cell? _ _ hS.c0
      have lqw := World.block_lt_of_cell? _ _ hq0
      have HST := Lib.hid hS; clear hS
      have HN := Lib.hid hn; clear hn
      have HUU := Lib.hid hu; clear hu
      obtain ⟨na, nn, nc, rfl⟩ : ∃ a n c, nv = .slice a n c := by obtain ⟨a, c, e⟩ := HN.out.shape; exact ⟨a, _, c, e⟩
      go_wp2_with fail
      go_ret2
      have ua : Upd (fun _ => False) (wr.setCell ⟨b, 5, none⟩ (.slice (some ⟨wr.heap.size, 0, none⟩) 1 1)) ((wr.setCell ⟨b, 5, none⟩ (.slice (some ⟨wr.heap.size, 0, none⟩) 1 1)).alloc (.cells #[.int .i64 1, .slice na nn nc] 80)) := (Upd.refl _ _).alloc _
      have ub : Upd (fun k => k = b) wr (wr.setCell ⟨b, 5, none⟩ (.slice (some ⟨wr.heap.size, 0, none⟩) 1 1)) := (Upd.refl (fun k => k = b) wr).setCell (p := ⟨b, 5, none⟩) (by exact Or.inl rfl) _
      have hlm : m1 < wr.heap.size := im_lt (w := wr) (by rw [hi1]; rfl)
      have hsz : (wr.setCell ⟨b, 5, none⟩ (.slice (some ⟨wr.heap.size, 0, none⟩) 1 1)).heap.size = wr.heap.size := by simp
      refine ⟨b, m1, m2, m3, m4, m5, _, rfl, (HST.out.setQ _).old ua, ?_, ⟨_, .slice na nn nc, rfl, ?_, ?_, ?_⟩, ?_⟩
      · exact (ua.im (by rw [hsz]; exact hlm) (fun h => h)).trans ((ub.im hlm (fun e => n5 e.symm)).trans hi1)
      · rw [World.cell?_alloc_at _ _ _ _ hsz.symm]; rfl
      · rw [World.cell?_alloc_at _ _ _ _ hsz.symm]; rfl
      · refine (HN.out.upd ub (fun b' o n c e hi e2 => ?_)).old ua
        have := hfar b' o n c e
        omega
      · exact ((HUW.out.trans' HUU.out (fun i hi e => by omega)).trans' ub (fun i hi e => by omega)).trans ua
end Go.Proofs.YtmpjbolopgccpaaGreat
