/-
  parse of noughts.
  A log in memory; put, begin.
  begin: a head is written.
-/
import Derived.Test.YtchpekecgdbphaaWalX
import Derived.BigRegion
import Derived.Laws.ResultCell
import Derived.Laws.NewBlocks
import Derived.Test.YtchpekecgdbphaaLib
set_option linter.unusedVariables false
namespace Go.Proofs.Ytchpekecgdbphaa
open Go Go.RowKit Go.MapKept Go.ChangeMaps

/-- Four noughts. -/
structure Noughts (w : World) (wr : World) : Prop where
  z : ∀ j, j < 4 → wr.cell? ⟨w.heap.size + 1, j, none⟩ = some (.int .i64 0)
  fz : ∀ j, wr.frozen? ⟨w.heap.size + 1, j, none⟩ = false
  up : Upd (fun _ => False) w wr
  lt : w.heap.size + 1 < wr.heap.size
  r : ∀ j, j < 4 → wr.cell? ⟨w.heap.size, j, none⟩ = some (.int .i64 0)
  rf : ∀ j, wr.frozen? ⟨w.heap.size, j, none⟩ = false
theorem Noughts.put {w wr : World} {q : Nat} (h : Noughts w wr) (hq : q < 4) : Noughts w (wr.setCell ⟨w.heap.size + 1, q, none⟩ (.int .i64 0)) := by
  refine ⟨fun j hj => ?_, fun j => ?_, h.up.setCell (p := ⟨w.heap.size + 1, q, none⟩) (Or.inr (Nat.le_succ _)) _, by simpa using h.lt, fun j hj => ?_, fun j => by rw [World.frozen?_setCell]; exact h.rf j⟩
  · by_cases e : j = q
    · subst e
      exact World.cell?_setCell_same' _ _ _ (by rw [h.z j hj]; rfl)
    · rw [World.cell?_setCell_other _ _ _ _ (fun e' => by simp only [Addr.mk.injEq] at e'; omega), h.z j hj]
  · rw [World.frozen?_setCell]
    exact h.fz j
  · rw [World.cell?_setCell_other _ _ _ _ (fun e' => by simp only [Addr.mk.injEq] at e'; omega), h.r j hj]
set_option maxRecDepth 100000 in
set_option maxHeartbeats 4000000 in
theorem parse_zeros (v : Value) (s n : Int) (w : World) (hb : Sec w v zeros) : Calls Try.prog 33 #[v, .int .i64 s, .int .i64 n] w (fun e w' => e = .returned (.tuple #[.agg #[.int .i64 0, .int .i64 0, .int .i64 0, .int .i64 0], .bool false]) ∧ Upd (fun _ => False) w w') := by
  obtain ⟨k, o, c, cur, rfl, _, hk, hc⟩ := hb
  have hc' : ∀ j, j < 64 → w.cell? ⟨k, o + j, none⟩ = some (.int .u8 0) := fun j hj => by
    rw [hc j hj]
    congr 2
    unfold zeros
    rw [List.getD_eq_getElem?_getD, List.getElem?_replicate, if_pos hj]
    rfl
  have HC := Lib.hid hc'; clear hc' hc
  have hkl : k < w.heap.size := (Array.getElem?_eq_some_iff.1 hk).1
  clear hk
  go_enter Try.func33, Try.ntmps33
  go_wp2_with fail
  go_loopw [14] (fun i wr => ∃ q : Nat, q ≤ 4 ∧ i = .int .i64 q ∧ Noughts w wr) (fun i _ => 4 - (intOf i).toNat)
  case atStart =>
    refine ⟨0, by omega, rfl, ⟨fun j hj => ?_, fun j => ?_, ((Upd.refl _ _).alloc _).alloc _, by simp, fun j hj => ?_, fun j => ?_⟩⟩
    · rw [World.cell?_alloc_at _ _ _ _ (by simp)]
      match j, hj with
      | 0, _ => rfl
      | 1, _ => rfl
      | 2, _ => rfl
      | 3, _ => rfl
    · have hk := (MapKept.heap_alloc (w.alloc (.cells #[.int .i64 0, .int .i64 0, .int .i64 0, .int .i64 0] 62)) (.cells #[.int .i64 0, .int .i64 0, .int .i64 0, .int .i64 0] 89)).1
      simp only [World.size_alloc] at hk
      simp only [World.frozen?, hk]
      simp
    · rw [((Upd.refl (fun _ => False) _).alloc _).cell (p := ⟨w.heap.size, j, none⟩) (by simp) (fun h => h), World.cell?_alloc_at _ _ _ _ rfl]
      match j, hj with
      | 0, _ => rfl
      | 1, _ => rfl
      | 2, _ => rfl
      | 3, _ => rfl
    · have hk := (MapKept.heap_alloc w (.cells #[.int .i64 0, .int .i64 0, .int .i64 0, .int .i64 0] 62)).1
      have hk2 := ((Upd.refl (fun _ => False) (w.alloc (.cells #[.int .i64 0, .int .i64 0, .int .i64 0, .int .i64 0] 62))).alloc (.cells #[.int .i64 0, .int .i64 0, .int .i64 0, .int .i64 0] 89)).block w.heap.size (by simp) (fun h => h)
      simp only [World.frozen?, hk2, hk]
      simp
  case round =>
    obtain ⟨q, hq, rfl, hF⟩ := hrel
    have HF := Lib.hid hF; clear hF
    by_cases hlt : q < 4
    · have e8 : 9 + 8 * q - (1 + 8 * q) = 8 := by omega
      go_wp2_with fail
      go_loopw [26] (fun i wr => ∃ j : Nat, j ≤ 8 ∧ i = .int .i64 j ∧ Noughts w wr) (fun i _ => 8 - (intOf i).toNat)
      case atStart => exact ⟨0, by omega, rfl, HF.out⟩
      case round =>
        obtain ⟨j, hj, rfl, hF⟩ := hrel
        have hz := hF.z q hlt
        have hfz := hF.fz
        have HG := Lib.hid hF; clear hF
        by_cases hlt' : j < 8
        · have hcj : wr.cell? ⟨k, o + (1 + 8 * q) + j, none⟩ = some (.int .u8 0) := (HG.out.up.cell (p := ⟨k, o + (1 + 8 * q) + j, none⟩) hkl (fun h => h)).trans (by rw [Nat.add_assoc]; exact HC.out (1 + 8 * q + j) (by omega))
          have HP := Lib.hid (HG.out.put hlt)
          go_wp2_with fail
          go_roundw
          case rel => exact ⟨j + 1, by omega, by go_num, HP.out⟩
          case measure => simp [intOf]; omega
        · go_wp2_with fail
          go_roundw
          case rel => exact ⟨q + 1, by omega, by go_num, HG.out⟩
          case measure => simp [intOf]; omega
    · obtain rfl : q = 4 := by omega
      have z0 := HF.out.z 0 (by omega)
      have z1 := HF.out.z 1 (by omega)
      have z2 := HF.out.z 2 (by omega)
      have z3 := HF.out.z 3 (by omega)
      have r0 := HF.out.r 0 (by omega)
      have r1 := HF.out.r 1 (by omega)
      have r2 := HF.out.r 2 (by omega)
      have r3 := HF.out.r 3 (by omega)
      have rf := HF.out.rf
      have hlt3 : w.heap.size < wr.heap.size := by have := HF.out.lt; omega
      have hlt4 : w.heap.size < wr.heap.size + 1 := by omega
      go_wp2_with fail
      go_big_region
      go_wp2_with fail
      have hW : ∀ j, j < 4 → (((((wr.setCell ⟨w.heap.size, 0, none⟩ (.int .i64 0)).setCell ⟨w.heap.size, 1, none⟩ (.int .i64 0)).setCell ⟨w.heap.size, 2, none⟩ (.int .i64 0)).setCell ⟨w.heap.size, 3, none⟩ (.int .i64 0)).alloc (.cells #[.int .i64 0, .int .i64 0, .int .i64 0, .int .i64 0] 62)).drew.cell? ⟨w.heap.size, j, none⟩ = (#[Value.int .i64 0, .int .i64 0, .int .i64 0, .int .i64 0])[j]? := fun j hj => by
        match j, hj with
        | 0, _ => simp [go_sem, r0, hlt3]
        | 1, _ => simp [go_sem, r1, hlt3]
        | 2, _ => simp [go_sem, r2, hlt3]
        | 3, _ => simp [go_sem, r3, hlt3]
      refine bodyPost_ret_by (v := .tuple #[.agg #[.int .i64 0, .int .i64 0, .int .i64 0, .int .i64 0], .bool false]) ?_ rfl ?_
      · rw [results_cell_tmp rfl]
        have hl := run_loadVar_cells (P := Try.prog) (w := (((((wr.setCell ⟨w.heap.size, 0, none⟩ (.int .i64 0)).setCell ⟨w.heap.size, 1, none⟩ (.int .i64 0)).setCell ⟨w.heap.size, 2, none⟩ (.int .i64 0)).setCell ⟨w.heap.size, 3, none⟩ (.int .i64 0)).alloc (.cells #[.int .i64 0, .int .i64 0, .int .i64 0, .int .i64 0] 62)).drew) (t := 62) ⟨w.heap.size, 0, none⟩ #[.int .i64 0, .int .i64 0, .int .i64 0, .int .i64 0] (Try.isAgg62 _) (Try.sizeOf62 _) (fun j hj => by rw [Addr.add_lit, Nat.zero_add]; exact hW j hj)
        show ((asAddr (.pointer (some ⟨w.heap.size, 0, none⟩))).run _ _).andThen _ = _
        simp only [asAddr, Sem.run_pure, Result.andThen_ok, hl]
        rfl
      exact ⟨rfl, (((((HF.out.up.setCell (p := ⟨w.heap.size, 0, none⟩) (Or.inr (Nat.le_refl _)) _).setCell (p := ⟨w.heap.size, 1, none⟩) (Or.inr (Nat.le_refl _)) _).setCell (p := ⟨w.heap.size, 2, none⟩) (Or.inr (Nat.le_refl _)) _).setCell (p := ⟨w.heap.size, 3, none⟩) (Or.inr (Nat.le_refl _)) _).alloc _).drew⟩
end Go.Proofs.Ytchpekecgdbphaa
namespace Go.Proofs.Ytchpekecgdbphaa
open Go Go.RowKit Go.MapKept Go.ChangeMaps

/-- A log at block wb, over the plate at block b. -/
structure WalAt (w : World) (wb b : Nat) (size n l p f next used : Int) : Prop where
  c0 : w.cell? ⟨wb, 0, none⟩ = some (.pointer (some ⟨b, 0, none⟩))
  c1 : w.cell? ⟨wb, 1, none⟩ = some (.int .i64 size)
  c2 : w.cell? ⟨wb, 2, none⟩ = some (.int .i64 n)
  c3 : w.cell? ⟨wb, 3, none⟩ = some (.int .i64 l)
  c4 : w.cell? ⟨wb, 4, none⟩ = some (.int .i64 p)
  c5 : w.cell? ⟨wb, 5, none⟩ = some (.int .i64 f)
  c6 : w.cell? ⟨wb, 6, none⟩ = some (.int .i64 next)
  c7 : w.cell? ⟨wb, 7, none⟩ = some (.int .i64 used)
  tag : ∃ cur, w.heap[wb]? = some (.cells cur 64 (0, 0))
theorem WalAt.lt {w : World} {wb b : Nat} {size n l p f next used : Int} (h : WalAt w wb b size n l p f next used) : wb < w.heap.size := World.block_lt_of_cell? _ _ h.c0
theorem WalAt.upd {F : Nat → Prop} {w w' : World} {wb b : Nat} {size n l p f next used : Int} (h : WalAt w wb b size n l p f next used) (u : Upd F w w') (hF : ¬ F wb) : WalAt w' wb b size n l p f next used := by
  have lt := h.lt
  have k : ∀ o, w'.cell? ⟨wb, o, none⟩ = w.cell? ⟨wb, o, none⟩ := fun o => u.cell (p := ⟨wb, o, none⟩) lt hF
  obtain ⟨cur, ht⟩ := h.tag
  exact ⟨(k 0).trans h.c0, (k 1).trans h.c1, (k 2).trans h.c2, (k 3).trans h.c3, (k 4).trans h.c4, (k 5).trans h.c5, (k 6).trans h.c6, (k 7).trans h.c7, ⟨cur, (u.block wb lt hF).trans ht⟩⟩
theorem WalAt.old {w w' : World} {wb b : Nat} {size n l p f next used : Int} (h : WalAt w wb b size n l p f next used) (u : Upd (fun _ => False) w w') : WalAt w' wb b size n l p f next used := h.upd u (fun h => h)
theorem WalAt.frozen {w : World} {wb b : Nat} {size n l p f next used : Int} (h : WalAt w wb b size n l p f next used) : ∀ o, w.frozen? ⟨wb, o, none⟩ = false := fun o => by
  obtain ⟨cur, ht⟩ := h.tag
  simp [World.frozen?, ht]
/-- The log's block is none of the plate's. -/
theorem WalAt.apart {w : World} {wb b b' ab cm : Nat} {size n l p f next used : Int} {D : List (List Int)} {C : Int → Option (List Int)} (h : WalAt w wb b size n l p f next used) (hp : PlateAt w b' ab cm D C) : wb ≠ b' ∧ wb ≠ ab ∧ wb ≠ cm := by
  obtain ⟨cur, ht⟩ := h.tag
  refine ⟨fun e => ?_, fun e => ?_, fun e => ?_⟩
  · obtain ⟨cur', ht'⟩ := hp.tag
    rw [← e, ht] at ht'; cases ht'
  · obtain ⟨v, _, hs⟩ := hp.c0
    obtain ⟨c, cur', _, _, hk, _⟩ := hs
    rw [← e, ht] at hk; cases hk
  · obtain ⟨M, hm, _⟩ := hp.cache
    unfold World.im at hm
    rw [← e, ht] at hm; cases hm
theorem WalAt.notB {w : World} {wb b : Nat} {size n l p f next used : Int} (h : WalAt w wb b size n l p f next used) : NotB w wb := fun cur fr e => by
  obtain ⟨cur', ht⟩ := h.tag
  rw [ht] at e; cases e
def PutPost (w : World) (b ab cm : Nat) (D : List (List Int)) (C : Int → Option (List Int)) (i : Nat) (l : List Int) (e : Ending) (w' : World) : Prop :=
  e = .returned (.int .i64 0) ∧ PlateAt w' b ab cm (viewL D (cput C i l)) (fun _ => none) ∧ Upd (fun k => k = ab ∨ k = cm) w w'
theorem put_any (i : Nat) (w : World) (wb b ab cm : Nat) (size n l p f next used : Int) (D : List (List Int)) (C : Int → Option (List Int)) (sv : Value) (L : List Int) (hw : WalAt w wb b size n l p f next used) (hp : PlateAt w b ab cm D C) (hi : i < D.length) (hs : Sec w sv L) :
    Calls Try.prog 50 #[.pointer (some ⟨wb, 0, none⟩), .int .i64 i, sv] w (PutPost w b ab cm D C i L) := by
  have c0 := hw.c0
  obtain ⟨n1, n2, n3⟩ := hw.apart hp
  have lt := hw.lt
  obtain ⟨sk, so, sc, rfl, _⟩ := hs.shape
  have HS := Lib.hid hs; clear hs
  have HP := Lib.hid hp; clear hp
  have HW := Lib.hid hw; clear hw
  go_enter Try.func50, Try.ntmps50
  go_wp2_with fail
  refine (write_any i _ b ab cm D C _ L HP.out hi HS.out).mono ?_
  rintro e w1 ⟨rfl, hp1, hu1⟩
  have c01 := (hu1.cell (p := ⟨wb, 0, none⟩) lt n3).trans c0
  have HP1 := Lib.hid hp1; clear hp1
  have HU1 := Lib.hid hu1; clear hu1
  go_wp2_with fail
  refine (sync_any _ b ab cm D _ HP1.out).mono ?_
  rintro e w2 ⟨rfl, hp2, hu2⟩
  have HP2 := Lib.hid hp2; clear hp2
  have HU2 := Lib.hid hu2; clear hu2
  go_wp2_with fail
  go_ret
  exact ⟨rfl, HP2.out, (HU1.out.mono (fun _ _ h => Or.inr h)).trans HU2.out⟩
end Go.Proofs.Ytchpekecgdbphaa
namespace Go.Proofs.Ytchpekecgdbphaa
open Go Go.RowKit Go.MapKept Go.ChangeMaps

def BeginPost (w : World) (wb b ab cm : Nat) (size n l p f next used : Int) (D : List (List Int)) (C : Int → Option (List Int)) (q : Nat) (e : Ending) (w' : World) : Prop :=
  e = .returned (.int .i64 0) ∧ PlateAt w' b ab cm (viewL (viewL D (cput C q zeros)) (cput (fun _ => none) q (headB n l p f))) (fun _ => none) ∧ WalAt w' wb b size n l p f next used ∧ Upd (fun k => k = ab ∨ k = cm ∨ k = wb) w w'
theorem tag_set {w : World} {b : Nat} {ty : TypeId} (h : ∃ cur, w.heap[b]? = some (.cells cur ty (0, 0))) (o : Nat) (v : Value) : ∃ cur, (w.setCell ⟨b, o, none⟩ v).heap[b]? = some (.cells cur ty (0, 0)) := by
  obtain ⟨cur, h⟩ := h
  refine ⟨cur.setIfInBounds o v, ?_⟩
  show (w.heap.modify b _)[b]? = _
  rw [Array.getElem?_modify, if_pos rfl, h]
  rfl
theorem set_same {w : World} {b o : Nat} {x v : Value} (h : w.cell? ⟨b, o, none⟩ = some x) : (w.setCell ⟨b, o, none⟩ v).cell? ⟨b, o, none⟩ = some v := World.cell?_setCell_same' _ _ _ (by rw [h]; rfl)
theorem set_other {w : World} {b o o' : Nat} {x v : Value} (h : w.cell? ⟨b, o, none⟩ = some x) (hne : o' ≠ o) : (w.setCell ⟨b, o', none⟩ v).cell? ⟨b, o, none⟩ = some x := by
  rw [World.cell?_setCell_other _ _ _ _ (fun e => by simp only [Addr.mk.injEq] at e; omega), h]
theorem WalAt.head {w : World} {wb b : Nat} {size n0 l0 p0 f0 next used : Int} (h : WalAt w wb b size n0 l0 p0 f0 next used) (n l p f : Int) :
    WalAt ((((w.setCell ⟨wb, 2, none⟩ (.int .i64 n)).setCell ⟨wb, 3, none⟩ (.int .i64 l)).setCell ⟨wb, 4, none⟩ (.int .i64 p)).setCell ⟨wb, 5, none⟩ (.int .i64 f)) wb b size n l p f next used := by
  refine ⟨?_, ?_, ?_, ?_, ?_, ?_, ?_, ?_, tag_set (tag_set (tag_set (tag_set h.tag _ _) _ _) _ _) _ _⟩
  · exact set_other (set_other (set_other (set_other h.c0 (by omega)) (by omega)) (by omega)) (by omega)
  · exact set_other (set_other (set_other (set_other h.c1 (by omega)) (by omega)) (by omega)) (by omega)
  · exact set_other (set_other (set_other (set_same h.c2) (by omega)) (by omega)) (by omega)
  · exact set_other (set_other (set_same (set_other h.c3 (by omega))) (by omega)) (by omega)
  · exact set_other (set_same (set_other (set_other h.c4 (by omega)) (by omega))) (by omega)
  · exact set_same (set_other (set_other (set_other h.c5 (by omega)) (by omega)) (by omega))
  · exact set_other (set_other (set_other (set_other h.c6 (by omega)) (by omega)) (by omega)) (by omega)
  · exact set_other (set_other (set_other (set_other h.c7 (by omega)) (by omega)) (by omega)) (by omega)
set_option maxRecDepth 100000 in
set_option maxHeartbeats 4000000 in
theorem begin_any (q : Nat) (w : World) (wb b ab cm : Nat) (size n0 l0 p0 f0 n l p f next used : Int) (D : List (List Int)) (C : Int → Option (List Int)) (hq : bits .and .i64 n 1 = (q : Int)) (hw : WalAt w wb b size n0 l0 p0 f0 next used) (hp : PlateAt w b ab cm D C) (hd : q < D.length) :
    Calls Try.prog 37 #[.pointer (some ⟨wb, 0, none⟩), .agg #[.int .i64 n, .int .i64 l, .int .i64 p, .int .i64 f]] w (BeginPost w wb b ab cm size n l p f next used D C q) := by
  have hlp := hp.lt
  have hlw := hw.lt
  obtain ⟨n1, n2, n3⟩ := hw.apart hp
  have HP := Lib.hid hp; clear hp
  have HW := Lib.hid hw; clear hw
  obtain ⟨w1, hmk, hs1, hu1, hz1⟩ := make_sec (w.alloc (.cells #[.int .i64 n, .int .i64 l, .int .i64 p, .int .i64 f] 62))
  have hc : ∀ j, w1.cell? ⟨w.heap.size, j, none⟩ = (#[Value.int .i64 n, .int .i64 l, .int .i64 p, .int .i64 f])[j]? := fun j => by
    rw [hu1.cell (p := ⟨w.heap.size, j, none⟩) (by simp) (fun h => h), World.cell?_alloc_at _ _ _ _ rfl]
  simp only [World.size_alloc] at hmk hs1 hz1
  have HS1 := Lib.hid hs1; clear hs1
  have hu1' := ((Upd.refl (fun _ => False) w).alloc (.cells #[.int .i64 n, .int .i64 l, .int .i64 p, .int .i64 f] 62)).trans hu1
  have HU1 := Lib.hid hu1'
  clear hu1 hu1'
  have HC := Lib.hid hc; clear hc
  have HZ1 := Lib.hid hz1; clear hz1
  go_enter Try.func37, Try.ntmps37
  go_wp2_with fail
  refine (put_any q _ wb b ab cm size n0 l0 p0 f0 next used D C _ zeros (HW.out.old HU1.out) (HP.out.old HU1.out) hd HS1.out).mono ?_
  rintro e w2 ⟨rfl, hp2, hu2⟩
  have HU2 := Lib.hid hu2
  have hF : ∀ k, k = ab ∨ k = cm → k ≠ wb ∧ k ≠ w.heap.size := fun k hk => by omega
  have hc2 : ∀ j, w2.cell? ⟨w.heap.size, j, none⟩ = (#[Value.int .i64 n, .int .i64 l, .int .i64 p, .int .i64 f])[j]? := fun j => by
    rw [hu2.cell (p := ⟨w.heap.size, j, none⟩) (by have := HZ1.out; show w.heap.size < _; omega) (fun h => (hF _ h).2 rfl), HC.out j]
  have HW2 := Lib.hid ((HW.out.old HU1.out).upd hu2 (fun h => (hF _ h).1 rfl))
  have HP2 := Lib.hid hp2; clear hp2 hu2
  have d0 : w2.cell? ⟨w.heap.size, 0, none⟩ = some (.int .i64 n) := hc2 0
  have d1 : w2.cell? ⟨w.heap.size, 1, none⟩ = some (.int .i64 l) := hc2 1
  have d2 : w2.cell? ⟨w.heap.size, 2, none⟩ = some (.int .i64 p) := hc2 2
  have d3 : w2.cell? ⟨w.heap.size, 3, none⟩ = some (.int .i64 f) := hc2 3
  clear hc2
  have e2 := HW2.out.c2
  have e3 := HW2.out.c3
  have e4 := HW2.out.c4
  have e5 := HW2.out.c5
  have ef := HW2.out.frozen
  have hne : w.heap.size ≠ wb := by omega
  go_wp2_with fail
  have hu3 : Upd (fun k => k = wb) w2 ((((w2.setCell ⟨wb, 2, none⟩ (.int .i64 n)).setCell ⟨wb, 3, none⟩ (.int .i64 l)).setCell ⟨wb, 4, none⟩ (.int .i64 p)).setCell ⟨wb, 5, none⟩ (.int .i64 f)) := ((((Upd.refl (fun k => k = wb) w2).setCell (p := ⟨wb, 2, none⟩) (Or.inl rfl) _).setCell (p := ⟨wb, 3, none⟩) (Or.inl rfl) _).setCell (p := ⟨wb, 4, none⟩) (Or.inl rfl) _).setCell (p := ⟨wb, 5, none⟩) (Or.inl rfl) _
  have HW3 := Lib.hid (HW2.out.head n l p f)
  have HP3 := Lib.hid (HP2.out.upd hu3 n1.symm n2.symm n3.symm (fun k e => by rw [e]; exact HW2.out.notB))
  have HU3 := Lib.hid hu3
  generalize ((((w2.setCell ⟨wb, 2, none⟩ (.int .i64 n)).setCell ⟨wb, 3, none⟩ (.int .i64 l)).setCell ⟨wb, 4, none⟩ (.int .i64 p)).setCell ⟨wb, 5, none⟩ (.int .i64 f)) = w3 at HW3 HP3 HU3 ⊢
  clear hu3 d0 d1 d2 d3 e2 e3 e4 e5 ef
  refine (head_any n l p f _).mono ?_
  rintro e w4 ⟨v4, rfl, hs4, hf4, hu4⟩
  obtain ⟨k4, o4, c4, rfl, _⟩ := hs4.shape
  have HS4 := Lib.hid hs4; clear hs4 hf4
  have HU4 := Lib.hid hu4; clear hu4
  go_wp2_with fail
  refine (put_any q _ wb b ab cm size n l p f next used _ _ _ (headB n l p f) (HW3.out.old HU4.out) (HP3.out.old HU4.out) (by rw [viewL_length]; exact hd) HS4.out).mono ?_
  rintro e w5 ⟨rfl, hp5, hu5⟩
  have HP5 := Lib.hid hp5; clear hp5
  have HU5 := Lib.hid hu5; clear hu5
  go_wp2_with fail
  go_ret
  have u1 : Upd (fun k => k = ab ∨ k = cm ∨ k = wb) w w2 := (HU1.out.mono (fun _ _ h => h.elim)).trans (HU2.out.mono (fun _ _ h => by rcases h with h | h <;> simp [h]))
  have u2 : Upd (fun k => k = ab ∨ k = cm ∨ k = wb) w2 w4 := (HU3.out.mono (fun _ _ h => Or.inr (Or.inr h))).trans (HU4.out.mono (fun _ _ h => h.elim))
  exact ⟨rfl, HP5.out, (HW3.out.old HU4.out).upd HU5.out (fun h => (hF _ h).1 rfl), (u1.trans u2).trans (HU5.out.mono (fun _ _ h => by rcases h with h | h <;> simp [h]))⟩
end Go.Proofs.Ytchpekecgdbphaa
