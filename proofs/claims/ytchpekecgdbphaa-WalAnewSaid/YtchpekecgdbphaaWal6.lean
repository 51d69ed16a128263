/-
  parse of noughts.
-/
import Derived.Test.YtchpekecgdbphaaWal5
import Derived.BigRegion
import Derived.Laws.ResultCell
import Derived.Laws.NewBlocks
import Derived.Test.YtchpekecgdbphaaLib4
namespace Go.Proofs.Ytchpekecgdbphaa
open Go Go.RowKit Go.MapKept Go.ChangeMaps

/-- Four noughts. -/
structure Noughts (w : World) (wr : World) : Prop where
  z : ∀ j, j < 4 → wr.cell? ⟨w.heap.size + 1, j, none⟩ = some (.int .i64 0)
  fz : ∀ j, wr.frozen? ⟨w.heap.size + 1, j, none⟩ = false
  up : Upd (fun _ => False) w wr
  lt : w.heap.size + 1 < wr.heap.size
  r : ∀ j, j < 4 → wr.cell? ⟨w.heap.size, j, none⟩ = some (.int .i64 0)
  rf : ∀ j, wr.frozen? ⟨w.heap.size, j, none⟩ = false
theorem Noughts.put {w wr : World} {q : Nat} (h : Noughts w wr) (hq : q < 4) : Noughts w (wr.setCell ⟨w.heap.size + 1, q, none⟩ (.int .i64 0)) := by
  refine ⟨fun j hj => ?_, fun j => ?_, h.up.setCell (p := ⟨w.heap.size + 1, q, none⟩) (Or.inr (Nat.le_succ _)) _, by simpa using h.lt, fun j hj => ?_, fun j => by rw [World.frozen?_setCell]; exact h.rf j⟩
  · by_cases e : j = q
    · subst e
      exact World.cell?_setCell_same' _ _ _ (by rw [h.z j hj]; rfl)
    · rw [World.cell?_setCell_other _ _ _ _ (fun e' => by simp only [Addr.mk.injEq] at e'; omega), h.z j hj]
  · rw [World.frozen?_setCell]
    exact h.fz j
  · rw [World.cell?_setCell_other _ _ _ _ (fun e' => by simp only [Addr.mk.injEq] at e'; omega), h.r j hj]
set_option maxRecDepth 100000 in
set_option maxHeartbeats 4000000 in
theorem parse_zeros (v : Value) (s n : Int) (w : World) (hb : Sec w v zeros) : Calls Try.prog 33 #[v, .int .i64 s, .int .i64 n] w (fun e w' => e = .returned (.tuple #[.agg #[.int .i64 0, .int .i64 0, .int .i64 0, .int .i64 0], .bool false]) ∧ Upd (fun _ => False) w w') := by
  obtain ⟨k, o, c, cur, rfl, _, hk, hc⟩ := hb
  have hc' : ∀ j, j < 64 → w.cell? ⟨k, o + j, none⟩ = some (.int .u8 0) := fun j hj => by
    rw [hc j hj]
    congr 2
    unfold zeros
    rw [List.getD_eq_getElem?_getD, List.getElem?_replicate, if_pos hj]
    rfl
  have HC := Lib.hid hc'; clear hc' hc
  have hkl : k < w.heap.size := (Array.getElem?_eq_some_iff.1 hk).1
  clear hk
  go_enter Try.func33, Try.ntmps33
  go_wp2_with fail
  go_loopw [14] (fun i wr => ∃ q : Nat, q ≤ 4 ∧ i = .int .i64 q ∧ Noughts w wr) (fun i _ => 4 - (intOf i).toNat)
  case atStart =>
    refine ⟨0, by omega, rfl, ⟨fun j hj => ?_, fun j => ?_, ((Upd.refl _ _).alloc _).alloc _, by simp, fun j hj => ?_, fun j => ?_⟩⟩
    · rw [World.cell?_alloc_at _ _ _ _ (by simp)]
      match j, hj with
      | 0, _ => rfl
      | 1, _ => rfl
      | 2, _ => rfl
      | 3, _ => rfl
    · have hk := (MapKept.heap_alloc (w.alloc (.cells #[.int .i64 0, .int .i64 0, .int .i64 0, .int .i64 0] 62)) (.cells #[.int .i64 0, .int .i64 0, .int .i64 0, .int .i64 0] 89)).1
      simp only [World.size_alloc] at hk
      simp only [World.frozen?, hk]
      simp
    · rw [((Upd.refl (fun _ => False) _).alloc _).cell (p := ⟨w.heap.size, j, none⟩) (by simp) (fun h => h), World.cell?_alloc_at _ _ _ _ rfl]
      match j, hj with
      | 0, _ => rfl
      | 1, _ => rfl
      | 2, _ => rfl
      | 3, _ => rfl
    · have hk := (MapKept.heap_alloc w (.cells #[.int .i64 0, .int .i64 0, .int .i64 0, .int .i64 0] 62)).1
      have hk2 := ((Upd.refl (fun _ => False) (w.alloc (.cells #[.int .i64 0, .int .i64 0, .int .i64 0, .int .i64 0] 62))).alloc (.cells #[.int .i64 0, .int .i64 0, .int .i64 0, .int .i64 0] 89)).block w.heap.size (by simp) (fun h => h)
      simp only [World.frozen?, hk2, hk]
      simp
  case round =>
    obtain ⟨q, hq, rfl, hF⟩ := hrel
    have HF := Lib.hid hF; clear hF
    by_cases hlt : q < 4
    · have e8 : 9 + 8 * q - (1 + 8 * q) = 8 := by omega
      go_wp2_with fail
      go_loopw [26] (fun i wr => ∃ j : Nat, j ≤ 8 ∧ i = .int .i64 j ∧ Noughts w wr) (fun i _ => 8 - (intOf i).toNat)
      case atStart => exact ⟨0, by omega, rfl, HF.out⟩
      case round =>
        obtain ⟨j, hj, rfl, hF⟩ := hrel
        have hz := hF.z q hlt
        have hfz := hF.fz
        have HG := Lib.hid hF; clear hF
        by_cases hlt' : j < 8
        · have hcj : wr.cell? ⟨k, o + (1 + 8 * q) + j, none⟩ = some (.int .u8 0) := (HG.out.up.cell (p := ⟨k, o + (1 + 8 * q) + j, none⟩) hkl (fun h => h)).trans (by rw [Nat.add_assoc]; exact HC.out (1 + 8 * q + j) (by omega))
          have HP := Lib.hid (HG.out.put hlt)
          go_wp2_with fail
          go_roundw
          case rel => exact ⟨j + 1, by omega, by go_num, HP.out⟩
          case measure => simp [intOf]; omega
        · go_wp2_with fail
          go_roundw
          case rel => exact ⟨q + 1, by omega, by go_num, HG.out⟩
          case measure => simp [intOf]; omega
    · obtain rfl : q = 4 := by omega
      have z0 := HF.out.z 0 (by omega)
      have z1 := HF.out.z 1 (by omega)
      have z2 := HF.out.z 2 (by omega)
      have z3 := HF.out.z 3 (by omega)
      have r0 := HF.out.r 0 (by omega)
      have r1 := HF.out.r 1 (by omega)
      have r2 := HF.out.r 2 (by omega)
      have r3 := HF.out.r 3 (by omega)
      have rf := HF.out.rf
      have hlt3 : w.heap.size < wr.heap.size := by have := HF.out.lt; omega
      have hlt4 : w.heap.size < wr.heap.size + 1 := by omega
      go_wp2_with fail
      go_big_region
      go_wp2_with fail
      have hW : ∀ j, j < 4 → (((((wr.setCell ⟨w.heap.size, 0, none⟩ (.int .i64 0)).setCell ⟨w.heap.size, 1, none⟩ (.int .i64 0)).setCell ⟨w.heap.size, 2, none⟩ (.int .i64 0)).setCell ⟨w.heap.size, 3, none⟩ (.int .i64 0)).alloc (.cells #[.int .i64 0, .int .i64 0, .int .i64 0, .int .i64 0] 62)).drew.cell? ⟨w.heap.size, j, none⟩ = (#[Value.int .i64 0, .int .i64 0, .int .i64 0, .int .i64 0])[j]? := fun j hj => by
        match j, hj with
        | 0, _ => simp [go_sem, r0, hlt3]
        | 1, _ => simp [go_sem, r1, hlt3]
        | 2, _ => simp [go_sem, r2, hlt3]
        | 3, _ => simp [go_sem, r3, hlt3]
      refine bodyPost_ret_by (v := .tuple #[.agg #[.int .i64 0, .int .i64 0, .int .i64 0, .int .i64 0], .bool false]) ?_ rfl ?_
      · rw [results_cell_tmp rfl]
        have hl := run_loadVar_cells (P := Try.prog) (w := (((((wr.setCell ⟨w.heap.size, 0, none⟩ (.int .i64 0)).setCell ⟨w.heap.size, 1, none⟩ (.int .i64 0)).setCell ⟨w.heap.size, 2, none⟩ (.int .i64 0)).setCell ⟨w.heap.size, 3, none⟩ (.int .i64 0)).alloc (.cells #[.int .i64 0, .int .i64 0, .int .i64 0, .int .i64 0] 62)).drew) (t := 62) ⟨w.heap.size, 0, none⟩ #[.int .i64 0, .int .i64 0, .int .i64 0, .int .i64 0] (Try.isAgg62 _) (Try.sizeOf62 _) (fun j hj => by rw [Addr.add_lit, Nat.zero_add]; exact hW j hj)
        show ((asAddr (.pointer (some ⟨w.heap.size, 0, none⟩))).run _ _).andThen _ = _
        simp only [asAddr, Sem.run_pure, Result.andThen_ok, hl]
        rfl
      exact ⟨rfl, (((((HF.out.up.setCell (p := ⟨w.heap.size, 0, none⟩) (Or.inr (Nat.le_refl _)) _).setCell (p := ⟨w.heap.size, 1, none⟩) (Or.inr (Nat.le_refl _)) _).setCell (p := ⟨w.heap.size, 2, none⟩) (Or.inr (Nat.le_refl _)) _).setCell (p := ⟨w.heap.size, 3, none⟩) (Or.inr (Nat.le_refl _)) _).alloc _).drew⟩
end Go.Proofs.Ytchpekecgdbphaa
