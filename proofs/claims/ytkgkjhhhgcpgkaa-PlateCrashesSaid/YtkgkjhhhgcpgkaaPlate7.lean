/-
  Spoil; Equal.
-/
import Derived.Test.YtkgkjhhhgcpgkaaPlate6
namespace Go.Proofs.Ytkgkjhhhgcpgkaa
open Go Go.RowKit Go.MapKept Go.ChangeMaps

theorem equal_sec (w : World) (v v' : Value) (l : List Int) (h : Sec w v l) (h' : Sec w v' l) : Calls Try.prog 12 #[v, v'] w (Same w (.bool true)) := by
  obtain ⟨k, o, c, cur, rfl, hl, _, hc⟩ := h
  obtain ⟨k', o', c', cur', rfl, _, _, hc'⟩ := h'
  refine (Try.bytes_Equal_all (some ⟨k, o, none⟩) (some ⟨k', o', none⟩) 64 (64 + c) 64 (64 + c') l l w hl hl ?_ ?_).mono ?_
  · exact fun _ => ⟨k, o, rfl, hc⟩
  · exact fun _ => ⟨k', o', rfl, hc'⟩
  · rintro e w' ⟨rfl, rfl⟩
    exact ⟨by simp, rfl⟩
/-- The bytes that are spoilt are there. -/
def SpoilRel (w : World) (k o : Nat) (wr : World) : Prop := Upd (fun j => j = k) w wr ∧ (∃ cur, wr.heap[k]? = some (.cells cur 5 (0, 0))) ∧ ∀ j, j < 64 → ∃ x, wr.cell? ⟨k, o + j, none⟩ = some (.int .u8 x)
theorem spoil_put {w wr : World} {k o q : Nat} {x : Int} (h : SpoilRel w k o wr) : SpoilRel w k o (wr.setCell ⟨k, o + q, none⟩ (.int .u8 x)) := by
  obtain ⟨hu, ⟨cur, hk⟩, hc⟩ := h
  refine ⟨hu.setCell (p := ⟨k, o + q, none⟩) (Or.inl rfl) _, ⟨cur.setIfInBounds (o + q) (.int .u8 x), ?_⟩, fun j hj => ?_⟩
  · show (wr.heap.modify k _)[k]? = _
    rw [Array.getElem?_modify, if_pos rfl, hk]
    rfl
  · obtain ⟨y, hy⟩ := hc j hj
    by_cases e : j = q
    · subst e
      exact ⟨x, World.cell?_setCell_same' _ _ _ (by rw [hy]; rfl)⟩
    · exact ⟨y, by rw [World.cell?_setCell_other _ _ _ _ (fun e' => by simp only [Addr.mk.injEq, Nat.add_left_cancel_iff] at e'; exact e e'.2.1.symm)]; exact hy⟩
theorem spoil_at {w wr : World} {k o : Nat} (h : SpoilRel w k o wr) (j : Nat) : wr.frozen? ⟨k, o + j, none⟩ = false := by
  obtain ⟨hu, ⟨cur, hk⟩, hc⟩ := h
  simp [World.frozen?, hk]
def SpoilPost (w : World) (k : Nat) (e : Ending) (w' : World) : Prop := e = .returned (.tuple #[]) ∧ Upd (fun j => j = k) w w'
set_option maxHeartbeats 1000000 in
theorem spoil_any (w : World) (a k o c : Nat) (l : List Int) (ha : w.cell? ⟨a, 0, none⟩ = some (.slice (some ⟨k, o, none⟩) 64 c)) (ht : ∃ cur, w.heap[a]? = some (.cells cur 28 (0, 0))) (hs : Sec w (.slice (some ⟨k, o, none⟩) 64 c) l) :
    Calls Try.prog 13 #[.slice (some ⟨a, 0, none⟩) 1 1] w (SpoilPost w k) := by
  have hst : SpoilRel w k o w := by
    obtain ⟨k', o', c', cur, e, hl, hk, hc⟩ := hs
    cases e
    exact ⟨Upd.refl _ _, ⟨cur, hk⟩, fun j hj => ⟨_, hc j hj⟩⟩
  have hak : a ≠ k := fun e => by
    obtain ⟨k', o', c', cur, e', hl, hk, hc⟩ := hs
    cases e'
    obtain ⟨cur', ht'⟩ := ht
    rw [e, hk] at ht'; cases ht'
  have la := World.block_lt_of_cell? _ _ ha
  simp only [] at la
  have HST := Lib.hid hst; clear hst hs
  go_enter Try.func13, Try.ntmps13
  go_wp2_with fail
  go_loopw [7] (fun i wr => ∃ q : Nat, q ≤ 1 ∧ i = .int .i64 q ∧ SpoilRel w k o wr) (fun i _ => 1 - (intOf i).toNat)
  case atStart => exact ⟨0, by omega, rfl, HST.out⟩
  case round =>
    obtain ⟨q, hq, rfl, hR⟩ := hrel
    have HR := Lib.hid hR; clear hR
    by_cases hlt : q < 1
    · obtain rfl : q = 0 := by omega
      have ha1 := (HR.out.1.cell (p := ⟨a, 0, none⟩) la hak).trans ha
      go_wp2_with fail
      go_loopw [13] (fun i wr => ∃ j : Nat, j ≤ 64 ∧ i = .int .i64 j ∧ SpoilRel w k o wr) (fun i _ => 64 - (intOf i).toNat)
      case atStart => exact ⟨0, by omega, rfl, HR.out⟩
      case round =>
        obtain ⟨j, hj, rfl, hR2⟩ := hrel
        have HR2 := Lib.hid hR2; clear hR2
        by_cases hjl : j < 64
        · obtain ⟨x, hx⟩ := HR2.out.2.2 j hjl
          have hfz := spoil_at HR2.out j
          go_wp2_with fail
          go_roundw
          case rel => exact ⟨j + 1, hjl, by go_num, spoil_put HR2.out⟩
          case measure => simp [intOf]; omega
        · go_wp2_with fail
          go_roundw
          case rel => exact ⟨1, Nat.le_refl _, rfl, HR2.out⟩
          case measure => simp [intOf]
    · go_wp2_with fail
      go_end0
      exact ⟨rfl, HR.out.1⟩
end Go.Proofs.Ytkgkjhhhgcpgkaa
