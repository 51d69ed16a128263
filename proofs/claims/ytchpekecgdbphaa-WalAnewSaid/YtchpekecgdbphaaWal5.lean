/-
  A piece's sector.
-/
import Derived.Test.YtchpekecgdbphaaWal4
namespace Go.Proofs.Ytchpekecgdbphaa
open Go Go.RowKit Go.MapKept Go.ChangeMaps

def bit (b : Bool) : Int := if b then 1 else 0
def pieceB (n : Int) (l : List Int) (b c : Bool) : List Int := sealB [[114], eightB n, [IntKind.u8.wrap (l.length : Int), bit b, bit c], l].flatten
/-- The flags, so far. -/
structure Flags (w : World) (q : Nat) (b c : Bool) (wr : World) : Prop where
  z0 : wr.cell? ⟨w.heap.size, 0, none⟩ = some (.int .u8 (bit (decide (1 ≤ q) && b)))
  z1 : wr.cell? ⟨w.heap.size, 1, none⟩ = some (.int .u8 (bit (decide (2 ≤ q) && c)))
  fz : ∀ j, wr.frozen? ⟨w.heap.size, j, none⟩ = false
  up : Upd (fun _ => False) w wr
  lt : w.heap.size < wr.heap.size
theorem Flags.put {w wr : World} {q : Nat} {b c : Bool} (h : Flags w q b c wr) (hq : q < 2) (hb : (if q = 0 then b else c) = true) : Flags w (q + 1) b c (wr.setCell ⟨w.heap.size, q, none⟩ (.int .u8 1)) := by
  refine ⟨?_, ?_, fun j => ?_, h.up.setCell (p := ⟨w.heap.size, q, none⟩) (Or.inr (Nat.le_refl _)) _, by simpa using h.lt⟩
  · by_cases e : q = 0
    · subst e
      rw [if_pos rfl] at hb
      subst hb
      exact World.cell?_setCell_same' _ _ _ (by rw [h.z0]; rfl)
    · rw [World.cell?_setCell_other _ _ _ _ (fun e' => by simp only [Addr.mk.injEq] at e'; omega), h.z0]
      rw [show decide (1 ≤ q + 1) = true from by simp, show decide (1 ≤ q) = true from by simp; omega]
  · by_cases e : q = 1
    · subst e
      rw [if_neg (by omega)] at hb
      subst hb
      exact World.cell?_setCell_same' _ _ _ (by rw [h.z1]; rfl)
    · rw [World.cell?_setCell_other _ _ _ _ (fun e' => by simp only [Addr.mk.injEq] at e'; omega), h.z1]
      have : q = 0 := by omega
      subst this
      rfl
  · show (World.setCell _ _ _).frozen? _ = false
    rw [World.frozen?_setCell]
    exact h.fz j
theorem Flags.skip {w wr : World} {q : Nat} {b c : Bool} (h : Flags w q b c wr) (hq : q < 2) (hb : (if q = 0 then b else c) = false) : Flags w (q + 1) b c wr := by
  refine ⟨?_, ?_, h.fz, h.up, h.lt⟩
  · rw [h.z0]
    by_cases e : q = 0
    · subst e; rw [if_pos rfl] at hb; subst hb; rfl
    · rw [show decide (1 ≤ q + 1) = true from by simp, show decide (1 ≤ q) = true from by simp; omega]
  · rw [h.z1]
    by_cases e : q = 1
    · subst e; rw [if_neg (by omega)] at hb; subst hb; rfl
    · have : q = 0 := by omega
      subst this; rfl
theorem concat4 (W : World) (g : Nat) (v1 v2 v3 v4 : Value) (p1 p2 p3 p4 : List Int)
    (h1 : W.cell? ⟨g, 0, none⟩ = some v1) (h2 : W.cell? ⟨g, 1, none⟩ = some v2) (h3 : W.cell? ⟨g, 2, none⟩ = some v3) (h4 : W.cell? ⟨g, 3, none⟩ = some v4) (b1 : BytV W v1 p1) (b2 : BytV W v2 p2) (b3 : BytV W v3 p3) (b4 : BytV W v4 p4) (F : List Int) (hF : F = [p1, p2, p3, p4].flatten) (hl : F.length ≤ 1099511627776) :
    Calls Try.prog 30 #[.slice (some ⟨g, 0, none⟩) 4 4] W (OwnPost W F) := by
  subst hF
  refine concat_any _ _ _ [p1, p2, p3, p4] (fun q hq => ?_) (by simp) hl
  match q, hq with
  | 0, _ => exact ⟨v1, h1, b1⟩
  | 1, _ => exact ⟨v2, h2, b2⟩
  | 2, _ => exact ⟨v3, h3, b3⟩
  | 3, _ => exact ⟨v4, h4, b4⟩
theorem one_at {w : World} {g : Nat} {x : Int} (h : w.cell? ⟨g, 0, none⟩ = some (.int .u8 x)) : BytV w (.slice (some ⟨g, 0, none⟩) 1 1) [x] :=
  .inr ⟨g, 0, 1, rfl, fun j hj => by
    obtain rfl : j = 0 := by simpa using hj
    exact h⟩
theorem three_at {w : World} {g : Nat} {x y z : Int} (h0 : w.cell? ⟨g, 0, none⟩ = some (.int .u8 x)) (h1 : w.cell? ⟨g, 1, none⟩ = some (.int .u8 y)) (h2 : w.cell? ⟨g, 2, none⟩ = some (.int .u8 z)) : BytV w (.slice (some ⟨g, 0, none⟩) 3 3) [x, y, z] :=
  .inr ⟨g, 0, 3, rfl, fun j hj => by
    have hj' : j < 3 := hj
    match j, hj' with
    | 0, _ => exact h0
    | 1, _ => exact h1
    | 2, _ => exact h2⟩
theorem two_keep {w w' : World} {b : Nat} {x y : Value} (h : w.cell? ⟨b, 0, none⟩ = some x ∧ w.cell? ⟨b, 1, none⟩ = some y) (u : Upd (fun _ => False) w w') : w'.cell? ⟨b, 0, none⟩ = some x ∧ w'.cell? ⟨b, 1, none⟩ = some y := by
  obtain ⟨h0, h1⟩ := h
  have hb := World.block_lt_of_cell? _ _ h0
  exact ⟨(u.cell (p := ⟨b, 0, none⟩) hb (fun h => h)).trans h0, (u.cell (p := ⟨b, 1, none⟩) hb (fun h => h)).trans h1⟩
set_option maxRecDepth 100000 in
set_option maxHeartbeats 4000000 in
theorem piece_any (n : Int) (v : Value) (l : List Int) (b c : Bool) (w : World) (hb : BytV w v l) (hl : l.length ≤ 40) : Calls Try.prog 27 #[.int .i64 n, v, .bool b, .bool c] w (ClonePost w (pieceB n l b c)) := by
  obtain ⟨va, vc, rfl⟩ := hb.shape
  have HB := Lib.hid hb; clear hb
  have hll : (l.length : Int) ≤ 40 := by omega
  have i0 : ∀ w, (Instr.index 86 (.agg #[.bool b, .bool c]) (.int .i64 0)).run Try.prog w = .ok (.bool b) w := fun _ => by kernel_rfl
  have i1 : ∀ w, (Instr.index 86 (.agg #[.bool b, .bool c]) (.int .i64 1)).run Try.prog w = .ok (.bool c) w := fun _ => by kernel_rfl
  go_enter Try.func27, Try.ntmps27
  go_wp2_with fail
  go_loopw [16] (fun i wr => ∃ q : Nat, q ≤ 2 ∧ i = .int .i64 q ∧ Flags w q b c wr) (fun i _ => 2 - (intOf i).toNat)
  case atStart => exact ⟨0, by omega, rfl, by simp [go_sem]; rfl, by simp [go_sem]; rfl, fun j => by have hk := (MapKept.heap_alloc w (.cells #[.int .u8 0, .int .u8 0] 85)).1; simp only [World.frozen?, hk]; simp, (Upd.refl _ _).alloc _, by simp⟩
  case round =>
    obtain ⟨q, hq, rfl, hF⟩ := hrel
    have HF := Lib.hid hF; clear hF
    have hfz := HF.out.fz
    have z0 := HF.out.z0
    have z1 := HF.out.z1
    by_cases hlt : q < 2
    · cases hbc : (if q = 0 then b else c) with
      | true =>
        have HF' := Lib.hid (HF.out.put hlt hbc)
        obtain rfl | rfl : q = 0 ∨ q = 1 := by omega
        · rw [if_pos rfl] at hbc
          subst hbc
          go_wp2_with fail
          go_roundw
          case rel => exact ⟨1, by omega, rfl, HF'.out⟩
          case measure => simp [intOf]
        · rw [if_neg (by omega)] at hbc
          subst hbc
          go_wp2_with fail
          go_roundw
          case rel => exact ⟨2, by omega, rfl, HF'.out⟩
          case measure => simp [intOf]
      | false =>
        have HF' := Lib.hid (HF.out.skip hlt hbc)
        obtain rfl | rfl : q = 0 ∨ q = 1 := by omega
        · rw [if_pos rfl] at hbc
          subst hbc
          go_wp2_with fail
          go_roundw
          case rel => exact ⟨1, by omega, rfl, HF'.out⟩
          case measure => simp [intOf]
        · rw [if_neg (by omega)] at hbc
          subst hbc
          go_wp2_with fail
          go_roundw
          case rel => exact ⟨2, by omega, rfl, HF'.out⟩
          case measure => simp [intOf]
    · obtain rfl : q = 2 := by omega
      have hz : wr.cell? ⟨w.heap.size, 0, none⟩ = some (.int .u8 (bit b)) ∧ wr.cell? ⟨w.heap.size, 1, none⟩ = some (.int .u8 (bit c)) := ⟨z0, z1⟩
      have HL := Lib.hid (show [[114], eightB n, [IntKind.u8.wrap (l.length : Int), bit b, bit c], l].flatten.length ≤ 59 by simp [eightB_length]; omega)
      have HN := Lib.hid (show sealB [[114], eightB n, [IntKind.u8.wrap (l.length : Int), bit b, bit c], l].flatten = pieceB n l b c from rfl)
      obtain ⟨F, hFF⟩ : ∃ F, F = [[114], eightB n, [IntKind.u8.wrap (l.length : Int), bit b, bit c], l].flatten := ⟨_, rfl⟩
      rw [← hFF] at HL HN
      generalize bit b = fx at hz hFF
      generalize bit c = fy at hz hFF
      have HFF := Lib.hid hFF; clear hFF
      have HZ := Lib.hid hz; clear hz
      have HBR := Lib.hid (HB.out.old HF.out.up)
      clear z0 z1 hfz i0 i1 hlt hq
      go_wp2_with fail
      go_region_held3 (fun w' => w'.cell? ⟨w.heap.size, 0, none⟩ = some (.int .u8 fx) ∧ w'.cell? ⟨w.heap.size, 1, none⟩ = some (.int .u8 fy))
        (first | exact HZ.out | exact two_keep HZ.out (by repeat (first | exact Upd.refl _ _ | exact U6.out | exact U5.out | exact U1.out | apply Upd.drew | apply Upd.alloc))) (first | (go_at_call 46; refine (eight8 _ _).mono ?_; rintro e w1 ⟨a1, c1, rfl, b1, hu1⟩; have x1 : Upd (fun _ => False) wr w1 := Upd.trans (by repeat (first | exact Upd.refl _ _ | apply Upd.drew | apply Upd.alloc)) hu1; have U1 := Lib.hid x1; have B1 := Lib.hid b1; have qa0 := fun h => hu1.cell (p := ⟨wr.heap.size, 0, none⟩) h (fun h => h); simp [go_sem] at qa0; have qa1 := fun h => hu1.cell (p := ⟨wr.heap.size, 1, none⟩) h (fun h => h); simp [go_sem] at qa1; have qa2 := fun h => hu1.cell (p := ⟨wr.heap.size, 2, none⟩) h (fun h => h); simp [go_sem] at qa2; have qc0 := fun h => hu1.cell (p := ⟨(wr.heap.size + 1), 0, none⟩) h (fun h => h); simp [go_sem] at qc0; have qc1 := fun h => hu1.cell (p := ⟨(wr.heap.size + 1), 1, none⟩) h (fun h => h); simp [go_sem] at qc1; have qc2 := fun h => hu1.cell (p := ⟨(wr.heap.size + 1), 2, none⟩) h (fun h => h); simp [go_sem] at qc2; clear b1 x1 hu1) | (go_at_call 30; refine (concat4 _ _ _ _ _ _ [114] (eightB n) [IntKind.u8.wrap (l.length : Int), fx, fy] l (by simp [go_sem] <;> rfl) (by simp [go_sem] <;> rfl) (by simp [go_sem] <;> rfl) (by simp [go_sem] <;> rfl) (by first | exact (one_at qa0).old (by repeat (first | exact Upd.refl _ _ | apply Upd.drew | apply Upd.alloc)) | exact (one_at qc0).old (by repeat (first | exact Upd.refl _ _ | apply Upd.drew | apply Upd.alloc)) | exact one_at (by simp [go_sem] <;> rfl)) (B1.out.old (by repeat (first | exact Upd.refl _ _ | apply Upd.drew | apply Upd.alloc))) (by first | exact (three_at qa0 qa1 qa2).old (by repeat (first | exact Upd.refl _ _ | apply Upd.drew | apply Upd.alloc)) | exact (three_at qc0 qc1 qc2).old (by repeat (first | exact Upd.refl _ _ | apply Upd.drew | apply Upd.alloc)) | exact three_at (by simp [go_sem] <;> rfl) (by simp [go_sem] <;> rfl) (by simp [go_sem] <;> rfl)) (HBR.out.old (by repeat (first | exact Upd.refl _ _ | exact U1.out | apply Upd.drew | apply Upd.alloc))) F HFF.out (Nat.le_trans HL.out (by decide))).mono ?_; rintro e w5 ⟨v5, rfl, ho5, hu5⟩; have B5 := Lib.hid ho5.byt; have x5 : Upd (fun _ => False) w1 w5 := Upd.trans (by repeat (first | exact Upd.refl _ _ | apply Upd.drew | apply Upd.alloc)) hu5; have U5 := Lib.hid (U1.out.trans x5); obtain ⟨a5, c5, rfl⟩ := ho5.shape; clear ho5 hu5 x5) | (go_at_call 45; refine (sealed_any _ _ _ (B5.out.old (by repeat (first | exact Upd.refl _ _ | apply Upd.drew | apply Upd.alloc))) HL.out).mono ?_; rintro e w6 ⟨v6, rfl, hs6, hf6, hu6⟩; obtain ⟨k6, o6, c6, rfl, _⟩ := hs6.shape; have S6 := Lib.hid hs6; have F6 := Lib.hid hf6; have x6 : Upd (fun _ => False) w5 w6 := Upd.trans (by repeat (first | exact Upd.refl _ _ | apply Upd.drew | apply Upd.alloc)) hu6; have U6 := Lib.hid (U5.out.trans x6); clear hs6 hf6 hu6 x6))
      all_goals
        go_wp2_with fail
        go_ret
        rw [HN.out] at S6
        exact ⟨_, rfl, S6.out, fresh_le F6.out (by have := (HF.out.up.trans U5.out).size; omega), HF.out.up.trans U6.out⟩
end Go.Proofs.Ytchpekecgdbphaa
