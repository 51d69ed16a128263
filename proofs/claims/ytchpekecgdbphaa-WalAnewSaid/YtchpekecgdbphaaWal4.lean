/-
  A head's sector; a piece's sector.
-/
import Derived.Test.YtchpekecgdbphaaWal3
import Derived.Deep.RegionHeld3
namespace Go.Proofs.Ytchpekecgdbphaa
open Go Go.RowKit Go.MapKept Go.ChangeMaps

def headB (n l p f : Int) : List Int := sealB [[104], eightB n, eightB l, eightB p, eightB f].flatten
theorem concat5 (W : World) (g : Nat) (v1 v2 v3 v4 v5 : Value) (p1 p2 p3 p4 p5 : List Int) (b1 : BytV W v1 p1) (b2 : BytV W v2 p2) (b3 : BytV W v3 p3) (b4 : BytV W v4 p4) (b5 : BytV W v5 p5)
    (h1 : W.cell? ⟨g, 0, none⟩ = some v1) (h2 : W.cell? ⟨g, 1, none⟩ = some v2) (h3 : W.cell? ⟨g, 2, none⟩ = some v3) (h4 : W.cell? ⟨g, 3, none⟩ = some v4) (h5 : W.cell? ⟨g, 4, none⟩ = some v5) (hl : [p1, p2, p3, p4, p5].flatten.length ≤ 1099511627776) :
    Calls Try.prog 30 #[.slice (some ⟨g, 0, none⟩) 5 5] W (OwnPost W [p1, p2, p3, p4, p5].flatten) := by
  refine concat_any _ _ _ [p1, p2, p3, p4, p5] (fun q hq => ?_) (by simp) hl
  match q, hq with
  | 0, _ => exact ⟨v1, h1, b1⟩
  | 1, _ => exact ⟨v2, h2, b2⟩
  | 2, _ => exact ⟨v3, h3, b3⟩
  | 3, _ => exact ⟨v4, h4, b4⟩
  | 4, _ => exact ⟨v5, h5, b5⟩
theorem eight8 (n : Int) (w : World) : Calls Try.prog 46 #[.int .i64 n] w (fun e w' => ∃ a c, e = .returned (.slice a 8 c) ∧ BytV w' (.slice a 8 c) (eightB n) ∧ Upd (fun _ => False) w w') := by
  refine (eight_any n w).mono ?_
  rintro e w' ⟨v, rfl, ho, hu⟩
  obtain ⟨a, c, rfl⟩ := ho.shape
  have hb := ho.byt
  rw [eightB_length] at hb ⊢
  exact ⟨a, c, rfl, hb, hu⟩
theorem fresh_le {B B' : Nat} {v : Value} (h : Fresh B v) (hb : B' ≤ B) : Fresh B' v := fun b o n c e => Nat.le_trans hb (h b o n c e)
theorem head_keep {w w' : World} {b : Nat} {n l p f : Int} (h : w.cell? ⟨b, 0, none⟩ = some (.int .i64 n) ∧ w.cell? ⟨b, 1, none⟩ = some (.int .i64 l) ∧ w.cell? ⟨b, 2, none⟩ = some (.int .i64 p) ∧ w.cell? ⟨b, 3, none⟩ = some (.int .i64 f)) (u : Upd (fun _ => False) w w') :
    w'.cell? ⟨b, 0, none⟩ = some (.int .i64 n) ∧ w'.cell? ⟨b, 1, none⟩ = some (.int .i64 l) ∧ w'.cell? ⟨b, 2, none⟩ = some (.int .i64 p) ∧ w'.cell? ⟨b, 3, none⟩ = some (.int .i64 f) := by
  obtain ⟨h0, h1, h2, h3⟩ := h
  have hb := World.block_lt_of_cell? _ _ h0
  exact ⟨(u.cell (p := ⟨b, 0, none⟩) hb (fun h => h)).trans h0, (u.cell (p := ⟨b, 1, none⟩) hb (fun h => h)).trans h1, (u.cell (p := ⟨b, 2, none⟩) hb (fun h => h)).trans h2, (u.cell (p := ⟨b, 3, none⟩) hb (fun h => h)).trans h3⟩
set_option maxRecDepth 100000 in
set_option maxHeartbeats 4000000 in
theorem head_any (n l p f : Int) (w : World) : Calls Try.prog 48 #[.agg #[.int .i64 n, .int .i64 l, .int .i64 p, .int .i64 f]] w (ClonePost w (headB n l p f)) := by
  have hz : (w.alloc (.cells #[.int .i64 n, .int .i64 l, .int .i64 p, .int .i64 f] 62)).cell? ⟨w.heap.size, 0, none⟩ = some (.int .i64 n) ∧ (w.alloc (.cells #[.int .i64 n, .int .i64 l, .int .i64 p, .int .i64 f] 62)).cell? ⟨w.heap.size, 1, none⟩ = some (.int .i64 l) ∧
      (w.alloc (.cells #[.int .i64 n, .int .i64 l, .int .i64 p, .int .i64 f] 62)).cell? ⟨w.heap.size, 2, none⟩ = some (.int .i64 p) ∧ (w.alloc (.cells #[.int .i64 n, .int .i64 l, .int .i64 p, .int .i64 f] 62)).cell? ⟨w.heap.size, 3, none⟩ = some (.int .i64 f) :=
    ⟨World.cell?_alloc_at _ _ _ _ rfl, World.cell?_alloc_at _ _ _ _ rfl, World.cell?_alloc_at _ _ _ _ rfl, World.cell?_alloc_at _ _ _ _ rfl⟩
  obtain ⟨hh, u0⟩ : ∃ wh, wh = w.alloc (.cells #[.int .i64 n, .int .i64 l, .int .i64 p, .int .i64 f] 62) := ⟨_, rfl⟩
  rw [← u0] at hz
  have HL := Lib.hid (show [[104], eightB n, eightB l, eightB p, eightB f].flatten.length ≤ 59 by simp [eightB_length])
  have HN := Lib.hid (show sealB [[104], eightB n, eightB l, eightB p, eightB f].flatten = headB n l p f from rfl)
  have hu0 : Upd (fun _ => False) w hh := by rw [u0]; exact (Upd.refl _ _).alloc _
  have HU0 := Lib.hid hu0; clear hu0
  have HZ := Lib.hid hz; clear hz
  have H0 := Lib.hid u0; clear u0
  go_enter Try.func48, Try.ntmps48
  go_wp2_with fail
  rw [← H0.out]
  go_region_held3 (fun w' => w'.cell? ⟨w.heap.size, 0, none⟩ = some (.int .i64 n) ∧ w'.cell? ⟨w.heap.size, 1, none⟩ = some (.int .i64 l) ∧ w'.cell? ⟨w.heap.size, 2, none⟩ = some (.int .i64 p) ∧ w'.cell? ⟨w.heap.size, 3, none⟩ = some (.int .i64 f))
    (first | exact HZ.out | exact head_keep HZ.out (by repeat (first | exact Upd.refl _ _ | exact U6.out | exact U5.out | exact U4.out | exact U3.out | exact U2.out | exact U1.out | apply Upd.drew | apply Upd.alloc))) (first | (go_at_call 46; first | (have t := U3; clear t; refine (eight8 _ _).mono ?_; rintro e w4 ⟨a4, c4, rfl, b4, hu4⟩; have x4 : Upd (fun _ => False) w3 w4 := Upd.trans (by repeat (first | exact Upd.refl _ _ | apply Upd.drew | apply Upd.alloc)) hu4; have B1 := Lib.hid (B1.out.old x4); have B2 := Lib.hid (B2.out.old x4); have B3 := Lib.hid (B3.out.old x4); have B4 := Lib.hid b4; have U4 := Lib.hid (U3.out.trans x4); first | (have BL := Lib.hid (BL.out.old x4)) | (have BL := Lib.hid (one_byt.old hu4)) | (have BL := Lib.hid (one_byt.old (((Upd.refl _ _).drew).trans hu4))) | skip; clear b4 x4 hu4) | (have t := U2; clear t; refine (eight8 _ _).mono ?_; rintro e w3 ⟨a3, c3, rfl, b3, hu3⟩; have x3 : Upd (fun _ => False) w2 w3 := Upd.trans (by repeat (first | exact Upd.refl _ _ | apply Upd.drew | apply Upd.alloc)) hu3; have B1 := Lib.hid (B1.out.old x3); have B2 := Lib.hid (B2.out.old x3); have B3 := Lib.hid b3; have U3 := Lib.hid (U2.out.trans x3); first | (have BL := Lib.hid (BL.out.old x3)) | (have BL := Lib.hid (one_byt.old hu3)) | (have BL := Lib.hid (one_byt.old (((Upd.refl _ _).drew).trans hu3))) | skip; clear b3 x3 hu3) | (have t := U1; clear t; refine (eight8 _ _).mono ?_; rintro e w2 ⟨a2, c2, rfl, b2, hu2⟩; have x2 : Upd (fun _ => False) w1 w2 := Upd.trans (by repeat (first | exact Upd.refl _ _ | apply Upd.drew | apply Upd.alloc)) hu2; have B1 := Lib.hid (B1.out.old x2); have B2 := Lib.hid b2; have U2 := Lib.hid (U1.out.trans x2); first | (have BL := Lib.hid (BL.out.old x2)) | (have BL := Lib.hid (one_byt.old hu2)) | (have BL := Lib.hid (one_byt.old (((Upd.refl _ _).drew).trans hu2))) | skip; clear b2 x2 hu2) | (refine (eight8 _ _).mono ?_; rintro e w1 ⟨a1, c1, rfl, b1, hu1⟩; have x1 : Upd (fun _ => False) hh w1 := Upd.trans (by repeat (first | exact Upd.refl _ _ | apply Upd.drew | apply Upd.alloc)) hu1; have B1 := Lib.hid b1; have U1 := Lib.hid (x1); first | (have BL := Lib.hid (BL.out.old x1)) | (have BL := Lib.hid (one_byt.old hu1)) | (have BL := Lib.hid (one_byt.old (((Upd.refl _ _).drew).trans hu1))) | skip; clear b1 x1 hu1)) | (go_at_call 30; refine (concat5 _ _ _ (.slice a1 8 c1) (.slice a2 8 c2) (.slice a3 8 c3) (.slice a4 8 c4) [104] (eightB n) (eightB l) (eightB p) (eightB f) (by first | exact BL.out.old (by repeat (first | exact Upd.refl _ _ | apply Upd.drew | apply Upd.alloc)) | exact (one_byt (w := w4)).old (by repeat (first | exact Upd.refl _ _ | apply Upd.drew | apply Upd.alloc)) | exact (one_byt (w := w4.drew)).old (by repeat (first | exact Upd.refl _ _ | apply Upd.drew | apply Upd.alloc))) (B1.out.old (by repeat (first | exact Upd.refl _ _ | apply Upd.drew | apply Upd.alloc))) (B2.out.old (by repeat (first | exact Upd.refl _ _ | apply Upd.drew | apply Upd.alloc))) (B3.out.old (by repeat (first | exact Upd.refl _ _ | apply Upd.drew | apply Upd.alloc))) (B4.out.old (by repeat (first | exact Upd.refl _ _ | apply Upd.drew | apply Upd.alloc))) (by simp [go_sem] <;> rfl) (by simp [go_sem] <;> rfl) (by simp [go_sem] <;> rfl) (by simp [go_sem] <;> rfl) (by simp [go_sem] <;> rfl) (Nat.le_trans HL.out (by decide))).mono ?_; rintro e w5 ⟨v5, rfl, ho5, hu5⟩; have B5 := Lib.hid ho5.byt; have x5 : Upd (fun _ => False) w4 w5 := Upd.trans (by repeat (first | exact Upd.refl _ _ | apply Upd.drew | apply Upd.alloc)) hu5; have U5 := Lib.hid (U4.out.trans x5); obtain ⟨a5, c5, rfl⟩ := ho5.shape; clear ho5 hu5 x5) | (go_at_call 45; refine (sealed_any _ _ _ (B5.out.old (by repeat (first | exact Upd.refl _ _ | apply Upd.drew | apply Upd.alloc))) HL.out).mono ?_; rintro e w6 ⟨v6, rfl, hs6, hf6, hu6⟩; obtain ⟨k6, o6, c6, rfl, _⟩ := hs6.shape; have S6 := Lib.hid hs6; have F6 := Lib.hid hf6; have x6 : Upd (fun _ => False) w5 w6 := Upd.trans (by repeat (first | exact Upd.refl _ _ | apply Upd.drew | apply Upd.alloc)) hu6; have X6 := Lib.hid x6; have U6 := Lib.hid (U5.out.trans x6); clear hs6 hf6 hu6 x6))
  all_goals
    go_wp2_with fail
    go_ret
    rw [HN.out] at S6
    exact ⟨_, rfl, S6.out, fresh_le F6.out (by have := (HU0.out.trans U5.out).size; omega), HU0.out.trans U6.out⟩
end Go.Proofs.Ytchpekecgdbphaa
