/-
  The check sum; a number's eight bytes.
  A number's eight bytes.
  A sector that begins so.
  A head's sector; a piece's sector.
  A piece's sector.
-/
import Derived.Test.YtchpekecgdbphaaConc
import Derived.Deep.RegionHeld3
set_option linter.unusedVariables false
namespace Go.Proofs.Ytchpekecgdbphaa
open Go Go.RowKit Go.MapKept Go.ChangeMaps

theorem BytV.at {w : World} {v : Value} {l : List Int} (h : BytV w v l) {j : Nat} (hj : j < l.length) : ∃ k o c, v = .slice (some ⟨k, o, none⟩) l.length c ∧ w.cell? ⟨k, o + j, none⟩ = some (.int .u8 (l.getD j 0)) := by
  rcases h with ⟨rfl, _⟩ | ⟨k, o, c, hv, hc⟩
  · simp at hj
  · exact ⟨k, o, c, hv, hc j hj⟩
def crcBit (z : Int) : Int := bits .xor .u32 (z / 2) (bits .and .u32 2197175160 (-bits .and .u32 z 1 % 4294967296))
def crcBits : Nat → Int → Int
  | 0, z => z
  | n + 1, z => crcBit (crcBits n z)
def crcStep (z x : Int) : Int := crcBits 8 (bits .xor .u32 z (x % 4294967296))
def crcOf (l : List Int) : Int := l.foldl crcStep 4294967295
def crc (l : List Int) : Int := bits .xor .u32 IntKind.u32.max (crcOf l)
theorem crcOf_next {l : List Int} {q : Nat} (h : q < l.length) : crcOf (l.take (q + 1)) = crcStep (crcOf (l.take q)) (l.getD q 0) := by
  unfold crcOf
  rw [List.take_succ_eq_append_getElem h, List.foldl_append, List.getD_eq_getElem?_getD, List.getElem?_eq_getElem h]
  rfl
theorem sum_any (w : World) (v : Value) (l : List Int) (hb : BytV w v l) (hl : l.length ≤ 64) : Calls Try.prog 58 #[v] w (fun e w' => e = .returned (.int .u32 (crc l)) ∧ w' = w) := by
  obtain ⟨va, vc, rfl⟩ := hb.shape
  have HB := Lib.hid hb; clear hb
  go_enter Try.func58, Try.ntmps58
  go_wp2_with fail
  go_loopw [3, 8] (fun s i wr => ∃ q : Nat, q ≤ l.length ∧ s = .int .u32 (crcOf (l.take q)) ∧ i = .int .i64 q ∧ wr = w) (fun _ i _ => l.length - (intOf i).toNat)
  case atStart => exact ⟨0, by omega, rfl, rfl, rfl⟩
  case round =>
    obtain ⟨q, hq, rfl, rfl, rfl⟩ := hrel
    by_cases hlt : q < l.length
    · obtain ⟨k, o, c, hv, hc⟩ := HB.out.at hlt
      cases hv
      have HN := Lib.hid (crcOf_next hlt)
      generalize crcOf (l.take q) = z0 at HN
      generalize l.getD q 0 = x at HN hc
      go_wp2_with fail
      go_loopw [3, 16] (fun s i wr' => ∃ j : Nat, j ≤ 8 ∧ s = .int .u32 (crcBits j (bits .xor .u32 z0 (x % 4294967296))) ∧ i = .int .i64 j ∧ wr' = wr) (fun _ i _ => 8 - (intOf i).toNat)
      case atStart => exact ⟨0, by omega, rfl, rfl, rfl⟩
      case round =>
        obtain ⟨j, hj, rfl, rfl, rfl⟩ := hrel
        by_cases hlt' : j < 8
        · have HB1 := Lib.hid (show crcBits (j + 1) (bits .xor .u32 z0 (x % 4294967296)) = crcBit (crcBits j (bits .xor .u32 z0 (x % 4294967296))) from rfl)
          generalize crcBits j (bits .xor .u32 z0 (x % 4294967296)) = y0 at HB1
          go_wp2_with fail
          go_roundw
          case rel => exact ⟨j + 1, by omega, congrArg (Value.int .u32) HB1.out.symm, by go_num, by trivial⟩
          case measure => simp [intOf]; omega
        · obtain rfl : j = 8 := by omega
          have HC := Lib.hid (show crcBits 8 (bits .xor .u32 z0 (x % 4294967296)) = crcStep z0 x from rfl)
          generalize crcBits 8 (bits .xor .u32 z0 (x % 4294967296)) = y0 at HC
          go_wp2_with fail
          go_roundw
          case rel => exact ⟨q + 1, by omega, congrArg (Value.int .u32) (HC.out.trans HN.out.symm), by go_num, by trivial⟩
          case measure => simp [intOf]; omega
    · obtain rfl : q = l.length := by omega
      rw [List.take_length]
      have HC := Lib.hid (show bits .xor .u32 IntKind.u32.max (crcOf l) = crc l from rfl)
      generalize crcOf l = z at HC
      go_wp2_with fail
      go_ret
      exact ⟨congrArg _ (congrArg (Value.int .u32) HC.out), rfl⟩
end Go.Proofs.Ytchpekecgdbphaa
namespace Go.Proofs.Ytchpekecgdbphaa
open Go Go.RowKit Go.MapKept Go.ChangeMaps

def eby (n : Int) (q : Nat) : Int := n / 2 ^ (56 - 8 * q) % 256
def eightB (n : Int) : List Int := (List.range 8).map (eby n)
theorem eightB_length (n : Int) : (eightB n).length = 8 := by simp [eightB]
theorem eightB_next (n : Int) {q : Nat} (h : q < 8) : (eightB n).take (q + 1) = (eightB n).take q ++ [eby n q] := by
  rw [List.take_succ_eq_append_getElem (by rw [eightB_length]; exact h)]
  simp [eightB]
theorem one_byt {w : World} {x : Int} : BytV (w.alloc (.cells #[.int .u8 x] 5)) (.slice (some ⟨w.heap.size, 0, none⟩) 1 1) [x] :=
  .inr ⟨w.heap.size, 0, 1, rfl, fun j hj => by
    obtain rfl : j = 0 := by simpa using hj
    rw [World.cell?_alloc_at _ _ _ _ rfl]
    rfl⟩
theorem OwnPost.of {w w' : World} {l : List Int} {v : Value} (h : Own w.heap.size w' v l) (u : Upd (fun _ => False) w w') : OwnPost w l (.returned v) w' := ⟨v, rfl, h, u⟩
set_option maxHeartbeats 1000000 in
theorem eight_any (n : Int) (w : World) : Calls Try.prog 46 #[.int .i64 n] w (OwnPost w (eightB n)) := by
  have HL := Lib.hid (eightB_length n)
  have HX := fun q (h : q < 8) => Lib.hid (eightB_next n h)
  generalize eightB n = E at HL HX ⊢
  go_enter Try.func46, Try.ntmps46
  go_wp2_with fail
  go_loopw [3, 4] (fun b s wr => ∃ q : Nat, q ≤ 8 ∧ s = .int .i64 (56 - 8 * q) ∧ Own w.heap.size wr b (E.take q) ∧ Upd (fun _ => False) w wr) (fun _ s _ => ((intOf s) + 8).toNat)
  case atStart => exact ⟨0, by omega, rfl, Own.nil _ _, Upd.refl _ _⟩
  case round =>
    obtain ⟨q, hq, rfl, ho, hu⟩ := hrel
    obtain ⟨va, vc, rfl⟩ := ho.shape
    have HO := Lib.hid ho; clear ho
    have HU := Lib.hid hu; clear hu
    by_cases hlt : q < 8
    · have h1 := Lib.hid (HX q hlt).out
      have h4 : (E.take q).length + [eby n q].length ≤ 1099511627776 := by
        have : (E.take q).length ≤ q := by simp; omega
        simp; omega
      go_wp2_with (at_builtin; go_must (refine wpList_append_byt rfl _ _ rfl w.heap.size _ _ (E.take q) [eby n q] rfl (HO.out.old ((Upd.refl _ _).alloc _)) rfl one_byt h4 (by have := HU.out.size; simp; omega) ?_))
      intro v' w' ho' hu'
      rw [← h1.out] at ho'
      obtain ⟨va', vc', rfl⟩ := ho'.shape
      have HO' := Lib.hid ho'; clear ho'
      have HU' := Lib.hid (((HU.out.alloc _)).trans' hu' (fun i hi e => by omega)); clear hu'
      clear h1 h4
      go_wp2_with fail
      go_roundw
      case rel => exact ⟨q + 1, by omega, by go_num, HO'.out, HU'.out⟩
      case measure => simp [intOf]; omega
    · obtain rfl : q = 8 := by omega
      go_wp2_with fail
      go_ret
      have h := HO.out
      have e8 : E.take 8 = E := by rw [← HL.out, List.take_length]
      rw [e8] at h ⊢
      exact OwnPost.of h HU.out
end Go.Proofs.Ytchpekecgdbphaa
namespace Go.Proofs.Ytchpekecgdbphaa
open Go Go.RowKit Go.MapKept Go.ChangeMaps

def pad (l : List Int) : List Int := l ++ List.replicate (59 - l.length) 0
def tailB (x : Int) : List Int := [x / 16777216 % 256, x / 65536 % 256, x / 256 % 256, x % 256, 167]
def sealB (l : List Int) : List Int := pad l ++ tailB (crc (pad l))
theorem pad_length {l : List Int} (h : l.length ≤ 59) : (pad l).length = 59 := by simp [pad]; omega
theorem seal_is {l : List Int} (h : l.length ≤ 59) (x : Int) : (zeros.take 0 ++ l ++ zeros.drop (0 + l.length)).take 59 ++ tailB x ++ (zeros.take 0 ++ l ++ zeros.drop (0 + l.length)).drop (59 + (tailB x).length) = pad l ++ tailB x := by
  have h0 : zeros.take 0 ++ l ++ zeros.drop (0 + l.length) = pad l ++ List.replicate 5 0 := by
    simp only [List.take_zero, List.nil_append, Nat.zero_add, zeros, List.drop_replicate, pad, List.append_assoc, List.replicate_append_replicate]
    congr 2
    omega
  rw [h0, List.take_append_of_le_length (by rw [pad_length h]; omega), List.take_of_length_le (by rw [pad_length h]; omega), List.drop_eq_nil_of_le (by simp [pad_length h, tailB]), List.append_nil]
theorem seal_take {l : List Int} (h : l.length ≤ 59) : (zeros.take 0 ++ l ++ zeros.drop (0 + l.length)).take 59 = pad l := by
  have h0 : zeros.take 0 ++ l ++ zeros.drop (0 + l.length) = pad l ++ List.replicate 5 0 := by
    simp only [List.take_zero, List.nil_append, Nat.zero_add, zeros, List.drop_replicate, pad, List.append_assoc, List.replicate_append_replicate]
    congr 2
    omega
  rw [h0, List.take_append_of_le_length (by rw [pad_length h]; omega), List.take_of_length_le (by rw [pad_length h]; omega)]
theorem sec_take {w : World} {g : Nat} {l : List Int} (h : Sec w (.slice (some ⟨g, 0, none⟩) 64 64) l) {n c : Nat} (hn : n ≤ 64) : BytV w (.slice (some ⟨g, 0, none⟩) n c) (l.take n) := by
  obtain ⟨k, o, c', cur, e, hl, hk, hc⟩ := h
  obtain ⟨rfl, rfl⟩ : g = k ∧ 0 = o := by simp at e; omega
  have hn' : (l.take n).length = n := by simp; omega
  refine .inr ⟨g, 0, c, by rw [hn'], fun j hj => ?_⟩
  rw [hn'] at hj
  rw [hc j (by omega), List.getD_eq_getElem?_getD, List.getD_eq_getElem?_getD, List.getElem?_take_of_lt hj]
theorem row_byt {w : World} {l : List Int} (_h : 0 < l.length) : BytV (w.alloc (.cells (l.map (Value.int .u8)).toArray 5)) (.slice (some ⟨w.heap.size, 0, none⟩) l.length l.length) l :=
  .inr ⟨w.heap.size, 0, l.length, rfl, fun j hj => by
    rw [World.cell?_alloc_at _ _ _ _ rfl]
    simp [hj]⟩
set_option maxRecDepth 100000 in
set_option maxHeartbeats 1000000 in
theorem sealed_any (w : World) (v : Value) (l : List Int) (hb : BytV w v l) (hl : l.length ≤ 59) : Calls Try.prog 45 #[v] w (ClonePost w (sealB l)) := by
  obtain ⟨va, vc, rfl⟩ := hb.shape
  obtain ⟨w1, hmk, hs1, hu1, hz1⟩ := make_sec w
  obtain ⟨w2, hcp0, hs2, hu2⟩ := copy_at (o := 0) hs1 (hb.old hu1) (by omega)
  have hcp : (Builtin.copy_ #[28, 28] 3 #[.slice (some ⟨w.heap.size, 0, none⟩) 64 64, .slice va l.length vc]).run Try.prog w1 = .ok (.int .i64 l.length) w2 := hcp0 0
  clear hcp0
  have ht := sec_take hs2 (n := 59) (c := 64) (by omega)
  rw [seal_take hl] at ht
  have HT := Lib.hid ht; clear ht
  have HS2 := Lib.hid hs2; clear hs2
  have HU2 := Lib.hid (hu1.trans' hu2 (fun i hi e => by omega)); clear hu1 hu2
  clear hs1 hb
  have HPL := Lib.hid (pad_length hl)
  go_enter Try.func45, Try.ntmps45
  go_wp2_with fail
  refine (sum_any _ _ _ HT.out (by rw [HPL.out]; omega)).mono ?_
  rintro e w3 ⟨rfl, rfl⟩
  have HSE := Lib.hid (seal_is hl (crc (pad l)))
  have HSB := Lib.hid (show pad l ++ tailB (crc (pad l)) = sealB l from rfl)
  generalize crc (pad l) = x at HSE HSB
  obtain ⟨w4, hcp1, hs4, hu4⟩ := copy_at (o := 59) (HS2.out.old ((Upd.refl _ w3).alloc _)) (row_byt (w := w3) (l := tailB x) (by simp [tailB])) (by simp [tailB])
  rw [HSE.out, HSB.out] at hs4
  have hcp2 : (Builtin.copy_ #[28, 28] 3 #[.slice (some ⟨w.heap.size, 59, none⟩) 5 5, .slice (some ⟨w3.heap.size, 0, none⟩) 5 5]).run Try.prog (w3.alloc (.cells #[.int .u8 (x / 16777216 % 256), .int .u8 (x / 65536 % 256), .int .u8 (x / 256 % 256), .int .u8 (x % 256), .int .u8 167] 5)) = .ok (.int .i64 5) w4 := hcp1 0
  clear hcp1 hcp hmk
  have HS4 := Lib.hid hs4; clear hs4
  have HU4 := Lib.hid hu4; clear hu4
  go_wp2_with fail
  go_ret
  exact ⟨_, rfl, HS4.out, fun b o k c e => by cases e; exact Nat.le_refl _, (HU2.out.alloc _).trans' HU4.out (fun i hi e => by omega)⟩
theorem nought_any (w : World) (v : Value) (l : List Int) (h : Sec w v l) : Calls Try.prog 49 #[v] w (fun e w' => e = .returned (.bool (Lib.bytesOf l == Lib.bytesOf zeros)) ∧ Upd (fun _ => False) w w') := by
  obtain ⟨w1, hmk, hs1, hu1, hz1⟩ := make_sec w
  have hzl : zeros.length = 64 := List.length_replicate
  generalize zeros = Z at hs1 hzl ⊢
  have h' := h.old hu1
  obtain ⟨k, o, c, cur, rfl, hl, _, hc⟩ := h'
  obtain ⟨k', o', c', cur', hv, _, _, hc'⟩ := hs1
  obtain ⟨rfl, rfl, rfl⟩ : w.heap.size = k' ∧ 0 = o' ∧ c' = 0 := by simp at hv; omega
  have heq := Try.bytes_Equal_all (some ⟨k, o, none⟩) (some ⟨w.heap.size, 0, none⟩) 64 (64 + c) 64 64 l Z w1 hl hzl (fun _ => ⟨k, o, rfl, hc⟩) (fun _ => ⟨w.heap.size, 0, rfl, hc'⟩)
  have HE := Lib.hid heq; clear heq
  clear hc hc' h hv
  go_enter Try.func49, Try.ntmps49
  go_wp2_with (go_at_call 39; refine HE.out.mono ?_; rintro e w' ⟨rfl, rfl⟩)
  go_ret
  exact ⟨rfl, hu1⟩

theorem nought_zeros (w : World) (v : Value) (h : Sec w v zeros) : Calls Try.prog 49 #[v] w (fun e w' => e = .returned (.bool true) ∧ Upd (fun _ => False) w w') := by
  refine (nought_any w v zeros h).mono ?_
  rintro e w' ⟨rfl, hu⟩
  exact ⟨by rw [beq_self_eq_true], hu⟩
end Go.Proofs.Ytchpekecgdbphaa
namespace Go.Proofs.Ytchpekecgdbphaa
open Go Go.RowKit Go.MapKept Go.ChangeMaps

def headB (n l p f : Int) : List Int := sealB [[104], eightB n, eightB l, eightB p, eightB f].flatten
theorem concat5 (W : World) (g : Nat) (v1 v2 v3 v4 v5 : Value) (p1 p2 p3 p4 p5 : List Int) (b1 : BytV W v1 p1) (b2 : BytV W v2 p2) (b3 : BytV W v3 p3) (b4 : BytV W v4 p4) (b5 : BytV W v5 p5)
    (h1 : W.cell? ⟨g, 0, none⟩ = some v1) (h2 : W.cell? ⟨g, 1, none⟩ = some v2) (h3 : W.cell? ⟨g, 2, none⟩ = some v3) (h4 : W.cell? ⟨g, 3, none⟩ = some v4) (h5 : W.cell? ⟨g, 4, none⟩ = some v5) (hl : [p1, p2, p3, p4, p5].flatten.length ≤ 1099511627776) :
    Calls Try.prog 30 #[.slice (some ⟨g, 0, none⟩) 5 5] W (OwnPost W [p1, p2, p3, p4, p5].flatten) := by
  refine concat_any _ _ _ [p1, p2, p3, p4, p5] (fun q hq => ?_) (by simp) hl
  match q, hq with
  | 0, _ => exact ⟨v1, h1, b1⟩
  | 1, _ => exact ⟨v2, h2, b2⟩
  | 2, _ => exact ⟨v3, h3, b3⟩
  | 3, _ => exact ⟨v4, h4, b4⟩
  | 4, _ => exact ⟨v5, h5, b5⟩
theorem eight8 (n : Int) (w : World) : Calls Try.prog 46 #[.int .i64 n] w (fun e w' => ∃ a c, e = .returned (.slice a 8 c) ∧ BytV w' (.slice a 8 c) (eightB n) ∧ Upd (fun _ => False) w w') := by
  refine (eight_any n w).mono ?_
  rintro e w' ⟨v, rfl, ho, hu⟩
  obtain ⟨a, c, rfl⟩ := ho.shape
  have hb := ho.byt
  rw [eightB_length] at hb ⊢
  exact ⟨a, c, rfl, hb, hu⟩
theorem fresh_le {B B' : Nat} {v : Value} (h : Fresh B v) (hb : B' ≤ B) : Fresh B' v := fun b o n c e => Nat.le_trans hb (h b o n c e)
theorem head_keep {w w' : World} {b : Nat} {n l p f : Int} (h : w.cell? ⟨b, 0, none⟩ = some (.int .i64 n) ∧ w.cell? ⟨b, 1, none⟩ = some (.int .i64 l) ∧ w.cell? ⟨b, 2, none⟩ = some (.int .i64 p) ∧ w.cell? ⟨b, 3, none⟩ = some (.int .i64 f)) (u : Upd (fun _ => False) w w') :
    w'.cell? ⟨b, 0, none⟩ = some (.int .i64 n) ∧ w'.cell? ⟨b, 1, none⟩ = some (.int .i64 l) ∧ w'.cell? ⟨b, 2, none⟩ = some (.int .i64 p) ∧ w'.cell? ⟨b, 3, none⟩ = some (.int .i64 f) := by
  obtain ⟨h0, h1, h2, h3⟩ := h
  have hb := World.block_lt_of_cell? _ _ h0
  exact ⟨(u.cell (p := ⟨b, 0, none⟩) hb (fun h => h)).trans h0, (u.cell (p := ⟨b, 1, none⟩) hb (fun h => h)).trans h1, (u.cell (p := ⟨b, 2, none⟩) hb (fun h => h)).trans h2, (u.cell (p := ⟨b, 3, none⟩) hb (fun h => h)).trans h3⟩
set_option maxRecDepth 100000 in
set_option maxHeartbeats 4000000 in
theorem head_any (n l p f : Int) (w : World) : Calls Try.prog 48 #[.agg #[.int .i64 n, .int .i64 l, .int .i64 p, .int .i64 f]] w (ClonePost w (headB n l p f)) := by
  have hz : (w.alloc (.cells #[.int .i64 n, .int .i64 l, .int .i64 p, .int .i64 f] 62)).cell? ⟨w.heap.size, 0, none⟩ = some (.int .i64 n) ∧ (w.alloc (.cells #[.int .i64 n, .int .i64 l, .int .i64 p, .int .i64 f] 62)).cell? ⟨w.heap.size, 1, none⟩ = some (.int .i64 l) ∧
      (w.alloc (.cells #[.int .i64 n, .int .i64 l, .int .i64 p, .int .i64 f] 62)).cell? ⟨w.heap.size, 2, none⟩ = some (.int .i64 p) ∧ (w.alloc (.cells #[.int .i64 n, .int .i64 l, .int .i64 p, .int .i64 f] 62)).cell? ⟨w.heap.size, 3, none⟩ = some (.int .i64 f) :=
    ⟨World.cell?_alloc_at _ _ _ _ rfl, World.cell?_alloc_at _ _ _ _ rfl, World.cell?_alloc_at _ _ _ _ rfl, World.cell?_alloc_at _ _ _ _ rfl⟩
  obtain ⟨hh, u0⟩ : ∃ wh, wh = w.alloc (.cells #[.int .i64 n, .int .i64 l, .int .i64 p, .int .i64 f] 62) := ⟨_, rfl⟩
  rw [← u0] at hz
  have HL := Lib.hid (show [[104], eightB n, eightB l, eightB p, eightB f].flatten.length ≤ 59 by simp [eightB_length])
  have HN := Lib.hid (show sealB [[104], eightB n, eightB l, eightB p, eightB f].flatten = headB n l p f from rfl)
  have hu0 : Upd (fun _ => False) w hh := by rw [u0]; exact (Upd.refl _ _).alloc _
  have HU0 := Lib.hid hu0; clear hu0
  have HZ := Lib.hid hz; clear hz
  have H0 := Lib.hid u0; clear u0
  go_enter Try.func48, Try.ntmps48
  go_wp2_with fail
  rw [← H0.out]
  go_region_held3 (fun w' => w'.cell? ⟨w.heap.size, 0, none⟩ = some (.int .i64 n) ∧ w'.cell? ⟨w.heap.size, 1, none⟩ = some (.int .i64 l) ∧ w'.cell? ⟨w.heap.size, 2, none⟩ = some (.int .i64 p) ∧ w'.cell? ⟨w.heap.size, 3, none⟩ = some (.int .i64 f))
    (first | exact HZ.out | exact head_keep HZ.out (by repeat (first | exact Upd.refl _ _ | exact U6.out | exact U5.out | exact U4.out | exact U3.out | exact U2.out | exact U1.out | apply Upd.drew | apply Upd.alloc))) (first | (go_at_call 46; first | (have t := U3; clear t; refine (eight8 _ _).mono ?_; rintro e w4 ⟨a4, c4, rfl, b4, hu4⟩; have x4 : Upd (fun _ => False) w3 w4 := Upd.trans (by repeat (first | exact Upd.refl _ _ | apply Upd.drew | apply Upd.alloc)) hu4; have B1 := Lib.hid (B1.out.old x4); have B2 := Lib.hid (B2.out.old x4); have B3 := Lib.hid (B3.out.old x4); have B4 := Lib.hid b4; have U4 := Lib.hid (U3.out.trans x4); first | (have BL := Lib.hid (BL.out.old x4)) | (have BL := Lib.hid (one_byt.old hu4)) | (have BL := Lib.hid (one_byt.old (((Upd.refl _ _).drew).trans hu4))) | skip; clear b4 x4 hu4) | (have t := U2; clear t; refine (eight8 _ _).mono ?_; rintro e w3 ⟨a3, c3, rfl, b3, hu3⟩; have x3 : Upd (fun _ => False) w2 w3 := Upd.trans (by repeat (first | exact Upd.refl _ _ | apply Upd.drew | apply Upd.alloc)) hu3; have B1 := Lib.hid (B1.out.old x3); have B2 := Lib.hid (B2.out.old x3); have B3 := Lib.hid b3; have U3 := Lib.hid (U2.out.trans x3); first | (have BL := Lib.hid (BL.out.old x3)) | (have BL := Lib.hid (one_byt.old hu3)) | (have BL := Lib.hid (one_byt.old (((Upd.refl _ _).drew).trans hu3))) | skip; clear b3 x3 hu3) | (have t := U1; clear t; refine (eight8 _ _).mono ?_; rintro e w2 ⟨a2, c2, rfl, b2, hu2⟩; have x2 : Upd (fun _ => False) w1 w2 := Upd.trans (by repeat (first | exact Upd.refl _ _ | apply Upd.drew | apply Upd.alloc)) hu2; have B1 := Lib.hid (B1.out.old x2); have B2 := Lib.hid b2; have U2 := Lib.hid (U1.out.trans x2); first | (have BL := Lib.hid (BL.out.old x2)) | (have BL := Lib.hid (one_byt.old hu2)) | (have BL := Lib.hid (one_byt.old (((Upd.refl _ _).drew).trans hu2))) | skip; clear b2 x2 hu2) | (refine (eight8 _ _).mono ?_; rintro e w1 ⟨a1, c1, rfl, b1, hu1⟩; have x1 : Upd (fun _ => False) hh w1 := Upd.trans (by repeat (first | exact Upd.refl _ _ | apply Upd.drew | apply Upd.alloc)) hu1; have B1 := Lib.hid b1; have U1 := Lib.hid (x1); first | (have BL := Lib.hid (BL.out.old x1)) | (have BL := Lib.hid (one_byt.old hu1)) | (have BL := Lib.hid (one_byt.old (((Upd.refl _ _).drew).trans hu1))) | skip; clear b1 x1 hu1)) | (go_at_call 30; refine (concat5 _ _ _ (.slice a1 8 c1) (.slice a2 8 c2) (.slice a3 8 c3) (.slice a4 8 c4) [104] (eightB n) (eightB l) (eightB p) (eightB f) (by first | exact BL.out.old (by repeat (first | exact Upd.refl _ _ | apply Upd.drew | apply Upd.alloc)) | exact (one_byt (w := w4)).old (by repeat (first | exact Upd.refl _ _ | apply Upd.drew | apply Upd.alloc)) | exact (one_byt (w := w4.drew)).old (by repeat (first | exact Upd.refl _ _ | apply Upd.drew | apply Upd.alloc))) (B1.out.old (by repeat (first | exact Upd.refl _ _ | apply Upd.drew | apply Upd.alloc))) (B2.out.old (by repeat (first | exact Upd.refl _ _ | apply Upd.drew | apply Upd.alloc))) (B3.out.old (by repeat (first | exact Upd.refl _ _ | apply Upd.drew | apply Upd.alloc))) (B4.out.old (by repeat (first | exact Upd.refl _ _ | apply Upd.drew | apply Upd.alloc))) (by simp [go_sem] <;> rfl) (by simp [go_sem] <;> rfl) (by simp [go_sem] <;> rfl) (by simp [go_sem] <;> rfl) (by simp [go_sem] <;> rfl) (Nat.le_trans HL.out (by decide))).mono ?_; rintro e w5 ⟨v5, rfl, ho5, hu5⟩; have B5 := Lib.hid ho5.byt; have x5 : Upd (fun _ => False) w4 w5 := Upd.trans (by repeat (first | exact Upd.refl _ _ | apply Upd.drew | apply Upd.alloc)) hu5; have U5 := Lib.hid (U4.out.trans x5); obtain ⟨a5, c5, rfl⟩ := ho5.shape; clear ho5 hu5 x5) | (go_at_call 45; refine (sealed_any _ _ _ (B5.out.old (by repeat (first | exact Upd.refl _ _ | apply Upd.drew | apply Upd.alloc))) HL.out).mono ?_; rintro e w6 ⟨v6, rfl, hs6, hf6, hu6⟩; obtain ⟨k6, o6, c6, rfl, _⟩ := hs6.shape; have S6 := Lib.hid hs6; have F6 := Lib.hid hf6; have x6 : Upd (fun _ => False) w5 w6 := Upd.trans (by repeat (first | exact Upd.refl _ _ | apply Upd.drew | apply Upd.alloc)) hu6; have X6 := Lib.hid x6; have U6 := Lib.hid (U5.out.trans x6); clear hs6 hf6 hu6 x6))
  all_goals
    go_wp2_with fail
    go_ret
    rw [HN.out] at S6
    exact ⟨_, rfl, S6.out, fresh_le F6.out (by have := (HU0.out.trans U5.out).size; omega), HU0.out.trans U6.out⟩
end Go.Proofs.Ytchpekecgdbphaa
namespace Go.Proofs.Ytchpekecgdbphaa
open Go Go.RowKit Go.MapKept Go.ChangeMaps

def bit (b : Bool) : Int := if b then 1 else 0
def pieceB (n : Int) (l : List Int) (b c : Bool) : List Int := sealB [[114], eightB n, [IntKind.u8.wrap (l.length : Int), bit b, bit c], l].flatten
/-- The flags, so far. -/
structure Flags (w : World) (q : Nat) (b c : Bool) (wr : World) : Prop where
  z0 : wr.cell? ⟨w.heap.size, 0, none⟩ = some (.int .u8 (bit (decide (1 ≤ q) && b)))
  z1 : wr.cell? ⟨w.heap.size, 1, none⟩ = some (.int .u8 (bit (decide (2 ≤ q) && c)))
  fz : ∀ j, wr.frozen? ⟨w.heap.size, j, none⟩ = false
  up : Upd (fun _ => False) w wr
  lt : w.heap.size < wr.heap.size
theorem Flags.put {w wr : World} {q : Nat} {b c : Bool} (h : Flags w q b c wr) (hq : q < 2) (hb : (if q = 0 then b else c) = true) : Flags w (q + 1) b c (wr.setCell ⟨w.heap.size, q, none⟩ (.int .u8 1)) := by
  refine ⟨?_, ?_, fun j => ?_, h.up.setCell (p := ⟨w.heap.size, q, none⟩) (Or.inr (Nat.le_refl _)) _, by simpa using h.lt⟩
  · by_cases e : q = 0
    · subst e
      rw [if_pos rfl] at hb
      subst hb
      exact World.cell?_setCell_same' _ _ _ (by rw [h.z0]; rfl)
    · rw [World.cell?_setCell_other _ _ _ _ (fun e' => by simp only [Addr.mk.injEq] at e'; omega), h.z0]
      rw [show decide (1 ≤ q + 1) = true from by simp, show decide (1 ≤ q) = true from by simp; omega]
  · by_cases e : q = 1
    · subst e
      rw [if_neg (by omega)] at hb
      subst hb
      exact World.cell?_setCell_same' _ _ _ (by rw [h.z1]; rfl)
    · rw [World.cell?_setCell_other _ _ _ _ (fun e' => by simp only [Addr.mk.injEq] at e'; omega), h.z1]
      have : q = 0 := by omega
      subst this
      rfl
  · show (World.setCell _ _ _).frozen? _ = false
    rw [World.frozen?_setCell]
    exact h.fz j
theorem Flags.skip {w wr : World} {q : Nat} {b c : Bool} (h : Flags w q b c wr) (hq : q < 2) (hb : (if q = 0 then b else c) = false) : Flags w (q + 1) b c wr := by
  refine ⟨?_, ?_, h.fz, h.up, h.lt⟩
  · rw [h.z0]
    by_cases e : q = 0
    · subst e; rw [if_pos rfl] at hb; subst hb; rfl
    · rw [show decide (1 ≤ q + 1) = true from by simp, show decide (1 ≤ q) = true from by simp; omega]
  · rw [h.z1]
    by_cases e : q = 1
    · subst e; rw [if_neg (by omega)] at hb; subst hb; rfl
    · have : q = 0 := by omega
      subst this; rfl
theorem concat4 (W : World) (g : Nat) (v1 v2 v3 v4 : Value) (p1 p2 p3 p4 : List Int)
    (h1 : W.cell? ⟨g, 0, none⟩ = some v1) (h2 : W.cell? ⟨g, 1, none⟩ = some v2) (h3 : W.cell? ⟨g, 2, none⟩ = some v3) (h4 : W.cell? ⟨g, 3, none⟩ = some v4) (b1 : BytV W v1 p1) (b2 : BytV W v2 p2) (b3 : BytV W v3 p3) (b4 : BytV W v4 p4) (F : List Int) (hF : F = [p1, p2, p3, p4].flatten) (hl : F.length ≤ 1099511627776) :
    Calls Try.prog 30 #[.slice (some ⟨g, 0, none⟩) 4 4] W (OwnPost W F) := by
  subst hF
  refine concat_any _ _ _ [p1, p2, p3, p4] (fun q hq => ?_) (by simp) hl
  match q, hq with
  | 0, _ => exact ⟨v1, h1, b1⟩
  | 1, _ => exact ⟨v2, h2, b2⟩
  | 2, _ => exact ⟨v3, h3, b3⟩
  | 3, _ => exact ⟨v4, h4, b4⟩
theorem one_at {w : World} {g : Nat} {x : Int} (h : w.cell? ⟨g, 0, none⟩ = some (.int .u8 x)) : BytV w (.slice (some ⟨g, 0, none⟩) 1 1) [x] :=
  .inr ⟨g, 0, 1, rfl, fun j hj => by
    obtain rfl : j = 0 := by simpa using hj
    exact h⟩
theorem three_at {w : World} {g : Nat} {x y z : Int} (h0 : w.cell? ⟨g, 0, none⟩ = some (.int .u8 x)) (h1 : w.cell? ⟨g, 1, none⟩ = some (.int .u8 y)) (h2 : w.cell? ⟨g, 2, none⟩ = some (.int .u8 z)) : BytV w (.slice (some ⟨g, 0, none⟩) 3 3) [x, y, z] :=
  .inr ⟨g, 0, 3, rfl, fun j hj => by
    have hj' : j < 3 := hj
    match j, hj' with
    | 0, _ => exact h0
    | 1, _ => exact h1
    | 2, _ => exact h2⟩
theorem two_keep {w w' : World} {b : Nat} {x y : Value} (h : w.cell? ⟨b, 0, none⟩ = some x ∧ w.cell? ⟨b, 1, none⟩ = some y) (u : Upd (fun _ => False) w w') : w'.cell? ⟨b, 0, none⟩ = some x ∧ w'.cell? ⟨b, 1, none⟩ = some y := by
  obtain ⟨h0, h1⟩ := h
  have hb := World.block_lt_of_cell? _ _ h0
  exact ⟨(u.cell (p := ⟨b, 0, none⟩) hb (fun h => h)).trans h0, (u.cell (p := ⟨b, 1, none⟩) hb (fun h => h)).trans h1⟩
set_option maxRecDepth 100000 in
set_option maxHeartbeats 4000000 in
theorem piece_any (n : Int) (v : Value) (l : List Int) (b c : Bool) (w : World) (hb : BytV w v l) (hl : l.length ≤ 40) : Calls Try.prog 27 #[.int .i64 n, v, .bool b, .bool c] w (ClonePost w (pieceB n l b c)) := by
  obtain ⟨va, vc, rfl⟩ := hb.shape
  have HB := Lib.hid hb; clear hb
  have hll : (l.length : Int) ≤ 40 := by omega
  have i0 : ∀ w, (Instr.index 86 (.agg #[.bool b, .bool c]) (.int .i64 0)).run Try.prog w = .ok (.bool b) w := fun _ => by kernel_rfl
  have i1 : ∀ w, (Instr.index 86 (.agg #[.bool b, .bool c]) (.int .i64 1)).run Try.prog w = .ok (.bool c) w := fun _ => by kernel_rfl
  go_enter Try.func27, Try.ntmps27
  go_wp2_with fail
  go_loopw [16] (fun i wr => ∃ q : Nat, q ≤ 2 ∧ i = .int .i64 q ∧ Flags w q b c wr) (fun i _ => 2 - (intOf i).toNat)
  case atStart => exact ⟨0, by omega, rfl, by simp [go_sem]; rfl, by simp [go_sem]; rfl, fun j => by have hk := (MapKept.heap_alloc w (.cells #[.int .u8 0, .int .u8 0] 85)).1; simp only [World.frozen?, hk]; simp, (Upd.refl _ _).alloc _, by simp⟩
  case round =>
    obtain ⟨q, hq, rfl, hF⟩ := hrel
    have HF := Lib.hid hF; clear hF
    have hfz := HF.out.fz
    have z0 := HF.out.z0
    have z1 := HF.out.z1
    by_cases hlt : q < 2
    · cases hbc : (if q = 0 then b else c) with
      | true =>
        have HF' := Lib.hid (HF.out.put hlt hbc)
        obtain rfl | rfl : q = 0 ∨ q = 1 := by omega
        · rw [if_pos rfl] at hbc
          subst hbc
          go_wp2_with fail
          go_roundw
          case rel => exact ⟨1, by omega, rfl, HF'.out⟩
          case measure => simp [intOf]
        · rw [if_neg (by omega)] at hbc
          subst hbc
          go_wp2_with fail
          go_roundw
          case rel => exact ⟨2, by omega, rfl, HF'.out⟩
          case measure => simp [intOf]
      | false =>
        have HF' := Lib.hid (HF.out.skip hlt hbc)
        obtain rfl | rfl : q = 0 ∨ q = 1 := by omega
        · rw [if_pos rfl] at hbc
          subst hbc
          go_wp2_with fail
          go_roundw
          case rel => exact ⟨1, by omega, rfl, HF'.out⟩
          case measure => simp [intOf]
        · rw [if_neg (by omega)] at hbc
          subst hbc
          go_wp2_with fail
          go_roundw
          case rel => exact ⟨2, by omega, rfl, HF'.out⟩
          case measure => simp [intOf]
    · obtain rfl : q = 2 := by omega
      have hz : wr.cell? ⟨w.heap.size, 0, none⟩ = some (.int .u8 (bit b)) ∧ wr.cell? ⟨w.heap.size, 1, none⟩ = some (.int .u8 (bit c)) := ⟨z0, z1⟩
      have HL := Lib.hid (show [[114], eightB n, [IntKind.u8.wrap (l.length : Int), bit b, bit c], l].flatten.length ≤ 59 by simp [eightB_length]; omega)
      have HN := Lib.hid (show sealB [[114], eightB n, [IntKind.u8.wrap (l.length : Int), bit b, bit c], l].flatten = pieceB n l b c from rfl)
      obtain ⟨F, hFF⟩ : ∃ F, F = [[114], eightB n, [IntKind.u8.wrap (l.length : Int), bit b, bit c], l].flatten := ⟨_, rfl⟩
      rw [← hFF] at HL HN
      generalize bit b = fx at hz hFF
      generalize bit c = fy at hz hFF
      have HFF := Lib.hid hFF; clear hFF
      have HZ := Lib.hid hz; clear hz
      have HBR := Lib.hid (HB.out.old HF.out.up)
      clear z0 z1 hfz i0 i1 hlt hq
      go_wp2_with fail
      go_region_held3 (fun w' => w'.cell? ⟨w.heap.size, 0, none⟩ = some (.int .u8 fx) ∧ w'.cell? ⟨w.heap.size, 1, none⟩ = some (.int .u8 fy))
        (first | exact HZ.out | exact two_keep HZ.out (by repeat (first | exact Upd.refl _ _ | exact U6.out | exact U5.out | exact U1.out | apply Upd.drew | apply Upd.alloc))) (first | (go_at_call 46; refine (eight8 _ _).mono ?_; rintro e w1 ⟨a1, c1, rfl, b1, hu1⟩; have x1 : Upd (fun _ => False) wr w1 := Upd.trans (by repeat (first | exact Upd.refl _ _ | apply Upd.drew | apply Upd.alloc)) hu1; have U1 := Lib.hid x1; have B1 := Lib.hid b1; have qa0 := fun h => hu1.cell (p := ⟨wr.heap.size, 0, none⟩) h (fun h => h); simp [go_sem] at qa0; have qa1 := fun h => hu1.cell (p := ⟨wr.heap.size, 1, none⟩) h (fun h => h); simp [go_sem] at qa1; have qa2 := fun h => hu1.cell (p := ⟨wr.heap.size, 2, none⟩) h (fun h => h); simp [go_sem] at qa2; have qc0 := fun h => hu1.cell (p := ⟨(wr.heap.size + 1), 0, none⟩) h (fun h => h); simp [go_sem] at qc0; have qc1 := fun h => hu1.cell (p := ⟨(wr.heap.size + 1), 1, none⟩) h (fun h => h); simp [go_sem] at qc1; have qc2 := fun h => hu1.cell (p := ⟨(wr.heap.size + 1), 2, none⟩) h (fun h => h); simp [go_sem] at qc2; clear b1 x1 hu1) | (go_at_call 30; refine (concat4 _ _ _ _ _ _ [114] (eightB n) [IntKind.u8.wrap (l.length : Int), fx, fy] l (by simp [go_sem] <;> rfl) (by simp [go_sem] <;> rfl) (by simp [go_sem] <;> rfl) (by simp [go_sem] <;> rfl) (by first | exact (one_at qa0).old (by repeat (first | exact Upd.refl _ _ | apply Upd.drew | apply Upd.alloc)) | exact (one_at qc0).old (by repeat (first | exact Upd.refl _ _ | apply Upd.drew | apply Upd.alloc)) | exact one_at (by simp [go_sem] <;> rfl)) (B1.out.old (by repeat (first | exact Upd.refl _ _ | apply Upd.drew | apply Upd.alloc))) (by first | exact (three_at qa0 qa1 qa2).old (by repeat (first | exact Upd.refl _ _ | apply Upd.drew | apply Upd.alloc)) | exact (three_at qc0 qc1 qc2).old (by repeat (first | exact Upd.refl _ _ | apply Upd.drew | apply Upd.alloc)) | exact three_at (by simp [go_sem] <;> rfl) (by simp [go_sem] <;> rfl) (by simp [go_sem] <;> rfl)) (HBR.out.old (by repeat (first | exact Upd.refl _ _ | exact U1.out | apply Upd.drew | apply Upd.alloc))) F HFF.out (Nat.le_trans HL.out (by decide))).mono ?_; rintro e w5 ⟨v5, rfl, ho5, hu5⟩; have B5 := Lib.hid ho5.byt; have x5 : Upd (fun _ => False) w1 w5 := Upd.trans (by repeat (first | exact Upd.refl _ _ | apply Upd.drew | apply Upd.alloc)) hu5; have U5 := Lib.hid (U1.out.trans x5); obtain ⟨a5, c5, rfl⟩ := ho5.shape; clear ho5 hu5 x5) | (go_at_call 45; refine (sealed_any _ _ _ (B5.out.old (by repeat (first | exact Upd.refl _ _ | apply Upd.drew | apply Upd.alloc))) HL.out).mono ?_; rintro e w6 ⟨v6, rfl, hs6, hf6, hu6⟩; obtain ⟨k6, o6, c6, rfl, _⟩ := hs6.shape; have S6 := Lib.hid hs6; have F6 := Lib.hid hf6; have x6 : Upd (fun _ => False) w5 w6 := Upd.trans (by repeat (first | exact Upd.refl _ _ | apply Upd.drew | apply Upd.alloc)) hu6; have U6 := Lib.hid (U5.out.trans x6); clear hs6 hf6 hu6 x6))
      all_goals
        go_wp2_with fail
        go_ret
        rw [HN.out] at S6
        exact ⟨_, rfl, S6.out, fresh_le F6.out (by have := (HF.out.up.trans U5.out).size; omega), HF.out.up.trans U6.out⟩
end Go.Proofs.Ytchpekecgdbphaa
