/-
  A sector that begins so.
-/
import Derived.Test.YtchpekecgdbphaaWal2
namespace Go.Proofs.Ytchpekecgdbphaa
open Go Go.RowKit Go.MapKept Go.ChangeMaps

def pad (l : List Int) : List Int := l ++ List.replicate (59 - l.length) 0
def tailB (x : Int) : List Int := [x / 16777216 % 256, x / 65536 % 256, x / 256 % 256, x % 256, 167]
def sealB (l : List Int) : List Int := pad l ++ tailB (crc (pad l))
theorem pad_length {l : List Int} (h : l.length ≤ 59) : (pad l).length = 59 := by simp [pad]; omega
theorem seal_is {l : List Int} (h : l.length ≤ 59) (x : Int) : (zeros.take 0 ++ l ++ zeros.drop (0 + l.length)).take 59 ++ tailB x ++ (zeros.take 0 ++ l ++ zeros.drop (0 + l.length)).drop (59 + (tailB x).length) = pad l ++ tailB x := by
  have h0 : zeros.take 0 ++ l ++ zeros.drop (0 + l.length) = pad l ++ List.replicate 5 0 := by
    simp only [List.take_zero, List.nil_append, Nat.zero_add, zeros, List.drop_replicate, pad, List.append_assoc, List.replicate_append_replicate]
    congr 2
    omega
  rw [h0, List.take_append_of_le_length (by rw [pad_length h]; omega), List.take_of_length_le (by rw [pad_length h]; omega), List.drop_eq_nil_of_le (by simp [pad_length h, tailB]), List.append_nil]
theorem seal_take {l : List Int} (h : l.length ≤ 59) : (zeros.take 0 ++ l ++ zeros.drop (0 + l.length)).take 59 = pad l := by
  have h0 : zeros.take 0 ++ l ++ zeros.drop (0 + l.length) = pad l ++ List.replicate 5 0 := by
    simp only [List.take_zero, List.nil_append, Nat.zero_add, zeros, List.drop_replicate, pad, List.append_assoc, List.replicate_append_replicate]
    congr 2
    omega
  rw [h0, List.take_append_of_le_length (by rw [pad_length h]; omega), List.take_of_length_le (by rw [pad_length h]; omega)]
theorem sec_take {w : World} {g : Nat} {l : List Int} (h : Sec w (.slice (some ⟨g, 0, none⟩) 64 64) l) {n c : Nat} (hn : n ≤ 64) : BytV w (.slice (some ⟨g, 0, none⟩) n c) (l.take n) := by
  obtain ⟨k, o, c', cur, e, hl, hk, hc⟩ := h
  obtain ⟨rfl, rfl⟩ : g = k ∧ 0 = o := by simp at e; omega
  have hn' : (l.take n).length = n := by simp; omega
  refine .inr ⟨g, 0, c, by rw [hn'], fun j hj => ?_⟩
  rw [hn'] at hj
  rw [hc j (by omega), List.getD_eq_getElem?_getD, List.getD_eq_getElem?_getD, List.getElem?_take_of_lt hj]
theorem row_byt {w : World} {l : List Int} (_h : 0 < l.length) : BytV (w.alloc (.cells (l.map (Value.int .u8)).toArray 5)) (.slice (some ⟨w.heap.size, 0, none⟩) l.length l.length) l :=
  .inr ⟨w.heap.size, 0, l.length, rfl, fun j hj => by
    rw [World.cell?_alloc_at _ _ _ _ rfl]
    simp [hj]⟩
set_option maxRecDepth 100000 in
set_option maxHeartbeats 1000000 in
theorem sealed_any (w : World) (v : Value) (l : List Int) (hb : BytV w v l) (hl : l.length ≤ 59) : Calls Try.prog 45 #[v] w (ClonePost w (sealB l)) := by
  obtain ⟨va, vc, rfl⟩ := hb.shape
  obtain ⟨w1, hmk, hs1, hu1, hz1⟩ := make_sec w
  obtain ⟨w2, hcp0, hs2, hu2⟩ := copy_at (o := 0) hs1 (hb.old hu1) (by omega)
  have hcp : (Builtin.copy_ #[28, 28] 3 #[.slice (some ⟨w.heap.size, 0, none⟩) 64 64, .slice va l.length vc]).run Try.prog w1 = .ok (.int .i64 l.length) w2 := hcp0 0
  clear hcp0
  have ht := sec_take hs2 (n := 59) (c := 64) (by omega)
  rw [seal_take hl] at ht
  have HT := Lib.hid ht; clear ht
  have HS2 := Lib.hid hs2; clear hs2
  have HU2 := Lib.hid (hu1.trans' hu2 (fun i hi e => by omega)); clear hu1 hu2
  clear hs1 hb
  have HPL := Lib.hid (pad_length hl)
  go_enter Try.func45, Try.ntmps45
  go_wp2_with fail
  refine (sum_any _ _ _ HT.out (by rw [HPL.out]; omega)).mono ?_
  rintro e w3 ⟨rfl, rfl⟩
  have HSE := Lib.hid (seal_is hl (crc (pad l)))
  have HSB := Lib.hid (show pad l ++ tailB (crc (pad l)) = sealB l from rfl)
  generalize crc (pad l) = x at HSE HSB
  obtain ⟨w4, hcp1, hs4, hu4⟩ := copy_at (o := 59) (HS2.out.old ((Upd.refl _ w3).alloc _)) (row_byt (w := w3) (l := tailB x) (by simp [tailB])) (by simp [tailB])
  rw [HSE.out, HSB.out] at hs4
  have hcp2 : (Builtin.copy_ #[28, 28] 3 #[.slice (some ⟨w.heap.size, 59, none⟩) 5 5, .slice (some ⟨w3.heap.size, 0, none⟩) 5 5]).run Try.prog (w3.alloc (.cells #[.int .u8 (x / 16777216 % 256), .int .u8 (x / 65536 % 256), .int .u8 (x / 256 % 256), .int .u8 (x % 256), .int .u8 167] 5)) = .ok (.int .i64 5) w4 := hcp1 0
  clear hcp1 hcp hmk
  have HS4 := Lib.hid hs4; clear hs4
  have HU4 := Lib.hid hu4; clear hu4
  go_wp2_with fail
  go_ret
  exact ⟨_, rfl, HS4.out, fun b o k c e => by cases e; exact Nat.le_refl _, (HU2.out.alloc _).trans' HU4.out (fun i hi e => by omega)⟩
theorem nought_any (w : World) (v : Value) (l : List Int) (h : Sec w v l) : Calls Try.prog 49 #[v] w (fun e w' => e = .returned (.bool (Lib.bytesOf l == Lib.bytesOf zeros)) ∧ Upd (fun _ => False) w w') := by
  obtain ⟨w1, hmk, hs1, hu1, hz1⟩ := make_sec w
  have hzl : zeros.length = 64 := List.length_replicate
  generalize zeros = Z at hs1 hzl ⊢
  have h' := h.old hu1
  obtain ⟨k, o, c, cur, rfl, hl, _, hc⟩ := h'
  obtain ⟨k', o', c', cur', hv, _, _, hc'⟩ := hs1
  obtain ⟨rfl, rfl, rfl⟩ : w.heap.size = k' ∧ 0 = o' ∧ c' = 0 := by simp at hv; omega
  have heq := Try.bytes_Equal_all (some ⟨k, o, none⟩) (some ⟨w.heap.size, 0, none⟩) 64 (64 + c) 64 64 l Z w1 hl hzl (fun _ => ⟨k, o, rfl, hc⟩) (fun _ => ⟨w.heap.size, 0, rfl, hc'⟩)
  have HE := Lib.hid heq; clear heq
  clear hc hc' h hv
  go_enter Try.func49, Try.ntmps49
  go_wp2_with (go_at_call 39; refine HE.out.mono ?_; rintro e w' ⟨rfl, rfl⟩)
  go_ret
  exact ⟨rfl, hu1⟩

theorem nought_zeros (w : World) (v : Value) (h : Sec w v zeros) : Calls Try.prog 49 #[v] w (fun e w' => e = .returned (.bool true) ∧ Upd (fun _ => False) w w') := by
  refine (nought_any w v zeros h).mono ?_
  rintro e w' ⟨rfl, hu⟩
  exact ⟨by rw [beq_self_eq_true], hu⟩
end Go.Proofs.Ytchpekecgdbphaa
