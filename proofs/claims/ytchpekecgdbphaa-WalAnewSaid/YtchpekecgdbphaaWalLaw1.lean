/-
  Bytes of heads and pieces, read back.
-/
import Derived.Test.YtchpekecgdbphaaWal5
namespace Go.Proofs.Ytchpekecgdbphaa
open Go Go.RowKit Go.MapKept Go.ChangeMaps

/-- Each is a byte. -/
def IsB (l : List Int) : Prop := ∀ x ∈ l, 0 ≤ x ∧ x < 256
theorem IsB.append {l m : List Int} (h : IsB l) (k : IsB m) : IsB (l ++ m) := fun x hx => (List.mem_append.1 hx).elim (h x) (k x)
theorem IsB.take {l : List Int} (h : IsB l) (n : Nat) : IsB (l.take n) := fun x hx => h x (List.mem_of_mem_take hx)
theorem IsB.drop {l : List Int} (h : IsB l) (n : Nat) : IsB (l.drop n) := fun x hx => h x (List.mem_of_mem_drop hx)
theorem IsB.nil : IsB [] := fun _ h => by cases h
theorem IsB.replicate (n : Nat) : IsB (List.replicate n 0) := fun x hx => by rw [(List.mem_replicate.1 hx).2]; omega
theorem isB_zeros : IsB zeros := IsB.replicate 64
theorem IsB.at {l : List Int} (h : IsB l) (j : Nat) : 0 ≤ l.getD j 0 ∧ l.getD j 0 < 256 := by
  rw [List.getD_eq_getElem?_getD]
  cases hq : l[j]? with
  | none => simp
  | some x => exact h x (List.mem_of_getElem? hq)
theorem isB_eight (n : Int) : IsB (eightB n) := fun x hx => by
  obtain ⟨q, _, rfl⟩ := List.mem_map.1 hx
  unfold eby
  omega
theorem isB_tail (x : Int) : IsB (tailB x) := fun y hy => by
  simp only [tailB, List.mem_cons, List.not_mem_nil, or_false] at hy
  omega
theorem isB_seal {l : List Int} (h : IsB l) : IsB (sealB l) := (h.append (IsB.replicate _)).append (isB_tail _)
theorem seal_length {l : List Int} (h : l.length ≤ 59) : (sealB l).length = 64 := by
  unfold sealB
  rw [List.length_append, pad_length h]
  rfl
theorem seal_last {l : List Int} (h : l.length ≤ 59) : (sealB l).getD 63 0 = 167 := by
  unfold sealB
  rw [List.getD_eq_getElem?_getD, List.getElem?_append_right (by rw [pad_length h]; omega), pad_length h]
  rfl
theorem seal_get {l : List Int} {j : Nat} (h : j < l.length) : (sealB l).getD j 0 = l.getD j 0 := by
  unfold sealB pad
  rw [List.getD_eq_getElem?_getD, List.getD_eq_getElem?_getD, List.append_assoc, List.getElem?_append_left h]
theorem seal_take_of {l : List Int} {n m : Nat} (h : n + m ≤ l.length) : ((sealB l).drop n).take m = (l.drop n).take m := by
  unfold sealB pad
  rw [List.append_assoc, List.drop_append_of_le_length (by omega), List.take_append_of_le_length (by rw [List.length_drop]; omega)]
/-- A head's parts. -/
def headL (n l p f : Int) : List Int := [[104], eightB n, eightB l, eightB p, eightB f].flatten
theorem headL_length (n l p f : Int) : (headL n l p f).length = 33 := by simp [headL, eightB_length]
theorem head_length (n l p f : Int) : (headB n l p f).length = 64 := seal_length (l := headL n l p f) (by rw [headL_length]; omega)
theorem head_last (n l p f : Int) : (headB n l p f).getD 63 0 = 167 := seal_last (l := headL n l p f) (by rw [headL_length]; omega)
theorem isB_head (n l p f : Int) : IsB (headB n l p f) := by
  refine isB_seal fun x hx => ?_
  simp only [List.flatten_cons, List.flatten_nil, List.mem_append, List.mem_cons, List.not_mem_nil, or_false] at hx
  rcases hx with h | h | h | h | h
  · omega
  · exact isB_eight _ x h
  · exact isB_eight _ x h
  · exact isB_eight _ x h
  · exact isB_eight _ x h
theorem head_part (n l p f : Int) : ((headB n l p f).drop 1).take 8 = eightB n ∧ ((headB n l p f).drop 9).take 8 = eightB l ∧ ((headB n l p f).drop 17).take 8 = eightB p ∧ ((headB n l p f).drop 25).take 8 = eightB f := by
  unfold headB
  rw [seal_take_of (by simp [eightB_length]), seal_take_of (by simp [eightB_length]), seal_take_of (by simp [eightB_length]), seal_take_of (by simp [eightB_length])]
  exact ⟨rfl, rfl, rfl, rfl⟩
theorem head_first (n l p f : Int) : (headB n l p f).getD 0 0 = 104 := by
  unfold headB
  rw [seal_get (by simp [eightB_length])]
  rfl
/-- The number of eight bytes. -/
def bigOf (l : List Int) : Int := l.foldl (fun v x => v * 256 + x) 0
theorem big_eight {n : Int} (h : 0 ≤ n) (hn : n < 18446744073709551616) : bigOf (eightB n) = n := by
  have e : eightB n = [n / 72057594037927936 % 256, n / 281474976710656 % 256, n / 1099511627776 % 256, n / 4294967296 % 256, n / 16777216 % 256, n / 65536 % 256, n / 256 % 256, n / 1 % 256] := rfl
  rw [e]
  simp only [bigOf, List.foldl_cons, List.foldl_nil]
  have h1 : n / 72057594037927936 % 256 = n / 72057594037927936 := by omega
  have h2 : n / 72057594037927936 * 256 + n / 281474976710656 % 256 = n / 281474976710656 := by omega
  have h3 : n / 281474976710656 * 256 + n / 1099511627776 % 256 = n / 1099511627776 := by omega
  have h4 : n / 1099511627776 * 256 + n / 4294967296 % 256 = n / 4294967296 := by omega
  have h5 : n / 4294967296 * 256 + n / 16777216 % 256 = n / 16777216 := by omega
  have h6 : n / 16777216 * 256 + n / 65536 % 256 = n / 65536 := by omega
  have h7 : n / 65536 * 256 + n / 256 % 256 = n / 256 := by omega
  have h8 : n / 256 * 256 + n / 1 % 256 = n := by omega
  rw [h1, Int.zero_mul, Int.zero_add, h2, h3, h4, h5, h6, h7, h8]
theorem eight_inj {n m : Int} (h : 0 ≤ n) (hn : n < 18446744073709551616) (k : 0 ≤ m) (hm : m < 18446744073709551616) (e : eightB n = eightB m) : n = m := by
  rw [← big_eight h hn, e, big_eight k hm]
/-- A sector is a right head. -/
structure IsHead (b : List Int) (s size : Int) (n l p f : Int) : Prop where
  n1 : 1 ≤ n
  n2 : n ≤ 1152921504606846976
  par : n % 2 = s
  l1 : 1 ≤ l
  l2 : l ≤ 1152921504606846976
  p1 : 0 ≤ p
  p2 : p < size
  p3 : p ≤ 1152921504606846976
  f1 : 1 ≤ f
  f2 : f ≤ 1152921504606846976
  is : b = headB n l p f
theorem IsHead.uniq {b : List Int} {s size n l p f n' l' p' f' : Int} (h : IsHead b s size n l p f) (k : IsHead b s size n' l' p' f') : n = n' ∧ l = l' ∧ p = p' ∧ f = f' := by
  have e := h.is.symm.trans k.is
  obtain ⟨a1, a2, a3, a4⟩ := head_part n l p f
  obtain ⟨b1, b2, b3, b4⟩ := head_part n' l' p' f'
  have := h.n1; have := h.n2; have := h.l1; have := h.l2; have := h.p1; have := h.p3; have := h.f1; have := h.f2
  have := k.n1; have := k.n2; have := k.l1; have := k.l2; have := k.p1; have := k.p3; have := k.f1; have := k.f2
  refine ⟨eight_inj ?_ ?_ ?_ ?_ (by rw [← a1, ← b1, e]), eight_inj ?_ ?_ ?_ ?_ (by rw [← a2, ← b2, e]), eight_inj ?_ ?_ ?_ ?_ (by rw [← a3, ← b3, e]), eight_inj ?_ ?_ ?_ ?_ (by rw [← a4, ← b4, e])⟩ <;> omega
theorem not_head_of_last {b : List Int} (h : b.getD 63 0 ≠ 167) (s size n l p f : Int) : ¬ IsHead b s size n l p f := fun k => h (by rw [k.is, head_last])
/-- A piece's parts. -/
def pieceL (n : Int) (l : List Int) (b c : Bool) : List Int := [[114], eightB n, [IntKind.u8.wrap (l.length : Int), bit b, bit c], l].flatten
theorem pieceL_length (n : Int) (l : List Int) (b c : Bool) : (pieceL n l b c).length = 12 + l.length := by simp [pieceL, eightB_length]; omega
theorem wrap8 {k : Nat} (h : k ≤ 40) : IntKind.u8.wrap (k : Int) = k := by
  unfold IntKind.wrap
  simp [IntKind.bits, IntKind.signed]
  try omega
section
variable {n : Int} {l : List Int} {b c : Bool}
theorem piece_length (h : l.length ≤ 40) : (pieceB n l b c).length = 64 := seal_length (l := pieceL n l b c) (by rw [pieceL_length]; omega)
theorem piece_last (h : l.length ≤ 40) : (pieceB n l b c).getD 63 0 = 167 := seal_last (l := pieceL n l b c) (by rw [pieceL_length]; omega)
theorem piece_first : (pieceB n l b c).getD 0 0 = 114 := by
  unfold pieceB
  rw [seal_get (by simp [eightB_length] <;> omega)]
  rfl
theorem piece_count (h : l.length ≤ 40) : (pieceB n l b c).getD 9 0 = l.length := by
  unfold pieceB
  rw [seal_get (by simp [eightB_length] <;> omega)]
  show IntKind.u8.wrap (l.length : Int) = _
  exact wrap8 h
theorem piece_b : (pieceB n l b c).getD 10 0 = bit b := by
  unfold pieceB
  rw [seal_get (by simp [eightB_length] <;> omega)]
  rfl
theorem piece_c : (pieceB n l b c).getD 11 0 = bit c := by
  unfold pieceB
  rw [seal_get (by simp [eightB_length] <;> omega)]
  rfl
theorem piece_load : ((pieceB n l b c).drop 12).take l.length = l := by
  unfold pieceB
  rw [seal_take_of (by simp [eightB_length] <;> omega)]
  rw [show [[114], eightB n, [IntKind.u8.wrap (l.length : Int), bit b, bit c], l].flatten = ([114] ++ eightB n ++ [IntKind.u8.wrap (l.length : Int), bit b, bit c]) ++ l by simp, List.drop_left' (by simp [eightB_length]), List.take_length]
theorem piece_num : ((pieceB n l b c).drop 1).take 8 = eightB n := by
  unfold pieceB
  rw [seal_take_of (by simp [eightB_length] <;> omega)]
  rfl
theorem isB_piece (h : l.length ≤ 40) (hl : IsB l) : IsB (pieceB n l b c) := by
  refine isB_seal fun x hx => ?_
  simp only [List.flatten_cons, List.flatten_nil, List.mem_append, List.mem_cons, List.not_mem_nil, or_false] at hx
  rcases hx with h | h | (h | h | h) | h
  · omega
  · exact isB_eight _ x h
  · rw [h, wrap8 (by omega)]; omega
  · rw [h]; cases b <;> simp [bit]
  · rw [h]; cases c <;> simp [bit]
  · exact hl x h
end
theorem bit_inj {b c : Bool} (h : bit b = bit c) : b = c := by cases b <;> cases c <;> simp [bit] at h ⊢
theorem piece_inj {n n' : Int} {l l' : List Int} {b b' c c' : Bool} (h : l.length ≤ 40) (h' : l'.length ≤ 40) (e : pieceB n l b c = pieceB n' l' b' c') : eightB n = eightB n' ∧ l = l' ∧ b = b' ∧ c = c' := by
  have h1 : (l.length : Int) = l'.length := by rw [← piece_count (n := n) (b := b) (c := c) h, e, piece_count h']
  have h2 : l.length = l'.length := by omega
  refine ⟨by rw [← piece_num (n := n) (l := l) (b := b) (c := c), e, piece_num], ?_, bit_inj ?_, bit_inj ?_⟩
  · rw [← piece_load (n := n) (l := l) (b := b) (c := c), e, h2, piece_load]
  · rw [← piece_b (n := n) (l := l) (b := b) (c := c), e, piece_b]
  · rw [← piece_c (n := n) (l := l) (b := b) (c := c), e, piece_c]
theorem piece_ne_zeros {n : Int} {l : List Int} {b c : Bool} : pieceB n l b c ≠ zeros := fun e => by
  have := piece_first (n := n) (l := l) (b := b) (c := c)
  rw [e] at this
  exact absurd this (by decide)
end Go.Proofs.Ytchpekecgdbphaa
