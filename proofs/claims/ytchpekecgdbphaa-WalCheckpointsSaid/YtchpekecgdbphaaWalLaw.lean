/-
  Bytes of heads and pieces, read back.
  Records on a ring: what is a record at a place, and that there is one at most.
  A log on a plate; what a crash leaves of it; what an opening makes of it.
  A log: a record is appended; all is made durable; a checkpoint.
-/
import Derived.Test.YtchpekecgdbphaaWalX
set_option linter.unusedVariables false
namespace Go.Proofs.Ytchpekecgdbphaa
open Go Go.RowKit Go.MapKept Go.ChangeMaps

/-- Each is a byte. -/
def IsB (l : List Int) : Prop := ∀ x ∈ l, 0 ≤ x ∧ x < 256
theorem IsB.append {l m : List Int} (h : IsB l) (k : IsB m) : IsB (l ++ m) := fun x hx => (List.mem_append.1 hx).elim (h x) (k x)
theorem IsB.take {l : List Int} (h : IsB l) (n : Nat) : IsB (l.take n) := fun x hx => h x (List.mem_of_mem_take hx)
theorem IsB.drop {l : List Int} (h : IsB l) (n : Nat) : IsB (l.drop n) := fun x hx => h x (List.mem_of_mem_drop hx)
theorem IsB.nil : IsB [] := fun _ h => by cases h
theorem IsB.replicate (n : Nat) : IsB (List.replicate n 0) := fun x hx => by rw [(List.mem_replicate.1 hx).2]; omega
theorem isB_zeros : IsB zeros := IsB.replicate 64
theorem IsB.at {l : List Int} (h : IsB l) (j : Nat) : 0 ≤ l.getD j 0 ∧ l.getD j 0 < 256 := by
  rw [List.getD_eq_getElem?_getD]
  cases hq : l[j]? with
  | none => simp
  | some x => exact h x (List.mem_of_getElem? hq)
theorem isB_eight (n : Int) : IsB (eightB n) := fun x hx => by
  obtain ⟨q, _, rfl⟩ := List.mem_map.1 hx
  unfold eby
  omega
theorem isB_tail (x : Int) : IsB (tailB x) := fun y hy => by
  simp only [tailB, List.mem_cons, List.not_mem_nil, or_false] at hy
  omega
theorem isB_seal {l : List Int} (h : IsB l) : IsB (sealB l) := (h.append (IsB.replicate _)).append (isB_tail _)
theorem seal_length {l : List Int} (h : l.length ≤ 59) : (sealB l).length = 64 := by
  unfold sealB
  rw [List.length_append, pad_length h]
  rfl
theorem seal_last {l : List Int} (h : l.length ≤ 59) : (sealB l).getD 63 0 = 167 := by
  unfold sealB
  rw [List.getD_eq_getElem?_getD, List.getElem?_append_right (by rw [pad_length h]; omega), pad_length h]
  rfl
theorem seal_get {l : List Int} {j : Nat} (h : j < l.length) : (sealB l).getD j 0 = l.getD j 0 := by
  unfold sealB pad
  rw [List.getD_eq_getElem?_getD, List.getD_eq_getElem?_getD, List.append_assoc, List.getElem?_append_left h]
theorem seal_take_of {l : List Int} {n m : Nat} (h : n + m ≤ l.length) : ((sealB l).drop n).take m = (l.drop n).take m := by
  unfold sealB pad
  rw [List.append_assoc, List.drop_append_of_le_length (by omega), List.take_append_of_le_length (by rw [List.length_drop]; omega)]
/-- A head's parts. -/
def headL (n l p f : Int) : List Int := [[104], eightB n, eightB l, eightB p, eightB f].flatten
theorem headL_length (n l p f : Int) : (headL n l p f).length = 33 := by simp [headL, eightB_length]
theorem head_length (n l p f : Int) : (headB n l p f).length = 64 := seal_length (l := headL n l p f) (by rw [headL_length]; omega)
theorem head_last (n l p f : Int) : (headB n l p f).getD 63 0 = 167 := seal_last (l := headL n l p f) (by rw [headL_length]; omega)
theorem isB_head (n l p f : Int) : IsB (headB n l p f) := by
  refine isB_seal fun x hx => ?_
  simp only [List.flatten_cons, List.flatten_nil, List.mem_append, List.mem_cons, List.not_mem_nil, or_false] at hx
  rcases hx with h | h | h | h | h
  · omega
  · exact isB_eight _ x h
  · exact isB_eight _ x h
  · exact isB_eight _ x h
  · exact isB_eight _ x h
theorem head_part (n l p f : Int) : ((headB n l p f).drop 1).take 8 = eightB n ∧ ((headB n l p f).drop 9).take 8 = eightB l ∧ ((headB n l p f).drop 17).take 8 = eightB p ∧ ((headB n l p f).drop 25).take 8 = eightB f := by
  unfold headB
  rw [seal_take_of (by simp [eightB_length]), seal_take_of (by simp [eightB_length]), seal_take_of (by simp [eightB_length]), seal_take_of (by simp [eightB_length])]
  exact ⟨rfl, rfl, rfl, rfl⟩
theorem head_first (n l p f : Int) : (headB n l p f).getD 0 0 = 104 := by
  unfold headB
  rw [seal_get (by simp [eightB_length])]
  rfl
/-- The number of eight bytes. -/
def bigOf (l : List Int) : Int := l.foldl (fun v x => v * 256 + x) 0
theorem big_eight {n : Int} (h : 0 ≤ n) (hn : n < 18446744073709551616) : bigOf (eightB n) = n := by
  have e : eightB n = [n / 72057594037927936 % 256, n / 281474976710656 % 256, n / 1099511627776 % 256, n / 4294967296 % 256, n / 16777216 % 256, n / 65536 % 256, n / 256 % 256, n / 1 % 256] := rfl
  rw [e]
  simp only [bigOf, List.foldl_cons, List.foldl_nil]
  have h1 : n / 72057594037927936 % 256 = n / 72057594037927936 := by omega
  have h2 : n / 72057594037927936 * 256 + n / 281474976710656 % 256 = n / 281474976710656 := by omega
  have h3 : n / 281474976710656 * 256 + n / 1099511627776 % 256 = n / 1099511627776 := by omega
  have h4 : n / 1099511627776 * 256 + n / 4294967296 % 256 = n / 4294967296 := by omega
  have h5 : n / 4294967296 * 256 + n / 16777216 % 256 = n / 16777216 := by omega
  have h6 : n / 16777216 * 256 + n / 65536 % 256 = n / 65536 := by omega
  have h7 : n / 65536 * 256 + n / 256 % 256 = n / 256 := by omega
  have h8 : n / 256 * 256 + n / 1 % 256 = n := by omega
  rw [h1, Int.zero_mul, Int.zero_add, h2, h3, h4, h5, h6, h7, h8]
theorem eight_inj {n m : Int} (h : 0 ≤ n) (hn : n < 18446744073709551616) (k : 0 ≤ m) (hm : m < 18446744073709551616) (e : eightB n = eightB m) : n = m := by
  rw [← big_eight h hn, e, big_eight k hm]
/-- A sector is a right head. -/
structure IsHead (b : List Int) (s size : Int) (n l p f : Int) : Prop where
  n1 : 1 ≤ n
  n2 : n ≤ 1152921504606846976
  par : n % 2 = s
  l1 : 1 ≤ l
  l2 : l ≤ 1152921504606846976
  p1 : 0 ≤ p
  p2 : p < size
  p3 : p ≤ 1152921504606846976
  f1 : 1 ≤ f
  f2 : f ≤ 1152921504606846976
  is : b = headB n l p f
theorem IsHead.uniq {b : List Int} {s size n l p f n' l' p' f' : Int} (h : IsHead b s size n l p f) (k : IsHead b s size n' l' p' f') : n = n' ∧ l = l' ∧ p = p' ∧ f = f' := by
  have e := h.is.symm.trans k.is
  obtain ⟨a1, a2, a3, a4⟩ := head_part n l p f
  obtain ⟨b1, b2, b3, b4⟩ := head_part n' l' p' f'
  have := h.n1; have := h.n2; have := h.l1; have := h.l2; have := h.p1; have := h.p3; have := h.f1; have := h.f2
  have := k.n1; have := k.n2; have := k.l1; have := k.l2; have := k.p1; have := k.p3; have := k.f1; have := k.f2
  refine ⟨eight_inj ?_ ?_ ?_ ?_ (by rw [← a1, ← b1, e]), eight_inj ?_ ?_ ?_ ?_ (by rw [← a2, ← b2, e]), eight_inj ?_ ?_ ?_ ?_ (by rw [← a3, ← b3, e]), eight_inj ?_ ?_ ?_ ?_ (by rw [← a4, ← b4, e])⟩ <;> omega
theorem not_head_of_last {b : List Int} (h : b.getD 63 0 ≠ 167) (s size n l p f : Int) : ¬ IsHead b s size n l p f := fun k => h (by rw [k.is, head_last])
/-- A piece's parts. -/
def pieceL (n : Int) (l : List Int) (b c : Bool) : List Int := [[114], eightB n, [IntKind.u8.wrap (l.length : Int), bit b, bit c], l].flatten
theorem pieceL_length (n : Int) (l : List Int) (b c : Bool) : (pieceL n l b c).length = 12 + l.length := by simp [pieceL, eightB_length]; omega
theorem wrap8 {k : Nat} (h : k ≤ 40) : IntKind.u8.wrap (k : Int) = k := by
  unfold IntKind.wrap
  simp [IntKind.bits, IntKind.signed]
  try omega
section
variable {n : Int} {l : List Int} {b c : Bool}
theorem piece_length (h : l.length ≤ 40) : (pieceB n l b c).length = 64 := seal_length (l := pieceL n l b c) (by rw [pieceL_length]; omega)
theorem piece_last (h : l.length ≤ 40) : (pieceB n l b c).getD 63 0 = 167 := seal_last (l := pieceL n l b c) (by rw [pieceL_length]; omega)
theorem piece_first : (pieceB n l b c).getD 0 0 = 114 := by
  unfold pieceB
  rw [seal_get (by simp [eightB_length] <;> omega)]
  rfl
theorem piece_count (h : l.length ≤ 40) : (pieceB n l b c).getD 9 0 = l.length := by
  unfold pieceB
  rw [seal_get (by simp [eightB_length] <;> omega)]
  show IntKind.u8.wrap (l.length : Int) = _
  exact wrap8 h
theorem piece_b : (pieceB n l b c).getD 10 0 = bit b := by
  unfold pieceB
  rw [seal_get (by simp [eightB_length] <;> omega)]
  rfl
theorem piece_c : (pieceB n l b c).getD 11 0 = bit c := by
  unfold pieceB
  rw [seal_get (by simp [eightB_length] <;> omega)]
  rfl
theorem piece_load : ((pieceB n l b c).drop 12).take l.length = l := by
  unfold pieceB
  rw [seal_take_of (by simp [eightB_length] <;> omega)]
  rw [show [[114], eightB n, [IntKind.u8.wrap (l.length : Int), bit b, bit c], l].flatten = ([114] ++ eightB n ++ [IntKind.u8.wrap (l.length : Int), bit b, bit c]) ++ l by simp, List.drop_left' (by simp [eightB_length]), List.take_length]
theorem piece_num : ((pieceB n l b c).drop 1).take 8 = eightB n := by
  unfold pieceB
  rw [seal_take_of (by simp [eightB_length] <;> omega)]
  rfl
theorem isB_piece (h : l.length ≤ 40) (hl : IsB l) : IsB (pieceB n l b c) := by
  refine isB_seal fun x hx => ?_
  simp only [List.flatten_cons, List.flatten_nil, List.mem_append, List.mem_cons, List.not_mem_nil, or_false] at hx
  rcases hx with h | h | (h | h | h) | h
  · omega
  · exact isB_eight _ x h
  · rw [h, wrap8 (by omega)]; omega
  · rw [h]; cases b <;> simp [bit]
  · rw [h]; cases c <;> simp [bit]
  · exact hl x h
end
theorem bit_inj {b c : Bool} (h : bit b = bit c) : b = c := by cases b <;> cases c <;> simp [bit] at h ⊢
theorem piece_inj {n n' : Int} {l l' : List Int} {b b' c c' : Bool} (h : l.length ≤ 40) (h' : l'.length ≤ 40) (e : pieceB n l b c = pieceB n' l' b' c') : eightB n = eightB n' ∧ l = l' ∧ b = b' ∧ c = c' := by
  have h1 : (l.length : Int) = l'.length := by rw [← piece_count (n := n) (b := b) (c := c) h, e, piece_count h']
  have h2 : l.length = l'.length := by omega
  refine ⟨by rw [← piece_num (n := n) (l := l) (b := b) (c := c), e, piece_num], ?_, bit_inj ?_, bit_inj ?_⟩
  · rw [← piece_load (n := n) (l := l) (b := b) (c := c), e, h2, piece_load]
  · rw [← piece_b (n := n) (l := l) (b := b) (c := c), e, piece_b]
  · rw [← piece_c (n := n) (l := l) (b := b) (c := c), e, piece_c]
theorem piece_ne_zeros {n : Int} {l : List Int} {b c : Bool} : pieceB n l b c ≠ zeros := fun e => by
  have := piece_first (n := n) (l := l) (b := b) (c := c)
  rw [e] at this
  exact absurd this (by decide)
end Go.Proofs.Ytchpekecgdbphaa
namespace Go.Proofs.Ytchpekecgdbphaa
open Go Go.RowKit Go.MapKept Go.ChangeMaps

def needB (r : List Int) : Nat := (r.length + 39) / 40
def partB (r : List Int) (i : Nat) : List Int := (r.drop (40 * i)).take 40
def pieceAt (num : Int) (r : List Int) (i : Nat) : List Int := pieceB num (partB r i) (decide (i = 0)) (decide (i + 1 = needB r))
def atS (size place i : Nat) : Nat := 2 + (place + i) % size
theorem partB_length (r : List Int) (i : Nat) : (partB r i).length = min 40 (r.length - 40 * i) := by simp [partB]
theorem partB_le (r : List Int) (i : Nat) : (partB r i).length ≤ 40 := by rw [partB_length]; omega
theorem isB_part {r : List Int} (h : IsB r) (i : Nat) : IsB (partB r i) := (h.drop _).take _
theorem partB_full {r : List Int} {i : Nat} (h : i + 1 < needB r) : (partB r i).length = 40 := by
  unfold needB at h
  rw [partB_length]; omega
theorem partB_some {r : List Int} {i : Nat} (h : i < needB r) : 1 ≤ (partB r i).length := by
  unfold needB at h
  rw [partB_length]; omega
theorem part_end {r : List Int} {i : Nat} (h : i + 1 = needB r) : r = r.take (40 * i) ++ partB r i := by
  unfold partB
  unfold needB at h
  rw [List.take_of_length_le (l := r.drop (40 * i)) (by rw [List.length_drop]; omega), List.take_append_drop]
theorem part_next {r : List Int} {i : Nat} (h : i + 1 < needB r) : r.take (40 * (i + 1)) = r.take (40 * i) ++ partB r i := by
  unfold partB
  rw [show 40 * (i + 1) = 40 * i + 40 by omega, List.take_add]
/-- r is the record with number num, in the ring's sectors from 'used' on. -/
structure IsRec (V : Nat → List Int) (size place : Nat) (num : Int) (used : Nat) (r : List Int) : Prop where
  pos : 1 ≤ r.length
  few : r.length ≤ 2000
  room : used + needB r ≤ size
  is : ∀ i, i < needB r → V (atS size place (used + i)) = pieceAt num r i
theorem IsRec.need {V : Nat → List Int} {size place used : Nat} {num : Int} {r : List Int} (h : IsRec V size place num used r) : 1 ≤ needB r ∧ needB r ≤ 50 := by
  have := h.pos
  have := h.few
  unfold needB
  omega
/-- k sectors of a record are read. -/
structure Pre (V : Nat → List Int) (size place : Nat) (num : Int) (used : Nat) (k : Nat) (acc : List Int) : Prop where
  len : acc.length = 40 * k
  room : used + k ≤ size
  is : ∀ i, i < k → V (atS size place (used + i)) = pieceB num (partB acc i) (decide (i = 0)) false
section
variable {V : Nat → List Int} {size place used : Nat} {num : Int}
theorem Pre.zero (h : used ≤ size) : Pre V size place num used 0 [] := ⟨rfl, h, fun i hi => absurd hi (Nat.not_lt_zero _)⟩
/-- Any record there begins with what was read. -/
theorem Pre.of {k : Nat} {acc r : List Int} (h : Pre V size place num used k acc) (hr : IsRec V size place num used r) : k < needB r ∧ r.take (40 * k) = acc := by
  have key : ∀ j, j ≤ k → j < needB r ∧ r.take (40 * j) = acc.take (40 * j) := by
    intro j
    induction j with
    | zero => intro _; exact ⟨hr.need.1, by simp⟩
    | succ j ih =>
      intro hj
      obtain ⟨i1, i2⟩ := ih (by omega)
      have e := (hr.is j i1).symm.trans (h.is j (by omega))
      obtain ⟨_, e1, _, e3⟩ := piece_inj (partB_le r j) (partB_le acc j) e
      have h1 : j + 1 ≠ needB r := by simpa using e3
      refine ⟨by omega, ?_⟩
      rw [part_next (by omega), i2, e1]
      unfold partB
      rw [show 40 * (j + 1) = 40 * j + 40 by omega, List.take_add]
  obtain ⟨k1, k2⟩ := key k (Nat.le_refl _)
  exact ⟨k1, by rw [k2, List.take_of_length_le (by rw [h.len]; omega)]⟩
theorem Pre.room' {k : Nat} {acc r : List Int} (h : Pre V size place num used k acc) (hr : IsRec V size place num used r) : used + k < size := by
  have := (h.of hr).1
  have := hr.room
  omega
/-- The next sector of a record that is there. -/
theorem Pre.piece {k : Nat} {acc r : List Int} (h : Pre V size place num used k acc) (hr : IsRec V size place num used r) :
    V (atS size place (used + k)) = pieceB num (partB r k) (decide (k = 0)) (decide (k + 1 = needB r)) ∧ 1 ≤ (partB r k).length ∧ (partB r k).length ≤ 40 ∧ ((partB r k).length < 40 → k + 1 = needB r) ∧ acc.length + (partB r k).length ≤ 2000 ∧ (k + 1 = needB r → r = acc ++ partB r k) := by
  obtain ⟨k1, k2⟩ := h.of hr
  have hf := hr.few
  have hl := h.len
  refine ⟨hr.is k k1, partB_some k1, partB_le r k, fun hlt => ?_, ?_, fun e => ?_⟩
  · by_cases e : k + 1 = needB r
    · exact e
    · rw [partB_full (by omega)] at hlt; omega
  · rw [partB_length, hl]
    have : 40 * k ≤ r.length := by unfold needB at k1; omega
    omega
  · have := part_end e
    rw [k2] at this
    exact this
/-- The sector that is next, as it reads. -/
theorem Pre.reads {k : Nat} {acc r : List Int} (h : Pre V size place num used k acc) (hr : IsRec V size place num used r) {b : List Int} (hb : b = V (atS size place (used + k))) :
    b.getD 9 0 = (partB r k).length ∧ b.getD 11 0 = bit (decide (k + 1 = needB r)) ∧ (b.drop 12).take (partB r k).length = partB r k := by
  have e := (h.piece hr).1
  rw [← hb] at e
  exact ⟨by rw [e, piece_count (partB_le r k)], by rw [e, piece_c], by rw [e, piece_load]⟩
theorem Pre.next {k m : Nat} {acc b : List Int} (h : Pre V size place num used k acc) (hb : b = V (atS size place (used + k))) (hlt : used + k < size) (hm : m = 40) (hl : ((b.drop 12).take m).length = m) (he : b = pieceB num ((b.drop 12).take m) (decide (k = 0)) false) :
    Pre V size place num used (k + 1) (acc ++ (b.drop 12).take m) := by
  subst hm
  have hal := h.len
  refine ⟨by rw [List.length_append, hal, hl]; omega, by omega, fun i hi => ?_⟩
  by_cases e : i = k
  · subst e
    rw [← hb]
    have : partB (acc ++ (b.drop 12).take 40) i = (b.drop 12).take 40 := by
      unfold partB
      rw [← hal, List.drop_left, List.take_of_length_le (by rw [hl]; omega)]
    rw [this]
    exact he
  · rw [h.is i (by omega)]
    congr 1
    unfold partB
    rw [List.drop_append_of_le_length (by omega), List.take_append_of_le_length (by rw [List.length_drop]; omega)]
theorem Pre.done {k m : Nat} {acc b : List Int} (h : Pre V size place num used k acc) (hb : b = V (atS size place (used + k))) (hlt : used + k < size) (h1 : 1 ≤ m) (h2 : m ≤ 40) (hl : ((b.drop 12).take m).length = m) (hf : acc.length + m ≤ 2000) (he : b = pieceB num ((b.drop 12).take m) (decide (k = 0)) true) :
    IsRec V size place num used (acc ++ (b.drop 12).take m) := by
  have hal := h.len
  have hn : needB (acc ++ (b.drop 12).take m) = k + 1 := by
    unfold needB
    rw [List.length_append, hl, hal]; omega
  refine ⟨by rw [List.length_append, hl]; omega, by rw [List.length_append, hl]; exact hf, by rw [hn]; omega, fun i hi => ?_⟩
  rw [hn] at hi
  unfold pieceAt
  rw [hn]
  by_cases e : i = k
  · subst e
    rw [← hb]
    have : partB (acc ++ (b.drop 12).take m) i = (b.drop 12).take m := by
      unfold partB
      rw [← hal, List.drop_left, List.take_of_length_le (by rw [hl]; omega)]
    rw [this, decide_eq_true rfl]
    exact he
  · rw [h.is i (by omega)]
    have : decide (i + 1 = k + 1) = false := decide_eq_false (by omega)
    rw [this]
    congr 1
    unfold partB
    rw [List.drop_append_of_le_length (by omega), List.take_append_of_le_length (by rw [List.length_drop]; omega)]
theorem IsRec.uniq {r r' : List Int} (h : IsRec V size place num used r) (h' : IsRec V size place num used r') : r = r' := by
  have pre : ∀ k, k < needB r → Pre V size place num used k (r.take (40 * k)) := by
    intro k hk
    have h40 : 40 * k ≤ r.length := by unfold needB at hk; omega
    refine ⟨by rw [List.length_take]; omega, by have := h.room; omega, fun i hi => ?_⟩
    rw [h.is i (by omega)]
    unfold pieceAt
    have : decide (i + 1 = needB r) = false := decide_eq_false (by omega)
    rw [this]
    congr 1
    unfold partB
    rw [List.drop_take, List.take_take, Nat.min_eq_left (by omega)]
  have hp := pre (needB r - 1) (by have := h.need; omega)
  have e1 := (hp.of h).1
  obtain ⟨a1, a2, a3, a4, a5, a6⟩ := hp.piece h
  obtain ⟨b1, b2, b3, b4, b5, b6⟩ := hp.piece h'
  obtain ⟨_, e2, _, e3⟩ := piece_inj a3 b3 (a1.symm.trans b1)
  have hk : needB r - 1 + 1 = needB r := by have := h.need; omega
  rw [decide_eq_true hk] at e3
  have e4 := of_decide_eq_true e3.symm
  rw [a6 hk, b6 e4, e2]
theorem IsRec.congr {V' : Nat → List Int} {r : List Int} (h : IsRec V size place num used r) (he : ∀ i, i < needB r → V' (atS size place (used + i)) = V (atS size place (used + i))) : IsRec V' size place num used r :=
  ⟨h.pos, h.few, h.room, fun i hi => (he i hi).trans (h.is i hi)⟩
end
/-- How many sectors records have. -/
def usedB : List (List Int) → Nat
  | [] => 0
  | r :: l => needB r + usedB l
theorem usedB_append (l m : List (List Int)) : usedB (l ++ m) = usedB l + usedB m := by
  induction l with
  | nil => simp [usedB]
  | cons r l ih => simp only [List.cons_append, usedB, ih]; omega
theorem usedB_snoc (l : List (List Int)) (r : List Int) : usedB (l ++ [r]) = usedB l + needB r := by rw [usedB_append]; simp [usedB]
/-- The records of a ring, one behind the other. -/
structure IsRecs (V : Nat → List Int) (size place : Nat) (first : Int) (l : List (List Int)) : Prop where
  room : usedB l ≤ size
  is : ∀ i, i < l.length → IsRec V size place (first + i) (usedB (l.take i)) (l.getD i [])
section
variable {V : Nat → List Int} {size place : Nat} {first : Int}
theorem IsRecs.nil : IsRecs V size place first [] := ⟨Nat.zero_le _, fun i hi => absurd hi (Nat.not_lt_zero _)⟩
theorem IsRecs.snoc {l : List (List Int)} {r : List Int} (h : IsRecs V size place first l) (hr : IsRec V size place (first + l.length) (usedB l) r) : IsRecs V size place first (l ++ [r]) := by
  refine ⟨by rw [usedB_snoc]; exact hr.room, fun i hi => ?_⟩
  rw [List.length_append] at hi
  by_cases e : i = l.length
  · subst e
    rw [List.getD_eq_getElem?_getD, List.getElem?_append_right (Nat.le_refl _), Nat.sub_self, List.take_left]
    exact hr
  · have hi' : i < l.length := by simp at hi; omega
    rw [List.getD_eq_getElem?_getD, List.getElem?_append_left hi', ← List.getD_eq_getElem?_getD, List.take_append_of_le_length (by omega)]
    exact h.is i hi'
theorem IsRecs.many {l : List (List Int)} (h : IsRecs V size place first l) : l.length ≤ usedB l := by
  have : ∀ m, m ≤ l.length → m ≤ usedB (l.take m) := by
    intro m
    induction m with
    | zero => intro _; exact Nat.zero_le _
    | succ m ih =>
      intro hm
      rw [List.take_succ_eq_append_getElem (by omega), usedB_snoc]
      have := (h.is m (by omega)).need.1
      rw [List.getD_eq_getElem?_getD, List.getElem?_eq_getElem (by omega)] at this
      have := ih (by omega)
      simp only [Option.getD_some] at *
      omega
  have := this l.length (Nat.le_refl _)
  rwa [List.take_length] at this
end
end Go.Proofs.Ytchpekecgdbphaa
namespace Go.Proofs.Ytchpekecgdbphaa
open Go Go.RowKit Go.MapKept Go.ChangeMaps

theorem atS_lt {size p i : Nat} (h : 0 < size) : atS size p i < size + 2 := by
  unfold atS
  have := Nat.mod_lt (p + i) h
  omega
theorem atS_ge (size p i : Nat) : 2 ≤ atS size p i := by unfold atS; omega
theorem atS_inj {size p i j : Nat} (hi : i < size) (hj : j < size) (e : atS size p i = atS size p j) : i = j := by
  unfold atS at e
  have key : ∀ a b, a ≤ b → b < size → (p + a) % size = (p + b) % size → a = b := by
    intro a b hab hb h
    have h1 : ((p + b) - (p + a)) % size = 0 := Nat.sub_mod_eq_zero_of_mod_eq h.symm
    rw [show (p + b) - (p + a) = b - a by omega, Nat.mod_eq_of_lt (by omega)] at h1
    omega
  rcases Nat.le_total i j with h | h
  · exact key i j h hj (by omega)
  · exact (key j i h hi (by omega)).symm
theorem atS_next (size p u i : Nat) : atS size ((p + u) % size) i = atS size p (u + i) := by
  unfold atS
  rw [Nat.mod_add_mod, Nat.add_assoc]
/-- A log, its records, and how many of these are durable. -/
structure Log (D : List (List Int)) (C : Int → Option (List Int)) (size place : Nat) (n l f : Int) (recs : List (List Int)) (k : Nat) : Prop where
  dlen : D.length = size + 2
  four : 4 ≤ size
  few : size ≤ 8190
  plt : place < size
  n1 : 1 ≤ n
  n2 : n ≤ 1152921504606846976
  l1 : 1 ≤ l
  l2 : l ≤ 1152921504606846976
  f1 : 1 ≤ f
  f2 : f ≤ 1152921504606846976
  c0 : C 0 = none
  c1 : C 1 = none
  bytes : ∀ i, i < D.length → IsB (view D C i) ∧ IsB (D.getD i [])
  head : D.getD (n % 2).toNat [] = headB n l place f
  other : ∀ n' l' p' f', IsHead (D.getD ((n + 1) % 2).toNat []) ((n + 1) % 2) size n' l' p' f' → n' < n
  rs : IsRecs (view D C) size place f recs
  free : ∀ i, usedB recs ≤ i → i < size → D.getD (atS size place i) [] = zeros ∧ C (atS size place i) = none
  under : ∀ i, i < usedB recs → C (atS size place i) = none ∨ D.getD (atS size place i) [] = zeros
  kle : k ≤ recs.length
  sync : ∀ i, i < usedB (recs.take k) → C (atS size place i) = none
/-- What a crash leaves. -/
structure Crashed (D : List (List Int)) (C : Int → Option (List Int)) (D' : List (List Int)) : Prop where
  len : D'.length = D.length
  same : ∀ i : Nat, i < D.length → C i = none → D'.getD i [] = D.getD i []
  or : ∀ (i : Nat) l, i < D.length → C i = some l → D'.getD i [] = l ∨ ∃ N, D'.getD i [] = l.take N ++ (D.getD i []).drop N
theorem usedB_take_le (l : List (List Int)) (i : Nat) : usedB (l.take i) ≤ usedB l := by
  have := usedB_append (l.take i) (l.drop i)
  rw [List.take_append_drop] at this
  omega
theorem usedB_take_next {l : List (List Int)} {i : Nat} (h : i < l.length) : usedB (l.take (i + 1)) = usedB (l.take i) + needB (l.getD i []) := by
  rw [List.take_succ_eq_append_getElem h, usedB_snoc, List.getD_eq_getElem?_getD, List.getElem?_eq_getElem h]
  rfl
theorem usedB_mono {l : List (List Int)} {i j : Nat} (h : i ≤ j) : usedB (l.take i) ≤ usedB (l.take j) := by
  have := usedB_take_le (l.take j) i
  rw [List.take_take, Nat.min_eq_left h] at this
  exact this
theorem zeros_last : zeros.getD 63 0 = 0 := rfl
theorem take_last {l : List Int} {N : Nat} (hl : l.length = 64) : l.take N ++ zeros.drop N = l ∨ (l.take N ++ zeros.drop N).getD 63 0 = 0 := by
  by_cases h : 64 ≤ N
  · left
    rw [List.take_of_length_le (by omega), List.drop_eq_nil_of_le (by simp [zeros]; omega), List.append_nil]
  · right
    have hn : (l.take N).length = N := by rw [List.length_take]; omega
    rw [List.getD_eq_getElem?_getD, List.getElem?_append_right (by omega), hn, List.getElem?_drop, show N + (63 - N) = 63 by omega]
    rfl
section
variable {D D' : List (List Int)} {C : Int → Option (List Int)} {size place : Nat} {n l f : Int} {recs : List (List Int)} {k : Nat}
theorem piece_at_used {V : Nat → List Int} (h : IsRecs V size place f recs) {i : Nat} (hi : i < usedB recs) : ∃ m q, m < recs.length ∧ q < needB (recs.getD m []) ∧ i = usedB (recs.take m) + q := by
  have key : ∀ m, m ≤ recs.length → i < usedB (recs.take m) → ∃ m' q, m' < recs.length ∧ q < needB (recs.getD m' []) ∧ i = usedB (recs.take m') + q := by
    intro m
    induction m with
    | zero => intro _ h; exact absurd h (Nat.not_lt_zero _)
    | succ m ih =>
      intro hm hlt
      by_cases e : i < usedB (recs.take m)
      · exact ih (by omega) e
      · rw [usedB_take_next (by omega)] at hlt
        exact ⟨m, i - usedB (recs.take m), by omega, by omega, by omega⟩
  exact key recs.length (Nat.le_refl _) (by rw [List.take_length]; exact hi)
theorem view_piece {V : Nat → List Int} (h : IsRecs V size place f recs) {i : Nat} (hi : i < usedB recs) : ∃ num m b c, m.length ≤ 40 ∧ V (atS size place i) = pieceB num m b c := by
  obtain ⟨m, q, hm, hq, rfl⟩ := piece_at_used h hi
  exact ⟨_, _, _, _, partB_le _ _, (h.is m hm).is q hq⟩
theorem Log.place_lt (h : Log D C size place n l f recs k) (i : Nat) : atS size place i < D.length := by
  rw [h.dlen]; exact atS_lt (by have := h.four; omega)
/-- A sector of the ring behind a crash: as it was, or no piece. -/
theorem Log.reads (h : Log D C size place n l f recs k) (c : Crashed D C D') {i : Nat} (hi : i < size) :
    view D' (fun _ => none) (atS size place i) = view D C (atS size place i) ∨ (view D' (fun _ => none) (atS size place i)).getD 63 0 ≠ 167 := by
  have hlt := h.place_lt i
  have e : view D' (fun _ => none) (atS size place i) = D'.getD (atS size place i) [] := rfl
  rw [e]
  cases hC : C (atS size place i) with
  | none =>
    left
    rw [c.same _ hlt hC]
    unfold view
    rw [hC]; rfl
  | some x =>
    have ev : view D C (atS size place i) = x := by unfold view; rw [hC]; rfl
    by_cases hu : i < usedB recs
    · rcases h.under i hu with h1 | h1
      · rw [hC] at h1; cases h1
      · obtain ⟨num, m, b', c', hm, hp⟩ := view_piece h.rs hu
        rw [ev] at hp
        rw [ev]
        rcases c.or _ x hlt hC with h2 | ⟨N, h2⟩
        · exact .inl h2
        · rw [h1] at h2
          rcases take_last (N := N) (l := x) (by rw [hp]; exact piece_length hm) with h3 | h3
          · exact .inl (h2.trans h3)
          · right; rw [h2, h3]; omega
    · have := (h.free i (by omega) hi).2
      rw [hC] at this; cases this
/-- Behind a crash: a beginning of the records, all that were durable. -/
theorem Log.behind (h : Log D C size place n l f recs k) (c : Crashed D C D') {L : List (List Int)} (hL : IsRecs (view D' (fun _ => none)) size place f L)
    (hmax : ∀ r, ¬ IsRec (view D' (fun _ => none)) size place (f + L.length) (usedB L) r) : k ≤ L.length ∧ L.length ≤ recs.length ∧ L = recs.take L.length := by
  have key : ∀ m, m ≤ L.length → m ≤ recs.length ∧ L.take m = recs.take m := by
    intro m
    induction m with
    | zero => intro _; exact ⟨Nat.zero_le _, by simp⟩
    | succ m ih =>
      intro hm
      obtain ⟨i1, i2⟩ := ih (by omega)
      have hr := hL.is m (by omega)
      have hroom := hr.room
      have hneed := hr.need
      rw [i2] at hr hroom
      have hpc : ∀ q, q < needB (L.getD m []) → view D' (fun _ => none) (atS size place (usedB (recs.take m) + q)) = view D C (atS size place (usedB (recs.take m) + q)) := by
        intro q hq
        rcases h.reads c (i := usedB (recs.take m) + q) (by omega) with h1 | h1
        · exact h1
        · exact absurd (by rw [hr.is q hq]; exact piece_last (partB_le _ _)) h1
      have hrV : IsRec (view D C) size place (f + m) (usedB (recs.take m)) (L.getD m []) := hr.congr (fun q hq => (hpc q hq).symm)
      have hmr : m < recs.length := by
        rcases Nat.lt_or_ge m recs.length with h1 | h1
        · exact h1
        · exfalso
          have em : m = recs.length := by omega
          have h2 := hrV.is 0 (by omega)
          rw [em, List.take_length] at h2 hroom
          rw [em] at hneed
          obtain ⟨k1, k2⟩ := h.free (usedB recs) (Nat.le_refl _) (by omega)
          unfold view at h2
          simp only [Nat.add_zero] at h2
          rw [k2] at h2
          exact piece_ne_zeros (h2.symm.trans k1)
      have e := hrV.uniq (h.rs.is m hmr)
      refine ⟨hmr, ?_⟩
      rw [List.take_succ_eq_append_getElem (by omega), List.take_succ_eq_append_getElem hmr, i2]
      congr 2
      rw [List.getD_eq_getElem?_getD, List.getD_eq_getElem?_getD, List.getElem?_eq_getElem (by omega), List.getElem?_eq_getElem hmr] at e
      exact e
  obtain ⟨k1, k2⟩ := key L.length (Nat.le_refl _)
  rw [List.take_length] at k2
  refine ⟨?_, k1, k2⟩
  rcases Nat.lt_or_ge L.length k with h1 | h1
  · exfalso
    have hk := h.kle
    have hlt : L.length < recs.length := by omega
    have h2 := h.rs.is L.length hlt
    refine hmax (recs.getD L.length []) ?_
    have eu : usedB L = usedB (recs.take L.length) := congrArg usedB k2
    rw [eu]
    refine h2.congr (fun q hq => ?_)
    have hb : usedB (recs.take L.length) + q < usedB (recs.take k) := by
      have := usedB_mono (l := recs) (i := L.length + 1) (j := k) (by omega)
      rw [usedB_take_next hlt] at this
      omega
    have hC := h.sync _ hb
    show D'.getD _ [] = _
    rw [c.same _ (h.place_lt _) hC]
    unfold view
    rw [hC]; rfl
  · exact h1
/-- What an opening makes of sectors V. -/
structure Opened (V : Nat → List Int) (size place : Nat) (n l f : Int) (L : List (List Int)) (D' : List (List Int)) : Prop where
  len : D'.length = size + 2
  rs : IsRecs V size place f L
  max : ∀ r, ¬ IsRec V size place (f + L.length) (usedB L) r
  head : D'.getD ((n + 1) % 2).toNat [] = headB (n + 1) (l + 1) place f
  other : D'.getD (n % 2).toNat [] = V (n % 2).toNat
  used : ∀ i, i < usedB L → D'.getD (atS size place i) [] = V (atS size place i)
  free : ∀ i, usedB L ≤ i → i < size → D'.getD (atS size place i) [] = zeros
theorem ring_cover {size p : Nat} (hs : 0 < size) (hp : p < size) {i : Nat} (h2 : 2 ≤ i) (hi : i < size + 2) : ∃ q, q < size ∧ i = atS size p q := by
  by_cases h : p ≤ i - 2
  · refine ⟨i - 2 - p, by omega, ?_⟩
    unfold atS
    rw [show p + (i - 2 - p) = i - 2 by omega, Nat.mod_eq_of_lt (by omega)]
    omega
  · refine ⟨i - 2 + size - p, by omega, ?_⟩
    unfold atS
    rw [show p + (i - 2 + size - p) = (i - 2) + size by omega, Nat.add_mod_right, Nat.mod_eq_of_lt (by omega)]
    omega
theorem Opened.log {V : Nat → List Int} {L : List (List Int)} (h : Opened V size place n l f L D') (h4 : 4 ≤ size) (hf : size ≤ 8190) (hb : ∀ i, i < size + 2 → IsB (V i))
    (hh : IsHead (V (n % 2).toNat) (n % 2) size n l place f) (hn : n < 1152921504606846976) (hl : l < 1152921504606846976) : Log D' (fun _ => none) size place (n + 1) (l + 1) f L L.length := by
  have a1 := hh.n1
  have a2 := hh.l1
  have a3 := hh.f1
  have a4 := hh.f2
  have a5 := hh.p2
  have key : ∀ i, i < size + 2 → IsB (D'.getD i []) := by
    intro i hi
    by_cases h2 : 2 ≤ i
    · obtain ⟨q, hq, rfl⟩ := ring_cover (p := place) (by omega) (by omega) h2 hi
      rcases Nat.lt_or_ge q (usedB L) with hu | hu
      · rw [h.used q hu]; exact hb _ hi
      · rw [h.free q hu hq]; exact isB_zeros
    · by_cases e : i = (n % 2).toNat
      · rw [e, h.other]; exact hb _ (by omega)
      · have e' : i = ((n + 1) % 2).toNat := by omega
        rw [e', h.head]; exact isB_head _ _ _ _
  refine ⟨h.len, h4, hf, by omega, by omega, by omega, by omega, by omega, a3, a4, rfl, rfl, fun i hi => ?_, h.head, fun n' l' p' f' hq => ?_, ?_, fun i h1 h2 => ⟨h.free i h1 h2, rfl⟩, fun i hi => .inl rfl, Nat.le_refl _, fun i hi => rfl⟩
  · rw [h.len] at hi
    exact ⟨key i hi, key i hi⟩
  · rw [show (n + 1 + 1) % 2 = n % 2 by omega, h.other] at hq
    have := (hh.uniq hq).1
    omega
  · refine ⟨h.rs.room, fun i hi => (h.rs.is i hi).congr (fun q hq => ?_)⟩
    refine h.used _ ?_
    have := usedB_mono (l := L) (i := i + 1) (j := L.length) (by omega)
    rw [List.take_length, usedB_take_next hi] at this
    omega
end
end Go.Proofs.Ytchpekecgdbphaa
namespace Go.Proofs.Ytchpekecgdbphaa
open Go Go.RowKit Go.MapKept Go.ChangeMaps

/-- The cache, behind q sectors of a record. -/
def putRec (C : Int → Option (List Int)) (size place used : Nat) (num : Int) (r : List Int) : Nat → Int → Option (List Int)
  | 0 => C
  | q + 1 => cput (putRec C size place used num r q) (atS size place (used + q)) (pieceAt num r q)
section
variable {D : List (List Int)} {C : Int → Option (List Int)} {size place used : Nat} {num n l f : Int} {recs : List (List Int)} {k : Nat} {r : List Int}
theorem putRec_other {q : Nat} {j : Int} (h : ∀ i, i < q → j ≠ atS size place (used + i)) : putRec C size place used num r q j = C j := by
  induction q with
  | zero => rfl
  | succ q ih =>
    show cput _ _ _ j = _
    unfold cput
    rw [if_neg (h q (by omega))]
    exact ih (fun i hi => h i (by omega))
theorem putRec_at {q i : Nat} (hr : used + q ≤ size) (hi : i < q) : putRec C size place used num r q (atS size place (used + i)) = some (pieceAt num r i) := by
  induction q with
  | zero => omega
  | succ q ih =>
    show cput _ _ _ _ = _
    unfold cput
    by_cases e : i = q
    · subst e; rw [if_pos rfl]
    · rw [if_neg (fun e' => e (by have := atS_inj (by omega) (by omega) (Int.ofNat.inj e'); omega))]
      exact ih (by omega) (by omega)
theorem isB_pieceAt (h : IsB r) (q : Nat) : IsB (pieceAt num r q) := isB_piece (partB_le r q) (isB_part h q)
theorem Log.append (h : Log D C size place n l f recs k) (hr : IsB r) (h1 : 1 ≤ r.length) (h2 : r.length ≤ 2000) (hroom : usedB recs + needB r ≤ size) :
    Log D (putRec C size place (usedB recs) (f + recs.length) r (needB r)) size place n l f (recs ++ [r]) k := by
  have h4 := h.four
  have hother : ∀ j : Nat, j < size → (j < usedB recs ∨ usedB recs + needB r ≤ j) → putRec C size place (usedB recs) (f + recs.length) r (needB r) (atS size place j) = C (atS size place j) := by
    intro j hj hjj
    refine putRec_other fun i hi e => ?_
    have := atS_inj hj (by omega) (Int.ofNat.inj e)
    omega
  have hlow : ∀ j : Nat, j < 2 → putRec C size place (usedB recs) (f + recs.length) r (needB r) j = C j := by
    intro j hj
    refine putRec_other fun i hi e => ?_
    have := atS_ge size place (usedB recs + i)
    omega
  have hview : ∀ q, q < needB r → view D (putRec C size place (usedB recs) (f + recs.length) r (needB r)) (atS size place (usedB recs + q)) = pieceAt (f + recs.length) r q := by
    intro q hq
    unfold view
    rw [putRec_at hroom hq]; rfl
  refine ⟨h.dlen, h4, h.few, h.plt, h.n1, h.n2, h.l1, h.l2, h.f1, h.f2, (hlow 0 (by omega)).trans h.c0, (hlow 1 (by omega)).trans h.c1, fun i hi => ⟨?_, (h.bytes i hi).2⟩, h.head, h.other, ?_, fun i h5 h6 => ?_, fun i hi => ?_, by rw [List.length_append]; have := h.kle; omega, fun i hi => ?_⟩
  · by_cases hi2 : i < 2
    · unfold view
      rw [hlow i hi2]
      exact (h.bytes i hi).1
    · have hi3 : 2 ≤ i := by omega
      obtain ⟨q, hq, rfl⟩ := ring_cover (p := place) (by omega) h.plt hi3 (by rw [← h.dlen]; exact hi)
      by_cases hqq : q < usedB recs ∨ usedB recs + needB r ≤ q
      · unfold view
        rw [hother q hq hqq]
        exact (h.bytes _ hi).1
      · have := hview (q - usedB recs) (by omega)
        rw [show usedB recs + (q - usedB recs) = q by omega] at this
        rw [this]
        exact isB_pieceAt hr _
  · refine IsRecs.snoc ⟨h.rs.room, fun i hi => (h.rs.is i hi).congr fun q hq => ?_⟩ ⟨h1, h2, hroom, hview⟩
    have := usedB_mono (l := recs) (i := i + 1) (j := recs.length) (by omega)
    rw [List.take_length, usedB_take_next hi] at this
    have hroom' := h.rs.room
    unfold view
    rw [hother _ (by omega) (.inl (by omega))]
  · rw [usedB_snoc] at h5
    rw [hother i h6 (.inr h5)]
    exact h.free i (by omega) h6
  · rw [usedB_snoc] at hi
    by_cases hu : i < usedB recs
    · rw [hother i (by have := h.rs.room; omega) (.inl hu)]
      exact h.under i hu
    · exact .inr (h.free i (by omega) (by omega)).1
  · rw [List.take_append_of_le_length h.kle] at hi
    have := usedB_take_le recs k
    rw [hother i (by have := h.rs.room; omega) (.inl (by omega))]
    exact h.sync i hi
theorem Log.synced (h : Log D C size place n l f recs k) : Log (viewL D C) (fun _ => none) size place n l f recs recs.length := by
  have h4 := h.four
  have hv : ∀ i, i < D.length → view (viewL D C) (fun _ => none) i = view D C i := fun i hi => by
    show (viewL D C).getD i [] = _
    rw [viewL_get hi]
  have hd : ∀ i, i < D.length → (viewL D C).getD i [] = view D C i := fun i hi => viewL_get hi
  have hz : ∀ i : Nat, i < 2 → view D C i = D.getD i [] := fun i hi => by
    unfold view
    obtain rfl | rfl : i = 0 ∨ i = 1 := by omega
    · rw [show ((0 : Nat) : Int) = 0 from rfl, h.c0]; rfl
    · rw [show ((1 : Nat) : Int) = 1 from rfl, h.c1]; rfl
  have hl := h.dlen
  refine ⟨by rw [viewL_length, hl], h4, h.few, h.plt, h.n1, h.n2, h.l1, h.l2, h.f1, h.f2, rfl, rfl, fun i hi => ?_, ?_, fun n' l' p' f' hq => ?_, ?_, fun i h5 h6 => ⟨?_, rfl⟩, fun i hi => .inl rfl, Nat.le_refl _, fun i hi => rfl⟩
  · rw [viewL_length] at hi
    rw [hv i hi, hd i hi]
    exact ⟨(h.bytes i hi).1, (h.bytes i hi).1⟩
  · rw [hd _ (by omega), hz _ (by omega)]; exact h.head
  · rw [hd _ (by omega), hz _ (by omega)] at hq; exact h.other n' l' p' f' hq
  · exact ⟨h.rs.room, fun i hi => (h.rs.is i hi).congr fun q hq => hv _ (h.place_lt _)⟩
  · rw [hd _ (h.place_lt _)]
    obtain ⟨k1, k2⟩ := h.free i h5 h6
    unfold view
    rw [k2]
    exact k1
/-- What a checkpoint makes of a log whose records and the new ones are durable. -/
structure Pointed (V : Nat → List Int) (size place : Nat) (n l f : Int) (recs L : List (List Int)) (D' : List (List Int)) : Prop where
  len : D'.length = size + 2
  head : D'.getD ((n + 1) % 2).toNat [] = headB (n + 1) l ((place + usedB recs) % size : Nat) (f + recs.length)
  other : D'.getD (n % 2).toNat [] = V (n % 2).toNat
  used : ∀ i, i < usedB L → D'.getD (atS size place (usedB recs + i)) [] = V (atS size place (usedB recs + i))
  free : ∀ i, usedB L ≤ i → i < size → D'.getD (atS size place (usedB recs + i)) [] = zeros
theorem recs_append {V : Nat → List Int} {L : List (List Int)} (h : IsRecs V size place f (recs ++ L)) : IsRecs V size ((place + usedB recs) % size) (f + recs.length) L := by
  have hroom := h.room
  rw [usedB_append] at hroom
  refine ⟨by omega, fun i hi => ?_⟩
  have hk := h.is (recs.length + i) (by rw [List.length_append]; omega)
  have e1 : (recs ++ L).take (recs.length + i) = recs ++ L.take i := by rw [List.take_append, List.take_of_length_le (by omega), show recs.length + i - recs.length = i by omega]
  have e2 : (recs ++ L).getD (recs.length + i) [] = L.getD i [] := by
    rw [List.getD_eq_getElem?_getD, List.getElem?_append_right (by omega), show recs.length + i - recs.length = i by omega, ← List.getD_eq_getElem?_getD]
  rw [e1, e2, usedB_append] at hk
  refine ⟨hk.pos, hk.few, by have := hk.room; omega, fun q hq => ?_⟩
  rw [atS_next, ← Nat.add_assoc, hk.is q hq]
  unfold pieceAt
  rw [show f + ((recs.length + i : Nat) : Int) = f + recs.length + i by omega]
theorem Pointed.log {D' : List (List Int)} {L : List (List Int)} (h : Log D (fun _ => none) size place n l f (recs ++ L) (recs.length + L.length)) (hp : Pointed (view D (fun _ => none)) size place n l f recs L D') (hn : n < 1152921504606846976) (hf : f + recs.length ≤ 1152921504606846976) :
    Log D' (fun _ => none) size ((place + usedB recs) % size) (n + 1) l (f + recs.length) L L.length := by
  have h4 := h.four
  have a1 := h.n1
  have a2 := h.f1
  have hpl : (place + usedB recs) % size < size := Nat.mod_lt _ (by omega)
  have hroom := h.rs.room
  rw [usedB_append] at hroom
  have hused : ∀ i, i < usedB L → D'.getD (atS size ((place + usedB recs) % size) i) [] = view D (fun _ => none) (atS size ((place + usedB recs) % size) i) := fun i hi => by
    rw [atS_next]; exact hp.used i hi
  have hfree : ∀ i, usedB L ≤ i → i < size → D'.getD (atS size ((place + usedB recs) % size) i) [] = zeros := fun i h5 h6 => by
    rw [atS_next]; exact hp.free i h5 h6
  have key : ∀ i, i < size + 2 → IsB (D'.getD i []) := by
    intro i hi
    by_cases h2 : 2 ≤ i
    · obtain ⟨q, hq, rfl⟩ := ring_cover (p := (place + usedB recs) % size) (by omega) hpl h2 hi
      rcases Nat.lt_or_ge q (usedB L) with hu | hu
      · rw [hused q hu]; exact (h.bytes _ (by rw [h.dlen]; exact hi)).1
      · rw [hfree q hu hq]; exact isB_zeros
    · by_cases e : i = (n % 2).toNat
      · rw [e, hp.other]; exact (h.bytes _ (by rw [h.dlen]; omega)).1
      · have e' : i = ((n + 1) % 2).toNat := by omega
        rw [e', hp.head]; exact isB_head _ _ _ _
  refine ⟨hp.len, h4, h.few, hpl, by omega, by omega, h.l1, h.l2, by omega, hf, rfl, rfl, fun i hi => ?_, hp.head, fun n' l' p' f' hq => ?_, ?_, fun i h5 h6 => ⟨hfree i h5 h6, rfl⟩, fun i hi => .inl rfl, Nat.le_refl _, fun i hi => rfl⟩
  · rw [hp.len] at hi
    exact ⟨key i hi, key i hi⟩
  · rw [show (n + 1 + 1) % 2 = n % 2 by omega, hp.other] at hq
    have hh : IsHead (D.getD (n % 2).toNat []) (n % 2) size n l place f := ⟨h.n1, h.n2, rfl, h.l1, h.l2, by omega, by have := h.plt; omega, by have := h.plt; have := h.few; omega, h.f1, h.f2, h.head⟩
    have := (hh.uniq hq).1
    omega
  · have hr := recs_append h.rs
    refine ⟨hr.room, fun i hi => (hr.is i hi).congr (fun q hq => ?_)⟩
    refine hused _ ?_
    have := usedB_mono (l := L) (i := i + 1) (j := L.length) (by omega)
    rw [List.take_length, usedB_take_next hi] at this
    omega
/-- A new plate's log. -/
theorem log_fresh {D' : List (List Int)} (h4 : 4 ≤ size) (hf : size ≤ 8190) (hl : D'.length = size + 2) (h1 : D'.getD 1 [] = headB 1 1 0 1) (hz : ∀ i, i < size + 2 → i ≠ 1 → D'.getD i [] = zeros) : Log D' (fun _ => none) size 0 1 1 1 [] 0 := by
  refine ⟨hl, h4, hf, by omega, by omega, by omega, by omega, by omega, by omega, by omega, rfl, rfl, fun i hi => ?_, h1, fun n' l' p' f' hq => ?_, IsRecs.nil, fun i h5 h6 => ⟨hz _ (atS_lt (by omega)) (by have := atS_ge size 0 i; omega), rfl⟩, fun i hi => .inl rfl, Nat.le_refl _, fun i hi => rfl⟩
  · have : IsB (D'.getD i []) := by
      by_cases e : i = 1
      · rw [e, h1]; exact isB_head _ _ _ _
      · rw [hz i (by omega) e]; exact isB_zeros
    exact ⟨this, this⟩
  · rw [show ((1 : Int) + 1) % 2 = 0 from rfl, show ((0 : Int)).toNat = 0 from rfl, hz 0 (by omega) (by omega)] at hq
    exact absurd hq (not_head_of_last (by decide) _ _ _ _ _ _)
end
end Go.Proofs.Ytchpekecgdbphaa
