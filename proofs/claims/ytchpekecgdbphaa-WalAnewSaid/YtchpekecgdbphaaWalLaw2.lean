/-
  Records on a ring: what is a record at a place, and that there is one at most.
-/
import Derived.Test.YtchpekecgdbphaaWalLaw1
namespace Go.Proofs.Ytchpekecgdbphaa
open Go Go.RowKit Go.MapKept Go.ChangeMaps

def needB (r : List Int) : Nat := (r.length + 39) / 40
def partB (r : List Int) (i : Nat) : List Int := (r.drop (40 * i)).take 40
def pieceAt (num : Int) (r : List Int) (i : Nat) : List Int := pieceB num (partB r i) (decide (i = 0)) (decide (i + 1 = needB r))
def atS (size place i : Nat) : Nat := 2 + (place + i) % size
theorem partB_length (r : List Int) (i : Nat) : (partB r i).length = min 40 (r.length - 40 * i) := by simp [partB]
theorem partB_le (r : List Int) (i : Nat) : (partB r i).length ≤ 40 := by rw [partB_length]; omega
theorem isB_part {r : List Int} (h : IsB r) (i : Nat) : IsB (partB r i) := (h.drop _).take _
theorem partB_full {r : List Int} {i : Nat} (h : i + 1 < needB r) : (partB r i).length = 40 := by
  unfold needB at h
  rw [partB_length]; omega
theorem partB_some {r : List Int} {i : Nat} (h : i < needB r) : 1 ≤ (partB r i).length := by
  unfold needB at h
  rw [partB_length]; omega
theorem part_end {r : List Int} {i : Nat} (h : i + 1 = needB r) : r = r.take (40 * i) ++ partB r i := by
  unfold partB
  unfold needB at h
  rw [List.take_of_length_le (l := r.drop (40 * i)) (by rw [List.length_drop]; omega), List.take_append_drop]
theorem part_next {r : List Int} {i : Nat} (h : i + 1 < needB r) : r.take (40 * (i + 1)) = r.take (40 * i) ++ partB r i := by
  unfold partB
  rw [show 40 * (i + 1) = 40 * i + 40 by omega, List.take_add]
/-- r is the record with number num, in the ring's sectors from 'used' on. -/
structure IsRec (V : Nat → List Int) (size place : Nat) (num : Int) (used : Nat) (r : List Int) : Prop where
  pos : 1 ≤ r.length
  few : r.length ≤ 2000
  room : used + needB r ≤ size
  is : ∀ i, i < needB r → V (atS size place (used + i)) = pieceAt num r i
theorem IsRec.need {V : Nat → List Int} {size place used : Nat} {num : Int} {r : List Int} (h : IsRec V size place num used r) : 1 ≤ needB r ∧ needB r ≤ 50 := by
  have := h.pos
  have := h.few
  unfold needB
  omega
/-- k sectors of a record are read. -/
structure Pre (V : Nat → List Int) (size place : Nat) (num : Int) (used : Nat) (k : Nat) (acc : List Int) : Prop where
  len : acc.length = 40 * k
  room : used + k ≤ size
  is : ∀ i, i < k → V (atS size place (used + i)) = pieceB num (partB acc i) (decide (i = 0)) false
section
variable {V : Nat → List Int} {size place used : Nat} {num : Int}
theorem Pre.zero (h : used ≤ size) : Pre V size place num used 0 [] := ⟨rfl, h, fun i hi => absurd hi (Nat.not_lt_zero _)⟩
/-- Any record there begins with what was read. -/
theorem Pre.of {k : Nat} {acc r : List Int} (h : Pre V size place num used k acc) (hr : IsRec V size place num used r) : k < needB r ∧ r.take (40 * k) = acc := by
  have key : ∀ j, j ≤ k → j < needB r ∧ r.take (40 * j) = acc.take (40 * j) := by
    intro j
    induction j with
    | zero => intro _; exact ⟨hr.need.1, by simp⟩
    | succ j ih =>
      intro hj
      obtain ⟨i1, i2⟩ := ih (by omega)
      have e := (hr.is j i1).symm.trans (h.is j (by omega))
      obtain ⟨_, e1, _, e3⟩ := piece_inj (partB_le r j) (partB_le acc j) e
      have h1 : j + 1 ≠ needB r := by simpa using e3
      refine ⟨by omega, ?_⟩
      rw [part_next (by omega), i2, e1]
      unfold partB
      rw [show 40 * (j + 1) = 40 * j + 40 by omega, List.take_add]
  obtain ⟨k1, k2⟩ := key k (Nat.le_refl _)
  exact ⟨k1, by rw [k2, List.take_of_length_le (by rw [h.len]; omega)]⟩
theorem Pre.room' {k : Nat} {acc r : List Int} (h : Pre V size place num used k acc) (hr : IsRec V size place num used r) : used + k < size := by
  have := (h.of hr).1
  have := hr.room
  omega
/-- The next sector of a record that is there. -/
theorem Pre.piece {k : Nat} {acc r : List Int} (h : Pre V size place num used k acc) (hr : IsRec V size place num used r) :
    V (atS size place (used + k)) = pieceB num (partB r k) (decide (k = 0)) (decide (k + 1 = needB r)) ∧ 1 ≤ (partB r k).length ∧ (partB r k).length ≤ 40 ∧ ((partB r k).length < 40 → k + 1 = needB r) ∧ acc.length + (partB r k).length ≤ 2000 ∧ (k + 1 = needB r → r = acc ++ partB r k) := by
  obtain ⟨k1, k2⟩ := h.of hr
  have hf := hr.few
  have hl := h.len
  refine ⟨hr.is k k1, partB_some k1, partB_le r k, fun hlt => ?_, ?_, fun e => ?_⟩
  · by_cases e : k + 1 = needB r
    · exact e
    · rw [partB_full (by omega)] at hlt; omega
  · rw [partB_length, hl]
    have : 40 * k ≤ r.length := by unfold needB at k1; omega
    omega
  · have := part_end e
    rw [k2] at this
    exact this
/-- The sector that is next, as it reads. -/
theorem Pre.reads {k : Nat} {acc r : List Int} (h : Pre V size place num used k acc) (hr : IsRec V size place num used r) {b : List Int} (hb : b = V (atS size place (used + k))) :
    b.getD 9 0 = (partB r k).length ∧ b.getD 11 0 = bit (decide (k + 1 = needB r)) ∧ (b.drop 12).take (partB r k).length = partB r k := by
  have e := (h.piece hr).1
  rw [← hb] at e
  exact ⟨by rw [e, piece_count (partB_le r k)], by rw [e, piece_c], by rw [e, piece_load]⟩
theorem Pre.next {k m : Nat} {acc b : List Int} (h : Pre V size place num used k acc) (hb : b = V (atS size place (used + k))) (hlt : used + k < size) (hm : m = 40) (hl : ((b.drop 12).take m).length = m) (he : b = pieceB num ((b.drop 12).take m) (decide (k = 0)) false) :
    Pre V size place num used (k + 1) (acc ++ (b.drop 12).take m) := by
  subst hm
  have hal := h.len
  refine ⟨by rw [List.length_append, hal, hl]; omega, by omega, fun i hi => ?_⟩
  by_cases e : i = k
  · subst e
    rw [← hb]
    have : partB (acc ++ (b.drop 12).take 40) i = (b.drop 12).take 40 := by
      unfold partB
      rw [← hal, List.drop_left, List.take_of_length_le (by rw [hl]; omega)]
    rw [this]
    exact he
  · rw [h.is i (by omega)]
    congr 1
    unfold partB
    rw [List.drop_append_of_le_length (by omega), List.take_append_of_le_length (by rw [List.length_drop]; omega)]
theorem Pre.done {k m : Nat} {acc b : List Int} (h : Pre V size place num used k acc) (hb : b = V (atS size place (used + k))) (hlt : used + k < size) (h1 : 1 ≤ m) (h2 : m ≤ 40) (hl : ((b.drop 12).take m).length = m) (hf : acc.length + m ≤ 2000) (he : b = pieceB num ((b.drop 12).take m) (decide (k = 0)) true) :
    IsRec V size place num used (acc ++ (b.drop 12).take m) := by
  have hal := h.len
  have hn : needB (acc ++ (b.drop 12).take m) = k + 1 := by
    unfold needB
    rw [List.length_append, hl, hal]; omega
  refine ⟨by rw [List.length_append, hl]; omega, by rw [List.length_append, hl]; exact hf, by rw [hn]; omega, fun i hi => ?_⟩
  rw [hn] at hi
  unfold pieceAt
  rw [hn]
  by_cases e : i = k
  · subst e
    rw [← hb]
    have : partB (acc ++ (b.drop 12).take m) i = (b.drop 12).take m := by
      unfold partB
      rw [← hal, List.drop_left, List.take_of_length_le (by rw [hl]; omega)]
    rw [this, decide_eq_true rfl]
    exact he
  · rw [h.is i (by omega)]
    have : decide (i + 1 = k + 1) = false := decide_eq_false (by omega)
    rw [this]
    congr 1
    unfold partB
    rw [List.drop_append_of_le_length (by omega), List.take_append_of_le_length (by rw [List.length_drop]; omega)]
theorem IsRec.uniq {r r' : List Int} (h : IsRec V size place num used r) (h' : IsRec V size place num used r') : r = r' := by
  have pre : ∀ k, k < needB r → Pre V size place num used k (r.take (40 * k)) := by
    intro k hk
    have h40 : 40 * k ≤ r.length := by unfold needB at hk; omega
    refine ⟨by rw [List.length_take]; omega, by have := h.room; omega, fun i hi => ?_⟩
    rw [h.is i (by omega)]
    unfold pieceAt
    have : decide (i + 1 = needB r) = false := decide_eq_false (by omega)
    rw [this]
    congr 1
    unfold partB
    rw [List.drop_take, List.take_take, Nat.min_eq_left (by omega)]
  have hp := pre (needB r - 1) (by have := h.need; omega)
  have e1 := (hp.of h).1
  obtain ⟨a1, a2, a3, a4, a5, a6⟩ := hp.piece h
  obtain ⟨b1, b2, b3, b4, b5, b6⟩ := hp.piece h'
  obtain ⟨_, e2, _, e3⟩ := piece_inj a3 b3 (a1.symm.trans b1)
  have hk : needB r - 1 + 1 = needB r := by have := h.need; omega
  rw [decide_eq_true hk] at e3
  have e4 := of_decide_eq_true e3.symm
  rw [a6 hk, b6 e4, e2]
theorem IsRec.congr {V' : Nat → List Int} {r : List Int} (h : IsRec V size place num used r) (he : ∀ i, i < needB r → V' (atS size place (used + i)) = V (atS size place (used + i))) : IsRec V' size place num used r :=
  ⟨h.pos, h.few, h.room, fun i hi => (he i hi).trans (h.is i hi)⟩
end
/-- How many sectors records have. -/
def usedB : List (List Int) → Nat
  | [] => 0
  | r :: l => needB r + usedB l
theorem usedB_append (l m : List (List Int)) : usedB (l ++ m) = usedB l + usedB m := by
  induction l with
  | nil => simp [usedB]
  | cons r l ih => simp only [List.cons_append, usedB, ih]; omega
theorem usedB_snoc (l : List (List Int)) (r : List Int) : usedB (l ++ [r]) = usedB l + needB r := by rw [usedB_append]; simp [usedB]
/-- The records of a ring, one behind the other. -/
structure IsRecs (V : Nat → List Int) (size place : Nat) (first : Int) (l : List (List Int)) : Prop where
  room : usedB l ≤ size
  is : ∀ i, i < l.length → IsRec V size place (first + i) (usedB (l.take i)) (l.getD i [])
section
variable {V : Nat → List Int} {size place : Nat} {first : Int}
theorem IsRecs.nil : IsRecs V size place first [] := ⟨Nat.zero_le _, fun i hi => absurd hi (Nat.not_lt_zero _)⟩
theorem IsRecs.snoc {l : List (List Int)} {r : List Int} (h : IsRecs V size place first l) (hr : IsRec V size place (first + l.length) (usedB l) r) : IsRecs V size place first (l ++ [r]) := by
  refine ⟨by rw [usedB_snoc]; exact hr.room, fun i hi => ?_⟩
  rw [List.length_append] at hi
  by_cases e : i = l.length
  · subst e
    rw [List.getD_eq_getElem?_getD, List.getElem?_append_right (Nat.le_refl _), Nat.sub_self, List.take_left]
    exact hr
  · have hi' : i < l.length := by simp at hi; omega
    rw [List.getD_eq_getElem?_getD, List.getElem?_append_left hi', ← List.getD_eq_getElem?_getD, List.take_append_of_le_length (by omega)]
    exact h.is i hi'
theorem IsRecs.many {l : List (List Int)} (h : IsRecs V size place first l) : l.length ≤ usedB l := by
  have : ∀ m, m ≤ l.length → m ≤ usedB (l.take m) := by
    intro m
    induction m with
    | zero => intro _; exact Nat.zero_le _
    | succ m ih =>
      intro hm
      rw [List.take_succ_eq_append_getElem (by omega), usedB_snoc]
      have := (h.is m (by omega)).need.1
      rw [List.getD_eq_getElem?_getD, List.getElem?_eq_getElem (by omega)] at this
      have := ih (by omega)
      simp only [Option.getD_some] at *
      omega
  have := this l.length (Nat.le_refl _)
  rwa [List.take_length] at this
end
end Go.Proofs.Ytchpekecgdbphaa
