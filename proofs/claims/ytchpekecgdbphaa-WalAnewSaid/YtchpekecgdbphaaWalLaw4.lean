/-
  A log: a record is appended; all is made durable; a checkpoint.
-/
import Derived.Test.YtchpekecgdbphaaWalLaw3
namespace Go.Proofs.Ytchpekecgdbphaa
open Go Go.RowKit Go.MapKept Go.ChangeMaps

/-- The cache, behind q sectors of a record. -/
def putRec (C : Int → Option (List Int)) (size place used : Nat) (num : Int) (r : List Int) : Nat → Int → Option (List Int)
  | 0 => C
  | q + 1 => cput (putRec C size place used num r q) (atS size place (used + q)) (pieceAt num r q)
section
variable {D : List (List Int)} {C : Int → Option (List Int)} {size place used : Nat} {num n l f : Int} {recs : List (List Int)} {k : Nat} {r : List Int}
theorem putRec_other {q : Nat} {j : Int} (h : ∀ i, i < q → j ≠ atS size place (used + i)) : putRec C size place used num r q j = C j := by
  induction q with
  | zero => rfl
  | succ q ih =>
    show cput _ _ _ j = _
    unfold cput
    rw [if_neg (h q (by omega))]
    exact ih (fun i hi => h i (by omega))
theorem putRec_at {q i : Nat} (hr : used + q ≤ size) (hi : i < q) : putRec C size place used num r q (atS size place (used + i)) = some (pieceAt num r i) := by
  induction q with
  | zero => omega
  | succ q ih =>
    show cput _ _ _ _ = _
    unfold cput
    by_cases e : i = q
    · subst e; rw [if_pos rfl]
    · rw [if_neg (fun e' => e (by have := atS_inj (by omega) (by omega) (Int.ofNat.inj e'); omega))]
      exact ih (by omega) (by omega)
theorem isB_pieceAt (h : IsB r) (q : Nat) : IsB (pieceAt num r q) := isB_piece (partB_le r q) (isB_part h q)
theorem Log.append (h : Log D C size place n l f recs k) (hr : IsB r) (h1 : 1 ≤ r.length) (h2 : r.length ≤ 2000) (hroom : usedB recs + needB r ≤ size) :
    Log D (putRec C size place (usedB recs) (f + recs.length) r (needB r)) size place n l f (recs ++ [r]) k := by
  have h4 := h.four
  have hother : ∀ j : Nat, j < size → (j < usedB recs ∨ usedB recs + needB r ≤ j) → putRec C size place (usedB recs) (f + recs.length) r (needB r) (atS size place j) = C (atS size place j) := by
    intro j hj hjj
    refine putRec_other fun i hi e => ?_
    have := atS_inj hj (by omega) (Int.ofNat.inj e)
    omega
  have hlow : ∀ j : Nat, j < 2 → putRec C size place (usedB recs) (f + recs.length) r (needB r) j = C j := by
    intro j hj
    refine putRec_other fun i hi e => ?_
    have := atS_ge size place (usedB recs + i)
    omega
  have hview : ∀ q, q < needB r → view D (putRec C size place (usedB recs) (f + recs.length) r (needB r)) (atS size place (usedB recs + q)) = pieceAt (f + recs.length) r q := by
    intro q hq
    unfold view
    rw [putRec_at hroom hq]; rfl
  refine ⟨h.dlen, h4, h.few, h.plt, h.n1, h.n2, h.l1, h.l2, h.f1, h.f2, (hlow 0 (by omega)).trans h.c0, (hlow 1 (by omega)).trans h.c1, fun i hi => ⟨?_, (h.bytes i hi).2⟩, h.head, h.other, ?_, fun i h5 h6 => ?_, fun i hi => ?_, by rw [List.length_append]; have := h.kle; omega, fun i hi => ?_⟩
  · by_cases hi2 : i < 2
    · unfold view
      rw [hlow i hi2]
      exact (h.bytes i hi).1
    · have hi3 : 2 ≤ i := by omega
      obtain ⟨q, hq, rfl⟩ := ring_cover (p := place) (by omega) h.plt hi3 (by rw [← h.dlen]; exact hi)
      by_cases hqq : q < usedB recs ∨ usedB recs + needB r ≤ q
      · unfold view
        rw [hother q hq hqq]
        exact (h.bytes _ hi).1
      · have := hview (q - usedB recs) (by omega)
        rw [show usedB recs + (q - usedB recs) = q by omega] at this
        rw [this]
        exact isB_pieceAt hr _
  · refine IsRecs.snoc ⟨h.rs.room, fun i hi => (h.rs.is i hi).congr fun q hq => ?_⟩ ⟨h1, h2, hroom, hview⟩
    have := usedB_mono (l := recs) (i := i + 1) (j := recs.length) (by omega)
    rw [List.take_length, usedB_take_next hi] at this
    have hroom' := h.rs.room
    unfold view
    rw [hother _ (by omega) (.inl (by omega))]
  · rw [usedB_snoc] at h5
    rw [hother i h6 (.inr h5)]
    exact h.free i (by omega) h6
  · rw [usedB_snoc] at hi
    by_cases hu : i < usedB recs
    · rw [hother i (by have := h.rs.room; omega) (.inl hu)]
      exact h.under i hu
    · exact .inr (h.free i (by omega) (by omega)).1
  · rw [List.take_append_of_le_length h.kle] at hi
    have := usedB_take_le recs k
    rw [hother i (by have := h.rs.room; omega) (.inl (by omega))]
    exact h.sync i hi
theorem Log.synced (h : Log D C size place n l f recs k) : Log (viewL D C) (fun _ => none) size place n l f recs recs.length := by
  have h4 := h.four
  have hv : ∀ i, i < D.length → view (viewL D C) (fun _ => none) i = view D C i := fun i hi => by
    show (viewL D C).getD i [] = _
    rw [viewL_get hi]
  have hd : ∀ i, i < D.length → (viewL D C).getD i [] = view D C i := fun i hi => viewL_get hi
  have hz : ∀ i : Nat, i < 2 → view D C i = D.getD i [] := fun i hi => by
    unfold view
    obtain rfl | rfl : i = 0 ∨ i = 1 := by omega
    · rw [show ((0 : Nat) : Int) = 0 from rfl, h.c0]; rfl
    · rw [show ((1 : Nat) : Int) = 1 from rfl, h.c1]; rfl
  have hl := h.dlen
  refine ⟨by rw [viewL_length, hl], h4, h.few, h.plt, h.n1, h.n2, h.l1, h.l2, h.f1, h.f2, rfl, rfl, fun i hi => ?_, ?_, fun n' l' p' f' hq => ?_, ?_, fun i h5 h6 => ⟨?_, rfl⟩, fun i hi => .inl rfl, Nat.le_refl _, fun i hi => rfl⟩
  · rw [viewL_length] at hi
    rw [hv i hi, hd i hi]
    exact ⟨(h.bytes i hi).1, (h.bytes i hi).1⟩
  · rw [hd _ (by omega), hz _ (by omega)]; exact h.head
  · rw [hd _ (by omega), hz _ (by omega)] at hq; exact h.other n' l' p' f' hq
  · exact ⟨h.rs.room, fun i hi => (h.rs.is i hi).congr fun q hq => hv _ (h.place_lt _)⟩
  · rw [hd _ (h.place_lt _)]
    obtain ⟨k1, k2⟩ := h.free i h5 h6
    unfold view
    rw [k2]
    exact k1
/-- What a checkpoint makes of a log whose records and the new ones are durable. -/
structure Pointed (V : Nat → List Int) (size place : Nat) (n l f : Int) (recs L : List (List Int)) (D' : List (List Int)) : Prop where
  len : D'.length = size + 2
  head : D'.getD ((n + 1) % 2).toNat [] = headB (n + 1) l ((place + usedB recs) % size : Nat) (f + recs.length)
  other : D'.getD (n % 2).toNat [] = V (n % 2).toNat
  used : ∀ i, i < usedB L → D'.getD (atS size place (usedB recs + i)) [] = V (atS size place (usedB recs + i))
  free : ∀ i, usedB L ≤ i → i < size → D'.getD (atS size place (usedB recs + i)) [] = zeros
theorem recs_append {V : Nat → List Int} {L : List (List Int)} (h : IsRecs V size place f (recs ++ L)) : IsRecs V size ((place + usedB recs) % size) (f + recs.length) L := by
  have hroom := h.room
  rw [usedB_append] at hroom
  refine ⟨by omega, fun i hi => ?_⟩
  have hk := h.is (recs.length + i) (by rw [List.length_append]; omega)
  have e1 : (recs ++ L).take (recs.length + i) = recs ++ L.take i := by rw [List.take_append, List.take_of_length_le (by omega), show recs.length + i - recs.length = i by omega]
  have e2 : (recs ++ L).getD (recs.length + i) [] = L.getD i [] := by
    rw [List.getD_eq_getElem?_getD, List.getElem?_append_right (by omega), show recs.length + i - recs.length = i by omega, ← List.getD_eq_getElem?_getD]
  rw [e1, e2, usedB_append] at hk
  refine ⟨hk.pos, hk.few, by have := hk.room; omega, fun q hq => ?_⟩
  rw [atS_next, ← Nat.add_assoc, hk.is q hq]
  unfold pieceAt
  rw [show f + ((recs.length + i : Nat) : Int) = f + recs.length + i by omega]
theorem Pointed.log {D' : List (List Int)} {L : List (List Int)} (h : Log D (fun _ => none) size place n l f (recs ++ L) (recs.length + L.length)) (hp : Pointed (view D (fun _ => none)) size place n l f recs L D') (hn : n < 1152921504606846976) (hf : f + recs.length ≤ 1152921504606846976) :
    Log D' (fun _ => none) size ((place + usedB recs) % size) (n + 1) l (f + recs.length) L L.length := by
  have h4 := h.four
  have a1 := h.n1
  have a2 := h.f1
  have hpl : (place + usedB recs) % size < size := Nat.mod_lt _ (by omega)
  have hroom := h.rs.room
  rw [usedB_append] at hroom
  have hused : ∀ i, i < usedB L → D'.getD (atS size ((place + usedB recs) % size) i) [] = view D (fun _ => none) (atS size ((place + usedB recs) % size) i) := fun i hi => by
    rw [atS_next]; exact hp.used i hi
  have hfree : ∀ i, usedB L ≤ i → i < size → D'.getD (atS size ((place + usedB recs) % size) i) [] = zeros := fun i h5 h6 => by
    rw [atS_next]; exact hp.free i h5 h6
  have key : ∀ i, i < size + 2 → IsB (D'.getD i []) := by
    intro i hi
    by_cases h2 : 2 ≤ i
    · obtain ⟨q, hq, rfl⟩ := ring_cover (p := (place + usedB recs) % size) (by omega) hpl h2 hi
      rcases Nat.lt_or_ge q (usedB L) with hu | hu
      · rw [hused q hu]; exact (h.bytes _ (by rw [h.dlen]; exact hi)).1
      · rw [hfree q hu hq]; exact isB_zeros
    · by_cases e : i = (n % 2).toNat
      · rw [e, hp.other]; exact (h.bytes _ (by rw [h.dlen]; omega)).1
      · have e' : i = ((n + 1) % 2).toNat := by omega
        rw [e', hp.head]; exact isB_head _ _ _ _
  refine ⟨hp.len, h4, h.few, hpl, by omega, by omega, h.l1, h.l2, by omega, hf, rfl, rfl, fun i hi => ?_, hp.head, fun n' l' p' f' hq => ?_, ?_, fun i h5 h6 => ⟨hfree i h5 h6, rfl⟩, fun i hi => .inl rfl, Nat.le_refl _, fun i hi => rfl⟩
  · rw [hp.len] at hi
    exact ⟨key i hi, key i hi⟩
  · rw [show (n + 1 + 1) % 2 = n % 2 by omega, hp.other] at hq
    have hh : IsHead (D.getD (n % 2).toNat []) (n % 2) size n l place f := ⟨h.n1, h.n2, rfl, h.l1, h.l2, by omega, by have := h.plt; omega, by have := h.plt; have := h.few; omega, h.f1, h.f2, h.head⟩
    have := (hh.uniq hq).1
    omega
  · have hr := recs_append h.rs
    refine ⟨hr.room, fun i hi => (hr.is i hi).congr (fun q hq => ?_)⟩
    refine hused _ ?_
    have := usedB_mono (l := L) (i := i + 1) (j := L.length) (by omega)
    rw [List.take_length, usedB_take_next hi] at this
    omega
/-- A new plate's log. -/
theorem log_fresh {D' : List (List Int)} (h4 : 4 ≤ size) (hf : size ≤ 8190) (hl : D'.length = size + 2) (h1 : D'.getD 1 [] = headB 1 1 0 1) (hz : ∀ i, i < size + 2 → i ≠ 1 → D'.getD i [] = zeros) : Log D' (fun _ => none) size 0 1 1 1 [] 0 := by
  refine ⟨hl, h4, hf, by omega, by omega, by omega, by omega, by omega, by omega, by omega, rfl, rfl, fun i hi => ?_, h1, fun n' l' p' f' hq => ?_, IsRecs.nil, fun i h5 h6 => ⟨hz _ (atS_lt (by omega)) (by have := atS_ge size 0 i; omega), rfl⟩, fun i hi => .inl rfl, Nat.le_refl _, fun i hi => rfl⟩
  · have : IsB (D'.getD i []) := by
      by_cases e : i = 1
      · rw [e, h1]; exact isB_head _ _ _ _
      · rw [hz i (by omega) e]; exact isB_zeros
    exact ⟨this, this⟩
  · rw [show ((1 : Int) + 1) % 2 = 0 from rfl, show ((0 : Int)).toNat = 0 from rfl, hz 0 (by omega) (by omega)] at hq
    exact absurd hq (not_head_of_last (by decide) _ _ _ _ _ _)
end
end Go.Proofs.Ytchpekecgdbphaa
