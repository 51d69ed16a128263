/-
  A log on a plate; what a crash leaves of it; what an opening makes of it.
-/
import Derived.Test.YtchpekecgdbphaaWalLaw2
namespace Go.Proofs.Ytchpekecgdbphaa
open Go Go.RowKit Go.MapKept Go.ChangeMaps

theorem atS_lt {size p i : Nat} (h : 0 < size) : atS size p i < size + 2 := by
  unfold atS
  have := Nat.mod_lt (p + i) h
  omega
theorem atS_ge (size p i : Nat) : 2 ≤ atS size p i := by unfold atS; omega
theorem atS_inj {size p i j : Nat} (hi : i < size) (hj : j < size) (e : atS size p i = atS size p j) : i = j := by
  unfold atS at e
  have key : ∀ a b, a ≤ b → b < size → (p + a) % size = (p + b) % size → a = b := by
    intro a b hab hb h
    have h1 : ((p + b) - (p + a)) % size = 0 := Nat.sub_mod_eq_zero_of_mod_eq h.symm
    rw [show (p + b) - (p + a) = b - a by omega, Nat.mod_eq_of_lt (by omega)] at h1
    omega
  rcases Nat.le_total i j with h | h
  · exact key i j h hj (by omega)
  · exact (key j i h hi (by omega)).symm
theorem atS_next (size p u i : Nat) : atS size ((p + u) % size) i = atS size p (u + i) := by
  unfold atS
  rw [Nat.mod_add_mod, Nat.add_assoc]
/-- A log, its records, and how many of these are durable. -/
structure Log (D : List (List Int)) (C : Int → Option (List Int)) (size place : Nat) (n l f : Int) (recs : List (List Int)) (k : Nat) : Prop where
  dlen : D.length = size + 2
  four : 4 ≤ size
  few : size ≤ 8190
  plt : place < size
  n1 : 1 ≤ n
  n2 : n ≤ 1152921504606846976
  l1 : 1 ≤ l
  l2 : l ≤ 1152921504606846976
  f1 : 1 ≤ f
  f2 : f ≤ 1152921504606846976
  c0 : C 0 = none
  c1 : C 1 = none
  bytes : ∀ i, i < D.length → IsB (view D C i) ∧ IsB (D.getD i [])
  head : D.getD (n % 2).toNat [] = headB n l place f
  other : ∀ n' l' p' f', IsHead (D.getD ((n + 1) % 2).toNat []) ((n + 1) % 2) size n' l' p' f' → n' < n
  rs : IsRecs (view D C) size place f recs
  free : ∀ i, usedB recs ≤ i → i < size → D.getD (atS size place i) [] = zeros ∧ C (atS size place i) = none
  under : ∀ i, i < usedB recs → C (atS size place i) = none ∨ D.getD (atS size place i) [] = zeros
  kle : k ≤ recs.length
  sync : ∀ i, i < usedB (recs.take k) → C (atS size place i) = none
/-- What a crash leaves. -/
structure Crashed (D : List (List Int)) (C : Int → Option (List Int)) (D' : List (List Int)) : Prop where
  len : D'.length = D.length
  same : ∀ i : Nat, i < D.length → C i = none → D'.getD i [] = D.getD i []
  or : ∀ (i : Nat) l, i < D.length → C i = some l → D'.getD i [] = l ∨ ∃ N, D'.getD i [] = l.take N ++ (D.getD i []).drop N
theorem usedB_take_le (l : List (List Int)) (i : Nat) : usedB (l.take i) ≤ usedB l := by
  have := usedB_append (l.take i) (l.drop i)
  rw [List.take_append_drop] at this
  omega
theorem usedB_take_next {l : List (List Int)} {i : Nat} (h : i < l.length) : usedB (l.take (i + 1)) = usedB (l.take i) + needB (l.getD i []) := by
  rw [List.take_succ_eq_append_getElem h, usedB_snoc, List.getD_eq_getElem?_getD, List.getElem?_eq_getElem h]
  rfl
theorem usedB_mono {l : List (List Int)} {i j : Nat} (h : i ≤ j) : usedB (l.take i) ≤ usedB (l.take j) := by
  have := usedB_take_le (l.take j) i
  rw [List.take_take, Nat.min_eq_left h] at this
  exact this
theorem zeros_last : zeros.getD 63 0 = 0 := rfl
theorem take_last {l : List Int} {N : Nat} (hl : l.length = 64) : l.take N ++ zeros.drop N = l ∨ (l.take N ++ zeros.drop N).getD 63 0 = 0 := by
  by_cases h : 64 ≤ N
  · left
    rw [List.take_of_length_le (by omega), List.drop_eq_nil_of_le (by simp [zeros]; omega), List.append_nil]
  · right
    have hn : (l.take N).length = N := by rw [List.length_take]; omega
    rw [List.getD_eq_getElem?_getD, List.getElem?_append_right (by omega), hn, List.getElem?_drop, show N + (63 - N) = 63 by omega]
    rfl
section
variable {D D' : List (List Int)} {C : Int → Option (List Int)} {size place : Nat} {n l f : Int} {recs : List (List Int)} {k : Nat}
theorem piece_at_used {V : Nat → List Int} (h : IsRecs V size place f recs) {i : Nat} (hi : i < usedB recs) : ∃ m q, m < recs.length ∧ q < needB (recs.getD m []) ∧ i = usedB (recs.take m) + q := by
  have key : ∀ m, m ≤ recs.length → i < usedB (recs.take m) → ∃ m' q, m' < recs.length ∧ q < needB (recs.getD m' []) ∧ i = usedB (recs.take m') + q := by
    intro m
    induction m with
    | zero => intro _ h; exact absurd h (Nat.not_lt_zero _)
    | succ m ih =>
      intro hm hlt
      by_cases e : i < usedB (recs.take m)
      · exact ih (by omega) e
      · rw [usedB_take_next (by omega)] at hlt
        exact ⟨m, i - usedB (recs.take m), by omega, by omega, by omega⟩
  exact key recs.length (Nat.le_refl _) (by rw [List.take_length]; exact hi)
theorem view_piece {V : Nat → List Int} (h : IsRecs V size place f recs) {i : Nat} (hi : i < usedB recs) : ∃ num m b c, m.length ≤ 40 ∧ V (atS size place i) = pieceB num m b c := by
  obtain ⟨m, q, hm, hq, rfl⟩ := piece_at_used h hi
  exact ⟨_, _, _, _, partB_le _ _, (h.is m hm).is q hq⟩
theorem Log.place_lt (h : Log D C size place n l f recs k) (i : Nat) : atS size place i < D.length := by
  rw [h.dlen]; exact atS_lt (by have := h.four; omega)
/-- A sector of the ring behind a crash: as it was, or no piece. -/
theorem Log.reads (h : Log D C size place n l f recs k) (c : Crashed D C D') {i : Nat} (hi : i < size) :
    view D' (fun _ => none) (atS size place i) = view D C (atS size place i) ∨ (view D' (fun _ => none) (atS size place i)).getD 63 0 ≠ 167 := by
  have hlt := h.place_lt i
  have e : view D' (fun _ => none) (atS size place i) = D'.getD (atS size place i) [] := rfl
  rw [e]
  cases hC : C (atS size place i) with
  | none =>
    left
    rw [c.same _ hlt hC]
    unfold view
    rw [hC]; rfl
  | some x =>
    have ev : view D C (atS size place i) = x := by unfold view; rw [hC]; rfl
    by_cases hu : i < usedB recs
    · rcases h.under i hu with h1 | h1
      · rw [hC] at h1; cases h1
      · obtain ⟨num, m, b', c', hm, hp⟩ := view_piece h.rs hu
        rw [ev] at hp
        rw [ev]
        rcases c.or _ x hlt hC with h2 | ⟨N, h2⟩
        · exact .inl h2
        · rw [h1] at h2
          rcases take_last (N := N) (l := x) (by rw [hp]; exact piece_length hm) with h3 | h3
          · exact .inl (h2.trans h3)
          · right; rw [h2, h3]; omega
    · have := (h.free i (by omega) hi).2
      rw [hC] at this; cases this
/-- Behind a crash: a beginning of the records, all that were durable. -/
theorem Log.behind (h : Log D C size place n l f recs k) (c : Crashed D C D') {L : List (List Int)} (hL : IsRecs (view D' (fun _ => none)) size place f L)
    (hmax : ∀ r, ¬ IsRec (view D' (fun _ => none)) size place (f + L.length) (usedB L) r) : k ≤ L.length ∧ L.length ≤ recs.length ∧ L = recs.take L.length := by
  have key : ∀ m, m ≤ L.length → m ≤ recs.length ∧ L.take m = recs.take m := by
    intro m
    induction m with
    | zero => intro _; exact ⟨Nat.zero_le _, by simp⟩
    | succ m ih =>
      intro hm
      obtain ⟨i1, i2⟩ := ih (by omega)
      have hr := hL.is m (by omega)
      have hroom := hr.room
      have hneed := hr.need
      rw [i2] at hr hroom
      have hpc : ∀ q, q < needB (L.getD m []) → view D' (fun _ => none) (atS size place (usedB (recs.take m) + q)) = view D C (atS size place (usedB (recs.take m) + q)) := by
        intro q hq
        rcases h.reads c (i := usedB (recs.take m) + q) (by omega) with h1 | h1
        · exact h1
        · exact absurd (by rw [hr.is q hq]; exact piece_last (partB_le _ _)) h1
      have hrV : IsRec (view D C) size place (f + m) (usedB (recs.take m)) (L.getD m []) := hr.congr (fun q hq => (hpc q hq).symm)
      have hmr : m < recs.length := by
        rcases Nat.lt_or_ge m recs.length with h1 | h1
        · exact h1
        · exfalso
          have em : m = recs.length := by omega
          have h2 := hrV.is 0 (by omega)
          rw [em, List.take_length] at h2 hroom
          rw [em] at hneed
          obtain ⟨k1, k2⟩ := h.free (usedB recs) (Nat.le_refl _) (by omega)
          unfold view at h2
          simp only [Nat.add_zero] at h2
          rw [k2] at h2
          exact piece_ne_zeros (h2.symm.trans k1)
      have e := hrV.uniq (h.rs.is m hmr)
      refine ⟨hmr, ?_⟩
      rw [List.take_succ_eq_append_getElem (by omega), List.take_succ_eq_append_getElem hmr, i2]
      congr 2
      rw [List.getD_eq_getElem?_getD, List.getD_eq_getElem?_getD, List.getElem?_eq_getElem (by omega), List.getElem?_eq_getElem hmr] at e
      exact e
  obtain ⟨k1, k2⟩ := key L.length (Nat.le_refl _)
  rw [List.take_length] at k2
  refine ⟨?_, k1, k2⟩
  rcases Nat.lt_or_ge L.length k with h1 | h1
  · exfalso
    have hk := h.kle
    have hlt : L.length < recs.length := by omega
    have h2 := h.rs.is L.length hlt
    refine hmax (recs.getD L.length []) ?_
    have eu : usedB L = usedB (recs.take L.length) := congrArg usedB k2
    rw [eu]
    refine h2.congr (fun q hq => ?_)
    have hb : usedB (recs.take L.length) + q < usedB (recs.take k) := by
      have := usedB_mono (l := recs) (i := L.length + 1) (j := k) (by omega)
      rw [usedB_take_next hlt] at this
      omega
    have hC := h.sync _ hb
    show D'.getD _ [] = _
    rw [c.same _ (h.place_lt _) hC]
    unfold view
    rw [hC]; rfl
  · exact h1
/-- What an opening makes of sectors V. -/
structure Opened (V : Nat → List Int) (size place : Nat) (n l f : Int) (L : List (List Int)) (D' : List (List Int)) : Prop where
  len : D'.length = size + 2
  rs : IsRecs V size place f L
  max : ∀ r, ¬ IsRec V size place (f + L.length) (usedB L) r
  head : D'.getD ((n + 1) % 2).toNat [] = headB (n + 1) (l + 1) place f
  other : D'.getD (n % 2).toNat [] = V (n % 2).toNat
  used : ∀ i, i < usedB L → D'.getD (atS size place i) [] = V (atS size place i)
  free : ∀ i, usedB L ≤ i → i < size → D'.getD (atS size place i) [] = zeros
theorem ring_cover {size p : Nat} (hs : 0 < size) (hp : p < size) {i : Nat} (h2 : 2 ≤ i) (hi : i < size + 2) : ∃ q, q < size ∧ i = atS size p q := by
  by_cases h : p ≤ i - 2
  · refine ⟨i - 2 - p, by omega, ?_⟩
    unfold atS
    rw [show p + (i - 2 - p) = i - 2 by omega, Nat.mod_eq_of_lt (by omega)]
    omega
  · refine ⟨i - 2 + size - p, by omega, ?_⟩
    unfold atS
    rw [show p + (i - 2 + size - p) = (i - 2) + size by omega, Nat.add_mod_right, Nat.mod_eq_of_lt (by omega)]
    omega
theorem Opened.log {V : Nat → List Int} {L : List (List Int)} (h : Opened V size place n l f L D') (h4 : 4 ≤ size) (hf : size ≤ 8190) (hb : ∀ i, i < size + 2 → IsB (V i))
    (hh : IsHead (V (n % 2).toNat) (n % 2) size n l place f) (hn : n < 1152921504606846976) (hl : l < 1152921504606846976) : Log D' (fun _ => none) size place (n + 1) (l + 1) f L L.length := by
  have a1 := hh.n1
  have a2 := hh.l1
  have a3 := hh.f1
  have a4 := hh.f2
  have a5 := hh.p2
  have key : ∀ i, i < size + 2 → IsB (D'.getD i []) := by
    intro i hi
    by_cases h2 : 2 ≤ i
    · obtain ⟨q, hq, rfl⟩ := ring_cover (p := place) (by omega) (by omega) h2 hi
      rcases Nat.lt_or_ge q (usedB L) with hu | hu
      · rw [h.used q hu]; exact hb _ hi
      · rw [h.free q hu hq]; exact isB_zeros
    · by_cases e : i = (n % 2).toNat
      · rw [e, h.other]; exact hb _ (by omega)
      · have e' : i = ((n + 1) % 2).toNat := by omega
        rw [e', h.head]; exact isB_head _ _ _ _
  refine ⟨h.len, h4, hf, by omega, by omega, by omega, by omega, by omega, a3, a4, rfl, rfl, fun i hi => ?_, h.head, fun n' l' p' f' hq => ?_, ?_, fun i h1 h2 => ⟨h.free i h1 h2, rfl⟩, fun i hi => .inl rfl, Nat.le_refl _, fun i hi => rfl⟩
  · rw [h.len] at hi
    exact ⟨key i hi, key i hi⟩
  · rw [show (n + 1 + 1) % 2 = n % 2 by omega, h.other] at hq
    have := (hh.uniq hq).1
    omega
  · refine ⟨h.rs.room, fun i hi => (h.rs.is i hi).congr (fun q hq => ?_)⟩
    refine h.used _ ?_
    have := usedB_mono (l := L) (i := i + 1) (j := L.length) (by omega)
    rw [List.take_length, usedB_take_next hi] at this
    omega
end
end Go.Proofs.Ytchpekecgdbphaa
