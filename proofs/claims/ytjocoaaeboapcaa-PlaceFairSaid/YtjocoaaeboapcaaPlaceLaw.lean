/-
  Members, each once, rising, turned by a seed: plain Lean.
-/
import Derived.Test.YtjocoaaeboapcaaHeap
import Derived.Lib.SlicesCompact
namespace Go.Proofs.Ytjocoaaeboapcaa
open Heap

theorem sorted_ext : ∀ {a b : List Int}, a.Pairwise (· < ·) → b.Pairwise (· < ·) → (∀ x, x ∈ a ↔ x ∈ b) → a = b
  | [], [], _, _, _ => rfl
  | [], y :: b, _, _, h => by have := (h y).2 (List.mem_cons_self ..); cases this
  | x :: a, [], _, _, h => by have := (h x).1 (List.mem_cons_self ..); cases this
  | x :: a, y :: b, ha, hb, h => by
    obtain ⟨ha1, ha2⟩ := List.pairwise_cons.1 ha
    obtain ⟨hb1, hb2⟩ := List.pairwise_cons.1 hb
    have e : x = y := by
      rcases List.mem_cons.1 ((h x).1 (List.mem_cons_self ..)) with e | e
      · exact e
      · rcases List.mem_cons.1 ((h y).2 (List.mem_cons_self ..)) with e2 | e2
        · exact e2.symm
        · have := hb1 x e; have := ha1 y e2; omega
    subst e
    refine congrArg (x :: ·) (sorted_ext ha2 hb2 fun z => ⟨fun hz => ?_, fun hz => ?_⟩)
    · rcases List.mem_cons.1 ((h z).1 (List.mem_cons_of_mem _ hz)) with e | e
      · have := ha1 z hz; omega
      · exact e
    · rcases List.mem_cons.1 ((h z).2 (List.mem_cons_of_mem _ hz)) with e | e
      · have := hb1 z hz; omega
      · exact e
/-- Compacting a sorted row. -/
theorem compactUpTo_sorted (d : Array Int) (hs : ∀ i j, i ≤ j → j < d.size → d[i]! ≤ d[j]!) : ∀ m, m ≤ d.size → (Lib.compactUpTo d m).Pairwise (· < ·) ∧ (∀ x, x ∈ Lib.compactUpTo d m ↔ ∃ j, j < m ∧ d[j]! = x)
  | 0, _ => by
    have : Lib.compactUpTo d 0 = [] := by unfold Lib.compactUpTo; simp
    rw [this]
    exact ⟨List.Pairwise.nil, fun x => ⟨fun h => (by cases h), fun ⟨j, hj, _⟩ => absurd hj (Nat.not_lt_zero _)⟩⟩
  | m + 1, hm => by
    obtain ⟨h1, h2⟩ := compactUpTo_sorted d hs m (by omega)
    rw [Lib.compactUpTo_succ]
    by_cases hk : Lib.keeps d m = true
    · rw [if_pos hk]
      refine ⟨?_, fun x => ?_⟩
      · refine List.pairwise_append.2 ⟨h1, List.pairwise_singleton _ _, fun a ha b hb => ?_⟩
        rw [List.mem_singleton.1 hb]
        obtain ⟨j, hj, rfl⟩ := (h2 a).1 ha
        have hne : d[m]! ≠ d[m - 1]! := by
          intro e
          rw [Lib.keeps_neg (by omega) e] at hk; cases hk
        have a1 := hs j (m - 1) (by omega) (by omega)
        have a2 := hs (m - 1) m (by omega) (by omega)
        show d[j]! < d[m]!
        omega
      · rw [List.mem_append, h2, List.mem_singleton]
        constructor
        · rintro (⟨j, hj, e⟩ | e)
          · exact ⟨j, by omega, e⟩
          · exact ⟨m, by omega, e.symm⟩
        · rintro ⟨j, hj, e⟩
          by_cases hjm : j = m
          · subst hjm; exact .inr e.symm
          · exact .inl ⟨j, by omega, e⟩
    · rw [if_neg hk, List.append_nil]
      refine ⟨h1, fun x => ?_⟩
      rw [h2]
      have he : 0 < m ∧ d[m]! = d[m - 1]! := by
        by_cases h0 : m = 0
        · subst h0; exact absurd (Lib.keeps_lt_one d 0 (by omega)) hk
        · refine ⟨by omega, ?_⟩
          by_cases e : d[m]! = d[m - 1]!
          · exact e
          · exact absurd (Lib.keeps_pos e) hk
      constructor
      · rintro ⟨j, hj, e⟩; exact ⟨j, by omega, e⟩
      · rintro ⟨j, hj, e⟩
        by_cases hjm : j = m
        · subst hjm; exact ⟨j - 1, by omega, by rw [← he.2]; exact e⟩
        · exact ⟨j, by omega, e⟩
theorem compact_sorted {zs : List Int} (hs : zs.Pairwise (· ≤ ·)) : (Lib.compact zs).Pairwise (· < ·) ∧ ∀ x, x ∈ Lib.compact zs ↔ x ∈ zs := by
  have hle : ∀ i j, i ≤ j → j < zs.toArray.size → zs.toArray[i]! ≤ zs.toArray[j]! := fun i j hij hj => by
    have hj' : j < zs.length := by simpa using hj
    simp only [List.getElem!_toArray]
    rw [List.getElem!_eq_getElem?_getD, List.getElem!_eq_getElem?_getD, List.getElem?_eq_getElem hj', List.getElem?_eq_getElem (by omega)]
    by_cases e : i = j
    · subst e; exact Int.le_refl _
    · exact List.pairwise_iff_getElem.1 hs i j (by omega) hj' (by omega)
  obtain ⟨h1, h2⟩ := compactUpTo_sorted zs.toArray hle zs.length (by simp)
  refine ⟨h1, fun x => ?_⟩
  unfold Lib.compact
  rw [h2]
  constructor
  · rintro ⟨j, hj, rfl⟩
    simp only [List.getElem!_toArray]
    rw [List.getElem!_eq_getElem?_getD, List.getElem?_eq_getElem hj]
    exact List.getElem_mem hj
  · intro hx
    obtain ⟨j, hj, rfl⟩ := List.mem_iff_getElem.1 hx
    refine ⟨j, hj, ?_⟩
    simp only [List.getElem!_toArray]
    rw [List.getElem!_eq_getElem?_getD, List.getElem?_eq_getElem hj]; rfl

/-- The numbers from 0 on. -/
def nums (n : Nat) : List Int := (List.range n).map Int.ofNat
theorem mem_nums {n : Nat} {x : Int} : x ∈ nums n ↔ 0 ≤ x ∧ x < n := by
  unfold nums
  rw [List.mem_map]
  constructor
  · rintro ⟨k, hk, rfl⟩
    have := List.mem_range.1 hk
    exact ⟨Int.natCast_nonneg k, Int.ofNat_lt.2 this⟩
  · rintro ⟨h0, h1⟩
    exact ⟨x.toNat, List.mem_range.2 (by omega), Int.toNat_of_nonneg h0⟩
theorem nums_succ (n : Nat) : nums (n + 1) = nums n ++ [(n : Int)] := by unfold nums; rw [List.range_succ, List.map_append]; rfl
theorem nums_sorted : ∀ n, (nums n).Pairwise (· < ·)
  | 0 => List.Pairwise.nil
  | n + 1 => by
    rw [nums_succ]
    refine List.pairwise_append.2 ⟨nums_sorted n, List.pairwise_singleton _ _, fun a ha b hb => ?_⟩
    rw [List.mem_singleton.1 hb]
    exact (mem_nums.1 ha).2
/-- The members that may be, rising, each once. -/
def mems (L : List Int) : List Int := (nums 16).filter (fun n => decide (n ∈ L))
theorem mem_mems {L : List Int} {x : Int} : x ∈ mems L ↔ x ∈ L ∧ 0 ≤ x ∧ x < 16 := by
  unfold mems
  rw [List.mem_filter, mem_nums, decide_eq_true_eq]
  exact ⟨fun h => ⟨h.2, h.1⟩, fun h => ⟨h.2, h.1⟩⟩
theorem mems_sorted (L : List Int) : (mems L).Pairwise (· < ·) := (nums_sorted 16).filter _
theorem mems_length (L : List Int) : (mems L).length ≤ 16 := by
  have := List.length_filter_le (fun n => decide (n ∈ L)) (nums 16)
  exact this
def off (x : Int) : Bool := decide (x < 0 ∨ 16 ≤ x)
def kept (L : List Int) : List Int := L.filter fun x => !off x
def rising (l : List Int) : List Int := l.mergeSort fun x y => decide (x ≤ y)
theorem mem_kept {L : List Int} {x : Int} : x ∈ kept L ↔ x ∈ L ∧ 0 ≤ x ∧ x < 16 := by
  unfold kept
  rw [List.mem_filter]
  unfold off
  constructor
  · rintro ⟨h1, h2⟩; exact ⟨h1, by simp at h2; omega⟩
  · rintro ⟨h1, h2⟩; exact ⟨h1, by simp; omega⟩
theorem rising_sorted (l : List Int) : (rising l).Pairwise (· ≤ ·) := by
  have := List.pairwise_mergeSort (le := fun x y : Int => decide (x ≤ y)) (fun a b c h1 h2 => by simp at *; omega) (fun a b => by simp; omega) l
  exact this.imp (fun h => by simpa using h)
theorem mems_is (L : List Int) : Lib.compact (rising (kept L)) = mems L := by
  obtain ⟨h1, h2⟩ := compact_sorted (rising_sorted (kept L))
  refine sorted_ext h1 (mems_sorted L) fun x => ?_
  rw [h2, mem_mems]
  unfold rising
  rw [(List.mergeSort_perm _ _).mem_iff, mem_kept]

/-- Turned by a place. -/
def rot (s : List Int) (k : Nat) : List Int := s.drop k ++ s.take k
theorem rot_perm (s : List Int) (k : Nat) : (rot s k).Perm s := by
  have h := List.perm_append_comm (l₁ := s.drop k) (l₂ := s.take k)
  rw [List.take_append_drop] at h
  exact h
/-- Where a member comes. -/
def rk (fr m : Int) : Int := (m - fr + 16) % 16
theorem rot_ranked {s : List Int} (hs : s.Pairwise (· < ·)) (hm : ∀ x ∈ s, 0 ≤ x ∧ x < 16) {k : Nat} (hk : k < s.length) : (rot s k).Pairwise (fun a b => rk (at0 s k) a < rk (at0 s k) b) := by
  have hat : at0 s k = s[k] := by unfold at0; rw [List.getD_eq_getElem?_getD, List.getElem?_eq_getElem hk]; rfl
  have hfr := hm _ (List.getElem_mem hk)
  have hlo : ∀ x ∈ s.take k, x < s[k] := fun x hx => by
    obtain ⟨i, hi, rfl⟩ := List.mem_iff_getElem.1 hx
    rw [List.length_take] at hi
    rw [List.getElem_take]
    exact List.pairwise_iff_getElem.1 hs i k (by omega) hk (by omega)
  have hhi : ∀ x ∈ s.drop k, s[k] ≤ x := fun x hx => by
    obtain ⟨i, hi, rfl⟩ := List.mem_iff_getElem.1 hx
    rw [List.length_drop] at hi
    rw [List.getElem_drop]
    by_cases e : i = 0
    · subst e; exact Int.le_refl _
    · exact Int.le_of_lt (List.pairwise_iff_getElem.1 hs k (k + i) hk (by omega) (by omega))
  rw [hat]
  unfold rot
  refine List.pairwise_append.2 ⟨?_, ?_, fun a ha b hb => ?_⟩
  · refine (hs.sublist (List.drop_sublist k s)).imp_of_mem fun {a b} ha hb h => ?_
    have a1 := hhi a ha; have a2 := hhi b hb; have a3 := hm a (List.mem_of_mem_drop ha); have a4 := hm b (List.mem_of_mem_drop hb)
    unfold rk; omega
  · refine (hs.sublist (List.take_sublist k s)).imp_of_mem fun {a b} ha hb h => ?_
    have a1 := hlo a ha; have a2 := hlo b hb; have a3 := hm a (List.mem_of_mem_take ha); have a4 := hm b (List.mem_of_mem_take hb)
    unfold rk; omega
  · have a1 := hhi a ha; have a2 := hlo b hb; have a3 := hm a (List.mem_of_mem_drop ha); have a4 := hm b (List.mem_of_mem_take hb)
    unfold rk; omega
end Go.Proofs.Ytjocoaaeboapcaa
