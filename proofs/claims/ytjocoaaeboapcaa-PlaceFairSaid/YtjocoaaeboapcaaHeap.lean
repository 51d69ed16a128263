/-
  A heap in a list, and what comes out of it, in plain Lean: no program in sight.
-/
namespace Go.Proofs.Ytjocoaaeboapcaa.Heap

def at0 (l : List Int) (i : Nat) : Int := l.getD i 0
def swp (l : List Int) (i j : Nat) : List Int := (l.set i (at0 l j)).set j (at0 l i)
@[simp] theorem swp_length (l : List Int) (i j : Nat) : (swp l i j).length = l.length := by simp [swp]
theorem swp_at (l : List Int) (i j k : Nat) (hi : i < l.length) (hj : j < l.length) : at0 (swp l i j) k = if k = j then at0 l i else if k = i then at0 l j else at0 l k := by
  unfold swp at0
  simp only [List.getD_eq_getElem?_getD, List.getElem?_set, List.length_set]
  by_cases h1 : j = k
  · subst h1; simp [hj]
  · have h1' : ¬ k = j := fun e => h1 e.symm
    by_cases h2 : i = k
    · subst h2; simp [h1, hi, h1']
    · have h2' : ¬ k = i := fun e => h2 e.symm
      simp [h1, h2, h1', h2']
theorem swp_perm (l : List Int) (i j : Nat) (hi : i < l.length) (hj : j < l.length) : (swp l i j).Perm l := by
  have e : swp l i j = (l.set i l[j]).set j l[i] := by
    unfold swp at0
    rw [List.getD_eq_getElem?_getD, List.getD_eq_getElem?_getD, List.getElem?_eq_getElem hi, List.getElem?_eq_getElem hj]; rfl
  rw [e]
  exact List.set_set_perm hi hj

/-- Each child from i0's on comes behind its parent. -/
def From (rk : Int → Int) (l : List Int) (i0 n : Nat) : Prop := ∀ c, 0 < c → c < n → i0 ≤ (c - 1) / 2 → rk (at0 l ((c - 1) / 2)) ≤ rk (at0 l c)
/-- But perhaps those of i. -/
structure Sift (rk : Int → Int) (l0 l : List Int) (i0 n i : Nat) : Prop where
  ge : i0 ≤ i
  len : n ≤ l.length
  perm : l.Perm l0
  past : ∀ k, n ≤ k → at0 l k = at0 l0 k
  edge : ∀ c, 0 < c → c < n → i0 ≤ (c - 1) / 2 → (c - 1) / 2 ≠ i → rk (at0 l ((c - 1) / 2)) ≤ rk (at0 l c)
  over : i ≠ i0 → i0 ≤ (i - 1) / 2 ∧ ∀ c, 0 < c → c < n → (c - 1) / 2 = i → rk (at0 l ((i - 1) / 2)) ≤ rk (at0 l c)
theorem Sift.start {rk : Int → Int} {l : List Int} {i0 n : Nat} (h : From rk l (i0 + 1) n) (hl : n ≤ l.length) : Sift rk l l i0 n i0 :=
  ⟨Nat.le_refl _, hl, List.Perm.refl _, fun _ _ => rfl, fun c h1 h2 h3 h4 => h c h1 h2 (by omega), fun h => absurd rfl h⟩
theorem Sift.step {rk : Int → Int} {l0 l : List Int} {i0 n i j : Nat} (h : Sift rk l0 l i0 n i) (hj : j < n) (hp : (j - 1) / 2 = i) (h0 : 0 < j) (hlt : rk (at0 l j) < rk (at0 l i)) (hmin : ∀ c, 0 < c → c < n → (c - 1) / 2 = i → rk (at0 l j) ≤ rk (at0 l c)) :
    Sift rk l0 (swp l i j) i0 n j := by
  have hin : i < n := by omega
  have hi' : i < l.length := Nat.lt_of_lt_of_le hin h.len
  have hj' : j < l.length := Nat.lt_of_lt_of_le hj h.len
  have hij : i < j := by omega
  refine ⟨by have := h.ge; omega, by rw [swp_length]; exact h.len, (swp_perm l i j hi' hj').trans h.perm, fun k hk => ?_, fun c h1 h2 h3 h4 => ?_, fun _ => ⟨by have := h.ge; omega, fun c h1 h2 h3 => ?_⟩⟩
  · rw [swp_at l i j k hi' hj', if_neg (by omega), if_neg (by omega)]; exact h.past k hk
  · rw [swp_at _ _ _ _ hi' hj', swp_at _ _ _ _ hi' hj', if_neg h4]
    by_cases e1 : (c - 1) / 2 = i
    · rw [if_pos e1]
      by_cases e2 : c = j
      · rw [if_pos e2]; omega
      · rw [if_neg e2, if_neg (by omega)]; exact hmin c h1 h2 e1
    · rw [if_neg e1]
      by_cases e2 : c = j
      · exact absurd (e2 ▸ hp) e1
      · rw [if_neg e2]
        by_cases e3 : c = i
        · subst e3
          rw [if_pos rfl]
          obtain ⟨k1, k2⟩ := h.over (by omega)
          exact k2 j h0 hj hp
        · rw [if_neg e3]; exact h.edge c h1 h2 h3 e1
  · rw [hp, swp_at _ _ _ _ hi' hj', swp_at _ _ _ _ hi' hj', if_neg (by omega), if_pos rfl, if_neg (by omega), if_neg (by omega)]
    have := h.edge c h1 h2 (by have := h.ge; omega) (by omega)
    rw [h3] at this
    exact this
theorem Sift.done {rk : Int → Int} {l0 l : List Int} {i0 n i : Nat} (h : Sift rk l0 l i0 n i) (hc : ∀ c, 0 < c → c < n → (c - 1) / 2 = i → rk (at0 l i) ≤ rk (at0 l c)) : From rk l i0 n := fun c h1 h2 h3 => by
  by_cases e : (c - 1) / 2 = i
  · rw [e]; exact hc c h1 h2 e
  · exact h.edge c h1 h2 h3 e
theorem from_weak {rk : Int → Int} {l : List Int} {i n m : Nat} (h : From rk l i n) (hm : m ≤ n) : From rk l i m := fun c h1 h2 h3 => h c h1 (by omega) h3
theorem from_half (rk : Int → Int) (l : List Int) (n i : Nat) (hi : n / 2 ≤ i) : From rk l i n := fun c h1 h2 h3 => by omega
theorem head_min {rk : Int → Int} {l : List Int} {n : Nat} (h : From rk l 0 n) : ∀ c, c < n → rk (at0 l 0) ≤ rk (at0 l c) := by
  intro c
  induction c using Nat.strongRecOn with
  | ind c ih =>
    intro hc
    by_cases h0 : c = 0
    · subst h0; exact Int.le_refl _
    · have := h c (by omega) hc (by omega)
      have := ih ((c - 1) / 2) (by omega) (by omega)
      omega
/-- The head of a heap is the first of the same members in order. -/
theorem head_is {rk : Int → Int} {l s : List Int} {x : Int} (h : From rk l 0 l.length) (hp : l.Perm (x :: s)) (hs : (x :: s).Pairwise (fun a b => rk a < rk b)) : at0 l 0 = x := by
  have hlen : l.length = s.length + 1 := by rw [hp.length_eq]; rfl
  have hm : at0 l 0 ∈ l := by unfold at0; rw [List.getD_eq_getElem?_getD, List.getElem?_eq_getElem (by omega)]; exact List.getElem_mem _
  have hx : x ∈ l := hp.mem_iff.2 (List.mem_cons_self ..)
  obtain ⟨i, hi, he⟩ := List.mem_iff_getElem.1 hx
  have h1 := head_min h i hi
  have h2 : at0 l i = x := by unfold at0; rw [List.getD_eq_getElem?_getD, List.getElem?_eq_getElem hi]; exact he
  rw [h2] at h1
  rcases List.mem_cons.1 (hp.mem_iff.1 hm) with h3 | h3
  · exact h3
  · have := (List.pairwise_cons.1 hs).1 _ h3; omega
theorem at0_mem {l : List Int} {i : Nat} (h : i < l.length) : at0 l i ∈ l := by unfold at0; rw [List.getD_eq_getElem?_getD, List.getElem?_eq_getElem h]; exact List.getElem_mem _
theorem getD_append_left {a b : List Int} {i : Nat} (h : i < a.length) : at0 (a ++ b) i = at0 a i := by unfold at0; rw [List.getD_eq_getElem?_getD, List.getD_eq_getElem?_getD, List.getElem?_append_left h]
theorem min_right {rk : Int → Int} {l : List Int} {k n : Nat} (d : rk (at0 l (2 * k + 2)) < rk (at0 l (2 * k + 1))) : ∀ c, 0 < c → c < n → (c - 1) / 2 = k → rk (at0 l (2 * k + 2)) ≤ rk (at0 l c) := fun c h1 _ h3 => by
  obtain e | e : c = 2 * k + 1 ∨ c = 2 * k + 2 := by omega
  · rw [e]; omega
  · rw [e]; exact Int.le_refl _
theorem min_left {rk : Int → Int} {l : List Int} {k n : Nat} (d : rk (at0 l (2 * k + 1)) ≤ rk (at0 l (2 * k + 2))) : ∀ c, 0 < c → c < n → (c - 1) / 2 = k → rk (at0 l (2 * k + 1)) ≤ rk (at0 l c) := fun c h1 _ h3 => by
  obtain e | e : c = 2 * k + 1 ∨ c = 2 * k + 2 := by omega
  · rw [e]; exact Int.le_refl _
  · rw [e]; exact d
theorem min_one {rk : Int → Int} {l : List Int} {k n : Nat} (d : ¬ 2 * k + 2 < n) : ∀ c, 0 < c → c < n → (c - 1) / 2 = k → rk (at0 l (2 * k + 1)) ≤ rk (at0 l c) := fun c h1 h2 h3 => by
  obtain e : c = 2 * k + 1 := by omega
  rw [e]; exact Int.le_refl _
theorem min_done {rk : Int → Int} {l : List Int} {k n : Nat} {x : Int} (d : rk (at0 l k) ≤ x) (h : ∀ c, 0 < c → c < n → (c - 1) / 2 = k → x ≤ rk (at0 l c)) : ∀ c, 0 < c → c < n → (c - 1) / 2 = k → rk (at0 l k) ≤ rk (at0 l c) := fun c h1 h2 h3 => Int.le_trans d (h c h1 h2 h3)
theorem dropLast_perm {l2 s : List Int} {x : Int} {n : Nat} (hl : l2.length = n + 1) (hp : l2.Perm (x :: s)) (he : at0 l2 n = x) : (l2.take n).Perm s := by
  have h1 : l2 = l2.take n ++ [x] := by
    have h2 := List.take_append_drop n l2
    have h3 : l2.drop n = [x] := by
      rw [List.drop_eq_getElem_cons (by omega), List.drop_eq_nil_of_le (by omega)]
      congr 1
      rw [← he]; unfold at0; rw [List.getD_eq_getElem?_getD, List.getElem?_eq_getElem (by omega)]; rfl
    rw [h3] at h2; exact h2.symm
  rw [h1] at hp
  have h4 : (x :: l2.take n).Perm (x :: s) := (List.perm_append_comm (l₁ := [x]) (l₂ := l2.take n)).trans hp
  exact (List.perm_cons x).1 h4
theorem take_from {rk : Int → Int} {l : List Int} {n : Nat} (h : From rk l 0 n) (hn : n ≤ l.length) : From rk (l.take n) 0 (l.take n).length := fun c h1 h2 h3 => by
  rw [List.length_take] at h2
  have e : ∀ k, k < n → at0 (l.take n) k = at0 l k := fun k hk => by unfold at0; rw [List.getD_eq_getElem?_getD, List.getD_eq_getElem?_getD, List.getElem?_take_of_lt hk]
  rw [e _ (by omega), e _ (by omega)]
  exact h c h1 (by omega) h3
end Go.Proofs.Ytjocoaaeboapcaa.Heap
