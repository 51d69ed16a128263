/-
  How slices of texts that come in are read.
-/
import Derived.Test.YtchpekecgdbphaaWalT
set_option linter.unusedVariables false
namespace Go.Proofs.Ytchpekecgdbphaa
open Go Go.RowKit Go.ChangeShapes Go.WideShapes Go.Deep

theorem exists_list {α : Type} [Inhabited α] {p : Nat → α → Prop} : ∀ (n : Nat), (∀ i, i < n → ∃ x, p i x) → ∃ l : List α, l.length = n ∧ ∀ i, i < n → p i (l.getD i default)
  | 0, _ => ⟨[], rfl, fun i h => absurd h (Nat.not_lt_zero i)⟩
  | n + 1, h => by
    obtain ⟨l, hl, hp⟩ := exists_list n (fun i hi => h i (by omega))
    obtain ⟨x, hx⟩ := h n (by omega)
    refine ⟨l ++ [x], by simp [hl], fun i hi => ?_⟩
    rw [List.getD_eq_getElem?_getD]
    by_cases e : i < n
    · rw [List.getElem?_append_left (by omega), ← List.getD_eq_getElem?_getD]; exact hp i e
    · obtain rfl : i = n := by omega
      rw [List.getElem?_append_right (by omega), hl]; simpa using hx

section
variable {H : Type} {enc : TypeId × Value → H} {w : World} {base : Nat} {spare : Nat → Bool} {held : Bool}

theorem add_none {a : Addr} {v : Value} (h : w.cell? (a.add 0) = some v) : a.spot = none := by
  unfold World.cell? at h
  simp only [Addr.add_zero'] at h
  split at h
  · cases hs : a.spot with
    | none => rfl
    | some _ => rw [hs] at h; simp at h
  · cases h
theorem add_lit' {a : Addr} (h : a.spot = none) (n : Nat) : a.add n = ⟨a.block, a.off + n, none⟩ := by
  cases n with
  | zero => rw [Addr.add_zero']; cases a; simp_all
  | succ n => rw [Addr.add_succ']

/-- A slice of records that come in: each is read by 'rd'. -/
theorem rows_read {α : Type} [Inhabited α] {t e k : Nat} {R : List Value → α → Prop} (ht : Try.prog.underlying t = some (.slice e)) (hk : Try.prog.cellsOf e = k) (hk0 : 0 < k) {fuel : Nat} {cs : List Value} {x : DataW H × List MemPlace}
    (h : DataW.trod enc Try.prog w base spare held fuel t cs = some x) (hz : ∀ n ∈ DataW.weights Try.prog t x.1, n ≤ reachBytes)
    (rd : ∀ (n : Nat) (cs : List Value) (y : DataW H × List MemPlace), DataW.trod enc Try.prog w base spare held n e cs = some y → (∀ n ∈ DataW.weights Try.prog e y.1, n ≤ reachBytes) → ∃ d, R cs d) :
    ∃ v ds, cs = [v] ∧ ds.length * Try.prog.bytesOf e ≤ reachBytes ∧ ((ds = [] ∧ ∃ a c, v = .slice a 0 c ∧ (a = none → c = 0)) ∨ ∃ b o c, v = .slice (some ⟨b, o, none⟩) ds.length c ∧ ds.length ≤ c ∧ c ≤ 9223372036854775807 ∧
      ∀ i, i < ds.length → ∃ r, R r (ds.getD i default) ∧ r.length = k ∧ ∀ j, j < k → w.cell? ⟨b, o + i * k + j, none⟩ = r[j]?) := by
  rcases open_slice ht h with ⟨rfl, rfl⟩ | ⟨a, len, cap, m, n, D, Pl, rfl, hb, hl, hm, hmm, rfl, hi⟩
  · exact ⟨_, [], rfl, by simp, .inl ⟨rfl, _, _, rfl, fun _ => rfl⟩⟩
  · have hle : len ≤ m := by split at hmm <;> omega
    have hw : ∀ i, i < len → ∀ n ∈ DataW.weights Try.prog e (D i), n ≤ reachBytes := fun i hi' n hn => hz n (by
      simp only [DataW.weights, ht, List.mem_cons, List.mem_append]
      refine Or.inr (Or.inl ?_)
      have : D i ∈ (List.range len).map D := List.mem_map_of_mem (List.mem_range.2 hi')
      generalize (List.range len).map D = L at this
      induction L with
      | nil => cases this
      | cons y r ih =>
        simp only [DataW.weightsAll, List.mem_append]
        rcases List.mem_cons.1 this with h | h
        · exact Or.inl (h ▸ hn)
        · exact Or.inr (ih h))
    have hz' : len * Try.prog.bytesOf e ≤ reachBytes := by
      have := hz ((len + (m - len)) * Try.prog.bytesOf e) (by
        simp only [DataW.weights, ht]
        refine List.mem_cons.2 (Or.inl ?_)
        simp)
      exact Nat.le_trans (Nat.mul_le_mul_right _ (by omega)) this
    obtain ⟨ds, hdl, hds⟩ := exists_list (p := fun i d => ∃ r, R r d ∧ r.length = k ∧ ∀ j, j < k → w.cell? (a.add (i * k + j)) = r[j]?) len (fun i hi' => by
      obtain ⟨cs', hc, htr⟩ := hi i (by omega)
      obtain ⟨d, hd⟩ := rd n cs' _ htr (hw i hi')
      obtain ⟨_, hcl, hat⟩ := World.cells?_some hc
      rw [hk] at hcl hat
      exact ⟨d, cs', hd, hcl, fun j hj => by rw [← hat j hj, Go.Deep.add_add]⟩)
    refine ⟨_, ds, rfl, by rw [hdl]; exact hz', ?_⟩
    by_cases h0 : len = 0
    · subst h0
      exact .inl ⟨List.eq_nil_of_length_eq_zero hdl, _, _, rfl, fun h => by cases h⟩
    · have hs : a.spot = none := by
        obtain ⟨r, _, hrl, hr⟩ := hds 0 (by omega)
        have := hr 0 hk0
        rw [List.getElem?_eq_getElem (by omega)] at this
        simp only [Nat.zero_mul, Nat.zero_add] at this
        exact add_none this
      refine .inr ⟨a.block, a.off, cap, ?_, by omega, hm, fun i hi' => ?_⟩
      · rw [hdl]; cases a; simp_all
      · obtain ⟨r, h1, h2, h3⟩ := hds i (by omega)
        refine ⟨r, h1, h2, fun j hj => ?_⟩
        rw [← h3 j hj, add_lit' hs, Nat.add_assoc]


theorem text_read {fuel : Nat} {cs : List Value} {x : DataW H × List MemPlace} (h : DataW.trod enc Try.prog w base spare held fuel 28 cs = some x) (hz : ∀ n ∈ DataW.weights Try.prog 28 x.1, n ≤ reachBytes) : ∃ v l, cs = [v] ∧ InT w v l := by
  rcases open_ints Try.underlying28 Try.underlying5 (by kernel_rfl) h with ⟨rfl, rfl⟩ | ⟨a, len, cap, zs, rfl, hb, hl, hm, hlen, rfl, hc, hwf⟩
  · exact ⟨_, [], rfl, ⟨.inl ⟨rfl, _, _, rfl⟩, IsB.nil, ⟨_, _, rfl, Nat.le_refl _⟩, by simp⟩⟩
  · have hle : len ≤ zs.length := by split at hlen <;> omega
    have hlt : (zs.take len).length = len := by simp; omega
    have hz' : len ≤ reachBytes := by
      have := hz ((len + (zs.length - len)) * 1) (by
        simp only [DataW.weights, Try.underlying28]
        have hb8 : Try.prog.bytesOf 5 = 1 := by kernel_rfl
        rw [hb8]
        refine List.mem_cons.2 (Or.inl ?_)
        simp [ChangeShapes.lits]
        omega)
      omega
    have hIs : IsB (zs.take len) := fun y hy => by
      have := hwf y (List.mem_of_mem_take hy)
      simp only [Lit.wf, Bool.and_eq_true, decide_eq_true_eq] at this
      have e1 : IntKind.u8.min = 0 := by decide
      have e2 : IntKind.u8.max = 255 := by decide
      omega
    refine ⟨_, zs.take len, rfl, ⟨?_, hIs, ⟨_, _, by rw [hlt], by rw [hlt]; exact hl⟩, by rw [hlt]; unfold reachBytes at hz'; omega⟩⟩
    by_cases h0 : len = 0
    · subst h0
      exact .inl ⟨by simp, _, _, rfl⟩
    · have hs := add_none (hc 0 (by omega))
      refine .inr ⟨a.block, a.off, cap, ?_, fun j hj => ?_⟩
      · rw [hlt]; cases a; simp_all
      · have h1 := hc j (by omega)
        rw [add_lit' hs] at h1
        rw [h1]
        congr 2
        rw [List.getD_eq_getElem?_getD, List.getD_eq_getElem?_getD, List.getElem?_take, if_pos (by omega)]
theorem texts_read {fuel : Nat} {cs : List Value} {x : DataW H × List MemPlace} (h : DataW.trod enc Try.prog w base spare held fuel 22 cs = some x) (hz : ∀ n ∈ DataW.weights Try.prog 22 x.1, n ≤ reachBytes) :
    ∃ v L, cs = [v] ∧ Ins w v L := by
  obtain ⟨v, ds, rfl, hb, hr⟩ := rows_read (R := fun cs r => ∃ v, cs = [v] ∧ InT w v r) (k := 1) Try.underlying22 (by kernel_rfl) (by omega) h hz (fun n cs y hy hzy => by
    obtain ⟨v, l, h1, h2⟩ := text_read hy hzy
    exact ⟨l, v, h1, h2⟩)
  have hb24 : Try.prog.bytesOf 28 = 24 := by kernel_rfl
  rw [hb24] at hb
  have hfew : ds.length ≤ 140737488355328 := by unfold reachBytes at hb; omega
  rcases hr with ⟨rfl, a, c, rfl, hac⟩ | ⟨b, o, c, rfl, hl, hc, hi⟩
  · exact ⟨_, [], rfl, ⟨⟨_, _, rfl⟩, by simp, fun i hi => absurd hi (Nat.not_lt_zero _)⟩⟩
  · refine ⟨_, ds, rfl, ⟨⟨_, _, rfl⟩, hfew, fun i hi' => ?_⟩⟩
    obtain ⟨r, ⟨sv, rfl, h2⟩, _, h4⟩ := hi i hi'
    have h5 := h4 0 (by omega)
    simp only [Nat.mul_one, Nat.add_zero] at h5
    exact ⟨b, o, c, sv, rfl, h5, h2⟩
end
end Go.Proofs.Ytchpekecgdbphaa
