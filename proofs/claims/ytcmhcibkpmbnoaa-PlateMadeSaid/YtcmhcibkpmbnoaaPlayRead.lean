/-
  How slices of records that come in are read.
-/
import Derived.Test.YtcmhcibkpmbnoaaPPlayW
import Derived.ProofKit
import Derived.OpenShut
import Derived.Deep.Slices
import Derived.ChangeArms
set_option linter.unusedVariables false
namespace Go.Proofs.Ytcmhcibkpmbnoaa
open Go Go.RowKit Go.ChangeShapes Go.WideShapes Go.Deep

theorem exists_list {α : Type} [Inhabited α] {p : Nat → α → Prop} : ∀ (n : Nat), (∀ i, i < n → ∃ x, p i x) → ∃ l : List α, l.length = n ∧ ∀ i, i < n → p i (l.getD i default)
  | 0, _ => ⟨[], rfl, fun i h => absurd h (Nat.not_lt_zero i)⟩
  | n + 1, h => by
    obtain ⟨l, hl, hp⟩ := exists_list n (fun i hi => h i (by omega))
    obtain ⟨x, hx⟩ := h n (by omega)
    refine ⟨l ++ [x], by simp [hl], fun i hi => ?_⟩
    rw [List.getD_eq_getElem?_getD]
    by_cases e : i < n
    · rw [List.getElem?_append_left (by omega), ← List.getD_eq_getElem?_getD]; exact hp i e
    · obtain rfl : i = n := by omega
      rw [List.getElem?_append_right (by omega), hl]; simpa using hx

section
variable {H : Type} {enc : TypeId × Value → H} {w : World} {base : Nat} {spare : Nat → Bool} {held : Bool}

theorem add_none {a : Addr} {v : Value} (h : w.cell? (a.add 0) = some v) : a.spot = none := by
  unfold World.cell? at h
  simp only [Addr.add_zero'] at h
  split at h
  · cases hs : a.spot with
    | none => rfl
    | some _ => rw [hs] at h; simp at h
  · cases h
theorem add_lit' {a : Addr} (h : a.spot = none) (n : Nat) : a.add n = ⟨a.block, a.off + n, none⟩ := by
  cases n with
  | zero => rw [Addr.add_zero']; cases a; simp_all
  | succ n => rw [Addr.add_succ']

theorem ints_read {fuel : Nat} {cs : List Value} {x : DataW H × List MemPlace} (h : DataW.trod enc Try.prog w base spare held fuel 33 cs = some x) (hz : ∀ n ∈ DataW.weights Try.prog 33 x.1, n ≤ reachBytes) :
    ∃ v l, cs = [v] ∧ Ints w v l ∧ ∀ y ∈ l, (Lit.int .i64 y).wf = true := by
  rcases open_ints Try.underlying33 Try.underlying3 (by kernel_rfl) h with ⟨rfl, rfl⟩ | ⟨a, len, cap, zs, rfl, hb, hl, hm, hlen, rfl, hc, hwf⟩
  · exact ⟨_, [], rfl, Ints.nil w, by simp⟩
  · have hle : len ≤ zs.length := by split at hlen <;> omega
    have hz' : len * 8 ≤ reachBytes := by
      have := hz ((len + (zs.length - len)) * 8) (by
        simp only [DataW.weights, Try.underlying33]
        have hb8 : Try.prog.bytesOf 3 = 8 := by kernel_rfl
        rw [hb8]
        refine List.mem_cons.2 (Or.inl ?_)
        simp [ChangeShapes.lits]
        omega)
      omega
    refine ⟨_, zs.take len, rfl, ?_, fun y hy => hwf y (List.mem_of_mem_take hy)⟩
    have hlt : (zs.take len).length = len := by simp; omega
    by_cases h0 : len = 0
    · subst h0
      rw [List.take_zero]; exact Ints.empty w a cap
    · have hs := add_none (hc 0 (by omega))
      have := Ints.mk (w := w) (b := a.block) (o := a.off) (cap := cap) (l := zs.take len) (by omega) (by unfold reachBytes at hz'; omega) (fun j hj => by
        have h1 := hc j (by omega)
        rw [add_lit' hs] at h1
        rw [h1]
        congr 2
        rw [List.getD_eq_getElem?_getD, List.getD_eq_getElem?_getD, List.getElem?_take, if_pos (by omega)])
      rw [hlt] at this
      have e : a = ⟨a.block, a.off, none⟩ := by cases a; simp_all
      rw [e]; exact this

/-- A slice of records that come in: each is read by 'rd'. -/
theorem rows_read {α : Type} [Inhabited α] {t e k : Nat} {R : List Value → α → Prop} (ht : Try.prog.underlying t = some (.slice e)) (hk : Try.prog.cellsOf e = k) (hk0 : 0 < k) {fuel : Nat} {cs : List Value} {x : DataW H × List MemPlace}
    (h : DataW.trod enc Try.prog w base spare held fuel t cs = some x) (hz : ∀ n ∈ DataW.weights Try.prog t x.1, n ≤ reachBytes)
    (rd : ∀ (n : Nat) (cs : List Value) (y : DataW H × List MemPlace), DataW.trod enc Try.prog w base spare held n e cs = some y → (∀ n ∈ DataW.weights Try.prog e y.1, n ≤ reachBytes) → ∃ d, R cs d) :
    ∃ v ds, cs = [v] ∧ ds.length * Try.prog.bytesOf e ≤ reachBytes ∧ ((ds = [] ∧ ∃ a c, v = .slice a 0 c ∧ (a = none → c = 0)) ∨ ∃ b o c, v = .slice (some ⟨b, o, none⟩) ds.length c ∧ ds.length ≤ c ∧ c ≤ 9223372036854775807 ∧
      ∀ i, i < ds.length → ∃ r, R r (ds.getD i default) ∧ r.length = k ∧ ∀ j, j < k → w.cell? ⟨b, o + i * k + j, none⟩ = r[j]?) := by
  rcases open_slice ht h with ⟨rfl, rfl⟩ | ⟨a, len, cap, m, n, D, Pl, rfl, hb, hl, hm, hmm, rfl, hi⟩
  · exact ⟨_, [], rfl, by simp, .inl ⟨rfl, _, _, rfl, fun _ => rfl⟩⟩
  · have hle : len ≤ m := by split at hmm <;> omega
    have hw : ∀ i, i < len → ∀ n ∈ DataW.weights Try.prog e (D i), n ≤ reachBytes := fun i hi' n hn => hz n (by
      simp only [DataW.weights, ht, List.mem_cons, List.mem_append]
      refine Or.inr (Or.inl ?_)
      have : D i ∈ (List.range len).map D := List.mem_map_of_mem (List.mem_range.2 hi')
      generalize (List.range len).map D = L at this
      induction L with
      | nil => cases this
      | cons y r ih =>
        simp only [DataW.weightsAll, List.mem_append]
        rcases List.mem_cons.1 this with h | h
        · exact Or.inl (h ▸ hn)
        · exact Or.inr (ih h))
    have hz' : len * Try.prog.bytesOf e ≤ reachBytes := by
      have := hz ((len + (m - len)) * Try.prog.bytesOf e) (by
        simp only [DataW.weights, ht]
        refine List.mem_cons.2 (Or.inl ?_)
        simp)
      exact Nat.le_trans (Nat.mul_le_mul_right _ (by omega)) this
    obtain ⟨ds, hdl, hds⟩ := exists_list (p := fun i d => ∃ r, R r d ∧ r.length = k ∧ ∀ j, j < k → w.cell? (a.add (i * k + j)) = r[j]?) len (fun i hi' => by
      obtain ⟨cs', hc, htr⟩ := hi i (by omega)
      obtain ⟨d, hd⟩ := rd n cs' _ htr (hw i hi')
      obtain ⟨_, hcl, hat⟩ := World.cells?_some hc
      rw [hk] at hcl hat
      exact ⟨d, cs', hd, hcl, fun j hj => by rw [← hat j hj, Go.Deep.add_add]⟩)
    refine ⟨_, ds, rfl, by rw [hdl]; exact hz', ?_⟩
    by_cases h0 : len = 0
    · subst h0
      exact .inl ⟨List.eq_nil_of_length_eq_zero hdl, _, _, rfl, fun h => by cases h⟩
    · have hs : a.spot = none := by
        obtain ⟨r, _, hrl, hr⟩ := hds 0 (by omega)
        have := hr 0 hk0
        rw [List.getElem?_eq_getElem (by omega)] at this
        simp only [Nat.zero_mul, Nat.zero_add] at this
        exact add_none this
      refine .inr ⟨a.block, a.off, cap, ?_, by omega, hm, fun i hi' => ?_⟩
      · rw [hdl]; cases a; simp_all
      · obtain ⟨r, h1, h2, h3⟩ := hds i (by omega)
        refine ⟨r, h1, h2, fun j hj => ?_⟩
        rw [← h3 j hj, add_lit' hs, Nat.add_assoc]


theorem bytes_read {fuel : Nat} {cs : List Value} {x : DataW H × List MemPlace} (h : DataW.trod enc Try.prog w base spare held fuel 32 cs = some x) (hz : ∀ n ∈ DataW.weights Try.prog 32 x.1, n ≤ reachBytes) : ∃ v l, cs = [v] ∧ BytV w v l ∧ l.length ≤ 140737488355328 := by
  rcases open_ints Try.underlying32 Try.underlying5 (by kernel_rfl) h with ⟨rfl, rfl⟩ | ⟨a, len, cap, zs, rfl, hb, hl, hm, hlen, rfl, hc, hwf⟩
  · exact ⟨_, [], rfl, .inl ⟨rfl, _, _, rfl⟩, by simp⟩
  · have hle : len ≤ zs.length := by split at hlen <;> omega
    have hlt : (zs.take len).length = len := by simp; omega
    have hz' : len ≤ reachBytes := by
      have := hz ((len + (zs.length - len)) * 1) (by
        simp only [DataW.weights, Try.underlying32]
        have hb8 : Try.prog.bytesOf 5 = 1 := by kernel_rfl
        rw [hb8]
        refine List.mem_cons.2 (Or.inl ?_)
        simp [ChangeShapes.lits]
        omega)
      omega
    by_cases h0 : len = 0
    · subst h0
      exact ⟨_, [], rfl, .inl ⟨rfl, _, _, rfl⟩, by simp⟩
    · have hs := add_none (hc 0 (by omega))
      refine ⟨_, zs.take len, rfl, .inr ⟨a.block, a.off, cap, ?_, fun j hj => ?_⟩, by rw [hlt]; unfold reachBytes at hz'; omega⟩
      · rw [hlt]; cases a; simp_all
      · have h1 := hc j (by omega)
        rw [add_lit' hs] at h1
        rw [h1]
        congr 2
        rw [List.getD_eq_getElem?_getD, List.getD_eq_getElem?_getD, List.getElem?_take, if_pos (by omega)]
theorem list6 {α : Type} {l : List α} (h : l.length = 6) : ∃ c0 c1 c2 c3 c4 c5, l = [c0, c1, c2, c3, c4, c5] := by
  match l, h with
  | [c0, c1, c2, c3, c4, c5], _ => exact ⟨c0, c1, c2, c3, c4, c5, rfl⟩
theorem do_read {fuel : Nat} {cs : List Value} {x : DataW H × List MemPlace} (h : DataW.trod enc Try.prog w base spare held fuel 35 cs = some x) (hz : ∀ n ∈ DataW.weights Try.prog 35 x.1, n ≤ reachBytes) : ∃ d, DoRowQ w cs d := by
  obtain ⟨xs, n, _, rfl, hlen, hxl, hf⟩ := DataW.trod_struct Try.underlying35 h
  have hl6 : cs.length = 6 := hlen.trans (by kernel_rfl)
  obtain ⟨c0, c1, c2, c3, c4, c5, rfl⟩ := list6 hl6
  obtain ⟨y0, y1, y2, y3, y4, y5, rfl⟩ := list6 (show xs.length = 6 from hxl)
  have k3 : Try.prog.cellsOf 3 = 1 := by kernel_rfl
  have k28 : Try.prog.cellsOf 32 = 1 := by kernel_rfl
  have k41 : Try.prog.cellsOf 33 = 1 := by kernel_rfl
  have f0 := hf 0 ⟨"Op", 3, 0, false, "", "", 0⟩ rfl
  have f1 := hf 1 ⟨"I", 3, 1, false, "", "", 8⟩ rfl
  have f2 := hf 2 ⟨"Torn", 3, 2, false, "", "", 16⟩ rfl
  have f3 := hf 3 ⟨"N", 3, 3, false, "", "", 24⟩ rfl
  have f4 := hf 4 ⟨"Bytes", 32, 4, false, "", "", 32⟩ rfl
  have f5 := hf 5 ⟨"Keep", 33, 5, false, "", "", 56⟩ rfl
  simp only [k3, k28, k41] at f0 f1 f2 f3 f4 f5
  obtain ⟨i0, e0, _, w0⟩ := DataW.trod_int Try.underlying3 f0
  obtain ⟨i1, e1, _, w1⟩ := DataW.trod_int Try.underlying3 f1
  obtain ⟨i2, e2, _, w2⟩ := DataW.trod_int Try.underlying3 f2
  obtain ⟨i3, e3, _, w3⟩ := DataW.trod_int Try.underlying3 f3
  obtain ⟨bv, l, e4, hb, hbl⟩ := bytes_read f4 (fun n hn => hz n (by
    simp only [DataW.weights, Try.underlying35, List.map_cons, List.map_nil, DataW.weightsEach, List.mem_append]
    simp [hn]))
  obtain ⟨kv, kl, e5, hk, _⟩ := ints_read f5 (fun n hn => hz n (by
    simp only [DataW.weights, Try.underlying35, List.map_cons, List.map_nil, DataW.weightsEach, List.mem_append]
    simp [hn]))
  simp at e0 e1 e2 e3 e4 e5
  exact ⟨⟨i0, i1, i2, i3, l, kl⟩, bv, kv, hb, hbl, hk, by simp [*]⟩
theorem dos_read {fuel : Nat} {cs : List Value} {x : DataW H × List MemPlace} (h : DataW.trod enc Try.prog w base spare held fuel 23 cs = some x) (hz : ∀ n ∈ DataW.weights Try.prog 23 x.1, n ≤ reachBytes) :
    ∃ v ds, cs = [v] ∧ DosQ w v ds := by
  obtain ⟨v, ds, rfl, hb, hr⟩ := rows_read (R := DoRowQ w) (k := 6) Try.underlying23 (by kernel_rfl) (by omega) h hz (fun n cs y hy hzy => do_read hy hzy)
  have hb80 : Try.prog.bytesOf 35 = 80 := by kernel_rfl
  rw [hb80] at hb
  have hfew : ds.length ≤ 140737488355328 := by unfold reachBytes at hb; omega
  rcases hr with ⟨rfl, a, c, rfl, hac⟩ | ⟨b, o, c, rfl, hl, hc, hi⟩
  · exact ⟨_, [], rfl, ⟨_, _, rfl⟩, by simp, fun q hq => absurd hq (Nat.not_lt_zero _)⟩
  · refine ⟨_, ds, rfl, ⟨_, _, rfl⟩, hfew, fun q hq => ?_⟩
    obtain ⟨r, h1, _, h4⟩ := hi q hq
    exact ⟨b, o, c, r, rfl, h1, fun j hj => h4 j hj⟩
end
end Go.Proofs.Ytcmhcibkpmbnoaa
