/-
  How a slice of calls of a post comes in: each has two whole numbers in front of its message.
-/
import Derived.Test.YtfodgohleioflaaPost7
import Derived.Test.YtfodgohleioflaaCmdRead
import Derived.ProofKit
import Derived.OpenShut
import Derived.Deep.Slices
import Derived.ChangeArms
namespace Go.Proofs.Ytfodgohleioflaa
open Go Go.RowKit Go.ChangeShapes Go.WideShapes Go.Deep

/-- A call. -/
structure DoN where
  op : Int
  id : Int
  rest : List Value
instance : Inhabited DoN := ⟨⟨0, 0, []⟩⟩
def DoN.cells (d : DoN) : List Value := .int .i64 d.op :: .int .i64 d.id :: d.rest
def DosN (w : World) (v : Value) (ds : List DoN) : Prop := (ds = [] ∧ ∃ a c, v = .slice a 0 c) ∨ ∃ b o c, v = .slice (some ⟨b, o, none⟩) ds.length c ∧
  ∀ i, i < ds.length → (ds.getD i default).rest.length = 24 ∧ (∀ c ∈ (ds.getD i default).rest, c.oneCell' = true) ∧ ∀ j, j < 26 → w.cell? ⟨b, o + i * 26 + j, none⟩ = (ds.getD i default).cells[j]?
theorem list24 {l : List Value} (h : l.length = 24) : ∃ c0 c1 c2 c3 c4 c5 c6 c7 c8 c9 c10 c11 c12 c13 c14 c15 c16 c17 c18 c19 c20 c21 c22 c23, l = [c0, c1, c2, c3, c4, c5, c6, c7, c8, c9, c10, c11, c12, c13, c14, c15, c16, c17, c18, c19, c20, c21, c22, c23] := by
  match l, h with
  | [c0, c1, c2, c3, c4, c5, c6, c7, c8, c9, c10, c11, c12, c13, c14, c15, c16, c17, c18, c19, c20, c21, c22, c23], _ => exact ⟨c0, c1, c2, c3, c4, c5, c6, c7, c8, c9, c10, c11, c12, c13, c14, c15, c16, c17, c18, c19, c20, c21, c22, c23, rfl⟩
theorem list13 {α : Type} {l : List α} (h : l.length = 13) : ∃ c0 c1 c2 c3 c4 c5 c6 c7 c8 c9 c10 c11 c12, l = [c0, c1, c2, c3, c4, c5, c6, c7, c8, c9, c10, c11, c12] := by
  match l, h with
  | [c0, c1, c2, c3, c4, c5, c6, c7, c8, c9, c10, c11, c12], _ => exact ⟨c0, c1, c2, c3, c4, c5, c6, c7, c8, c9, c10, c11, c12, rfl⟩
theorem list3 {α : Type} {l : List α} (h : l.length = 3) : ∃ c0 c1 c2 : α, l = [c0, c1, c2] := by
  match l, h with
  | [c0, c1, c2], _ => exact ⟨c0, c1, c2, rfl⟩
theorem front2 {l : List Value} (h : l.length = 26) : ∃ c0 c1 r, l = c0 :: c1 :: r ∧ r.length = 24 := by
  match l, h with
  | c0 :: c1 :: r, h => exact ⟨c0, c1, r, rfl, by simpa using h⟩
theorem exists_list {α : Type} [Inhabited α] {p : Nat → α → Prop} : ∀ (n : Nat), (∀ i, i < n → ∃ x, p i x) → ∃ l : List α, l.length = n ∧ ∀ i, i < n → p i (l.getD i default)
  | 0, _ => ⟨[], rfl, fun i h => absurd h (Nat.not_lt_zero i)⟩
  | n + 1, h => by
    obtain ⟨l, hl, hp⟩ := exists_list n (fun i hi => h i (by omega))
    obtain ⟨x, hx⟩ := h n (by omega)
    refine ⟨l ++ [x], by simp [hl], fun i hi => ?_⟩
    rw [List.getD_eq_getElem?_getD]
    by_cases e : i < n
    · rw [List.getElem?_append_left (by omega), ← List.getD_eq_getElem?_getD]; exact hp i e
    · obtain rfl : i = n := by omega
      rw [List.getElem?_append_right (by omega), hl]; simpa using hx

section
variable {H : Type} {enc : TypeId × Value → H} {w : World} {base : Nat} {spare : Nat → Bool} {held : Bool}
theorem add_none {a : Addr} {v : Value} (h : w.cell? (a.add 0) = some v) : a.spot = none := by
  unfold World.cell? at h
  simp only [Addr.add_zero'] at h
  split at h
  · cases hs : a.spot with
    | none => rfl
    | some _ => rw [hs] at h; simp at h
  · cases h
theorem add_lit' {a : Addr} (h : a.spot = none) (n : Nat) : a.add n = ⟨a.block, a.off + n, none⟩ := by
  cases n with
  | zero => rw [Addr.add_zero']; cases a; simp_all
  | succ n => rw [Addr.add_succ']

theorem rows_read {α : Type} [Inhabited α] {t e k : Nat} {R : List Value → α → Prop} (ht : Try.prog.underlying t = some (.slice e)) (hk : Try.prog.cellsOf e = k) (hk0 : 0 < k) {fuel : Nat} {cs : List Value} {x : DataW H × List MemPlace}
    (h : DataW.trod enc Try.prog w base spare held fuel t cs = some x) (hz : ∀ n ∈ DataW.weights Try.prog t x.1, n ≤ reachBytes)
    (rd : ∀ (n : Nat) (cs : List Value) (y : DataW H × List MemPlace), DataW.trod enc Try.prog w base spare held n e cs = some y → (∀ n ∈ DataW.weights Try.prog e y.1, n ≤ reachBytes) → ∃ d, R cs d) :
    ∃ v ds, cs = [v] ∧ ds.length * Try.prog.bytesOf e ≤ reachBytes ∧ ((ds = [] ∧ ∃ a c, v = .slice a 0 c ∧ (a = none → c = 0)) ∨ ∃ b o c, v = .slice (some ⟨b, o, none⟩) ds.length c ∧ ds.length ≤ c ∧ c ≤ 9223372036854775807 ∧
      ∀ i, i < ds.length → ∃ r, R r (ds.getD i default) ∧ r.length = k ∧ ∀ j, j < k → w.cell? ⟨b, o + i * k + j, none⟩ = r[j]?) := by
  rcases open_slice ht h with ⟨rfl, rfl⟩ | ⟨a, len, cap, m, n, D, Pl, rfl, hb, hl, hm, hmm, rfl, hi⟩
  · exact ⟨_, [], rfl, by simp, .inl ⟨rfl, _, _, rfl, fun _ => rfl⟩⟩
  · have hle : len ≤ m := by split at hmm <;> omega
    have hw : ∀ i, i < len → ∀ n ∈ DataW.weights Try.prog e (D i), n ≤ reachBytes := fun i hi' n hn => hz n (by
      simp only [DataW.weights, ht, List.mem_cons, List.mem_append]
      refine Or.inr (Or.inl ?_)
      have : D i ∈ (List.range len).map D := List.mem_map_of_mem (List.mem_range.2 hi')
      generalize (List.range len).map D = L at this
      induction L with
      | nil => cases this
      | cons y r ih =>
        simp only [DataW.weightsAll, List.mem_append]
        rcases List.mem_cons.1 this with h | h
        · exact Or.inl (h ▸ hn)
        · exact Or.inr (ih h))
    have hz' : len * Try.prog.bytesOf e ≤ reachBytes := by
      have := hz ((len + (m - len)) * Try.prog.bytesOf e) (by
        simp only [DataW.weights, ht]
        refine List.mem_cons.2 (Or.inl ?_)
        simp)
      exact Nat.le_trans (Nat.mul_le_mul_right _ (by omega)) this
    obtain ⟨ds, hdl, hds⟩ := exists_list (p := fun i d => ∃ r, R r d ∧ r.length = k ∧ ∀ j, j < k → w.cell? (a.add (i * k + j)) = r[j]?) len (fun i hi' => by
      obtain ⟨cs', hc, htr⟩ := hi i (by omega)
      obtain ⟨d, hd⟩ := rd n cs' _ htr (hw i hi')
      obtain ⟨_, hcl, hat⟩ := World.cells?_some hc
      rw [hk] at hcl hat
      exact ⟨d, cs', hd, hcl, fun j hj => by rw [← hat j hj, Go.Deep.add_add]⟩)
    refine ⟨_, ds, rfl, by rw [hdl]; exact hz', ?_⟩
    by_cases h0 : len = 0
    · subst h0
      exact .inl ⟨List.eq_nil_of_length_eq_zero hdl, _, _, rfl, fun h => by cases h⟩
    · have hs : a.spot = none := by
        obtain ⟨r, _, hrl, hr⟩ := hds 0 (by omega)
        have := hr 0 hk0
        rw [List.getElem?_eq_getElem (by omega)] at this
        simp only [Nat.zero_mul, Nat.zero_add] at this
        exact add_none this
      refine .inr ⟨a.block, a.off, cap, ?_, by omega, hm, fun i hi' => ?_⟩
      · rw [hdl]; cases a; simp_all
      · obtain ⟨r, h1, h2, h3⟩ := hds i (by omega)
        refine ⟨r, h1, h2, fun j hj => ?_⟩
        rw [← h3 j hj, add_lit' hs, Nat.add_assoc]


theorem sl_one {t e : TypeId} {fuel : Nat} {c : Value} {x : DataW H × List MemPlace} (ht : Try.prog.underlying t = some (.slice e)) (h : DataW.trod enc Try.prog w base spare held fuel t [c] = some x) : c.oneCell' = true := by
  rcases open_slice ht h with ⟨e, _⟩ | ⟨a, len, cap, m, n, D, Pl, e, _⟩
  · simp at e; subst e; rfl
  · simp at e; subst e; rfl
set_option maxHeartbeats 1000000 in
theorem msg_one {fuel : Nat} {cs : List Value} {x : DataW H × List MemPlace} (h : DataW.trod enc Try.prog w base spare held fuel 34 cs = some x) : ∀ c ∈ cs, c.oneCell' = true := by
  obtain ⟨xs, n, _, rfl, hlen, hxl, hf⟩ := DataW.trod_struct Try.underlying34 h
  have hl : cs.length = 24 := hlen.trans (by kernel_rfl)
  obtain ⟨c0, c1, c2, c3, c4, c5, c6, c7, c8, c9, c10, c11, c12, c13, c14, c15, c16, c17, c18, c19, c20, c21, c22, c23, rfl⟩ := list24 hl
  obtain ⟨y0, y1, y2, y3, y4, y5, y6, y7, y8, y9, y10, y11, y12, rfl⟩ := list13 (show xs.length = 13 from hxl)
  have k3 : Try.prog.cellsOf 3 = 1 := by kernel_rfl
  have k4 : Try.prog.cellsOf 4 = 1 := by kernel_rfl
  have kc : Try.prog.cellsOf 30 = 12 := by kernel_rfl
  have kv : Try.prog.cellsOf 31 = 1 := by kernel_rfl
  have kb : Try.prog.cellsOf 32 = 1 := by kernel_rfl
  have f0 := hf 0 ⟨"Kind", 3, 0, false, "", "", 0⟩ rfl
  have f1 := hf 1 ⟨"From", 3, 1, false, "", "", 8⟩ rfl
  have f2 := hf 2 ⟨"To", 3, 2, false, "", "", 16⟩ rfl
  have f3 := hf 3 ⟨"Ballot", 3, 3, false, "", "", 24⟩ rfl
  have f4 := hf 4 ⟨"Slot", 3, 4, false, "", "", 32⟩ rfl
  have f5 := hf 5 ⟨"Blob", 3, 5, false, "", "", 40⟩ rfl
  have f6 := hf 6 ⟨"Index", 3, 6, false, "", "", 48⟩ rfl
  have f7 := hf 7 ⟨"Epoch", 3, 7, false, "", "", 56⟩ rfl
  have f8 := hf 8 ⟨"ID", 3, 8, false, "", "", 64⟩ rfl
  have f9 := hf 9 ⟨"OK", 4, 9, false, "", "", 72⟩ rfl
  have f10 := hf 10 ⟨"Cmd", 30, 10, false, "", "", 80⟩ rfl
  have f11 := hf 11 ⟨"Votes", 31, 22, false, "", "", 200⟩ rfl
  have f12 := hf 12 ⟨"Bytes", 32, 23, false, "", "", 224⟩ rfl
  simp only [k3, k4, kc, kv, kb] at f0 f1 f2 f3 f4 f5 f6 f7 f8 f9 f10 f11 f12
  obtain ⟨i0, e0, _, _⟩ := DataW.trod_int Try.underlying3 f0
  obtain ⟨i1, e1, _, _⟩ := DataW.trod_int Try.underlying3 f1
  obtain ⟨i2, e2, _, _⟩ := DataW.trod_int Try.underlying3 f2
  obtain ⟨i3, e3, _, _⟩ := DataW.trod_int Try.underlying3 f3
  obtain ⟨i4, e4, _, _⟩ := DataW.trod_int Try.underlying3 f4
  obtain ⟨i5, e5, _, _⟩ := DataW.trod_int Try.underlying3 f5
  obtain ⟨i6, e6, _, _⟩ := DataW.trod_int Try.underlying3 f6
  obtain ⟨i7, e7, _, _⟩ := DataW.trod_int Try.underlying3 f7
  obtain ⟨i8, e8, _, _⟩ := DataW.trod_int Try.underlying3 f8
  obtain ⟨i9, e9, _⟩ := DataW.trod_bool Try.underlying4 f9
  obtain ⟨j0, j1, j2, j3, j4, j5, j6, j7, j8, j9, j10, a, l, k, e10⟩ := cmd_shape f10
  have e11 : c22.oneCell' = true := sl_one Try.underlying31 f11
  have e12 : c23.oneCell' = true := sl_one Try.underlying32 f12
  clear f0 f1 f2 f3 f4 f5 f6 f7 f8 f9 f10 f11 f12 hf
  simp at e0 e1 e2 e3 e4 e5 e6 e7 e8 e9
  simp [cmdCells] at e10
  obtain ⟨r0, r1, r2, r3, r4, r5, r6, r7, r8, r9, r10, r11⟩ := e10
  subst e0 e1 e2 e3 e4 e5 e6 e7 e8 e9 r0 r1 r2 r3 r4 r5 r6 r7 r8 r9 r10 r11
  intro c hc
  simp only [List.mem_cons, List.not_mem_nil, or_false] at hc
  rcases hc with rfl | rfl | rfl | rfl | rfl | rfl | rfl | rfl | rfl | rfl | rfl | rfl | rfl | rfl | rfl | rfl | rfl | rfl | rfl | rfl | rfl | rfl | rfl | rfl <;> first | rfl | assumption
theorem do_read {fuel : Nat} {cs : List Value} {x : DataW H × List MemPlace} (h : DataW.trod enc Try.prog w base spare held fuel 36 cs = some x) : ∃ d : DoN, cs = d.cells ∧ d.rest.length = 24 ∧ ∀ c ∈ d.rest, c.oneCell' = true := by
  obtain ⟨xs, n, _, rfl, hlen, hxl, hf⟩ := DataW.trod_struct Try.underlying36 h
  have hl : cs.length = 26 := hlen.trans (by kernel_rfl)
  obtain ⟨c0, c1, r, rfl, hr⟩ := front2 hl
  obtain ⟨y0, y1, y2, rfl⟩ := list3 (show xs.length = 3 from hxl)
  have k3 : Try.prog.cellsOf 3 = 1 := by kernel_rfl
  have f0 := hf 0 ⟨"Op", 3, 0, false, "", "", 0⟩ rfl
  have f1 := hf 1 ⟨"ID", 3, 1, false, "", "", 8⟩ rfl
  have f2 := hf 2 ⟨"Msg", 34, 2, false, "", "", 16⟩ rfl
  have km : Try.prog.cellsOf 34 = 24 := by kernel_rfl
  simp only [k3, km] at f0 f1 f2
  have e2 : (List.take 24 (List.drop 2 (c0 :: c1 :: r))) = r := by
    rw [List.drop_succ_cons, List.drop_succ_cons, List.drop_zero, List.take_of_length_le (by omega)]
  have ho : ∀ c ∈ r, c.oneCell' = true := by
    have := msg_one f2
    rwa [e2] at this
  obtain ⟨i0, e0, _, w0⟩ := DataW.trod_int Try.underlying3 f0
  obtain ⟨i1, e1, _, w1⟩ := DataW.trod_int Try.underlying3 f1
  simp at e0 e1
  exact ⟨⟨i0, i1, r⟩, by simp [DoN.cells, e0, e1], hr, ho⟩
theorem dos_read {fuel : Nat} {cs : List Value} {x : DataW H × List MemPlace} (h : DataW.trod enc Try.prog w base spare held fuel 22 cs = some x) (hz : ∀ n ∈ DataW.weights Try.prog 22 x.1, n ≤ reachBytes) :
    ∃ v ds, cs = [v] ∧ DosN w v ds := by
  obtain ⟨v, ds, rfl, hb, hr⟩ := rows_read (R := fun cs (d : DoN) => cs = d.cells ∧ d.rest.length = 24 ∧ ∀ c ∈ d.rest, c.oneCell' = true) (k := 26) Try.underlying22 (by kernel_rfl) (by omega) h hz (fun n cs y hy hzy => do_read hy)
  rcases hr with ⟨rfl, a, c, rfl, hac⟩ | ⟨b, o, c, rfl, hl, hc, hi⟩
  · exact ⟨_, [], rfl, .inl ⟨rfl, _, _, rfl⟩⟩
  · refine ⟨_, ds, rfl, .inr ⟨b, o, c, rfl, fun i hi' => ?_⟩⟩
    obtain ⟨r, ⟨rfl, h24, h1⟩, _, h4⟩ := hi i hi'
    exact ⟨h24, h1, h4⟩
end
end Go.Proofs.Ytfodgohleioflaa
