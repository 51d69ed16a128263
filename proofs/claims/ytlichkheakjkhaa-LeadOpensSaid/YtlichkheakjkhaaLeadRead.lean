/-
  How commands, votes and calls that come in are read: out of the reader's words into ours.
-/
import Derived.Test.YtlichkheakjkhaaLead4
import Derived.ProofKit
import Derived.OpenShut
import Derived.Deep.Slices
import Derived.ChangeArms
namespace Go.Proofs.Ytlichkheakjkhaa
open Go Go.RowKit Go.ChangeShapes Go.WideShapes Go.Deep

theorem exists_list {α : Type} [Inhabited α] {p : Nat → α → Prop} : ∀ (n : Nat), (∀ i, i < n → ∃ x, p i x) → ∃ l : List α, l.length = n ∧ ∀ i, i < n → p i (l.getD i default)
  | 0, _ => ⟨[], rfl, fun i h => absurd h (Nat.not_lt_zero i)⟩
  | n + 1, h => by
    obtain ⟨l, hl, hp⟩ := exists_list n (fun i hi => h i (by omega))
    obtain ⟨x, hx⟩ := h n (by omega)
    refine ⟨l ++ [x], by simp [hl], fun i hi => ?_⟩
    rw [List.getD_eq_getElem?_getD]
    by_cases e : i < n
    · rw [List.getElem?_append_left (by omega), ← List.getD_eq_getElem?_getD]; exact hp i e
    · obtain rfl : i = n := by omega
      rw [List.getElem?_append_right (by omega), hl]; simpa using hx

section
variable {H : Type} {enc : TypeId × Value → H} {w : World} {base : Nat} {spare : Nat → Bool} {held : Bool}

theorem add_none {a : Addr} {v : Value} (h : w.cell? (a.add 0) = some v) : a.spot = none := by
  unfold World.cell? at h
  simp only [Addr.add_zero'] at h
  split at h
  · cases hs : a.spot with
    | none => rfl
    | some _ => rw [hs] at h; simp at h
  · cases h
theorem add_lit' {a : Addr} (h : a.spot = none) (n : Nat) : a.add n = ⟨a.block, a.off + n, none⟩ := by
  cases n with
  | zero => rw [Addr.add_zero']; cases a; simp_all
  | succ n => rw [Addr.add_succ']

theorem ints_read {fuel : Nat} {cs : List Value} {x : DataW H × List MemPlace} (h : DataW.trod enc Try.prog w base spare held fuel 31 cs = some x) (hz : ∀ n ∈ DataW.weights Try.prog 31 x.1, n ≤ reachBytes) :
    ∃ v l, cs = [v] ∧ Ints w v l ∧ ∀ y ∈ l, (Lit.int .i64 y).wf = true := by
  rcases open_ints Try.underlying31 Try.underlying3 (by kernel_rfl) h with ⟨rfl, rfl⟩ | ⟨a, len, cap, zs, rfl, hb, hl, hm, hlen, rfl, hc, hwf⟩
  · exact ⟨_, [], rfl, Ints.nil w, by simp⟩
  · have hle : len ≤ zs.length := by split at hlen <;> omega
    have hz' : len * 8 ≤ reachBytes := by
      have := hz ((len + (zs.length - len)) * 8) (by
        simp only [DataW.weights, Try.underlying31]
        have hb8 : Try.prog.bytesOf 3 = 8 := by kernel_rfl
        rw [hb8]
        refine List.mem_cons.2 (Or.inl ?_)
        simp [ChangeShapes.lits]
        omega)
      omega
    refine ⟨_, zs.take len, rfl, ?_, fun y hy => hwf y (List.mem_of_mem_take hy)⟩
    have hlt : (zs.take len).length = len := by simp; omega
    by_cases h0 : len = 0
    · subst h0
      rw [List.take_zero]; exact Ints.empty w a cap
    · have hs := add_none (hc 0 (by omega))
      have := Ints.mk (w := w) (b := a.block) (o := a.off) (cap := cap) (l := zs.take len) (by omega) (by unfold reachBytes at hz'; omega) (fun j hj => by
        have h1 := hc j (by omega)
        rw [add_lit' hs] at h1
        rw [h1]
        congr 2
        rw [List.getD_eq_getElem?_getD, List.getD_eq_getElem?_getD, List.getElem?_take, if_pos (by omega)])
      rw [hlt] at this
      have e : a = ⟨a.block, a.off, none⟩ := by cases a; simp_all
      rw [e]; exact this

/-- What an int may be. -/
def Wf (n : Int) : Prop := -9223372036854775808 ≤ n ∧ n ≤ 9223372036854775807
theorem wf_of {n : Int} (h : (Lit.int .i64 n).wf = true) : Wf n := by
  simpa [Lit.wf, IntKind.min, IntKind.max, IntKind.signed, IntKind.bits, Wf] using h
structure CmdD.Wf (d : CmdD) : Prop where
  id : Go.Proofs.Ytlichkheakjkhaa.Wf d.id
  
theorem list11 {α : Type} {l : List α} (h : l.length = 11) : ∃ c0 c1 c2 c3 c4 c5 c6 c7 c8 c9 c10, l = [c0, c1, c2, c3, c4, c5, c6, c7, c8, c9, c10] := by
  match l, h with
  | [c0, c1, c2, c3, c4, c5, c6, c7, c8, c9, c10], _ => exact ⟨c0, c1, c2, c3, c4, c5, c6, c7, c8, c9, c10, rfl⟩
theorem list2 {α : Type} {l : List α} (h : l.length = 2) : ∃ c0 c1, l = [c0, c1] := by
  match l, h with
  | [c0, c1], _ => exact ⟨c0, c1, rfl⟩
theorem list3 {α : Type} {l : List α} (h : l.length = 3) : ∃ c0 c1 c2, l = [c0, c1, c2] := by
  match l, h with
  | [c0, c1, c2], _ => exact ⟨c0, c1, c2, rfl⟩
theorem list5 {α : Type} {l : List α} (h : l.length = 5) : ∃ c0 c1 c2 c3 c4, l = [c0, c1, c2, c3, c4] := by
  match l, h with
  | [c0, c1, c2, c3, c4], _ => exact ⟨c0, c1, c2, c3, c4, rfl⟩
theorem cons2 {l : List Value} {n : Nat} (h : l.length = n + 2) : ∃ c0 c1 r, l = c0 :: c1 :: r ∧ r.length = n := by
  match l, h with
  | c0 :: c1 :: r, h => exact ⟨c0, c1, r, rfl, by simpa using h⟩
theorem cons3 {l : List Value} {n : Nat} (h : l.length = n + 3) : ∃ c0 c1 c2 r, l = c0 :: c1 :: c2 :: r ∧ r.length = n := by
  match l, h with
  | c0 :: c1 :: c2 :: r, h => exact ⟨c0, c1, c2, r, rfl, by simpa using h⟩
theorem list12 {l : List Value} (h : l.length = 12) : ∃ c0 c1 c2 c3 c4 c5 c6 c7 c8 c9 c10 c11, l = [c0, c1, c2, c3, c4, c5, c6, c7, c8, c9, c10, c11] := by
  match l, h with
  | [c0, c1, c2, c3, c4, c5, c6, c7, c8, c9, c10, c11], _ => exact ⟨c0, c1, c2, c3, c4, c5, c6, c7, c8, c9, c10, c11, rfl⟩

theorem cmd_read {fuel : Nat} {cs : List Value} {x : DataW H × List MemPlace} (h : DataW.trod enc Try.prog w base spare held fuel 33 cs = some x) (hz : ∀ n ∈ DataW.weights Try.prog 33 x.1, n ≤ reachBytes) :
    ∃ d nv, cs = (CmdD.cells d nv).toList ∧ Ints w nv d.nodes ∧ d.Wf := by
  obtain ⟨xs, n, _, rfl, hlen, hxl, hf⟩ := DataW.trod_struct Try.underlying33 h
  have hl12 : cs.length = 12 := hlen.trans (by kernel_rfl)
  obtain ⟨c0, c1, c2, c3, c4, c5, c6, c7, c8, c9, c10, c11, rfl⟩ := list12 hl12
  obtain ⟨y0, y1, y2, y3, y4, y5, y6, y7, y8, y9, y10, rfl⟩ := list11 (show xs.length = 11 from hxl)
  have k3 : Try.prog.cellsOf 3 = 1 := by kernel_rfl
  have k9 : Try.prog.cellsOf 9 = 1 := by kernel_rfl
  have k28 : Try.prog.cellsOf 28 = 1 := by kernel_rfl
  have k30 : Try.prog.cellsOf 30 = 2 := by kernel_rfl
  have k31 : Try.prog.cellsOf 31 = 1 := by kernel_rfl
  have f0 := hf 0 ⟨"ID", 3, 0, false, "", "", 0⟩ rfl
  have f1 := hf 1 ⟨"Kind", 3, 1, false, "", "", 8⟩ rfl
  have f2 := hf 2 ⟨"Key", 9, 2, false, "", "", 16⟩ rfl
  have f3 := hf 3 ⟨"Blob", 3, 3, false, "", "", 32⟩ rfl
  have f4 := hf 4 ⟨"Other", 3, 4, false, "", "", 40⟩ rfl
  have f5 := hf 5 ⟨"Index", 3, 5, false, "", "", 48⟩ rfl
  have f6 := hf 6 ⟨"Node", 3, 6, false, "", "", 56⟩ rfl
  have f7 := hf 7 ⟨"Size", 3, 7, false, "", "", 64⟩ rfl
  have f8 := hf 8 ⟨"Sum", 28, 8, false, "", "", 72⟩ rfl
  have f9 := hf 9 ⟨"Code", 30, 9, false, "", "", 80⟩ rfl
  have f10 := hf 10 ⟨"Nodes", 31, 11, false, "", "", 96⟩ rfl
  simp only [k3, k9, k28, k30, k31] at f0 f1 f2 f3 f4 f5 f6 f7 f8 f9 f10
  obtain ⟨i0, e0, _, w0⟩ := DataW.trod_int Try.underlying3 f0
  obtain ⟨i1, e1, _, w1⟩ := DataW.trod_int Try.underlying3 f1
  obtain ⟨s2, e2, _, w2⟩ := DataW.trod_string Try.underlying9 f2
  obtain ⟨i3, e3, _, w3⟩ := DataW.trod_int Try.underlying3 f3
  obtain ⟨i4, e4, _, w4⟩ := DataW.trod_int Try.underlying3 f4
  obtain ⟨i5, e5, _, w5⟩ := DataW.trod_int Try.underlying3 f5
  obtain ⟨i6, e6, _, w6⟩ := DataW.trod_int Try.underlying3 f6
  obtain ⟨i7, e7, _, w7⟩ := DataW.trod_int Try.underlying3 f7
  obtain ⟨i8, e8, _, w8⟩ := DataW.trod_int Try.underlying28 f8
  obtain ⟨v10, l10, e10, hi, hwf⟩ := ints_read f10 (fun n hn => hz n (by
    simp only [DataW.weights, Try.underlying33, List.map_cons, List.map_nil, DataW.weightsEach, List.mem_append]
    simp [hn]))
  obtain ⟨zs, n2, _, _, hlen2, hxl2, hf2⟩ := DataW.trod_struct Try.underlying30 f9
  obtain ⟨z0, z1, rfl⟩ := list2 (show zs.length = 2 from hxl2)
  have g0 := hf2 0 ⟨"K", 3, 0, false, "", "", 0⟩ rfl
  have g1 := hf2 1 ⟨"M", 3, 1, false, "", "", 8⟩ rfl
  simp only [k3] at g0 g1
  obtain ⟨j0, d0, _, u0⟩ := DataW.trod_int Try.underlying3 g0
  obtain ⟨j1, d1, _, u1⟩ := DataW.trod_int Try.underlying3 g1
  simp at e0 e1 e2 e3 e4 e5 e6 e7 e8 e10 d0 d1
  refine ⟨⟨i0, i1, s2, i3, i4, i5, i6, i7, i8, j0, j1, l10⟩, v10, ?_, hi, ⟨wf_of w0⟩⟩
  simp [CmdD.cells, *]

structure VoteD.Wf (d : VoteD) : Prop where
  slot : Go.Proofs.Ytlichkheakjkhaa.Wf d.slot
  ballot : Go.Proofs.Ytlichkheakjkhaa.Wf d.ballot
  cmd : d.cmd.Wf
theorem vote_read {fuel : Nat} {cs : List Value} {x : DataW H × List MemPlace} (h : DataW.trod enc Try.prog w base spare held fuel 38 cs = some x) (hz : ∀ n ∈ DataW.weights Try.prog 38 x.1, n ≤ reachBytes) :
    ∃ d nv, cs = (VoteD.cells d nv).toList ∧ Ints w nv d.cmd.nodes ∧ d.Wf := by
  obtain ⟨xs, n, _, rfl, hlen, hxl, hf⟩ := DataW.trod_struct Try.underlying38 h
  have hl14 : cs.length = 14 := hlen.trans (by kernel_rfl)
  obtain ⟨y0, y1, y2, rfl⟩ := list3 (show xs.length = 3 from hxl)
  have k3 : Try.prog.cellsOf 3 = 1 := by kernel_rfl
  have k33 : Try.prog.cellsOf 33 = 12 := by kernel_rfl
  have f0 := hf 0 ⟨"Slot", 3, 0, false, "", "", 0⟩ rfl
  have f1 := hf 1 ⟨"Ballot", 3, 1, false, "", "", 8⟩ rfl
  have f2 := hf 2 ⟨"Cmd", 33, 2, false, "", "", 16⟩ rfl
  simp only [k3, k33] at f0 f1 f2
  obtain ⟨i0, e0, _, w0⟩ := DataW.trod_int Try.underlying3 f0
  obtain ⟨i1, e1, _, w1⟩ := DataW.trod_int Try.underlying3 f1
  obtain ⟨d, nv, e2, hi, hd⟩ := cmd_read f2 (fun n hn => hz n (by
    simp only [DataW.weights, Try.underlying38, List.map_cons, List.map_nil, DataW.weightsEach, List.mem_append]
    simp [hn]))
  refine ⟨⟨i0, i1, d⟩, nv, ?_, hi, ⟨wf_of w0, wf_of w1, hd⟩⟩
  obtain ⟨c0, c1, r, rfl, hr⟩ := cons2 (n := 12) hl14
  simp at e0 e1 e2
  rw [List.take_of_length_le (by omega)] at e2
  rw [e0, e1, e2]
  simp [VoteD.cells, CmdD.cells]

/-- A slice of records that come in: each is read by 'rd'. -/
theorem rows_read {α : Type} [Inhabited α] {t e k : Nat} {R : List Value → α → Prop} (ht : Try.prog.underlying t = some (.slice e)) (hk : Try.prog.cellsOf e = k) (hk0 : 0 < k) {fuel : Nat} {cs : List Value} {x : DataW H × List MemPlace}
    (h : DataW.trod enc Try.prog w base spare held fuel t cs = some x) (hz : ∀ n ∈ DataW.weights Try.prog t x.1, n ≤ reachBytes)
    (rd : ∀ (n : Nat) (cs : List Value) (y : DataW H × List MemPlace), DataW.trod enc Try.prog w base spare held n e cs = some y → (∀ n ∈ DataW.weights Try.prog e y.1, n ≤ reachBytes) → ∃ d, R cs d) :
    ∃ v ds, cs = [v] ∧ ds.length * Try.prog.bytesOf e ≤ reachBytes ∧ ((ds = [] ∧ ∃ a c, v = .slice a 0 c ∧ (a = none → c = 0)) ∨ ∃ b o c, v = .slice (some ⟨b, o, none⟩) ds.length c ∧ ds.length ≤ c ∧ c ≤ 9223372036854775807 ∧
      ∀ i, i < ds.length → ∃ r, R r (ds.getD i default) ∧ r.length = k ∧ ∀ j, j < k → w.cell? ⟨b, o + i * k + j, none⟩ = r[j]?) := by
  rcases open_slice ht h with ⟨rfl, rfl⟩ | ⟨a, len, cap, m, n, D, Pl, rfl, hb, hl, hm, hmm, rfl, hi⟩
  · exact ⟨_, [], rfl, by simp, .inl ⟨rfl, _, _, rfl, fun _ => rfl⟩⟩
  · have hle : len ≤ m := by split at hmm <;> omega
    have hw : ∀ i, i < len → ∀ n ∈ DataW.weights Try.prog e (D i), n ≤ reachBytes := fun i hi' n hn => hz n (by
      simp only [DataW.weights, ht, List.mem_cons, List.mem_append]
      refine Or.inr (Or.inl ?_)
      have : D i ∈ (List.range len).map D := List.mem_map_of_mem (List.mem_range.2 hi')
      generalize (List.range len).map D = L at this
      induction L with
      | nil => cases this
      | cons y r ih =>
        simp only [DataW.weightsAll, List.mem_append]
        rcases List.mem_cons.1 this with h | h
        · exact Or.inl (h ▸ hn)
        · exact Or.inr (ih h))
    have hz' : len * Try.prog.bytesOf e ≤ reachBytes := by
      have := hz ((len + (m - len)) * Try.prog.bytesOf e) (by
        simp only [DataW.weights, ht]
        refine List.mem_cons.2 (Or.inl ?_)
        simp)
      exact Nat.le_trans (Nat.mul_le_mul_right _ (by omega)) this
    obtain ⟨ds, hdl, hds⟩ := exists_list (p := fun i d => ∃ r, R r d ∧ r.length = k ∧ ∀ j, j < k → w.cell? (a.add (i * k + j)) = r[j]?) len (fun i hi' => by
      obtain ⟨cs', hc, htr⟩ := hi i (by omega)
      obtain ⟨d, hd⟩ := rd n cs' _ htr (hw i hi')
      obtain ⟨_, hcl, hat⟩ := World.cells?_some hc
      rw [hk] at hcl hat
      exact ⟨d, cs', hd, hcl, fun j hj => by rw [← hat j hj, Go.Deep.add_add]⟩)
    refine ⟨_, ds, rfl, by rw [hdl]; exact hz', ?_⟩
    by_cases h0 : len = 0
    · subst h0
      exact .inl ⟨List.eq_nil_of_length_eq_zero hdl, _, _, rfl, fun h => by cases h⟩
    · have hs : a.spot = none := by
        obtain ⟨r, _, hrl, hr⟩ := hds 0 (by omega)
        have := hr 0 hk0
        rw [List.getElem?_eq_getElem (by omega)] at this
        simp only [Nat.zero_mul, Nat.zero_add] at this
        exact add_none this
      refine .inr ⟨a.block, a.off, cap, ?_, by omega, hm, fun i hi' => ?_⟩
      · rw [hdl]; cases a; simp_all
      · obtain ⟨r, h1, h2, h3⟩ := hds i (by omega)
        refine ⟨r, h1, h2, fun j hj => ?_⟩
        rw [← h3 j hj, add_lit' hs, Nat.add_assoc]

theorem votes_read {fuel : Nat} {cs : List Value} {x : DataW H × List MemPlace} (h : DataW.trod enc Try.prog w base spare held fuel 34 cs = some x) (hz : ∀ n ∈ DataW.weights Try.prog 34 x.1, n ≤ reachBytes) :
    ∃ v ds, cs = [v] ∧ ds.length * 136 ≤ reachBytes ∧ Votes w v ds ∧ ∀ d ∈ ds, d.Wf := by
  obtain ⟨v, ds, rfl, hb, hr⟩ := rows_read (R := fun cs (d : VoteD) => d.Wf ∧ ∃ nv, cs = (VoteD.cells d nv).toList ∧ Ints w nv d.cmd.nodes) (k := 14) Try.underlying34 (by kernel_rfl) (by omega) h hz (fun n cs y hy hzy => by
    obtain ⟨d, nv, h1, h2, h3⟩ := vote_read hy hzy
    exact ⟨d, h3, nv, h1, h2⟩)
  have hb8 : Try.prog.bytesOf 38 = 136 := by kernel_rfl
  rw [hb8] at hb
  rcases hr with ⟨rfl, a, c, rfl, hac⟩ | ⟨b, o, c, rfl, hl, hc, hi⟩
  · exact ⟨_, [], rfl, hb, .inl ⟨rfl, _, _, rfl, hac⟩, by simp⟩
  · refine ⟨_, ds, rfl, hb, .inr ⟨b, o, c, rfl, by omega, fun i hi' => ?_⟩, fun d hd => ?_⟩
    · obtain ⟨r, ⟨_, nv, rfl, h2⟩, _, h4⟩ := hi i hi'
      exact ⟨nv, h2, fun j hj => by rw [h4 j hj]; simp⟩
    · obtain ⟨i, hi', rfl⟩ := List.getElem_of_mem hd
      obtain ⟨r, ⟨h1, _⟩, _⟩ := hi i hi'
      rw [List.getD_eq_getElem?_getD, List.getElem?_eq_getElem hi'] at h1
      exact h1

/-- A call of a try, as data. -/
structure DoD where
  op : Int
  node : Int
  slot : Int
  cmd : CmdD
  votes : List VoteD
instance : Inhabited DoD := ⟨⟨0, 0, 0, default, []⟩⟩
def DoD.cells (d : DoD) (nv vv : Value) : Array Value :=
  #[.int .i64 d.op, .int .i64 d.node, .int .i64 d.slot, .int .i64 d.cmd.id, .int .i64 d.cmd.kind, .string d.cmd.key, .int .i64 d.cmd.blob, .int .i64 d.cmd.other, .int .i64 d.cmd.index, .int .i64 d.cmd.node, .int .i64 d.cmd.size, .int .u32 d.cmd.sum, .int .i64 d.cmd.k, .int .i64 d.cmd.m, nv, vv]
structure DoD.Wf (d : DoD) : Prop where
  op : Go.Proofs.Ytlichkheakjkhaa.Wf d.op
  node : Go.Proofs.Ytlichkheakjkhaa.Wf d.node
  slot : Go.Proofs.Ytlichkheakjkhaa.Wf d.slot
  cmd : d.cmd.Wf
  votes : ∀ v ∈ d.votes, v.Wf
  len : d.votes.length * 136 ≤ reachBytes
theorem do_read {fuel : Nat} {cs : List Value} {x : DataW H × List MemPlace} (h : DataW.trod enc Try.prog w base spare held fuel 36 cs = some x) (hz : ∀ n ∈ DataW.weights Try.prog 36 x.1, n ≤ reachBytes) :
    ∃ d nv vv, cs = (DoD.cells d nv vv).toList ∧ Ints w nv d.cmd.nodes ∧ Votes w vv d.votes ∧ d.Wf := by
  obtain ⟨xs, n, _, rfl, hlen, hxl, hf⟩ := DataW.trod_struct Try.underlying36 h
  have hl16 : cs.length = 16 := hlen.trans (by kernel_rfl)
  obtain ⟨y0, y1, y2, y3, y4, rfl⟩ := list5 (show xs.length = 5 from hxl)
  have k3 : Try.prog.cellsOf 3 = 1 := by kernel_rfl
  have k33 : Try.prog.cellsOf 33 = 12 := by kernel_rfl
  have k34 : Try.prog.cellsOf 34 = 1 := by kernel_rfl
  have f0 := hf 0 ⟨"Op", 3, 0, false, "", "", 0⟩ rfl
  have f1 := hf 1 ⟨"Node", 3, 1, false, "", "", 8⟩ rfl
  have f2 := hf 2 ⟨"Slot", 3, 2, false, "", "", 16⟩ rfl
  have f3 := hf 3 ⟨"Cmd", 33, 3, false, "", "", 24⟩ rfl
  have f4 := hf 4 ⟨"Votes", 34, 15, false, "", "", 144⟩ rfl
  simp only [k3, k33, k34] at f0 f1 f2 f3 f4
  obtain ⟨i0, e0, _, w0⟩ := DataW.trod_int Try.underlying3 f0
  obtain ⟨i1, e1, _, w1⟩ := DataW.trod_int Try.underlying3 f1
  obtain ⟨i2, e2, _, w2⟩ := DataW.trod_int Try.underlying3 f2
  obtain ⟨d, nv, e3, hi, hd⟩ := cmd_read f3 (fun n hn => hz n (by
    simp only [DataW.weights, Try.underlying36, List.map_cons, List.map_nil, DataW.weightsEach, List.mem_append]
    simp [hn]))
  obtain ⟨vv, ds, e4, hb, hv, hw⟩ := votes_read f4 (fun n hn => hz n (by
    simp only [DataW.weights, Try.underlying36, List.map_cons, List.map_nil, DataW.weightsEach, List.mem_append]
    simp [hn]))
  refine ⟨⟨i0, i1, i2, d, ds⟩, nv, vv, ?_, hi, hv, ⟨wf_of w0, wf_of w1, wf_of w2, hd, hw, hb⟩⟩
  obtain ⟨c0, c1, c2, r, rfl, hr⟩ := cons3 (n := 13) hl16
  simp at e0 e1 e2 e3 e4
  have : r = r.take 12 ++ r.drop 12 := (List.take_append_drop 12 r).symm
  rw [List.take_of_length_le (by simp; omega)] at e4
  rw [e0, e1, e2, this, e3, e4]
  simp [DoD.cells, CmdD.cells]
/-- A slice of calls. -/
def Dos (w : World) (v : Value) (ds : List DoD) : Prop :=
  (ds = [] ∧ ∃ a c, v = .slice a 0 c ∧ (a = none → c = 0)) ∨ ∃ b o c, v = .slice (some ⟨b, o, none⟩) ds.length c ∧ ds.length ≤ c ∧ c ≤ 9223372036854775807 ∧
    ∀ i, i < ds.length → ∃ nv vv, Ints w nv (ds.getD i default).cmd.nodes ∧ Votes w vv (ds.getD i default).votes ∧ ∀ j, j < 16 → w.cell? ⟨b, o + i * 16 + j, none⟩ = ((ds.getD i default).cells nv vv)[j]?
theorem dos_read {fuel : Nat} {cs : List Value} {x : DataW H × List MemPlace} (h : DataW.trod enc Try.prog w base spare held fuel 22 cs = some x) (hz : ∀ n ∈ DataW.weights Try.prog 22 x.1, n ≤ reachBytes) :
    ∃ v ds, cs = [v] ∧ Dos w v ds ∧ ∀ d ∈ ds, d.Wf := by
  obtain ⟨v, ds, rfl, hb, hr⟩ := rows_read (R := fun cs (d : DoD) => d.Wf ∧ ∃ nv vv, cs = (DoD.cells d nv vv).toList ∧ Ints w nv d.cmd.nodes ∧ Votes w vv d.votes) (k := 16) Try.underlying22 (by kernel_rfl) (by omega) h hz (fun n cs y hy hzy => by
    obtain ⟨d, nv, vv, h1, h2, h3, h4⟩ := do_read hy hzy
    exact ⟨d, h4, nv, vv, h1, h2, h3⟩)
  rcases hr with ⟨rfl, a, c, rfl, hac⟩ | ⟨b, o, c, rfl, hl, hc, hi⟩
  · exact ⟨_, [], rfl, .inl ⟨rfl, _, _, rfl, hac⟩, by simp⟩
  · refine ⟨_, ds, rfl, .inr ⟨b, o, c, rfl, hl, hc, fun i hi' => ?_⟩, fun d hd => ?_⟩
    · obtain ⟨r, ⟨_, nv, vv, rfl, h2, h3⟩, _, h4⟩ := hi i hi'
      exact ⟨nv, vv, h2, h3, fun j hj => by rw [h4 j hj]; simp⟩
    · obtain ⟨i, hi', rfl⟩ := List.getElem_of_mem hd
      obtain ⟨r, ⟨h1, _⟩, _⟩ := hi i hi'
      rw [List.getD_eq_getElem?_getD, List.getElem?_eq_getElem hi'] at h1
      exact h1
end
end Go.Proofs.Ytlichkheakjkhaa
