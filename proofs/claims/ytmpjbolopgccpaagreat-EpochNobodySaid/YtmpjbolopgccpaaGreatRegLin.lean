/-
  A region that draws its order, walked along one schedule: what yields its value in every world that meets S is taken, what else comes up stands alone; the frame is a letter of which slots are known.
-/
import Derived.Test.YtmpjbolopgccpaaGreatLib2
import Derived.Deep.RegionHeld3
set_option linter.unusedVariables false
namespace Go.Proofs.YtmpjbolopgccpaaGreat
open Go

section
variable {P : Program} {ops : Array Oper} {Q : Exit → Act → World → Prop} {S : World → Prop}
/-- The first i are listed. -/
def Lst (n i : Nat) : Array Bool := ((List.range n).map (fun j => decide (j < i))).toArray
theorem lst_zero (n : Nat) : Array.replicate n false = Lst n 0 := by
  apply Array.ext'
  unfold Lst
  simp only [Array.toList_replicate, Nat.not_lt_zero, decide_false]
  rw [List.map_const', List.length_range]
theorem lst_succ (n i : Nat) : (Lst n i).setIfInBounds i true = Lst n (i + 1) := by
  apply Array.ext'
  unfold Lst
  rw [Array.toList_setIfInBounds]
  apply List.ext_getElem?
  intro j
  rw [List.getElem?_set]
  simp only [List.length_map, List.length_range, List.getElem?_map]
  by_cases hj : j < n
  · rw [List.getElem?_range hj]
    by_cases e : i = j
    · subst e; simp [hj]
    · simp only [e, if_false, Option.map_some]
      congr 1
      rw [decide_eq_decide]; omega
  · rw [List.getElem?_eq_none (by simpa using hj)]
    by_cases e : i = j
    · subst e; simp [hj]
    · simp [e]
/-- The operations fit in the text's order, from the i-th on: 'true' is taken first, 'false' comes up alone. -/
def OkFrom (ops : Array Oper) (n : Nat) : Nat → List Bool → Prop
  | i, [] => (Region.ready .any ops (Lst n i)).isEmpty = true
  | i, true :: r => (Region.free .any ops (Lst n i) i && (Region.ready .any ops (Lst n i)).contains i) = true ∧ OkFrom ops n (i + 1) r
  | i, false :: r => (Region.ready .any ops (Lst n i) == [i]) = true ∧ OkFrom ops n (i + 1) r
/-- The walk in the text's order. -/
def wpSched (P : Program) (ops : Array Oper) (Q : Exit → Act → World → Prop) (S : World → Prop) : Nat → List Bool → Act → World → Prop
  | _, [], a, w => Q .normal a w
  | i, true :: r, a, w => ∃ o v, ops[i]? = some o ∧ YieldsIf P ops S o v a ∧ S w ∧ wpSched P ops Q S (i + 1) r (a.put o.dst v) w
  | i, false :: r, a, w => wpOp P ops Q i (fun a' w' => S w' ∧ wpSched P ops Q S (i + 1) r a' w') a w
theorem wpAnyH_sched {n : Nat} (hs : Region.noSelect ops = true) (hQ : ∀ c a d v w, Q (.panic c) (Act.put a d v) w → Q (.panic c) a w) : ∀ (sched : List Bool) (i : Nat) (a : Act) (w : World), OkFrom ops n i sched → wpSched P ops Q S i sched a w → wpAnyH P .any ops Q S sched.length (Lst n i) a w
  | [], i, a, w, hok, h => wpAnyH_done (by simpa [OkFrom] using hok) h _
  | true :: r, i, a, w, hok, h => by
    obtain ⟨o, v, ho, hy, hS, h⟩ := h
    obtain ⟨hok, hr⟩ := hok
    rw [Bool.and_eq_true] at hok
    refine wpAnyH_take ho hs hok.1 hok.2 (fun c a w => hQ c a _ _ w) hy hS ?_
    rw [lst_succ]
    exact wpAnyH_sched hs hQ r (i + 1) _ _ hr h
  | false :: r, i, a, w, hok, h => by
    obtain ⟨hok, hr⟩ := hok
    rw [beq_iff_eq] at hok
    refine wpAnyH_all (rs := [i]) hok (by simp) (fun j hj => ?_)
    rw [List.mem_singleton] at hj
    subst hj
    refine wpOp_mono (fun a' w' h' => ⟨h'.1, ?_⟩) h
    rw [lst_succ]
    exact wpAnyH_sched hs hQ r (j + 1) _ _ hr h'.2
theorem wp_region_sched {id : Nat} {ops' : Array Oper} {a : Act} {w : World} (he : ops' = ops) (hm : P.follows .mixedOrders = true) (hs : Region.noSelect ops = true) (hQ : ∀ c a d v w, Q (.panic c) (Act.put a d v) w → Q (.panic c) a w) (sched : List Bool) (hl : sched.length = ops.size)
    (hok : OkFrom ops ops.size 0 sched) (hS : S w.drew) (h : wpSched P ops Q S 0 sched a w.drew) : (Code.region id ops' true).wp P Q a w := by
  subst he
  refine wp_region_held_drew hm hS (fun _ => ?_)
  have := wpAnyH_sched hs hQ sched 0 a w.drew hok h
  rw [hl] at this
  rw [lst_zero]
  exact this
/-- Operation i of the region. -/
def OpAt (ops : Array Oper) (i : Nat) (d : Option Tmp) (g : Option (Nat × Bool)) (op : Op) : Prop := ∃ o, ops[i]? = some o ∧ o.dst = d ∧ o.guard = g ∧ o.op = op
theorem opAt_of {ops : Array Oper} {i : Nat} {d : Option Tmp} {g : Option (Nat × Bool)} {op : Op} (h : (ops[i]?).map (fun o => (o.dst, o.guard, o.op)) = some (d, g, op)) : OpAt ops i d g op := by
  obtain ⟨o, h1, h2⟩ := Option.map_eq_some_iff.1 h
  simp only [Prod.mk.injEq] at h2
  exact ⟨o, h1, h2.1, h2.2.1, h2.2.2⟩
/-- The guard's word. -/
def GuardIs (ops : Array Oper) (a : Act) (g : Option (Nat × Bool)) (b : Bool) : Prop := (match g with | none => true | some (j, want) => yielded ops a.tmps j == some want) = b
theorem wanted_of {o : Oper} {a : Act} {g : Option (Nat × Bool)} {b : Bool} (hg : o.guard = g) (h : GuardIs ops a g b) : Region.wanted o (yielded ops a.tmps) = b := by
  unfold Region.wanted GuardIs at *
  rw [hg]; exact h
theorem guard_none {a : Act} : GuardIs ops a none true := rfl
theorem guard_of {a : Act} {j d : Nat} {want b : Bool} {g' : Option (Nat × Bool)} {op : Op} (ho : OpAt ops j (some d) g' op) (hd : a.tmps[d]? = some (.bool b)) : GuardIs ops a (some (j, want)) (b == want) := by
  obtain ⟨o, h1, h2, _, _⟩ := ho
  unfold GuardIs yielded
  simp [h1, h2, hd]
/-- Behind a put: the slot, the others. -/
structure Next (a a' : Act) (d : Nat) (v : Value) : Prop where
  size : a'.tmps.size = a.tmps.size
  defers : a'.defers = a.defers
  here : a'.tmps[d]? = some v
  keep : ∀ j, j ≠ d → a'.tmps[j]? = a.tmps[j]?
theorem next_put {a : Act} {d : Nat} (v : Value) (hd : d < a.tmps.size) : Next a (a.put (some d) v) d v := by
  refine ⟨by simp [Act.put], rfl, ?_, fun j hj => ?_⟩
  · show (a.tmps.setIfInBounds d v)[d]? = some v
    rw [Array.getElem?_setIfInBounds]; simp [hd]
  · show (a.tmps.setIfInBounds d v)[j]? = a.tmps[j]?
    rw [Array.getElem?_setIfInBounds, if_neg (fun e => hj e.symm)]
theorem eval_tmp {a : Act} {d : Nat} {v : Value} (h : a.tmps[d]? = some v) : a.eval (.tmp d) = v := by
  show a.tmps.getD d undef = v
  rw [Array.getD_eq_getD_getElem?, h]; rfl
/-- An operation that yields v in every world that meets S is taken. -/
theorem sched_take {i d : Nat} {g : Option (Nat × Bool)} {op : Op} {a : Act} {w : World} {r : List Bool} (ho : OpAt ops i (some d) g op) (v : Value) (hg : GuardIs ops a g true) (hd : d < a.tmps.size) (hS : S w)
    (hy : ∀ (o : Oper), o.op = op → ∀ w, S w → (execOp a.eval o).run P w = .ok (.value v) w) (h : ∀ a', Next a a' d v → wpSched P ops Q S (i + 1) r a' w) : wpSched P ops Q S i (true :: r) a w := by
  obtain ⟨o, h1, h2, h3, h4⟩ := ho
  refine ⟨o, v, h1, Or.inl ⟨wanted_of h3 hg, hy o h4⟩, hS, ?_⟩
  rw [h2]
  exact h _ (next_put v hd)
/-- One that is not wanted. -/
theorem sched_skip {i d : Nat} {g : Option (Nat × Bool)} {op : Op} {a : Act} {w : World} {r : List Bool} (ho : OpAt ops i (some d) g op) (hg : GuardIs ops a g false) (hd : d < a.tmps.size) (hS : S w)
    (h : ∀ a', Next a a' d undef → wpSched P ops Q S (i + 1) r a' w) : wpSched P ops Q S i (true :: r) a w := by
  obtain ⟨o, h1, h2, h3, h4⟩ := ho
  refine ⟨o, undef, h1, Or.inr ⟨wanted_of h3 hg, rfl⟩, hS, ?_⟩
  rw [h2]
  exact h _ (next_put undef hd)
/-- A call of a Go function, by its contract. -/
theorem sched_call {i d : Nat} {g : Option (Nat × Bool)} {op : Op} {a : Act} {w : World} {r : List Bool} (ho : OpAt ops i (some d) g op) (hg : GuardIs ops a g true) (hd : d < a.tmps.size) (f : FuncId) (args : Array Value)
    (he : ∀ (o : Oper), o.op = op → (execOp a.eval o).run P w = .ok (.enter f args) w) {Post : Ending → World → Prop} (hc : Calls P f args w Post)
    (h : ∀ e w', Post e w' → ∃ v, e = .returned v ∧ S w' ∧ ∀ a', Next a a' d v → wpSched P ops Q S (i + 1) r a' w') : wpSched P ops Q S i (false :: r) a w := by
  obtain ⟨o, h1, h2, h3, h4⟩ := ho
  show wpOp P ops Q i _ a w
  unfold wpOp
  simp only [h1, wanted_of h3 hg, if_true]
  refine Or.inl ?_
  unfold Oper.wp
  rw [he o h4, Oper.upon_enter]
  refine hc.mono ?_
  intro e w' hp
  obtain ⟨v, rfl, hS, hk⟩ := h e w' hp
  refine ⟨hS, ?_⟩
  rw [h2]
  exact hk _ (next_put v hd)
/-- The region's code, found by its number. -/
def opsOf (n : Nat) : Code → Option (Array Oper)
  | .region id ops _ => if id = n then some ops else none
  | .seq a b => (opsOf n a).orElse fun _ => opsOf n b
  | .block _ c => opsOf n c
  | .scope c => opsOf n c
  | .loop c => opsOf n c
  | .cond _ a b => (opsOf n a).orElse fun _ => opsOf n b
  | _ => none
end
end Go.Proofs.YtmpjbolopgccpaaGreat
