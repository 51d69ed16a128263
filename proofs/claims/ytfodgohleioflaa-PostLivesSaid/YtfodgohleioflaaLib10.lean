/-
  Laws for one step of a region that draws its order: append, and whole structs.
-/
import Derived.Test.YtfodgohleioflaaLib9
import Derived.Great.BuildSlice
import Derived.Deep.RegionLaw
import Derived.Deep.RegionHeld3
namespace Go.Proofs.Ytfodgohleioflaa
open Go Go.RowKit
set_option linter.unusedVariables false

theorem wp_append_row {P : Program} {w : World} {o : Oper} {a : Act} {K : Act → World → Prop} {Q : Exit → Act → World → Prop} (s x : Operand) (t : TypeId)
    (ho : o.op = .call { callee := .builtin .append, args := #[s, x], argTypes := #[t, t] })
    (base : Nat) (e : TypeId) (i : TypeInfo) (z : Value) (size bytes : Nat) (ht : P.underlying t = some (.slice e)) (hi : P.info? e = some i) (hz : i.zero = some z)
    (hsize : i.size = size) (hby : i.bytes = bytes) (hzs : z.cells.size = size) (hsz : 0 < size)
    (v : Value) (n : Nat) (xs : List Value) (hs : a.eval s = v) (hown : w.ownsRow base e size v n xs)
    (ad : Addr) (m c : Nat) (news : List Value) (hx : a.eval x = .slice (some ad) m c) (hl : news.length = m * size) (hnews : ∀ j u, news[j]? = some u → w.cell? (ad.add j) = some u) (h1 : ∀ u ∈ news, u.oneCell' = true)
    (h63 : n + m ≤ maxLen) (hbytes : (n + m) * bytes ≤ 140737488355328) (hbase : base ≤ w.heap.size)
    (h : ∀ v' w', w'.ownsRow base e size v' (n + m) (xs ++ news) → Upd (fun b => some b = v.ownBlock) w w' → K (a.put o.dst v') w') : Oper.wp P o a w K Q :=
  wp_append_own w s x t ho base e i z size bytes ht hi hz hsize hby hzs hsz v n xs hs hown ad m c news hx hl hnews h1 h63 hbytes hbase (fun v' w' h2 h3 _ => h v' w' h2 (Upd.of_grown h3))
theorem step_of {P : Program} {ops : Array Oper} {o : Oper} {a : Act} {K : Act → World → Prop} {Q : Exit → Act → World → Prop} {E : Prop} {w : World} (hgd : o.guard = none) (h : Oper.wp P o a w K Q) : if Region.wanted o (yielded ops a.tmps) = true then Oper.wp P o a w K Q else E := by
  have hw : Region.wanted o (yielded ops a.tmps) = true := by simp [Region.wanted, hgd]
  rw [if_pos hw]; exact h
theorem wp_load_cells {P : Program} {w : World} {o : Oper} {a : Act} {K : Act → World → Prop} {Q : Exit → Act → World → Prop} (t : TypeId) (x : Operand) (ho : o.op = .load t x) (ad : Addr) (hx : a.eval x = .pointer (some ad)) (vs : Array Value)
    (hagg : ∀ w, (isAgg t).run P w = .ok true w) (hsz : ∀ w, (sizeOf t).run P w = .ok vs.size w) (hc : ∀ j, j < vs.size → w.cell? (ad.add j) = vs[j]?)
    (h : K (a.put o.dst (.agg vs)) w) : Oper.wp P o a w K Q := by
  unfold Oper.wp
  have := run_loadVar_cells (P := P) (w := w) ad vs (hagg w) (hsz w) hc
  have e : ((pure ad : Sem Addr).run P w) = .ok ad w := rfl
  simp only [execOp, ho, hx, Instr.loadAt, Instr.sureAddr, Sem.run_bind, e, this, Result.andThen]
  exact h
theorem wp_buildTo {P : Program} {w : World} {o : Oper} {a : Act} {K : Act → World → Prop} {Q : Exit → Act → World → Prop} (t : TypeId) (parts : Array (Nat × Operand)) (ho : o.op = .build t parts) (cells : Array Value) (hf : P.built t (parts.map fun (i, x) => (i, a.eval x)).toList = some cells)
    (h : K (a.put o.dst (.agg cells)) w) : Oper.wp P o a w K Q := by
  refine wp_build t parts ho (by rw [hf]; rfl) ?_
  rw [hf]
  exact h
/-- A call of one argument, at such a step. -/
theorem step_call1 {P : Program} {ops : Array Oper} {o : Oper} {a : Act} {K : Act → World → Prop} {Q : Exit → Act → World → Prop} {E : Prop} {w : World} (hgd : o.guard = none) (f : FuncId) (s : Operand) (ts : Array TypeId)
    (ho : o.op = .call { callee := .value (.func f), args := #[s], argTypes := ts }) (he : ∀ args w, (callFunc f args).run P w = .ok (.enter f args) w) (v : Value) (hs : a.eval s = v) (Post : Ending → World → Prop) (hc : Calls P f #[v] w Post)
    (h : ∀ e w', Post e w' → ∃ v', e = .returned v' ∧ K (a.put o.dst v') w') : if Region.wanted o (yielded ops a.tmps) = true then Oper.wp P o a w K Q else E := by
  have hw : Region.wanted o (yielded ops a.tmps) = true := by simp [Region.wanted, hgd]
  rw [if_pos hw]
  have e1 : (execOp a.eval o).run P w = .ok (.enter f #[v]) w := by
    unfold execOp
    simp [ho, resolve, Deferred.ofValue, invoke, hs, he, show a.eval (Operand.func f) = Value.func (.func f) #[] #[] from rfl]
  unfold Oper.wp
  rw [e1, Oper.upon_enter]
  refine hc.mono ?_
  intro e w' hp
  obtain ⟨v', rfl, hk⟩ := h e w' hp
  exact hk
end Go.Proofs.Ytfodgohleioflaa
