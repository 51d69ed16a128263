/-
  A whole struct is read by an operation that stands under a guard.
-/
import Derived.Test.YtfodgohleioflaaLib7
namespace Go.Proofs.Ytfodgohleioflaa
open Go

section
variable {P : Program} {w : World} {ops : Array Oper} {rest : List Oper} {o : Oper} {a : Act} {Q : Exit → Act → World → Prop}
theorem wpList_wanted (hw : Region.wanted o (yielded ops a.tmps) = true)
    (h : ∀ K : Act → World → Prop, (∀ a w, wpList P ops Q rest a w → K a w) → o.wp P a w K Q) : wpList P ops Q (o :: rest) a w :=
  wpList_step fun K hK => by simp only [hw, if_true]; exact h K hK
theorem wpList_load_cells_g (hw : Region.wanted o (yielded ops a.tmps) = true) (t : TypeId) (x : Operand) (ho : o.op = .load t x) (ad : Addr) (hx : a.eval x = .pointer (some ad)) (vs : Array Value)
    (hagg : ∀ w, (isAgg t).run P w = .ok true w) (hsz : ∀ w, (sizeOf t).run P w = .ok vs.size w) (hc : ∀ j, j < vs.size → w.cell? (ad.add j) = vs[j]?)
    (h : wpList P ops Q rest (a.put o.dst (.agg vs)) w) : wpList P ops Q (o :: rest) a w := by
  refine wpList_wanted hw fun K hK => ?_
  unfold Oper.wp
  have := run_loadVar_cells (P := P) (w := w) ad vs (hagg w) (hsz w) hc
  have e : ((pure ad : Sem Addr).run P w) = .ok ad w := rfl
  simp only [execOp, ho, hx, Instr.loadAt, Instr.sureAddr, Sem.run_bind, e, this, Result.andThen]
  exact hK _ _ h
theorem wpList_load_block_g (hw : Region.wanted o (yielded ops a.tmps) = true) (t : TypeId) (x : Operand) (ho : o.op = .load t x) (b : Nat) (hx : a.eval x = .pointer (some ⟨b, 0, none⟩)) (C : Array Value) (fr : Nat × Nat) (ty : TypeId)
    (hagg : ∀ w, (isAgg t).run P w = .ok true w) (hsz : ∀ w, (sizeOf t).run P w = .ok C.size w) (hb : w.heap[b]? = some (.cells C ty fr))
    (h : wpList P ops Q rest (a.put o.dst (.agg C)) w) : wpList P ops Q (o :: rest) a w :=
  wpList_load_cells_g hw t x ho ⟨b, 0, none⟩ hx C hagg hsz (fun j _ => add_block hb j) h
end
end Go.Proofs.Ytfodgohleioflaa
