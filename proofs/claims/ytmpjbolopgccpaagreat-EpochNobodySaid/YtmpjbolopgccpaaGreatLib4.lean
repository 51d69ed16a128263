/-
  Whole structs read and laid in one step of a walk.
-/
import Derived.Test.YtmpjbolopgccpaaGreatLib2
set_option linter.unusedVariables false
namespace Go.Proofs.YtmpjbolopgccpaaGreat
open Go

section
variable {P : Program} {w : World} {ops : Array Oper} {rest : List Oper} {o : Oper} {a : Act} {Q : Exit → Act → World → Prop}

theorem run_loadCellsFrom (ad : Addr) (vs : Array Value) : ∀ (n i : Nat) (acc : Array Value), i + n = vs.size → (∀ j, j < vs.size → w.cell? (ad.add j) = vs[j]?) → acc.toList = vs.toList.take i →
    (loadCellsFrom ad i n acc).run P w = .ok vs w
  | 0, i, acc, hi, _, ha => by
    have : acc = vs := by
      apply Array.ext'
      rw [ha, List.take_of_length_le (by simp; omega)]
    rw [this]; rfl
  | n + 1, i, acc, hi, hc, ha => by
    have hlt : i < vs.size := by omega
    have h1 := hc i hlt
    rw [Array.getElem?_eq_getElem hlt] at h1
    simp only [loadCellsFrom, load, Sem.run_bind, Sem.run, h1, Result.andThen]
    refine run_loadCellsFrom ad vs n (i + 1) (acc.push vs[i]) (by omega) hc ?_
    rw [Array.toList_push, ha, List.take_succ_eq_append_getElem (by simpa using hlt)]
    simp
theorem run_loadVar_cells {t : TypeId} (ad : Addr) (vs : Array Value) (hagg : (isAgg t).run P w = .ok true w) (hsz : (sizeOf t).run P w = .ok vs.size w) (hc : ∀ j, j < vs.size → w.cell? (ad.add j) = vs[j]?) :
    (loadVar t ad).run P w = .ok (.agg vs) w := by
  have := run_loadCellsFrom (P := P) (w := w) ad vs vs.size 0 #[] (by omega) hc rfl
  simp only [loadVar, Sem.run_bind, hagg, Result.andThen, if_true, hsz, loadCells, this]
  rfl
/-- A whole struct is read: the cells by one fact. -/
theorem wpList_load_cells (hg : o.guard = none) (t : TypeId) (x : Operand) (ho : o.op = .load t x) (ad : Addr) (hx : a.eval x = .pointer (some ad)) (vs : Array Value)
    (hagg : ∀ w, (isAgg t).run P w = .ok true w) (hsz : ∀ w, (sizeOf t).run P w = .ok vs.size w) (hc : ∀ j, j < vs.size → w.cell? (ad.add j) = vs[j]?)
    (h : wpList P ops Q rest (a.put o.dst (.agg vs)) w) : wpList P ops Q (o :: rest) a w := by
  refine wpList_plain hg fun K hK => ?_
  unfold Oper.wp
  have := run_loadVar_cells (P := P) (w := w) ad vs (hagg w) (hsz w) hc
  have e : ((pure ad : Sem Addr).run P w) = .ok ad w := rfl
  simp only [execOp, ho, hx, Instr.loadAt, Instr.sureAddr, Sem.run_bind, e, this, Result.andThen]
  exact hK _ _ h
end
end Go.Proofs.YtmpjbolopgccpaaGreat
