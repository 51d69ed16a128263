/-
  Whole structs in blocks of their own: read and laid in one step.
-/
import Derived.Test.YtfodgohleioflaaLib4
import Derived.Deep.WholeRow
namespace Go.Proofs.Ytfodgohleioflaa
open Go

theorem add_lit0 (b o j : Nat) : (⟨b, o, none⟩ : Addr).add j = ⟨b, o + j, none⟩ := by unfold Addr.add; split <;> simp_all
theorem cell_block {w : World} {b : Nat} {C : Array Value} {t : TypeId} {fr : Nat × Nat} (h : w.heap[b]? = some (.cells C t fr)) (j : Nat) : w.cell? ⟨b, j, none⟩ = C[j]? := by
  unfold World.cell?
  rw [h]; simp
theorem add_block {w : World} {b : Nat} {C : Array Value} {t : TypeId} {fr : Nat × Nat} (h : w.heap[b]? = some (.cells C t fr)) (j : Nat) : w.cell? ((⟨b, 0, none⟩ : Addr).add j) = C[j]? := by
  rw [add_lit0, Nat.zero_add]; exact cell_block h j
section
variable {P : Program} {w : World} {ops : Array Oper} {rest : List Oper} {o : Oper} {a : Act} {Q : Exit → Act → World → Prop}
/-- A whole struct is read out of a block that is known whole. -/
theorem wpList_load_block (hg : o.guard = none) (t : TypeId) (x : Operand) (ho : o.op = .load t x) (b : Nat) (hx : a.eval x = .pointer (some ⟨b, 0, none⟩)) (C : Array Value) (fr : Nat × Nat) (ty : TypeId)
    (hagg : ∀ w, (isAgg t).run P w = .ok true w) (hsz : ∀ w, (sizeOf t).run P w = .ok C.size w) (hb : w.heap[b]? = some (.cells C ty fr))
    (h : wpList P ops Q rest (a.put o.dst (.agg C)) w) : wpList P ops Q (o :: rest) a w :=
  wpList_load_cells hg t x ho ⟨b, 0, none⟩ hx C hagg hsz (fun j _ => add_block hb j) h
/-- A whole struct is laid into the block that was made last. -/
theorem wpList_store_last {w0 : World} {C0 : Array Value} (hg : o.guard = none) (t : TypeId) (x y : Operand) (ho : o.op = .store t x y) (hx : a.eval x = .pointer (some ⟨w0.heap.size, 0, none⟩)) (C : Array Value) (hy : a.eval y = .agg C)
    (hi : (P.info? t).map (·.size) = some C.size) (hs : C0.size = C.size) (h1 : C.all (·.oneCell') = true)
    (h : wpList P ops Q rest (a.put o.dst undef) (w0.alloc (.cells C t))) : wpList P ops Q (o :: rest) a (w0.alloc (.cells C0 t)) := by
  refine wpList_plain hg fun K hK => ?_
  unfold Oper.wp execOp
  simp only [ho, hx, hy, Sem.run_bind, Sem.run_pure, Result.andThen_ok, run_storeAt_new w0 t C0 C hi hs h1]
  exact hK _ _ h
theorem run_loadVar_block {t : TypeId} {b : Nat} {C : Array Value} {fr : Nat × Nat} {ty : TypeId} (hagg : (isAgg t).run P w = .ok true w) (hsz : (sizeOf t).run P w = .ok C.size w) (hb : w.heap[b]? = some (.cells C ty fr)) :
    (loadVar t ⟨b, 0, none⟩).run P w = .ok (.agg C) w := run_loadVar_cells ⟨b, 0, none⟩ C hagg hsz (fun j _ => add_block hb j)
end
end Go.Proofs.Ytfodgohleioflaa
