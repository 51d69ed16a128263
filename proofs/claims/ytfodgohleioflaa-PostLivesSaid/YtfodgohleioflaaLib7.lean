/-
  A whole struct is laid into a block that is known whole.
-/
import Derived.Test.YtfodgohleioflaaLib6
import Derived.Deep.MidRow
namespace Go.Proofs.Ytfodgohleioflaa
open Go

theorem heap_setCells (b : Nat) (ty : TypeId) (fr : Nat × Nat) : ∀ (vs : List Value) (o : Nat) (w : World) (C : Array Value), w.heap[b]? = some (.cells C ty fr) → ∃ C', (w.setCells b o vs).heap[b]? = some (.cells C' ty fr) ∧ C'.size = C.size
  | [], _, _, C, h => ⟨C, h, rfl⟩
  | v :: r, o, w, C, h => by
    have h1 : (w.setCell ⟨b, o, none⟩ v).heap[b]? = some (.cells (C.setIfInBounds o v) ty fr) := by
      unfold World.setCell
      simp [Array.getElem?_modify, h]
    obtain ⟨C', h2, h3⟩ := heap_setCells b ty fr r (o + 1) _ _ h1
    exact ⟨C', h2, h3.trans (by simp)⟩
theorem block_setCells {w : World} {b : Nat} {ty : TypeId} {fr : Nat × Nat} {C0 C : Array Value} (h : w.heap[b]? = some (.cells C0 ty fr)) (hs : C0.size = C.size) : (w.setCells b 0 C.toList).heap[b]? = some (.cells C ty fr) := by
  obtain ⟨C', h1, h2⟩ := heap_setCells b ty fr C.toList 0 w C0 h
  rw [h1]
  have : C' = C := by
    refine Array.ext (by omega) (fun i hi hi' => ?_)
    have hc := World.cell?_setCells_in b C.toList 0 w (fun j hj => by
      rw [Nat.zero_add, cell_block h, Array.getElem?_eq_getElem (by simp at hj; omega)]; rfl) i (by simpa using hi')
    rw [Nat.zero_add, cell_block h1, Array.getElem?_eq_getElem hi] at hc
    simpa using hc
  rw [this]
theorem Upd.setCells {F : Nat → Prop} {a : World} {b : Nat} (hb : F b ∨ a.heap.size ≤ b) : ∀ (vs : List Value) (o : Nat) (w : World), Upd F a w → Upd F a (w.setCells b o vs)
  | [], _, _, h => h
  | v :: r, o, _, h => Upd.setCells hb r (o + 1) _ (h.setCell (p := ⟨b, o, none⟩) hb v)
section
variable {P : Program} {w : World} {ops : Array Oper} {rest : List Oper} {o : Oper} {a : Act} {Q : Exit → Act → World → Prop}
theorem there_block {b : Nat} {ty : TypeId} {C0 : Array Value} {n : Nat} (h : w.heap[b]? = some (.cells C0 ty (0, 0))) (hs : C0.size = n) : w.there b 0 n := fun j hj => by
  rw [Nat.zero_add]
  refine ⟨by rw [cell_block h, Array.getElem?_eq_getElem (by omega)]; rfl, ?_⟩
  unfold World.frozen?
  rw [h]; simp
theorem wpList_store_block (hg : o.guard = none) (t : TypeId) (x y : Operand) (ho : o.op = .store t x y) (b : Nat) (hx : a.eval x = .pointer (some ⟨b, 0, none⟩)) (C : Array Value) (hy : a.eval y = .agg C)
    (hi : (P.info? t).map (·.size) = some C.size) (h1 : C.all (·.oneCell') = true) (C0 : Array Value) (ty : TypeId) (hb : w.heap[b]? = some (.cells C0 ty (0, 0))) (hs : C0.size = C.size)
    (h : ∀ w', w'.heap[b]? = some (.cells C ty (0, 0)) → Upd (fun k => k = b) w w' → wpList P ops Q rest (a.put o.dst undef) w') : wpList P ops Q (o :: rest) a w :=
  wpList_store_mid hg t x y ho b 0 C hx hy (there_block hb hs) hi h1 (h _ (block_setCells hb hs) (Upd.setCells (F := fun k => k = b) (Or.inl rfl) _ _ _ (Upd.refl _ _)))
end
end Go.Proofs.Ytfodgohleioflaa
