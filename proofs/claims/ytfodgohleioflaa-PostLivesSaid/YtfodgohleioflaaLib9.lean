/-
  append of any slice to a slice that the call owns, in one law.
-/
import Derived.Test.YtfodgohleioflaaPostPack
import Derived.Laws.AppendOwnNone
namespace Go.Proofs.Ytfodgohleioflaa
open Go Go.RowKit
set_option linter.unusedVariables false

theorem wpList_append_row {P : Program} {w : World} {ops : Array Oper} {rest : List Oper} {o : Oper} {a : Act} {Q : Exit → Act → World → Prop} (hgd : o.guard = none) (s x : Operand) (t : TypeId)
    (ho : o.op = .call { callee := .builtin .append, args := #[s, x], argTypes := #[t, t] })
    (base : Nat) (e : TypeId) (i : TypeInfo) (z : Value) (size bytes : Nat) (ht : P.underlying t = some (.slice e)) (hi : P.info? e = some i) (hz : i.zero = some z)
    (hsize : i.size = size) (hby : i.bytes = bytes) (hzs : z.cells.size = size) (hsz : 0 < size)
    (v : Value) (n : Nat) (xs : List Value) (hs : a.eval s = v) (hown : w.ownsRow base e size v n xs)
    (v2 : Value) (rows : List (List Value)) (hx : a.eval x = v2) (hr : Row w v2 size rows) (h1 : ∀ r ∈ rows, ∀ u ∈ r, u.oneCell' = true)
    (h63 : n + rows.length ≤ maxLen) (hbytes : (n + rows.length) * bytes ≤ 140737488355328) (hbase : base ≤ w.heap.size)
    (h : ∀ v' w', w'.ownsRow base e size v' (n + rows.length) (xs ++ rows.flatten) → Upd (fun b => some b = v.ownBlock) w w' → wpList P ops Q rest (a.put o.dst v') w') : wpList P ops Q (o :: rest) a w := by
  rcases hr with ⟨rfl, p, c, rfl, hac⟩ | ⟨b, o', cap, rfl, _, hk, hc⟩
  · cases p with
    | none =>
      obtain rfl := hac rfl
      exact wpList_append_own_none hgd s x t ho base e i size ht hi v n xs hs hown hx (h v w (by simpa using hown) (Upd.refl _ _))
    | some p =>
      exact wpList_append_own w hgd s x t ho base e i z size bytes ht hi hz hsize hby hzs hsz v n xs hs hown p 0 c [] hx (by simp) (by intro j u hj; simp at hj) (by intro u hu; cases hu) h63 hbytes hbase
        (fun v' w' h2 h3 _ => h v' w' h2 (Upd.of_grown h3))
  · refine wpList_append_own w hgd s x t ho base e i z size bytes ht hi hz hsize hby hzs hsz v n xs hs hown ⟨b, o', none⟩ rows.length cap rows.flatten hx (flatten_length rows hk) (fun j u hu => ?_) (fun u hu => ?_) h63 hbytes hbase
        (fun v' w' h2 h3 _ => h v' w' h2 (Upd.of_grown h3))
    · have hj : j < rows.length * size := by
        have := (List.getElem?_eq_some_iff.1 hu).1
        rwa [flatten_length rows hk] at this
      rw [flatten_at hsz rows hk j hj] at hu
      have hi' : j / size < rows.length := Nat.div_lt_of_lt_mul (by rw [Nat.mul_comm]; exact hj)
      have := hc (j / size) (j % size) hi' (Nat.mod_lt j hsz)
      rw [hu, Nat.add_assoc, Nat.mul_comm, Nat.div_add_mod] at this
      rw [add_lit0]
      exact this
    · obtain ⟨r, hr, hur⟩ := List.mem_flatten.1 hu
      exact h1 r hr u hur
end Go.Proofs.Ytfodgohleioflaa
