/-
  Contracts of the library's functions at this seat's numbers: slices.Clone at []int in one statement.
-/
import Derived.Test.YtlichkheakjkhaaProg
import Derived.Test.YtlichkheakjkhaaLib2
import Derived.Test.YtlichkheakjkhaaShelf
namespace Go.Proofs.Ytlichkheakjkhaa
open Go Go.RowKit

def CloneInts (w : World) (v : Value) (l : List Int) (e : Ending) (w' : World) : Prop :=
  ∃ v', e = .returned v' ∧ Ints w' v' l ∧ Fresh w.heap.size v' ∧ (v = .slice none 0 0 → v' = .slice none 0 0) ∧ Upd (fun _ => False) w w'
theorem clone_ints (v : Value) (l : List Int) (w : World) (h : Ints w v l) : Calls Try.prog 45 #[v] w (CloneInts w v l) := by
  have hb := h.2
  rcases h.cells with ⟨rfl, a, c, rfl, hac⟩ | ⟨b, o, cap, rfl, hl, hc⟩
  · cases a with
    | none => exact (Try.slices_Clone_int_nil 0 c w).mono fun e w' ⟨he, hw⟩ => ⟨_, he, Ints.nil _, (by intro b o n c hv; cases hv), fun _ => rfl, by rw [hw]; exact Upd.refl _ _⟩
    | some a => exact (Try.slices_Clone_int_zero a c w).mono fun e w' ⟨v', he, ho, hn, hw⟩ => ⟨v', he, Ints.of_owns (l := []) (by simp) ho, Fresh.of_owns ho, (by intro hv; cases hv), Upd.of_below hw⟩
  · exact (Try.slices_Clone_int b o l.length cap l w (Nat.le_refl _) hb hc).mono fun e w' ⟨v', he, ho, hn, hw⟩ => by
      rw [List.take_length] at ho
      exact ⟨v', he, Ints.of_owns hb ho, Fresh.of_owns ho, (by intro hv; cases hv), Upd.of_below hw⟩
end Go.Proofs.Ytlichkheakjkhaa
