/-
  How slices of ints that come in are read: out of the reader's words into ours.
-/
import Derived.Test.YtjocoaaeboapcaaProg
import Derived.Test.YtjocoaaeboapcaaLib2
import Derived.ProofKit
import Derived.OpenShut
import Derived.Deep.Slices
import Derived.ChangeArms
namespace Go.Proofs.Ytjocoaaeboapcaa
open Go Go.RowKit Go.ChangeShapes Go.WideShapes Go.Deep

theorem exists_list {α : Type} [Inhabited α] {p : Nat → α → Prop} : ∀ (n : Nat), (∀ i, i < n → ∃ x, p i x) → ∃ l : List α, l.length = n ∧ ∀ i, i < n → p i (l.getD i default)
  | 0, _ => ⟨[], rfl, fun i h => absurd h (Nat.not_lt_zero i)⟩
  | n + 1, h => by
    obtain ⟨l, hl, hp⟩ := exists_list n (fun i hi => h i (by omega))
    obtain ⟨x, hx⟩ := h n (by omega)
    refine ⟨l ++ [x], by simp [hl], fun i hi => ?_⟩
    rw [List.getD_eq_getElem?_getD]
    by_cases e : i < n
    · rw [List.getElem?_append_left (by omega), ← List.getD_eq_getElem?_getD]; exact hp i e
    · obtain rfl : i = n := by omega
      rw [List.getElem?_append_right (by omega), hl]; simpa using hx

section
variable {H : Type} {enc : TypeId × Value → H} {w : World} {base : Nat} {spare : Nat → Bool} {held : Bool}

theorem add_none {a : Addr} {v : Value} (h : w.cell? (a.add 0) = some v) : a.spot = none := by
  unfold World.cell? at h
  simp only [Addr.add_zero'] at h
  split at h
  · cases hs : a.spot with
    | none => rfl
    | some _ => rw [hs] at h; simp at h
  · cases h
theorem add_lit' {a : Addr} (h : a.spot = none) (n : Nat) : a.add n = ⟨a.block, a.off + n, none⟩ := by
  cases n with
  | zero => rw [Addr.add_zero']; cases a; simp_all
  | succ n => rw [Addr.add_succ']

theorem ints_read {fuel : Nat} {cs : List Value} {x : DataW H × List MemPlace} (h : DataW.trod enc Try.prog w base spare held fuel 23 cs = some x) (hz : ∀ n ∈ DataW.weights Try.prog 23 x.1, n ≤ reachBytes) :
    ∃ v l, cs = [v] ∧ Ints w v l ∧ ∀ y ∈ l, (Lit.int .i64 y).wf = true := by
  rcases open_ints Try.underlying23 Try.underlying3 (by kernel_rfl) h with ⟨rfl, rfl⟩ | ⟨a, len, cap, zs, rfl, hb, hl, hm, hlen, rfl, hc, hwf⟩
  · exact ⟨_, [], rfl, Ints.nil w, by simp⟩
  · have hle : len ≤ zs.length := by split at hlen <;> omega
    have hz' : len * 8 ≤ reachBytes := by
      have := hz ((len + (zs.length - len)) * 8) (by
        simp only [DataW.weights, Try.underlying23]
        have hb8 : Try.prog.bytesOf 3 = 8 := by kernel_rfl
        rw [hb8]
        refine List.mem_cons.2 (Or.inl ?_)
        simp [ChangeShapes.lits]
        omega)
      omega
    refine ⟨_, zs.take len, rfl, ?_, fun y hy => hwf y (List.mem_of_mem_take hy)⟩
    have hlt : (zs.take len).length = len := by simp; omega
    by_cases h0 : len = 0
    · subst h0
      rw [List.take_zero]; exact Ints.empty w a cap
    · have hs := add_none (hc 0 (by omega))
      have := Ints.mk (w := w) (b := a.block) (o := a.off) (cap := cap) (l := zs.take len) (by omega) (by unfold reachBytes at hz'; omega) (fun j hj => by
        have h1 := hc j (by omega)
        rw [add_lit' hs] at h1
        rw [h1]
        congr 2
        rw [List.getD_eq_getElem?_getD, List.getD_eq_getElem?_getD, List.getElem?_take, if_pos (by omega)])
      rw [hlt] at this
      have e : a = ⟨a.block, a.off, none⟩ := by cases a; simp_all
      rw [e]; exact this

end
end Go.Proofs.Ytjocoaaeboapcaa
