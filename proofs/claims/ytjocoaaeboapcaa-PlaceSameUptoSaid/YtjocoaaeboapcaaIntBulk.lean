/-
  What the bound on bulk gives of a slice of ints.
-/
import Derived.Test.YtjocoaaeboapcaaRows
import Derived.Test.YtjocoaaeboapcaaIntRead
namespace Go.Proofs.Ytjocoaaeboapcaa
open Go Go.RowKit Go.ChangeShapes Go.WideShapes Go.Deep

section
variable {H : Type} {enc : TypeId × Value → H} {w : World} {base : Nat} {spare : Nat → Bool} {held : Bool}

theorem ints_read2 {fuel : Nat} {cs : List Value} {x : DataW H × List MemPlace} (h : DataW.trod enc Try.prog w base spare held fuel 23 cs = some x) (hz : ∀ n ∈ DataW.weights Try.prog 23 x.1, n ≤ reachBytes) :
    ∃ v l, cs = [v] ∧ Ints w v l ∧ (l = [] ∨ ∃ es sp, x.1 = .slice es sp ∧ es.length = l.length) := by
  rcases open_ints Try.underlying23 Try.underlying3 (by kernel_rfl) h with ⟨rfl, rfl⟩ | ⟨a, len, cap, zs, rfl, hb, hl, hm, hlen, rfl, hc, hwf⟩
  · exact ⟨_, [], rfl, Ints.nil w, .inl rfl⟩
  · have hle : len ≤ zs.length := by split at hlen <;> omega
    have hz' : len * 8 ≤ reachBytes := by
      have := hz ((len + (zs.length - len)) * 8) (by
        simp only [DataW.weights, Try.underlying23]
        have hb8 : Try.prog.bytesOf 3 = 8 := by kernel_rfl
        rw [hb8]
        refine List.mem_cons.2 (Or.inl ?_)
        simp [ChangeShapes.lits]
        omega)
      omega
    refine ⟨_, zs.take len, rfl, ?_, .inr ⟨_, _, rfl, by simp [ChangeShapes.lits]⟩⟩
    have hlt : (zs.take len).length = len := by simp; omega
    by_cases h0 : len = 0
    · subst h0
      rw [List.take_zero]; exact Ints.empty w a cap
    · have hs := add_none (hc 0 (by omega))
      have := Ints.mk (w := w) (b := a.block) (o := a.off) (cap := cap) (l := zs.take len) (by omega) (by unfold reachBytes at hz'; omega) (fun j hj => by
        have h1 := hc j (by omega)
        rw [add_lit' hs] at h1
        rw [h1]
        congr 2
        rw [List.getD_eq_getElem?_getD, List.getD_eq_getElem?_getD, List.getElem?_take, if_pos (by omega)])
      rw [hlt] at this
      have e : a = ⟨a.block, a.off, none⟩ := by cases a; simp_all
      rw [e]; exact this

end
theorem bulk_one {H : Type} (d : DataW H) : 1 ≤ Rows.uptoBulk d := by
  cases d with
  | lit l => cases l <;> simp [Rows.uptoBulk]
  | nil => simp [Rows.uptoBulk]
  | ptr d => simp [Rows.uptoBulk]
  | slice elems spare => simp [Rows.uptoBulk]
  | agg parts => simp [Rows.uptoBulk]
  | iface t d => simp [Rows.uptoBulk]
  | map entries => simp [Rows.uptoBulk]
  | held h => simp [Rows.uptoBulk]
theorem bulk_part {H : Type} {d : DataW H} : ∀ {l : List (DataW H)}, d ∈ l → Rows.uptoBulk d ≤ Rows.uptoBulkAll l
  | x :: r, h => by
    simp only [Rows.uptoBulkAll]
    rcases List.mem_cons.1 h with e | e
    · subst e; omega
    · have := bulk_part e; omega
theorem bulk_length {H : Type} : ∀ (l : List (DataW H)), l.length ≤ Rows.uptoBulkAll l
  | [] => by simp [Rows.uptoBulkAll]
  | x :: r => by have := bulk_one x; have := bulk_length r; simp only [Rows.uptoBulkAll, List.length_cons]; omega
theorem bulk_slice {H : Type} {es sp : List (DataW H)} {n : Nat} {l : List (DataW H)} (hk : Rows.uptoSmall H l = true) (hm : DataW.slice es sp ∈ l) (hn : es.length = n) : n ≤ 1048576 := by
  have h1 : Rows.uptoBulkAll l ≤ 1048576 := of_decide_eq_true hk
  have h2 := bulk_part hm
  have h3 := bulk_length es
  simp only [Rows.uptoBulk] at h2
  omega
end Go.Proofs.Ytjocoaaeboapcaa
