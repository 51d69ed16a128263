/-
  place.line: the members as a heap turned by a seed.
-/
import Derived.Test.YtjocoaaeboapcaaPlace2
import Derived.Lib.SlKeysI
namespace Go.Proofs.Ytjocoaaeboapcaa
open Go Go.RowKit Go.MapKept Go.ChangeMaps Go.Sort Go.Shelf Go.Lib Heap

theorem Upd.ahead {F : Nat → Prop} {a w : World} (h : Upd F a w) (n : Nat) : Upd F a (Sort.ahead w n) := ⟨h.os, h.tape, h.output, h.size, h.block⟩
theorem Upd.putRow {F : Nat → Prop} {a w : World} (h : Upd F a w) {g : Nat} (hg : F g ∨ a.heap.size ≤ g) (enc : Int → Value) (off : Nat) (d : Array Int) : Upd F a (Go.Sort.putRow enc w g off d) := by
  refine ⟨h.os, h.tape, h.output, by rw [size_putRow]; exact h.size, fun k hk hF => ?_⟩
  have hne : g ≠ k := by
    rintro rfl
    rcases hg with hg | hg
    · exact hF hg
    · omega
  have : (Go.Sort.putRow enc w g off d).heap[k]? = w.heap[k]? := by
    simp [Go.Sort.putRow, mapBlock, Array.getElem?_modify, hne]
  rw [this]
  exact h.block k hk hF
theorem Upd.grow {F : Nat → Prop} {a w : World} (h : Upd F a w) (os : Array Obj) : Upd F a (Go.Sort.grow w os) := by
  refine ⟨h.os, h.tape, h.output, Nat.le_trans h.size (by simp), fun k hk hF => ?_⟩
  rw [heap_grow_old _ _ (Nat.lt_of_lt_of_le hk h.size)]
  exact h.block k hk hF
/-- Ints of the call's own. -/
def Hold (n0 : Nat) (w : World) (a : Option Addr) (cap : Nat) (l : List Int) : Prop :=
  l = [] ∨ ∃ g, a = some ⟨g, 0, none⟩ ∧ n0 ≤ g ∧ g < w.heap.size ∧ l.length ≤ cap ∧ Holds (Value.int .i64) w g 0 l.toArray
theorem Hold.nil (n0 : Nat) (w : World) (a : Option Addr) (cap : Nat) : Hold n0 w a cap [] := .inl rfl
structure HoldPost (n0 : Nat) (w : World) (l : List Int) (a : Option Addr) (cap : Nat) (w' : World) : Prop where
  h : Hold n0 w' a cap l
  u : Upd (fun k => n0 ≤ k) w w'
def CloneP (w : World) (l : List Int) (e : Ending) (w' : World) : Prop := ∃ a cap, e = .returned (.slice a l.length cap) ∧ HoldPost w.heap.size w l a cap w'
theorem clone_any (w : World) (v : Value) (l : List Int) (hv : Ints w v l) : Calls Try.prog 8 #[v] w (CloneP w l) := by
  rcases hv.cells with ⟨rfl, a, c, rfl, hac⟩ | ⟨b, o, cap, rfl, hl, hc⟩
  · cases a with
    | none =>
      refine (Try.slices_Clone_int_nil 0 c w).mono ?_
      rintro e w' ⟨rfl, rfl⟩
      exact ⟨none, 0, rfl, .inl rfl, Upd.refl _ _⟩
    | some a =>
      refine (Try.slices_Clone_int_zero a c w).mono ?_
      rintro e w' ⟨v', rfl, ho, _, hb⟩
      rcases ho.2 with ⟨rfl, _⟩ | ⟨g, cap, cur, rfl, _⟩
      · exact ⟨none, 0, rfl, .inl rfl, (Upd.of_below hb).mono (fun _ _ h => h.elim)⟩
      · exact ⟨_, _, rfl, .inl rfl, (Upd.of_below hb).mono (fun _ _ h => h.elim)⟩
  · refine (Try.slices_Clone_int b o l.length cap l w (Nat.le_refl _) hv.2 hc).mono ?_
    rintro e w' ⟨v', rfl, ho, _, hb⟩
    rw [List.take_length] at ho
    rcases ho.2 with ⟨rfl, h0⟩ | ⟨g, cap', cur, rfl, hg, hh, hn, hm, hs, ht⟩
    · rw [List.eq_nil_of_length_eq_zero h0]
      exact ⟨none, 0, rfl, .inl rfl, (Upd.of_below hb).mono (fun _ _ h => h.elim)⟩
    · exact ⟨_, _, rfl, .inr ⟨g, rfl, hg, (Array.getElem?_eq_some_iff.1 hh).1, hn, holds_of_block_i hh (by simpa using ht)⟩, (Upd.of_below hb).mono (fun _ _ h => h.elim)⟩
/-- What a row holds behind a writing. -/
theorem holds_putRow {w : World} {g q : Nat} {l l' : List Int} {z : Nat} (hH : Holds (Value.int .i64) w g 0 l.toArray) (hz : l'.length + z = l.length) : Holds (Value.int .i64) (Go.Sort.putRow (Value.int .i64) (Sort.ahead w q) g 0 (l' ++ List.replicate z 0).toArray) g 0 l'.toArray := fun j hj => by
  have hj' : j < l'.length := by simpa using hj
  have hH' : Holds (Value.int .i64) (Sort.ahead w q) g 0 l.toArray := hH
  have h1 := cell?_putRow (Value.int .i64) (Sort.ahead w q) g 0 l.toArray (l' ++ List.replicate z 0).toArray hH' (by simp; omega) j (by simp; omega)
  refine ⟨?_, ?_⟩
  · rw [h1]
    congr 2
    rw [List.getElem!_toArray, List.getElem!_toArray, List.getElem!_eq_getElem?_getD, List.getElem!_eq_getElem?_getD, List.getElem?_append_left hj']
  · have h2 := (hH j (by simp; omega)).2
    rw [frozen?_putRow]
    exact h2
theorem off_gives (x : Int) (W : World) : FnGives Try.prog 22 #[] #[.int .i64 x] (.bool (off x)) W := by
  show Calls Try.prog 22 #[.int .i64 x] W _
  unfold off
  by_cases h1 : x < 0
  · rw [decide_eq_true (Or.inl h1)]
    go_enter Try.func22, Try.ntmps22
    go_wp2
    go_ret
    exact ⟨rfl, 0, rfl⟩
  · by_cases h2 : 16 ≤ x
    · rw [decide_eq_true (Or.inr h2)]
      go_enter Try.func22, Try.ntmps22
      go_wp2
      go_ret
      exact ⟨rfl, 0, rfl⟩
    · rw [decide_eq_false (by omega)]
      go_enter Try.func22, Try.ntmps22
      go_wp2
      go_ret
      exact ⟨rfl, 0, rfl⟩
def RetP (n0 : Nat) (w : World) (l : List Int) (a : Option Addr) (cap : Nat) (e : Ending) (w' : World) : Prop := e = .returned (.slice a l.length cap) ∧ HoldPost n0 w l a cap w'
theorem delete_any (n0 : Nat) (w : World) (a : Option Addr) (cap : Nat) (l : List Int) (h : Hold n0 w a cap l) (hl : l.length ≤ 9223372036854775807) :
    Calls Try.prog 21 #[.slice a l.length cap, .func (.func 22) #[] #[]] w (RetP n0 w (kept l) a cap) := by
  rcases h with rfl | ⟨g, rfl, hg, hgl, hcap, hH⟩
  · go_enter Try.func21, Try.ntmps21
    go_wp2_with (go_at_call 27; refine (Try.slices_IndexFunc_empty (α := Int) _ _ _ _).mono ?_; rintro e w' ⟨rfl, rfl⟩)
    go_ret
    exact ⟨rfl, .inl rfl, Upd.refl _ _⟩
  · have := Try.slices_DeleteFunc (Value.int .i64) (fun _ => rfl) off 22 #[] (enters_of Try.func22 (by kernel_rfl) rfl) 0 (fun _ => by kernel_rfl) g 0 cap l.toArray w
      (fun W x _ => off_gives x W) (fun n os dk x _ => off_gives x _) hH (by simpa using hl) (by simpa using hcap)
    rw [List.size_toArray] at this
    refine this.mono ?_
    rintro e w' ⟨rfl, q, rfl⟩
    have hle : (kept l).length ≤ l.length := List.length_filter_le _ _
    refine ⟨rfl, .inr ⟨g, rfl, hg, by rw [size_putRow]; exact hgl, Nat.le_trans hle hcap, ?_⟩, ((Upd.refl _ _).ahead _).putRow (by exact Or.inl hg) _ _ _⟩
    exact holds_putRow hH (by show (kept l).length + (l.length - (kept l).length) = _; omega)
theorem sort_any (n0 : Nat) (w : World) (a : Option Addr) (cap : Nat) (l : List Int) (h : Hold n0 w a cap l) (hl : l.length < 4611686018427387904) :
    Calls Try.prog 23 #[.slice a l.length cap] w (fun e w' => e = .returned (.tuple #[]) ∧ HoldPost n0 w (rising l) a cap w') := by
  rcases h with rfl | ⟨g, rfl, hg, hgl, hcap, hH⟩
  · refine (Try.slices_Sort_int_none a cap w).mono ?_
    rintro e w' ⟨rfl, rfl⟩
    exact ⟨rfl, .inl (by simp [rising]), Upd.refl _ _⟩
  · refine (Try.slices_Sort_int g 0 cap l w hH hgl hl).mono ?_
    rintro e w' ⟨rfl, n, os, rfl⟩
    have hlen : (rising l).length = l.length := List.length_mergeSort _
    refine ⟨rfl, .inr ⟨g, rfl, hg, ?_, by rw [hlen]; exact hcap, ?_⟩, (((Upd.refl _ _).ahead _).putRow (by exact Or.inl hg) _ _ _).grow _⟩
    · have : (Go.Sort.putRow (Value.int .i64) (Sort.ahead w n) g 0 (l.mergeSort fun x y => decide (x ≤ y)).toArray).heap.size = w.heap.size := by rw [size_putRow]; rfl
      simp; omega
    · have h1 := holds_putRow (q := n) (l' := rising l) (z := 0) hH (by omega)
      rw [List.replicate_zero, List.append_nil] at h1
      intro j hj
      obtain ⟨k1, k2⟩ := h1 j hj
      have hlt := World.block_lt_of_cell? _ _ k1
      exact ⟨(cell?_grow _ _ _ hlt).trans k1, (frozen?_grow _ _ _ hlt).trans k2⟩
theorem compact_any (n0 : Nat) (w : World) (a : Option Addr) (cap : Nat) (l : List Int) (h : Hold n0 w a cap l) (hl : l.length ≤ 9223372036854775807) :
    Calls Try.prog 24 #[.slice a l.length cap] w (RetP n0 w (Lib.compact l) a cap) := by
  rcases h with rfl | ⟨g, rfl, hg, hgl, hcap, hH⟩
  · refine (Try.slices_Compact_int_empty a cap w).mono ?_
    rintro e w' ⟨rfl, rfl⟩
    have : Lib.compact ([] : List Int) = [] := by rfl
    exact ⟨by rw [this]; rfl, .inl this, Upd.refl _ _⟩
  · refine (Try.slices_Compact_int g 0 cap l w hH hl hcap).mono ?_
    rintro e w' ⟨rfl, q, rfl⟩
    have hle := compact_length_le l
    exact ⟨rfl, .inr ⟨g, rfl, hg, by rw [size_putRow]; exact hgl, Nat.le_trans hle hcap, holds_putRow hH (by omega)⟩, ((Upd.refl _ _).ahead _).putRow (by exact Or.inl hg) _ _ _⟩
end Go.Proofs.Ytjocoaaeboapcaa
