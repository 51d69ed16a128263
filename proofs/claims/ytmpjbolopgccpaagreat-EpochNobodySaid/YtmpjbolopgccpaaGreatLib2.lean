/-
  Slices as lists of rows of cells (Row), and how that stays.
-/
import Derived.Test.YtmpjbolopgccpaaGreatLib1
import Derived.Laws.AppendOwn
import Derived.OwnWalk
set_option linter.unusedVariables false
namespace Go.Proofs.YtmpjbolopgccpaaGreat
open Go

/-- v is a slice whose elements are the rows, each of k cells. -/
def Row (w : World) (v : Value) (k : Nat) (rows : List (List Value)) : Prop :=
  (rows = [] ∧ ∃ a c, v = .slice a 0 c ∧ (a = none → c = 0)) ∨
  ∃ b o cap, v = .slice (some ⟨b, o, none⟩) rows.length cap ∧ rows.length ≤ cap ∧ (∀ r ∈ rows, r.length = k) ∧
    ∀ i j, i < rows.length → j < k → w.cell? ⟨b, o + i * k + j, none⟩ = (rows.getD i [])[j]?

theorem Row.same {w w' : World} {v : Value} {k : Nat} {rows : List (List Value)} (h : Row w v k rows) (hw : ∀ b o n c, v = .slice (some ⟨b, o, none⟩) n c → w.im b = none → b < w.heap.size → w'.heap[b]? = w.heap[b]?) : Row w' v k rows := by
  rcases h with h | ⟨b, o, cap, hv, hl, hk, hc⟩
  · exact .inl h
  · refine .inr ⟨b, o, cap, hv, hl, hk, fun i j hi hj => ?_⟩
    have h0 := hc i j hi hj
    rw [← h0]
    have hr : rows.getD i [] ∈ rows := by rw [List.getD_eq_getElem?_getD, List.getElem?_eq_getElem hi]; exact List.getElem_mem hi
    have hj' : j < (rows.getD i []).length := by rw [hk _ hr]; exact hj
    rw [List.getElem?_eq_getElem hj'] at h0
    exact World.cell?_of_block (w := w) (hw b o _ cap hv (cell_im h0) (World.block_lt_of_cell? _ _ h0))
theorem Row.upd {F : Nat → Prop} {w w' : World} {v : Value} {k : Nat} {rows : List (List Value)} (h : Row w v k rows) (u : Upd F w w') (hF : ∀ b o n c, v = .slice (some ⟨b, o, none⟩) n c → w.im b = none → ¬ F b) : Row w' v k rows :=
  h.same fun b o n c hv hi hb => u.block b hb (hF b o n c hv hi)
theorem Row.nil (w : World) (k : Nat) : Row w (.slice none 0 0) k [] := .inl ⟨rfl, _, _, rfl, fun _ => rfl⟩
theorem Row.empty (w : World) (k : Nat) (a : Addr) (c : Nat) : Row w (.slice (some a) 0 c) k [] := .inl ⟨rfl, _, _, rfl, fun h => by cases h⟩
theorem Row.length {w : World} {v : Value} {k : Nat} {rows : List (List Value)} (h : Row w v k rows) : ∃ a c, v = .slice a rows.length c := by
  rcases h with ⟨rfl, a, c, hv, _⟩ | ⟨b, o, cap, hv, _⟩
  · exact ⟨_, _, hv⟩
  · exact ⟨_, _, hv⟩

/-- A store into a block that is not the slice's own leaves it. -/
theorem Row.setCell {w : World} {v : Value} {k : Nat} {rows : List (List Value)} (h : Row w v k rows) (a : Addr) (u : Value) (ha : ∀ b o n c, v = .slice (some ⟨b, o, none⟩) n c → b ≠ a.block) : Row (w.setCell a u) v k rows :=
  h.same fun b o n c hv _ _ => RowKit.Below.heap_setCell _ _ _ _ (ha b o n c hv)

/-- What the call owns reads so. -/
theorem chunk_get {xs : List Value} {k n i j : Nat} (_hlen : xs.length = n * k) (_hi : i < n) (hj : j < k) : ((xs.drop (i * k)).take k)[j]? = xs[i * k + j]? := by
  rw [List.getElem?_take, if_pos hj, List.getElem?_drop]
def chunks (k : Nat) (xs : List Value) (n : Nat) : List (List Value) := (List.range n).map fun i => (xs.drop (i * k)).take k
theorem Row.of_owns {w : World} {base : Nat} {e : TypeId} {k : Nat} {v : Value} {n : Nat} {xs : List Value} (h : w.ownsRow base e k v n xs) : Row w v k (chunks k xs n) := by
  obtain ⟨hlen, ⟨rfl, rfl⟩ | ⟨g, cap, cur, rfl, hg, hh, hn, hm, hs, ht⟩⟩ := h
  · exact .inl ⟨rfl, _, _, rfl, fun _ => rfl⟩
  · have hl : (chunks k xs n).length = n := by simp [chunks]
    refine .inr ⟨g, 0, cap, by rw [hl], by rw [hl]; exact hn, ?_, ?_⟩
    · intro r hr
      obtain ⟨i, hi, rfl⟩ := List.mem_map.1 hr
      have hi' := List.mem_range.1 hi
      have : (i + 1) * k ≤ n * k := Nat.mul_le_mul_right k hi'
      rw [Nat.succ_mul] at this
      simp only [List.length_take, List.length_drop]
      omega
    · intro i j hi hj
      rw [hl] at hi
      have : (i + 1) * k ≤ n * k := Nat.mul_le_mul_right k hi
      rw [Nat.succ_mul] at this
      have e1 : (chunks k xs n).getD i [] = (xs.drop (i * k)).take k := by
        rw [List.getD_eq_getElem?_getD]
        unfold chunks
        rw [List.getElem?_map, List.getElem?_range hi]; rfl
      rw [e1, chunk_get hlen hi hj, ← ht, List.getElem?_take, if_pos (by omega)]
      unfold World.cell?
      rw [hh]
      simp

/-- A slice of ints. -/
def Ints (w : World) (v : Value) (l : List Int) : Prop := Row w v 1 (l.map fun x => [.int .i64 x]) ∧ l.length * 8 ≤ 140737488355328
theorem Ints.cells {w : World} {v : Value} {l : List Int} (h : Ints w v l) : (l = [] ∧ ∃ a c, v = .slice a 0 c ∧ (a = none → c = 0)) ∨
    ∃ b o cap, v = .slice (some ⟨b, o, none⟩) l.length cap ∧ l.length ≤ cap ∧ ∀ j, j < l.length → w.cell? ⟨b, o + j, none⟩ = some (.int .i64 (l.getD j 0)) := by
  rcases h.1 with ⟨h1, h2⟩ | ⟨b, o, cap, hv, hl, _, hc⟩
  · exact .inl ⟨by simpa using h1, h2⟩
  · refine .inr ⟨b, o, cap, by simpa using hv, by simpa using hl, fun j hj => ?_⟩
    have := hc j 0 (by simpa using hj) (by omega)
    simp only [Nat.mul_one, Nat.add_zero] at this
    rw [this, List.getD_eq_getElem?_getD, List.getElem?_map, List.getD_eq_getElem?_getD, List.getElem?_eq_getElem hj]
    rfl
theorem Ints.shape {w : World} {v : Value} {l : List Int} (h : Ints w v l) : ∃ a c, v = .slice a l.length c := by
  obtain ⟨a, c, hv⟩ := h.1.length
  exact ⟨a, c, by simpa using hv⟩
theorem Ints.mk {w : World} {b o cap : Nat} {l : List Int} (hl : l.length ≤ cap) (hb : l.length * 8 ≤ 140737488355328) (hc : ∀ j, j < l.length → w.cell? ⟨b, o + j, none⟩ = some (.int .i64 (l.getD j 0))) : Ints w (.slice (some ⟨b, o, none⟩) l.length cap) l := by
  refine ⟨.inr ⟨b, o, cap, by simp, by simpa using hl, by simp, fun i j hi hj => ?_⟩, hb⟩
  obtain rfl : j = 0 := by omega
  have hi' : i < l.length := by simpa using hi
  simp only [Nat.mul_one, Nat.add_zero]
  rw [hc i hi', List.getD_eq_getElem?_getD, List.getD_eq_getElem?_getD, List.getElem?_map, List.getElem?_eq_getElem hi']
  rfl
theorem Ints.empty (w : World) (a : Addr) (c : Nat) : Ints w (.slice (some a) 0 c) [] := ⟨Row.empty w 1 a c, by simp⟩
theorem Ints.nil (w : World) : Ints w (.slice none 0 0) [] := ⟨Row.nil w 1, by simp⟩
theorem Ints.upd {F : Nat → Prop} {w w' : World} {v : Value} {l : List Int} (h : Ints w v l) (u : Upd F w w') (hF : ∀ b o n c, v = .slice (some ⟨b, o, none⟩) n c → w.im b = none → ¬ F b) : Ints w' v l := ⟨h.1.upd u hF, h.2⟩
theorem Ints.setCell {w : World} {v : Value} {l : List Int} (h : Ints w v l) (a : Addr) (u : Value) (ha : ∀ b o n c, v = .slice (some ⟨b, o, none⟩) n c → b ≠ a.block) : Ints (w.setCell a u) v l := ⟨h.1.setCell a u ha, h.2⟩
theorem Row.mput {w : World} {v : Value} {k : Nat} {rows : List (List Value)} (h : Row w v k rows) (b : Nat) (key u : Value) : Row (w.mput b key u) v k rows := by
  rcases h with h | ⟨b', o, cap, hv, hl, hk, hc⟩
  · exact .inl h
  · exact .inr ⟨b', o, cap, hv, hl, hk, fun i j hi hj => by rw [cell_mput]; exact hc i j hi hj⟩
theorem Row.drew {w : World} {v : Value} {k : Nat} {rows : List (List Value)} (h : Row w v k rows) : Row w.drew v k rows := h
theorem Row.drewN {w : World} {v : Value} {k : Nat} {rows : List (List Value)} (h : Row w v k rows) (n : Nat) : Row (w.drewN n) v k rows := h
theorem Ints.mput {w : World} {v : Value} {l : List Int} (h : Ints w v l) (b : Nat) (key u : Value) : Ints (w.mput b key u) v l := ⟨h.1.mput b key u, h.2⟩
/-- Where only maps and new blocks have turned. -/
theorem Ints.updM {F : Nat → Prop} {w w' : World} {v : Value} {l : List Int} (h : Ints w v l) (u : Upd F w w') (hF : ∀ k, F k → (w.im k).isSome = true) : Ints w' v l :=
  h.upd u fun b _ _ _ _ hi hb => by have := hF b hb; rw [hi] at this; cases this
theorem Ints.old {w w' : World} {v : Value} {l : List Int} (h : Ints w v l) (u : Upd (fun _ => False) w w') : Ints w' v l := h.upd u fun _ _ _ _ _ _ h => h
theorem Ints.of_owns {w : World} {base : Nat} {e : TypeId} {v : Value} {l : List Int} (hb : l.length * 8 ≤ 140737488355328) (h : w.ownsRow base e 1 v l.length (l.map (.int .i64))) : Ints w v l := by
  refine ⟨?_, hb⟩
  have h1 := Row.of_owns h
  have : chunks 1 (l.map (.int .i64)) l.length = l.map fun x => [Value.int .i64 x] := by
    apply List.ext_getElem?
    intro i
    unfold chunks
    rw [List.getElem?_map, List.getElem?_map]
    by_cases hi : i < l.length
    · rw [List.getElem?_range hi, List.getElem?_eq_getElem hi]
      simp only [Option.map_some, Nat.mul_one]
      rw [List.drop_eq_getElem_cons (by simpa using hi)]
      simp
    · rw [List.getElem?_eq_none (by simpa using hi), List.getElem?_eq_none (by omega)]; rfl
  rw [this] at h1
  exact h1
theorem Upd.of_below {w w' : World} (h : RowKit.Below w.heap.size w w') : Upd (fun _ => False) w w' := ⟨h.os, h.tape, h.output, h.size, fun k hk _ => h.block k hk⟩
theorem Upd.below {F : Nat → Prop} {w w' : World} (h : Upd F w w') {B : Nat} (hB : B ≤ w.heap.size) (hF : ∀ k, k < B → ¬ F k) : RowKit.Below B w w' := ⟨h.os, h.tape, h.output, h.size, fun k hk => h.block k (by omega) (hF k hk)⟩
/-- v's own block, if it has one, is new. -/
def Fresh (B : Nat) (v : Value) : Prop := ∀ b o n c, v = .slice (some ⟨b, o, none⟩) n c → B ≤ b
theorem Fresh.of_owns {w : World} {base : Nat} {e : TypeId} {k : Nat} {v : Value} {n : Nat} {xs : List Value} (h : w.ownsRow base e k v n xs) : Fresh base v := by
  intro b o m c hv
  obtain ⟨_, ⟨rfl, _⟩ | ⟨g, cap, cur, rfl, hg, _⟩⟩ := h
  · cases hv
  · cases hv; exact hg
end Go.Proofs.YtmpjbolopgccpaaGreat
