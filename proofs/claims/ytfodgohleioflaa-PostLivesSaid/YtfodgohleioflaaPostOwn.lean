/-
  own: a message in memory of its own.
-/
import Derived.Test.YtfodgohleioflaaPostC
import Derived.Test.YtfodgohleioflaaPost7
import Derived.Test.YtfodgohleioflaaLib7
import Derived.Deep.RegionHeld3
namespace Go.Proofs.Ytfodgohleioflaa
open Go Go.RowKit Go.MapKept Go.ChangeMaps
set_option linter.unusedVariables false

theorem block_setCell {w : World} {b : Nat} {ty : TypeId} {fr : Nat × Nat} {C : Array Value} (h : w.heap[b]? = some (.cells C ty fr)) (o : Nat) (v : Value) : (w.setCell ⟨b, o, none⟩ v).heap[b]? = some (.cells (C.setIfInBounds o v) ty fr) := by
  unfold World.setCell
  simp [Array.getElem?_modify, h]
theorem block_frozen {w : World} {b : Nat} {ty : TypeId} {C : Array Value} (h : w.heap[b]? = some (.cells C ty (0, 0))) (o : Nat) : w.frozen? ⟨b, o, none⟩ = false := by
  unfold World.frozen?
  rw [h]; simp
/-- The votes of a slice that a call made, in cells. -/
structure VRow (w : World) (g : Nat) (l : List VoteD) (nvs : List Value) : Prop where
  len : nvs.length = l.length
  cell : ∀ i, i < l.length → ∀ j, j < 14 → w.cell? ⟨g, i * 14 + j, none⟩ = (voteC (l.getD i default) (nvs.getD i undef))[j]?
  open' : ∀ j, w.frozen? ⟨g, j, none⟩ = false
theorem VRow.upd {w w' : World} {g : Nat} {l : List VoteD} {nvs : List Value} (h : VRow w g l nvs) (hg : g < w.heap.size) (u : Upd (fun _ => False) w w') : VRow w' g l nvs :=
  ⟨h.len, fun i hi j hj => (u.cell (p := ⟨g, i * 14 + j, none⟩) hg (fun h => h)).trans (h.cell i hi j hj), fun j => (u.frozen (p := ⟨g, j, none⟩) hg (fun h => h)).trans (h.open' j)⟩
theorem VRow.set {w : World} {g : Nat} {l : List VoteD} {nvs : List Value} (h : VRow w g l nvs) {q : Nat} (hq : q < l.length) (v : Value) : VRow (w.setCell ⟨g, q * 14 + 13, none⟩ v) g l (nvs.set q v) := by
  refine ⟨by simp [h.len], fun i hi j hj => ?_, fun j => by simp [go_sem]; exact h.open' j⟩
  by_cases e : i = q ∧ j = 13
  · obtain ⟨rfl, rfl⟩ := e
    rw [cell_setCell_self, h.cell i hi 13 (by omega)]
    rw [List.getD_eq_getElem?_getD (l := nvs.set i v), List.getElem?_set_self (by rw [h.len]; exact hi)]
    rfl
  · rw [World.cell?_setCell_other _ _ _ _ (fun e' => by injection e'; exact e (by omega)), h.cell i hi j hj]
    by_cases e2 : i = q
    · subst e2
      have hj13 : j < 13 := by omega
      rw [List.getD_eq_getElem?_getD (l := nvs.set i v), List.getElem?_set_self (by rw [h.len]; exact hi)]
      have : ∀ x y, (voteC (l.getD i default) x)[j]? = (voteC (l.getD i default) y)[j]? := by
        intro x y
        unfold voteC
        rcases j with _ | _ | _ | _ | _ | _ | _ | _ | _ | _ | _ | _ | _ | j <;> first | rfl | omega
      exact this _ _
    · rw [List.getD_eq_getElem?_getD (l := nvs.set q v), List.getElem?_set_ne (Ne.symm e2), ← List.getD_eq_getElem?_getD]
theorem VRow.other {w : World} {g : Nat} {l : List VoteD} {nvs : List Value} (h : VRow w g l nvs) (b o : Nat) (hb : g ≠ b) (x : Value) : VRow (w.setCell ⟨b, o, none⟩ x) g l nvs :=
  ⟨h.len, fun i hi j hj => by rw [World.cell?_of_block (w := w) (RowKit.Below.heap_setCell _ _ _ _ hb)]; exact h.cell i hi j hj, fun j => by rw [World.frozen?_of_block (w := w) (RowKit.Below.heap_setCell _ _ _ _ hb)]; exact h.open' j⟩
theorem VRow.row {w : World} {g cap : Nat} {l : List VoteD} {nvs : List Value} (h : VRow w g l nvs) (hc : l.length ≤ cap) : Row w (.slice (some ⟨g, 0, none⟩) l.length cap) 14 (List.zipWith voteC l nvs) := by
  have hz := zip_length h.len
  refine .inr ⟨g, 0, cap, by rw [hz], by omega, fun r hr => ?_, fun i j hi hj => ?_⟩
  · obtain ⟨i, hi, e⟩ := List.mem_iff_getElem?.1 hr |>.imp fun i e => (⟨(List.getElem?_eq_some_iff.1 e).1, e⟩ : i < _ ∧ _)
    have := zip_get h.len (i := i) (by omega)
    rw [List.getD_eq_getElem?_getD, e] at this
    simp only [Option.getD_some] at this
    rw [this]; rfl
  · rw [Nat.zero_add, h.cell i (by omega) j hj, zip_get h.len (by omega)]
/-- A store over a slice leaves whole numbers. -/
theorem Ints.setSlice {w : World} {v : Value} {l : List Int} (h : Ints w v l) {a : Addr} {x : Value} (hx : w.cell? a = some x) (hs : ∃ p n c, x = .slice p n c) (u : Value) : Ints (w.setCell a u) v l := by
  refine ⟨?_, h.2⟩
  rcases h.1 with h1 | ⟨b, o, cap, hv, hl, hk, hc⟩
  · exact .inl h1
  · refine .inr ⟨b, o, cap, hv, hl, hk, fun i j hi hj => ?_⟩
    have h0 := hc i j hi hj
    rw [World.cell?_setCell_other _ _ _ _ (fun e => ?_)]
    · exact h0
    · obtain ⟨p, n, c, rfl⟩ := hs
      first
        | rw [e, hx] at h0
        | rw [← e, hx] at h0
      obtain rfl : j = 0 := by omega
      rw [List.getD_eq_getElem?_getD, List.getElem?_map] at h0
      rw [List.length_map] at hi
      rw [List.getElem?_eq_getElem hi] at h0
      cases h0
/-- Block k is of a message's memory: of bytes, nodes or votes, from B on. -/
def Mem (B : Nat) (w : World) (k : Nat) : Prop := B ≤ k ∧ ∃ C ty fr, w.heap[k]? = some (.cells C ty fr) ∧ (ty = 5 ∨ ty = 3 ∨ ty = 71) ∧ fr = (0, 0)
/-- Blocks of cells stay so. -/
def Grow (w w' : World) : Prop := ∀ (k : Nat) (C : Array Value) (ty : TypeId) (fr : Nat × Nat), w.heap[k]? = some (Obj.cells C ty fr) → ∃ C', w'.heap[k]? = some (Obj.cells C' ty fr)
theorem Grow.refl (w : World) : Grow w w := fun _ C _ _ h => ⟨C, h⟩
theorem Grow.trans {a b c : World} (h : Grow a b) (k : Grow b c) : Grow a c := fun i C ty fr e => by
  obtain ⟨C', e'⟩ := h i C ty fr e
  exact k i C' ty fr e'
theorem Grow.old {w w' : World} (u : Upd (fun _ => False) w w') : Grow w w' := fun k C ty fr h => ⟨C, (u.block k (Array.getElem?_eq_some_iff.1 h).1 (fun h => h)).trans h⟩
theorem Grow.setCell (w : World) (b o : Nat) (v : Value) : Grow w (w.setCell ⟨b, o, none⟩ v) := fun k C ty fr h => by
  by_cases e : k = b
  · subst e; exact ⟨_, block_setCell h o v⟩
  · exact ⟨C, (RowKit.Below.heap_setCell _ _ _ _ e).trans h⟩
theorem Mem.grow {B : Nat} {w w' : World} {k : Nat} (h : Mem B w k) (g : Grow w w') : Mem B w' k := by
  obtain ⟨h1, C, ty, fr, h2, h3⟩ := h
  obtain ⟨C', h4⟩ := g k C ty fr h2
  exact ⟨h1, C', ty, fr, h4, h3⟩
theorem Mem.upd {F : Nat → Prop} {B : Nat} {w w' : World} {k : Nat} (h : Mem B w k) (u : Upd F w w') (hk : ¬ F k) : Mem B w' k := by
  obtain ⟨h1, C, ty, fr, h2, h3⟩ := h
  exact ⟨h1, C, ty, fr, (u.block k (Array.getElem?_eq_some_iff.1 h2).1 hk).trans h2, h3⟩
theorem Mem.low {B B' : Nat} {w : World} {k : Nat} (h : Mem B w k) (hB : B' ≤ B) : Mem B' w k := ⟨Nat.le_trans hB h.1, h.2⟩
theorem Mem.lt {B : Nat} {w : World} {k : Nat} (h : Mem B w k) : k < w.heap.size := by
  obtain ⟨_, C, ty, fr, h2, _⟩ := h
  exact (Array.getElem?_eq_some_iff.1 h2).1
theorem inn_of_owns {w : World} {base : Nat} {e : TypeId} {k : Nat} {v : Value} {n : Nat} {xs : List Value} (h : w.ownsRow base e k v n xs) (he : e = 5 ∨ e = 3 ∨ e = 71) : Inn (Mem base w) v := by
  intro b o m c hv _
  obtain ⟨_, ⟨rfl, _⟩ | ⟨g, cap, cur, rfl, hg, hh, _⟩⟩ := h
  · cases hv
  · cases hv; exact ⟨hg, cur, e, (0, 0), hh, he, rfl⟩
theorem Inn.grow {B B' : Nat} {w w' : World} {v : Value} (h : Inn (Mem B w) v) (g : Grow w w') (hB : B' ≤ B) : Inn (Mem B' w') v := h.mono fun _ hk => (hk.grow g).low hB
theorem Ints.of_clone {w' : World} {B : Nat} {v' : Value} {l : List Int} (hb : l.length * 8 ≤ 140737488355328) (h : w'.ownsRow B 3 1 v' (l.map fun x => [Value.int .i64 x]).length (l.map fun x => [Value.int .i64 x]).flatten) : Ints w' v' l ∧ Inn (Mem B w') v' :=
  ⟨⟨Row.of_clone (by intro r hr; obtain ⟨x, _, rfl⟩ := List.mem_map.1 hr; rfl) h, hb⟩, inn_of_owns h (by simp)⟩
theorem Byts.of_clone {w' : World} {B : Nat} {v' : Value} {l : List Int} (hb : l.length ≤ 140737488355328) (h : w'.ownsRow B 5 1 v' (l.map fun x => [Value.int .u8 x]).length (l.map fun x => [Value.int .u8 x]).flatten) : Byts w' v' l ∧ Inn (Mem B w') v' :=
  ⟨⟨Row.of_clone (by intro r hr; obtain ⟨x, _, rfl⟩ := List.mem_map.1 hr; rfl) h, hb⟩, inn_of_owns h (by simp)⟩
theorem Ints.slice {w : World} {v : Value} {l : List Int} (h : Ints w v l) : ∃ p n c, v = .slice p n c := by
  obtain ⟨a, c, e⟩ := h.shape
  exact ⟨_, _, _, e⟩
theorem vrow_of_clone {w' : World} {B : Nat} {v' : Value} {l : List VoteD} {nvs : List Value} (hl : nvs.length = l.length) (h : w'.ownsRow B 71 14 v' (List.zipWith voteC l nvs).length (List.zipWith voteC l nvs).flatten) :
    (v' = .slice none 0 0 ∧ l = []) ∨ ∃ g cap, v' = .slice (some ⟨g, 0, none⟩) l.length cap ∧ l.length ≤ cap ∧ g < w'.heap.size ∧ Mem B w' g ∧ VRow w' g l nvs := by
  have hz := zip_length hl
  have hk : ∀ r ∈ List.zipWith voteC l nvs, r.length = 14 := fun r hr => by
    obtain ⟨i, hi, e⟩ := List.mem_iff_getElem?.1 hr |>.imp fun i e => (⟨(List.getElem?_eq_some_iff.1 e).1, e⟩ : i < _ ∧ _)
    have := zip_get hl (i := i) (by omega)
    rw [List.getD_eq_getElem?_getD, e] at this
    simp only [Option.getD_some] at this
    rw [this]; rfl
  have hr := Row.of_clone hk h
  obtain ⟨_, ⟨rfl, h0⟩ | ⟨g, cap, cur, rfl, hg, hh, hn, hm, hs, ht⟩⟩ := h
  · exact .inl ⟨rfl, List.eq_nil_of_length_eq_zero (by omega)⟩
  · rw [hz] at hn hr ⊢
    refine .inr ⟨g, cap, rfl, hn, (Array.getElem?_eq_some_iff.1 hh).1, ⟨hg, cur, _, _, hh, by simp⟩, hl, fun i hi j hj => ?_, fun j => block_frozen hh j⟩
    rcases hr with ⟨e, _⟩ | ⟨b, o, c, hv, _, _, hc⟩
    · rw [e] at hz; simp at hz; omega
    · injection hv with hv1 _ _
      injection hv1 with hv1
      injection hv1 with hb ho _
      subst hb ho
      have := hc i j (by omega) hj
      rw [Nat.zero_add, zip_get hl hi] at this
      exact this
theorem Vots.updF {w w' : World} {v : Value} {l : List VoteD} (h : Vots w v l) (u : Upd (fun _ => False) w w') : Vots w' v l :=
  h.updS (S := fun _ => True) u (fun _ _ _ _ _ _ => trivial) (fun _ _ _ _ _ _ _ _ _ _ _ _ _ _ _ => trivial) (fun _ _ h => h)
def OwnB (w : World) (l : List Int) (e : Ending) (w' : World) : Prop := ∃ a c, e = .returned (.slice a l.length c) ∧ Byts w' (.slice a l.length c) l ∧ Inn (Mem w.heap.size w') (.slice a l.length c) ∧ Upd (fun _ => False) w w'
def OwnN (w : World) (l : List Int) (e : Ending) (w' : World) : Prop := ∃ a c, e = .returned (.slice a l.length c) ∧ Ints w' (.slice a l.length c) l ∧ Inn (Mem w.heap.size w') (.slice a l.length c) ∧ Upd (fun _ => False) w w'
/-- The votes behind Clone: the cells are new, the nodes are as they were. -/
def OwnV (w : World) (l : List VoteD) (e : Ending) (w' : World) : Prop := ∃ a c g nvs, e = .returned (.slice a l.length c) ∧ w.heap.size ≤ g ∧ (l ≠ [] → a = some ⟨g, 0, none⟩ ∧ g < w'.heap.size ∧ w.heap.size ≤ g ∧ Mem w.heap.size w' g ∧ VRow w' g l nvs) ∧ (a = none → c = 0) ∧ l.length ≤ c ∧ Inn (Mem w.heap.size w') (.slice a l.length c) ∧ (∀ i, i < l.length → Ints w' (nvs.getD i undef) (l.getD i default).nodes) ∧ Upd (fun _ => False) w w'
theorem own_bytes (w : World) (v : Value) (l : List Int) (h : Byts w v l) : Calls Try.prog 33 #[v] w (OwnB w l) := by
  refine (clone_bytes w v l h).mono ?_
  rintro e w' ⟨v', rfl, ho, hu⟩
  obtain ⟨h1, h2⟩ := Byts.of_clone h.2 ho
  obtain ⟨a, c, e⟩ := h1.1.length
  rw [List.length_map] at e
  exact ⟨a, c, by rw [e], e ▸ h1, e ▸ h2, hu⟩
theorem own_ints (w : World) (v : Value) (l : List Int) (h : Ints w v l) : Calls Try.prog 34 #[v] w (OwnN w l) := by
  refine (clone_ints w v l h).mono ?_
  rintro e w' ⟨v', rfl, ho, hu⟩
  obtain ⟨h1, h2⟩ := Ints.of_clone h.2 ho
  obtain ⟨a, c, e⟩ := h1.1.length
  rw [List.length_map] at e
  exact ⟨a, c, by rw [e], e ▸ h1, e ▸ h2, hu⟩
theorem own_votes (w : World) (v : Value) (l : List VoteD) (h : Vots w v l) : Calls Try.prog 35 #[v] w (OwnV w l) := by
  obtain ⟨nvs, hl, hr, hb, hn⟩ := h
  have hz := zip_length hl
  refine (clone_votes w v _ hr (by rw [hz]; exact hb) (fun r hr' u hu => ?_)).mono ?_
  · obtain ⟨i, e⟩ := List.mem_iff_getElem?.1 hr'
    have hi := (List.getElem?_eq_some_iff.1 e).1
    rw [hz] at hi
    have h2 := zip_get hl hi
    rw [List.getD_eq_getElem?_getD, e] at h2
    simp only [Option.getD_some] at h2
    rw [h2] at hu
    obtain ⟨p, n, c, e3⟩ := (hn i hi).slice
    exact voteC_one _ _ (by rw [e3]; rfl) u hu
  · rintro e w' ⟨v', rfl, ho, hu⟩
    have hi := inn_of_owns ho (by simp)
    rcases vrow_of_clone hl ho with ⟨rfl, rfl⟩ | ⟨g, cap, rfl, hc, hg, hm, hv⟩
    · exact ⟨none, 0, w.heap.size, [], rfl, Nat.le_refl _, fun h => absurd rfl h, fun _ => rfl, Nat.le_refl _, hi, fun i hi => absurd hi (Nat.not_lt_zero i), hu⟩
    · exact ⟨_, cap, g, nvs, rfl, hm.1, fun _ => ⟨rfl, hg, hm.1, hm, hv⟩, (by intro e; cases e), hc, hi, fun i hi => (hn i hi).old hu, hu⟩
/-- A parameter's block and a result's. -/
theorem two_alloc (w : World) (C Z : Array Value) (t t' : TypeId) : Upd (fun _ => False) w ((w.alloc (.cells C t)).alloc (.cells Z t')) ∧ ((w.alloc (.cells C t)).alloc (.cells Z t')).heap[w.heap.size]? = some (.cells C t (0, 0)) ∧
    ((w.alloc (.cells C t)).alloc (.cells Z t')).heap[w.heap.size + 1]? = some (.cells Z t' (0, 0)) ∧ ((w.alloc (.cells C t)).alloc (.cells Z t')).heap.size = w.heap.size + 2 := by
  refine ⟨((Upd.refl _ _).alloc _).alloc _, ?_, ?_, by simp⟩
  · rw [(MapKept.heap_alloc _ _).2 _ (by simp)]; exact (MapKept.heap_alloc _ _).1
  · have := (MapKept.heap_alloc (w.alloc (.cells C t)) (.cells Z t')).1
    simpa using this
theorem msgC_21 (d : MsgD) (nv vv bv x : Value) : (msgC d nv vv bv).setIfInBounds 21 x = msgC d x vv bv := rfl
theorem msgC_22 (d : MsgD) (nv vv bv x : Value) : (msgC d nv vv bv).setIfInBounds 22 x = msgC d nv x bv := rfl
theorem msgC_23 (d : MsgD) (nv vv bv x : Value) : (msgC d nv vv bv).setIfInBounds 23 x = msgC d nv vv x := rfl
/-- The local message between the calls. -/
structure LocAt (w w' : World) (d : MsgD) (nv vv bv : Value) : Prop where
  loc : w'.heap[w.heap.size]? = some (.cells (msgC d nv vv bv) 34 (0, 0))
  res : w'.heap[w.heap.size + 1]? = some (.cells (msgN 0) 34 (0, 0))
  up : Upd (fun _ => False) w w'
theorem LocAt.lt {w w' : World} {d : MsgD} {nv vv bv : Value} (h : LocAt w w' d nv vv bv) : w.heap.size + 1 < w'.heap.size := (Array.getElem?_eq_some_iff.1 h.res).1
theorem LocAt.old {w w' w2 : World} {d : MsgD} {nv vv bv : Value} (h : LocAt w w' d nv vv bv) (u : Upd (fun _ => False) w' w2) : LocAt w w2 d nv vv bv := by
  have hlt := h.lt
  exact ⟨(u.block _ (by omega) (fun h => h)).trans h.loc, (u.block _ (by omega) (fun h => h)).trans h.res, h.up.trans u⟩
theorem LocAt.cells {w w' : World} {d : MsgD} {nv vv bv : Value} (h : LocAt w w' d nv vv bv) : w'.cell? ⟨w.heap.size, 21, none⟩ = some nv ∧ w'.cell? ⟨w.heap.size, 22, none⟩ = some vv ∧ w'.cell? ⟨w.heap.size, 23, none⟩ = some bv ∧ ∀ j, w'.frozen? ⟨w.heap.size, j, none⟩ = false :=
  ⟨cell_block h.loc 21, cell_block h.loc 22, cell_block h.loc 23, fun j => block_frozen h.loc j⟩
theorem LocAt.set {w w' : World} {d : MsgD} {nv vv bv : Value} (h : LocAt w w' d nv vv bv) (x : Value) : LocAt w (w'.setCell ⟨w.heap.size, 21, none⟩ x) d x vv bv ∧ LocAt w (w'.setCell ⟨w.heap.size, 22, none⟩ x) d nv x bv ∧ LocAt w (w'.setCell ⟨w.heap.size, 23, none⟩ x) d nv vv x := by
  have hr : ∀ j, (w'.setCell ⟨w.heap.size, j, none⟩ x).heap[w.heap.size + 1]? = some (.cells (msgN 0) 34 (0, 0)) := fun j => (RowKit.Below.heap_setCell _ _ _ _ (by show w.heap.size + 1 ≠ w.heap.size; omega)).trans h.res
  exact ⟨⟨block_setCell h.loc 21 x, hr _, h.up.setCell (Or.inr (Nat.le_refl _)) _⟩, ⟨block_setCell h.loc 22 x, hr _, h.up.setCell (Or.inr (Nat.le_refl _)) _⟩, ⟨block_setCell h.loc 23 x, hr _, h.up.setCell (Or.inr (Nat.le_refl _)) _⟩⟩
/-- What own answers. -/
def OwnP (w : World) (d : MsgD) (e : Ending) (w' : World) : Prop := ∃ C', e = .returned (.agg C') ∧ MsgAt (Mem w.heap.size w') w' C' d ∧ Upd (fun _ => False) w w'
/-- Behind q of the votes. -/
structure OwnRel (w w4 : World) (d : MsgD) (nv vv bv : Value) (g : Nat) (q : Nat) (nvs : List Value) (wr : World) : Prop where
  loc : LocAt w wr d nv vv bv
  rows : d.votes ≠ [] → VRow wr g d.votes nvs
  nodes : ∀ i, i < d.votes.length → Ints wr (nvs.getD i undef) (d.votes.getD i default).nodes
  fresh : ∀ i, i < q → Inn (Mem w.heap.size wr) (nvs.getD i undef)
  grow : Grow w4 wr
  up : Upd (fun k => k = g) w4 wr
theorem LocAt.other {w w' : World} {d : MsgD} {nv vv bv : Value} (h : LocAt w w' d nv vv bv) (g o : Nat) (hg : w.heap.size + 1 < g) (x : Value) : LocAt w (w'.setCell ⟨g, o, none⟩ x) d nv vv bv :=
  ⟨(RowKit.Below.heap_setCell _ _ _ _ (by show w.heap.size ≠ g; omega)).trans h.loc, (RowKit.Below.heap_setCell _ _ _ _ (by show w.heap.size + 1 ≠ g; omega)).trans h.res, h.up.setCell (p := ⟨g, o, none⟩) (Or.inr (by show w.heap.size ≤ g; omega)) _⟩
theorem own_step {w w4 wr w5 : World} {d : MsgD} {nv vv bv v5 : Value} {g q : Nat} {nvs : List Value} (h : OwnRel w w4 d nv vv bv g q nvs wr) (hq : q < d.votes.length) (hg : w.heap.size + 1 < g) (hgl : g < wr.heap.size) (u : Upd (fun _ => False) wr w5)
    (h5 : Ints w5 v5 (d.votes.getD q default).nodes) (i5 : Inn (Mem wr.heap.size w5) v5) : OwnRel w w4 d nv vv bv g (q + 1) (nvs.set q v5) (w5.setCell ⟨g, q * 14 + 13, none⟩ v5) := by
  have hne : d.votes ≠ [] := by intro e; rw [e] at hq; exact absurd hq (Nat.not_lt_zero q)
  have hv := (h.rows hne).upd hgl u
  have hc : w5.cell? ⟨g, q * 14 + 13, none⟩ = some (nvs.getD q undef) := hv.cell q hq 13 (by omega)
  have hs := (h.nodes q hq).slice
  have hgr : Grow wr (w5.setCell ⟨g, q * 14 + 13, none⟩ v5) := (Grow.old u).trans (Grow.setCell w5 g _ v5)
  have hset : ∀ i, (nvs.set q v5).getD i undef = if i = q ∧ i < nvs.length then v5 else nvs.getD i undef := by
    intro i
    rw [List.getD_eq_getElem?_getD, List.getD_eq_getElem?_getD]
    by_cases e : i = q
    · subst e
      by_cases e2 : i < nvs.length
      · rw [List.getElem?_set_self e2, if_pos ⟨rfl, e2⟩]; rfl
      · rw [if_neg (fun h => e2 h.2), List.getElem?_eq_none (by simp; omega), List.getElem?_eq_none (by omega)]
    · rw [List.getElem?_set_ne (Ne.symm e), if_neg (fun h => e h.1)]
  have hlen := hv.len
  refine ⟨(h.loc.old u).other g _ hg v5, fun _ => hv.set hq v5, fun i hi => ?_, fun i hi => ?_, h.grow.trans hgr, (h.up.trans (u.mono (fun _ _ h => h.elim))).setCell (p := ⟨g, q * 14 + 13, none⟩) (Or.inl rfl) _⟩
  · rw [hset]
    by_cases e : i = q
    · subst e
      rw [if_pos ⟨rfl, by omega⟩]
      exact h5.setSlice hc hs v5
    · rw [if_neg (fun h => e h.1)]
      exact ((h.nodes i hi).old u).setSlice hc hs v5
  · rw [hset]
    by_cases e : i = q
    · subst e
      rw [if_pos ⟨rfl, by omega⟩]
      exact i5.grow (Grow.setCell w5 g _ v5) h.loc.up.size
    · rw [if_neg (fun h => e h.1)]
      exact (h.fresh i (by omega)).grow hgr (Nat.le_refl _)
theorem not_mem_msg {B k : Nat} {w : World} {C : Array Value} (h : w.heap[k]? = some (.cells C 34 (0, 0))) : ¬ Mem B w k := by
  rintro ⟨_, C', ty, fr, h2, h3⟩
  rw [h] at h2
  injection h2 with h2
  injection h2 with _ h2
  subst h2
  rcases h3.1 with h3 | h3 | h3 <;> exact absurd h3 (by decide)
theorem msgC_one {S : Nat → Prop} {w : World} {C : Array Value} {d : MsgD} (h : MsgAt S w C d) : C.size = 24 ∧ C.all (·.oneCell') = true := by
  obtain ⟨nv, vv, bv, rfl, h1, _, h2, _, _, h3, _⟩ := h
  obtain ⟨a, n, c, rfl⟩ := h1.slice
  obtain ⟨a', c', rfl, _⟩ := h2.cells
  obtain ⟨a2, c2, rfl⟩ := h3.1.length
  exact ⟨rfl, by unfold msgC; simp [Value.oneCell']⟩
/-- All the votes are there. -/
theorem own_end {w w4 wr : World} {d : MsgD} {nv bv : Value} {a3 : Option Addr} {c3 g : Nat} {nvs : List Value} (h : OwnRel w w4 d nv (.slice a3 d.votes.length c3) bv g d.votes.length nvs wr)
    (hb : Byts w4 bv d.bytes) (hib : Inn (Mem w.heap.size w4) bv) (hlb : Inn (fun k => k < g) bv) (hn : Ints w4 nv d.nodes) (hin : Inn (Mem w.heap.size w4) nv) (hln : Inn (fun k => k < g) nv) (hiv : Inn (Mem w.heap.size w4) (.slice a3 d.votes.length c3))
    (ha : d.votes ≠ [] → a3 = some ⟨g, 0, none⟩) (hac : a3 = none → c3 = 0) (hc : d.votes.length ≤ c3) (hbig : d.votes.length * 136 ≤ 140737488355328) : MsgAt (Mem w.heap.size wr) wr (msgC d nv (.slice a3 d.votes.length c3) bv) d := by
  have hF : ∀ k, k < g → ¬ k = g := fun k h1 h2 => by omega
  refine ⟨nv, _, bv, rfl, hn.updS h.up hln hF, hin.grow h.grow (Nat.le_refl _), ?_, hiv.grow h.grow (Nat.le_refl _), ?_, hb.updS h.up hlb hF, hib.grow h.grow (Nat.le_refl _)⟩
  · by_cases hne : d.votes = []
    · rw [hne]
      exact ⟨[], rfl, .inl ⟨rfl, a3, c3, rfl, hac⟩, by simp, fun i hi => absurd hi (Nat.not_lt_zero i)⟩
    · have hv := h.rows hne
      obtain rfl := ha hne
      exact ⟨nvs, hv.len, hv.row hc, hbig, h.nodes⟩
  · intro b o n c e i hi u hu
    injection e with e1 e2 _
    subst e2
    have hne : d.votes ≠ [] := by intro e; rw [e] at hi; exact absurd hi (Nat.not_lt_zero i)
    have hv := h.rows hne
    rw [ha hne] at e1
    injection e1 with e1
    injection e1 with eb eo _
    subst eb eo
    have h13 : wr.cell? ⟨g, i * 14 + 13, none⟩ = some (nvs.getD i undef) := hv.cell i hi 13 (by omega)
    rw [Nat.zero_add, h13] at hu
    cases hu
    exact h.fresh i hi
set_option maxRecDepth 100000 in
set_option maxHeartbeats 4000000 in
theorem own_any (w : World) (S : Nat → Prop) (C : Array Value) (d : MsgD) (h : MsgAt S w C d) : Calls Try.prog 22 #[.agg C] w (OwnP w d) := by
  obtain ⟨nv, vv, bv, rfl, hn, _, hv, _, _, hb, _⟩ := h
  obtain ⟨na, nn, nc, rfl⟩ := hn.slice
  have HN := Lib.hid hn; clear hn
  have HB := Lib.hid hb; clear hb
  have hvs : ∃ p n c, vv = .slice p n c := by obtain ⟨a, c, e, _⟩ := hv.cells; exact ⟨_, _, _, e⟩
  have HVS := Lib.hid hvs; clear hvs
  have HV := Lib.hid hv; clear hv
  unfold msgC
  go_enter Try.func22, Try.ntmps22
  have hl0 : LocAt w ((w.alloc (.cells (msgC d (.slice na nn nc) vv bv) 34)).alloc (.cells (msgN 0) 34)) d (.slice na nn nc) vv bv := by
    obtain ⟨k1, k2, k3, _⟩ := two_alloc w (msgC d (.slice na nn nc) vv bv) (msgN 0) 34 34
    exact ⟨k2, k3, k1⟩
  have HL0 := Lib.hid hl0; clear hl0
  go_wp2_with (first
    | (go_at_call 33; refine (own_bytes _ _ d.bytes (HB.out.old HL0.out.up)).mono ?_; rintro e w1 ⟨a1, c1, rfl, hb1, hi1, hu1⟩
       have hl1 := HL0.out.old hu1
       clear hu1
       obtain ⟨k21, -, k23, kf⟩ := hl1.cells
       have hl2 := (hl1.set (.slice a1 d.bytes.length c1)).2.2
       have HG := Lib.hid (Grow.setCell w1 w.heap.size 23 (.slice a1 d.bytes.length c1))
       have HB1 := Lib.hid hb1; clear hb1
       have HI1 := Lib.hid hi1; clear hi1
       have HL1 := Lib.hid hl1; clear hl1
       have HL2 := Lib.hid hl2; clear hl2)
    | (go_at_call 34; refine (own_ints _ _ d.nodes (HN.out.old HL2.out.up)).mono ?_; rintro e w2 ⟨a2, c2, rfl, hb1, hi1, hu1⟩
       clear k21 k23 kf
       have hl1 := HL2.out.old hu1
       obtain ⟨k21, k22, -, kf⟩ := hl1.cells
       have hl3 := (hl1.set (.slice a2 d.nodes.length c2)).1
       have HG2 := Lib.hid (HG.out.trans (Grow.old hu1))
       have HU2 := Lib.hid (((Upd.refl (fun k => k = w.heap.size) w1).setCell (p := ⟨w.heap.size, 23, none⟩) (Or.inl rfl) (.slice a1 d.bytes.length c1)).trans (hu1.mono (fun _ _ h => h.elim)))
       clear hu1
       have HN2 := Lib.hid hb1; clear hb1
       have HJ2 := Lib.hid hi1; clear hi1
       clear hl1
       have HL3 := Lib.hid hl3; clear hl3)
    | (go_at_call 35; refine (own_votes _ _ d.votes (HV.out.updF HL3.out.up)).mono ?_; rintro e w3 ⟨a3, c3, g, nvs, rfl, hgB0, hvr, hac, hvc, hvi, hvn, hu1⟩
       clear k21 k22 kf
       have hl1 := HL3.out.old hu1
       obtain ⟨-, k22, -, kf⟩ := hl1.cells
       have hl4 := (hl1.set (.slice a3 d.votes.length c3)).2.1
       have HG3 := Lib.hid ((Grow.setCell w2 w.heap.size 21 (.slice a2 d.nodes.length c2)).trans (Grow.old hu1))
       have HU3 := Lib.hid (((Upd.refl (fun k => k = w.heap.size) w2).setCell (p := ⟨w.heap.size, 21, none⟩) (Or.inl rfl) (.slice a2 d.nodes.length c2)).trans (hu1.mono (fun _ _ h => h.elim)))
       clear hu1
       have HV3 := Lib.hid hvr; clear hvr
       have HJ3 := Lib.hid hvi; clear hvi
       have HM3 := Lib.hid hvn; clear hvn
       have HAC := Lib.hid hac; clear hac
       have HVC := Lib.hid hvc; clear hvc
       clear hl1
       have HL4 := Lib.hid hl4; clear hl4))
  have hB3 := HL3.out.lt
  have hv4 : d.votes ≠ [] → VRow (w3.setCell ⟨w.heap.size, 22, none⟩ (.slice a3 d.votes.length c3)) g d.votes nvs := fun hne => (HV3.out hne).2.2.2.2.other w.heap.size 22 (by have := (HV3.out hne).2.2.1; omega) _
  have HV4 := Lib.hid hv4; clear hv4
  have hk22 := k22
  have hm4 : ∀ i, i < d.votes.length → Ints (w3.setCell ⟨w.heap.size, 22, none⟩ (.slice a3 d.votes.length c3)) (nvs.getD i undef) (d.votes.getD i default).nodes := fun i hi => (HM3.out i hi).setSlice hk22 HVS.out _
  have HM4 := Lib.hid hm4; clear hm4
  clear k22 hk22 kf
  have u34 : Upd (fun k => k = w.heap.size) w3 (w3.setCell ⟨w.heap.size, 22, none⟩ (.slice a3 d.votes.length c3)) := (Upd.refl (fun k => k = w.heap.size) w3).setCell (p := ⟨w.heap.size, 22, none⟩) (Or.inl rfl) _
  have g34 := Grow.setCell w3 w.heap.size 22 (.slice a3 d.votes.length c3)
  have hb4 := HB1.out.updS (HU2.out.trans (HU3.out.trans u34)) HI1.out (fun k hk e => by have h1 := hk.1; have h2 := HL0.out.lt; omega)
  have hn4 := HN2.out.updS (HU3.out.trans u34) HJ2.out (fun k hk e => by have h1 := hk.1; have h2 := HL2.out.lt; omega)
  have hib4 := HI1.out.grow (B' := w.heap.size) ((HG2.out.trans HG3.out).trans g34) (by have h2 := HL0.out.lt; omega)
  have hin4 := HJ2.out.grow (B' := w.heap.size) (HG3.out.trans g34) (by have h2 := HL2.out.lt; omega)
  have hiv4 := HJ3.out.grow (B' := w.heap.size) g34 (by have h2 := HL3.out.lt; omega)
  have hs12 := HU2.out.size
  have hlo1 : ∀ k, Mem (World.heap w).size w1 k → k < g := fun k hk => by have := hk.lt; simp at hgB0; omega
  have hlo2 : ∀ k, Mem (World.heap w).size w2 k → k < g := fun k hk => by have := hk.lt; simp at hgB0; omega
  have HIB1 := Lib.hid ((HI1.out.grow (Grow.refl _) (by have h2 := HL0.out.lt; omega)).mono hlo1)
  have HIN2 := Lib.hid ((HJ2.out.grow (Grow.refl _) (by have h2 := HL2.out.lt; omega)).mono hlo2)
  clear u34 g34 hlo1 hlo2 hs12
  have HB4 := Lib.hid hb4; clear hb4
  have HN4 := Lib.hid hn4; clear hn4
  have HIB4 := Lib.hid hib4; clear hib4
  have HIN4 := Lib.hid hin4; clear hin4
  have HIV4 := Lib.hid hiv4; clear hiv4
  generalize w3.setCell ⟨w.heap.size, 22, none⟩ (.slice a3 d.votes.length c3) = w4 at HL4 HV4 HM4 HB4 HN4 HIB4 HIN4 HIV4 ⊢
  go_loopw [21] (fun i wr => ∃ (q : Nat) (nvs' : List Value), q ≤ d.votes.length ∧ i = .int .i64 (q : Int) ∧ OwnRel w w4 d (.slice a2 d.nodes.length c2) (.slice a3 d.votes.length c3) (.slice a1 d.bytes.length c1) g q nvs' wr) (fun i _ => d.votes.length - (intOf i).toNat)
  case atStart => exact ⟨0, nvs, Nat.zero_le _, rfl, HL4.out, HV4.out, HM4.out, fun i hi => absurd hi (Nat.not_lt_zero i), Grow.refl _, Upd.refl _ _⟩
  case round =>
    obtain ⟨q, nvs', hq, rfl, hrl⟩ := hrel
    by_cases hlt : q < d.votes.length
    · have hne : d.votes ≠ [] := by intro e; rw [e] at hlt; exact absurd hlt (Nat.not_lt_zero q)
      obtain ⟨rfl, hgl, hgB, hgm, _⟩ := HV3.out hne
      have hvr := hrl.rows hne
      obtain ⟨-, k22, -, kf⟩ := hrl.loc.cells
      have hnq := hrl.nodes q hlt
      have k13 : wr.cell? ⟨g, q * 14 + 13, none⟩ = some (nvs'.getD q undef) := hvr.cell q hlt 13 (by omega)
      have kg := hvr.open' (q * 14 + 13)
      have hcd : ((d.votes.getD q default).nodes.length) * 8 ≤ 140737488355328 := hnq.2
      have hbv : d.votes.length * 136 ≤ 140737488355328 := by obtain ⟨_, _, _, hb, _⟩ := HV.out; exact hb
      obtain ⟨qa, qc, hqs⟩ := hnq.shape
      rw [hqs] at k13 hnq
      have HRL := Lib.hid hrl; clear hrl
      have HNQ := Lib.hid hnq; clear hnq
      have HVR := Lib.hid hvr; clear hvr
      clear hqs
      have hgr : g < wr.heap.size := World.block_lt_of_cell? _ _ k13
      have hB2 := HL3.out.lt
      have hgw : w.heap.size + 1 < g := by omega
      have HST := Lib.hid (fun (w5 : World) (v5 : Value) (u : Upd (fun _ => False) wr w5) (h5 : Ints w5 v5 (d.votes.getD q default).nodes) (i5 : Inn (Mem wr.heap.size w5) v5) => own_step HRL.out hlt hgw hgr u h5 i5)
      generalize (d.votes.getD q default).nodes = nq at HNQ HST k13 hcd
      go_upto_region 7 with (fail)
      go_region_with (go_at_call 34; refine (own_ints _ _ nq (by exact HNQ.out)).mono ?_; rintro e w5 ⟨a5, c5, rfl, hn5, hi5, hu5⟩; have u5 : Upd (fun _ => False) wr w5 := ((Upd.refl (fun _ => False) wr).drew).trans hu5; obtain ⟨-, k225, -, kf5⟩ := (HRL.out.loc.old u5).cells; have kg5 := (HVR.out.upd hgr u5).open' (q * 14 + 13); have k135 := (u5.cell (p := ⟨g, q * 14 + 13, none⟩) hgr (fun h => h)).trans k13; have HN5 := Lib.hid (HST.out w5 _ u5 hn5 hi5); clear hn5 hi5 hu5)
      all_goals
        go_wp2_with fail
        go_roundw
        case rel => exact ⟨q + 1, _, hlt, by go_num, HN5.out⟩
        case measure => simp [intOf]; omega
    · obtain rfl : q = d.votes.length := by omega
      have hm := own_end hrl HB4.out HIB4.out HIB1.out HN4.out HIN4.out HIN2.out HIV4.out (fun hne => (HV3.out hne).1) HAC.out HVC.out (by obtain ⟨_, _, _, hb, _⟩ := HV.out; exact hb)
      have HMM := Lib.hid hm; clear hm
      have HRL := Lib.hid hrl; clear hrl
      have hz : (Try.prog.info? 34).map (·.size) = some (msgC d (.slice a2 d.nodes.length c2) (.slice a3 d.votes.length c3) (.slice a1 d.bytes.length c1)).size := by kernel_rfl
      have HZ := Lib.hid hz; clear hz
      go_upto_region 9 with (fail)
      go_wp2_with (first
        | (refine wpList_load_block rfl 34 _ rfl w.heap.size rfl (msgC d (.slice a2 d.nodes.length c2) (.slice a3 d.votes.length c3) (.slice a1 d.bytes.length c1)) (0, 0) _ Try.isAgg34 Try.sizeOf34 HRL.out.loc.loc ?_)
        | (refine wpList_store_block rfl 34 _ _ rfl (w.heap.size + 1) rfl (msgC d (.slice a2 d.nodes.length c2) (.slice a3 d.votes.length c3) (.slice a1 d.bytes.length c1)) rfl HZ.out (msgC_one HMM.out).2 (msgN 0) 34 HRL.out.loc.res rfl ?_; intro w6 hb6 hu6; have HB6 := Lib.hid hb6; clear hb6; have HU6 := Lib.hid hu6; clear hu6))
      have hlv := run_loadVar_block (P := Try.prog) (Try.isAgg34 _) (Try.sizeOf34 _) HB6.out
      refine bodyPost_ret (v := .agg (msgC d (.slice a2 d.nodes.length c2) (.slice a3 d.votes.length c3) (.slice a1 d.bytes.length c1))) (by simp [results, Try.results22]; exact hlv) rfl ?_
      have hnf : ∀ k, Mem w.heap.size wr k → ¬ k = w.heap.size + 1 := fun k hk e => by subst e; exact not_mem_msg HRL.out.loc.res hk
      exact ⟨_, rfl, (HMM.out.upd HU6.out hnf).mono (fun k hk => hk.upd HU6.out (hnf k hk)), HRL.out.loc.up.trans' HU6.out (fun i hi e => by omega)⟩
end Go.Proofs.Ytfodgohleioflaa
