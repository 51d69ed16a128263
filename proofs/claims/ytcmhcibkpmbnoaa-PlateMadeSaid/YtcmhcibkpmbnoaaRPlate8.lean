/-
  The reference's plate: Fail; one that failed.
-/
import Derived.Test.YtcmhcibkpmbnoaaRPlate7
set_option linter.unusedVariables false
namespace Go.Proofs.Ytcmhcibkpmbnoaa
open Go Go.RowKit Go.MapKept Go.ChangeMaps

/-- The reference's plate that failed. -/
structure RDead (w : World) (x N : Nat) : Prop where
  c0 : w.cell? ⟨x, 0, none⟩ = some (.slice none 0 0)
  c1 : ∃ h c cur, w.cell? ⟨x, 1, none⟩ = some (.slice (some ⟨h, 0, none⟩) N (N + c)) ∧ w.heap[h]? = some (.cells cur 32 (0, 0)) ∧ ∀ i, i < N → ∃ a d, w.cell? ⟨h, i, none⟩ = some (.slice a 0 d)
  c2 : ∃ a d, w.cell? ⟨x, 2, none⟩ = some (.slice a 0 d)
  c3 : w.cell? ⟨x, 3, none⟩ = some (.bool true)
  tag : ∃ cur, w.heap[x]? = some (.cells cur 58 (0, 0))
  pos : 0 < N
  few : N ≤ 8192
theorem RDead.upd {F : Nat → Prop} {w w' : World} {x N : Nat} (h : RDead w x N) (u : Upd F w w') (hx : ¬ F x) (hF : ∀ k, F k → ¬ ∃ cur, w.heap[k]? = some (.cells cur 32 (0, 0))) : RDead w' x N := by
  have l := tag_lt h.tag
  obtain ⟨g, c, cur, k1, k2, k3⟩ := h.c1
  obtain ⟨a2, e2, j2⟩ := h.c2
  have lg := (Array.getElem?_eq_some_iff.1 k2).1
  have hg : ¬ F g := fun h => hF g h ⟨cur, k2⟩
  refine ⟨(u.cell (p := ⟨x, 0, none⟩) l hx).trans h.c0, ⟨g, c, cur, (u.cell (p := ⟨x, 1, none⟩) l hx).trans k1, (u.block g lg hg).trans k2, fun i hi => ?_⟩, ⟨a2, e2, (u.cell (p := ⟨x, 2, none⟩) l hx).trans j2⟩, (u.cell (p := ⟨x, 3, none⟩) l hx).trans h.c3, tag_upd h.tag u hx, h.pos, h.few⟩
  obtain ⟨a, d, k4⟩ := k3 i hi
  exact ⟨a, d, (u.cell (p := ⟨g, i, none⟩) lg hg).trans k4⟩
theorem RDead.old {w w' : World} {x N : Nat} (h : RDead w x N) (u : Upd (fun _ => False) w w') : RDead w' x N := h.upd u (fun h => h) (fun _ h => h.elim)
noncomputable def noRows (N : Nat) : Array Value := madeCells #[.slice none 0 0] N
theorem run_rows (N : Nat) (hN : N ≤ 8192) (w : World) : (Instr.makeSlice 22 (.int .i64 N) (.int .i64 N)).run Try.prog w = .ok (.slice (some ⟨w.heap.size, 0, none⟩) N N) (w.alloc (.cells (noRows N) 32)) := by
  obtain ⟨i0, hi, hz0, hz1, hz2⟩ := info_parts info_sl
  have h0 := run_make (P := Try.prog) w 22 32 i0 _ Try.underlying22 hi hz0 .i64 .i64 N N (by omega) (by omega) (by rw [hz2]; omega) (by omega)
  rw [hz1] at h0
  first
    | exact h0
    | (simp at h0 ⊢; exact h0)
theorem rows_cell (w : World) {N i : Nat} (hi : i < N) : (w.alloc (.cells (noRows N) 32)).cell? ⟨w.heap.size, i, none⟩ = some (.slice none 0 0) := by
  rw [World.cell?_alloc_at _ _ _ _ (by simp)]
  simp [noRows, madeCells, hi, Nat.mod_one]
def RFailP (w : World) (x N : Nat) (e : Ending) (w' : World) : Prop := e = .returned (.int .i64 0) ∧ RDead w' x N ∧ Upd (fun k => k = x) w w' ∧ ∀ k o n c, w'.cell? ⟨x, 1, none⟩ = some (.slice (some ⟨k, o, none⟩) n c) → w.heap.size ≤ k
set_option maxHeartbeats 1000000 in
theorem rfail_ok (w : World) (x hb hw hd N : Nat) (B V : Nat → List Int) (T : Nat → Bool) (h : RAt w x hb hw hd N B V T) :
    Calls Try.prog 29 #[.pointer (some ⟨x, 0, none⟩)] w (RFailP w x N) := by
  have c3 := h.c3
  obtain ⟨d0, c0⟩ := h.c0
  obtain ⟨d1, c1⟩ := h.c1
  obtain ⟨d2, c2⟩ := h.c2
  have hp := h.pos
  have hf := h.few
  have ht := h.tag
  have fx := tag_frozen ht
  have lx := tag_lt ht
  have HT := Lib.hid ht; clear ht
  clear h
  have hmk := run_rows N hf
  go_enter Try.func29, Try.ntmps29
  go_wp2_with fail
  have k0 : ((((w.setCell ⟨x, 0, none⟩ (.slice none 0 0)).setCell ⟨x, 1, none⟩ (.slice (some ⟨w.heap.size, 0, none⟩) N N)).setCell ⟨x, 2, none⟩ (.slice none 0 0)).setCell ⟨x, 3, none⟩ (.bool true)).cell? ⟨x, 0, none⟩ = some (.slice none 0 0) := by simp [go_sem, c0]
  have k1 : ((((w.setCell ⟨x, 0, none⟩ (.slice none 0 0)).setCell ⟨x, 1, none⟩ (.slice (some ⟨w.heap.size, 0, none⟩) N N)).setCell ⟨x, 2, none⟩ (.slice none 0 0)).setCell ⟨x, 3, none⟩ (.bool true)).cell? ⟨x, 1, none⟩ = some (.slice (some ⟨w.heap.size, 0, none⟩) N N) := by simp [go_sem, c1]
  have k2 : ((((w.setCell ⟨x, 0, none⟩ (.slice none 0 0)).setCell ⟨x, 1, none⟩ (.slice (some ⟨w.heap.size, 0, none⟩) N N)).setCell ⟨x, 2, none⟩ (.slice none 0 0)).setCell ⟨x, 3, none⟩ (.bool true)).cell? ⟨x, 2, none⟩ = some (.slice none 0 0) := by simp [go_sem, c2]
  have k3 : ((((w.setCell ⟨x, 0, none⟩ (.slice none 0 0)).setCell ⟨x, 1, none⟩ (.slice (some ⟨w.heap.size, 0, none⟩) N N)).setCell ⟨x, 2, none⟩ (.slice none 0 0)).setCell ⟨x, 3, none⟩ (.bool true)).cell? ⟨x, 3, none⟩ = some (.bool true) := by simp [go_sem, c3]
  have kt := tag_put (tag_put (tag_put (tag_put HT.out x 0 (.slice none 0 0)) x 1 (.slice (some ⟨w.heap.size, 0, none⟩) N N)) x 2 (.slice none 0 0)) x 3 (.bool true)
  have ku : Upd (fun k => k = x) w ((((w.setCell ⟨x, 0, none⟩ (.slice none 0 0)).setCell ⟨x, 1, none⟩ (.slice (some ⟨w.heap.size, 0, none⟩) N N)).setCell ⟨x, 2, none⟩ (.slice none 0 0)).setCell ⟨x, 3, none⟩ (.bool true)) := ((((Upd.refl (fun k => k = x) w).setCell (p := ⟨x, 0, none⟩) (Or.inl rfl) _).setCell (p := ⟨x, 1, none⟩) (Or.inl rfl) _).setCell (p := ⟨x, 2, none⟩) (Or.inl rfl) _).setCell (p := ⟨x, 3, none⟩) (Or.inl rfl) _
  have ks : ((((w.setCell ⟨x, 0, none⟩ (.slice none 0 0)).setCell ⟨x, 1, none⟩ (.slice (some ⟨w.heap.size, 0, none⟩) N N)).setCell ⟨x, 2, none⟩ (.slice none 0 0)).setCell ⟨x, 3, none⟩ (.bool true)).heap.size = w.heap.size := by simp
  generalize ((((w.setCell ⟨x, 0, none⟩ (.slice none 0 0)).setCell ⟨x, 1, none⟩ (.slice (some ⟨w.heap.size, 0, none⟩) N N)).setCell ⟨x, 2, none⟩ (.slice none 0 0)).setCell ⟨x, 3, none⟩ (.bool true)) = W at k0 k1 k2 k3 kt ku ks ⊢
  go_ret
  have u : Upd (fun _ => False) W (W.alloc (.cells (noRows N) 32)) := (Upd.refl _ _).alloc _
  have lW := tag_lt kt
  rw [← ks] at k1
  have hc : ∀ o, (W.alloc (.cells (noRows N) 32)).cell? ⟨x, o, none⟩ = W.cell? ⟨x, o, none⟩ := fun o => u.cell (p := ⟨x, o, none⟩) lW (fun h => h)
  exact ⟨rfl, ⟨(hc 0).trans k0, ⟨W.heap.size, 0, _, (hc 1).trans k1, (MapKept.heap_alloc W _).1, fun i hi => ⟨_, _, rows_cell W hi⟩⟩, ⟨_, _, (hc 2).trans k2⟩, (hc 3).trans k3, tag_upd kt u (fun h => h), hp, hf⟩, ku.alloc _, fun k o n' c e => by rw [hc 1, k1] at e; cases e; omega⟩
section
variable {w : World} {x N : Nat}
theorem rread_dead (i : Int) (h : RDead w x N) : Calls Try.prog 31 #[.pointer (some ⟨x, 0, none⟩), .int .i64 i] w (Same w (.tuple #[.slice none 0 0, .int .i64 60])) := by
  have c3 := h.c3
  clear h
  go_enter Try.func31, Try.ntmps31
  go_wp2_with fail
  go_ret2
  exact ⟨rfl, rfl⟩
theorem rwrite_dead (i : Int) (v : Value) (h : RDead w x N) : Calls Try.prog 22 #[.pointer (some ⟨x, 0, none⟩), .int .i64 i, v] w (Same w (.int .i64 60)) := by
  have c3 := h.c3
  clear h
  go_enter Try.func22, Try.ntmps22
  go_wp2_with fail
  go_ret
  exact ⟨rfl, rfl⟩
theorem rsync_dead (h : RDead w x N) : Calls Try.prog 25 #[.pointer (some ⟨x, 0, none⟩)] w (Same w (.int .i64 60)) := by
  have c3 := h.c3
  clear h
  go_enter Try.func25, Try.ntmps25
  go_wp2_with fail
  go_ret
  exact ⟨rfl, rfl⟩
theorem rcrash_dead (v : Value) (t n : Int) (h : RDead w x N) : Calls Try.prog 27 #[.pointer (some ⟨x, 0, none⟩), v, .int .i64 t, .int .i64 n] w (Same w (.int .i64 60)) := by
  have c3 := h.c3
  clear h
  go_enter Try.func27, Try.ntmps27
  go_wp2_with fail
  go_ret
  exact ⟨rfl, rfl⟩
theorem rfail_dead (h : RDead w x N) : Calls Try.prog 29 #[.pointer (some ⟨x, 0, none⟩)] w (Same w (.int .i64 60)) := by
  have c3 := h.c3
  clear h
  go_enter Try.func29, Try.ntmps29
  go_wp2_with fail
  go_ret
  exact ⟨rfl, rfl⟩
theorem rdirty_dead (h : RDead w x N) : Calls Try.prog 38 #[.pointer (some ⟨x, 0, none⟩)] w (Same w (.slice none 0 0)) := by
  obtain ⟨a2, e2, c2⟩ := h.c2
  clear h
  go_enter Try.func38, Try.ntmps38
  go_wp2_with fail
  refine wp_loop_rounds 1 ?_
  rw [rounds_succ]
  go_wp2_with fail
  go_ret
  exact ⟨rfl, rfl⟩
theorem rall_nil : Calls Try.prog 20 #[.slice none 0 0] w (Same w (.slice none 0 0)) := by
  go_enter Try.func20, Try.ntmps20
  go_wp2_with fail
  refine wp_loop_rounds 1 ?_
  rw [rounds_succ]
  go_wp2_with fail
  go_ret
  exact ⟨rfl, rfl⟩
theorem rimage_dead (h : RDead w x N) : Calls Try.prog 40 #[.pointer (some ⟨x, 0, none⟩)] w (Same w (.slice none 0 0)) := by
  have c0 := h.c0
  clear h
  go_enter Try.func40, Try.ntmps40
  go_wp2_with (go_at_call 20; refine rall_nil.mono ?_; rintro e w' ⟨rfl, rfl⟩)
  go_ret
  exact ⟨rfl, rfl⟩
end
end Go.Proofs.Ytcmhcibkpmbnoaa
