/-
  begin: a head is written.
-/
import Derived.Test.YtchpekecgdbphaaWal7
namespace Go.Proofs.Ytchpekecgdbphaa
open Go Go.RowKit Go.MapKept Go.ChangeMaps

def BeginPost (w : World) (wb b ab cm : Nat) (size n l p f next used : Int) (D : List (List Int)) (C : Int → Option (List Int)) (q : Nat) (e : Ending) (w' : World) : Prop :=
  e = .returned (.int .i64 0) ∧ PlateAt w' b ab cm (viewL (viewL D (cput C q zeros)) (cput (fun _ => none) q (headB n l p f))) (fun _ => none) ∧ WalAt w' wb b size n l p f next used ∧ Upd (fun k => k = ab ∨ k = cm ∨ k = wb) w w'
theorem tag_set {w : World} {b : Nat} {ty : TypeId} (h : ∃ cur, w.heap[b]? = some (.cells cur ty (0, 0))) (o : Nat) (v : Value) : ∃ cur, (w.setCell ⟨b, o, none⟩ v).heap[b]? = some (.cells cur ty (0, 0)) := by
  obtain ⟨cur, h⟩ := h
  refine ⟨cur.setIfInBounds o v, ?_⟩
  show (w.heap.modify b _)[b]? = _
  rw [Array.getElem?_modify, if_pos rfl, h]
  rfl
theorem set_same {w : World} {b o : Nat} {x v : Value} (h : w.cell? ⟨b, o, none⟩ = some x) : (w.setCell ⟨b, o, none⟩ v).cell? ⟨b, o, none⟩ = some v := World.cell?_setCell_same' _ _ _ (by rw [h]; rfl)
theorem set_other {w : World} {b o o' : Nat} {x v : Value} (h : w.cell? ⟨b, o, none⟩ = some x) (hne : o' ≠ o) : (w.setCell ⟨b, o', none⟩ v).cell? ⟨b, o, none⟩ = some x := by
  rw [World.cell?_setCell_other _ _ _ _ (fun e => by simp only [Addr.mk.injEq] at e; omega), h]
theorem WalAt.head {w : World} {wb b : Nat} {size n0 l0 p0 f0 next used : Int} (h : WalAt w wb b size n0 l0 p0 f0 next used) (n l p f : Int) :
    WalAt ((((w.setCell ⟨wb, 2, none⟩ (.int .i64 n)).setCell ⟨wb, 3, none⟩ (.int .i64 l)).setCell ⟨wb, 4, none⟩ (.int .i64 p)).setCell ⟨wb, 5, none⟩ (.int .i64 f)) wb b size n l p f next used := by
  refine ⟨?_, ?_, ?_, ?_, ?_, ?_, ?_, ?_, tag_set (tag_set (tag_set (tag_set h.tag _ _) _ _) _ _) _ _⟩
  · exact set_other (set_other (set_other (set_other h.c0 (by omega)) (by omega)) (by omega)) (by omega)
  · exact set_other (set_other (set_other (set_other h.c1 (by omega)) (by omega)) (by omega)) (by omega)
  · exact set_other (set_other (set_other (set_same h.c2) (by omega)) (by omega)) (by omega)
  · exact set_other (set_other (set_same (set_other h.c3 (by omega))) (by omega)) (by omega)
  · exact set_other (set_same (set_other (set_other h.c4 (by omega)) (by omega))) (by omega)
  · exact set_same (set_other (set_other (set_other h.c5 (by omega)) (by omega)) (by omega))
  · exact set_other (set_other (set_other (set_other h.c6 (by omega)) (by omega)) (by omega)) (by omega)
  · exact set_other (set_other (set_other (set_other h.c7 (by omega)) (by omega)) (by omega)) (by omega)
set_option maxRecDepth 100000 in
set_option maxHeartbeats 4000000 in
theorem begin_any (q : Nat) (w : World) (wb b ab cm : Nat) (size n0 l0 p0 f0 n l p f next used : Int) (D : List (List Int)) (C : Int → Option (List Int)) (hq : bits .and .i64 n 1 = (q : Int)) (hw : WalAt w wb b size n0 l0 p0 f0 next used) (hp : PlateAt w b ab cm D C) (hd : q < D.length) :
    Calls Try.prog 37 #[.pointer (some ⟨wb, 0, none⟩), .agg #[.int .i64 n, .int .i64 l, .int .i64 p, .int .i64 f]] w (BeginPost w wb b ab cm size n l p f next used D C q) := by
  have hlp := hp.lt
  have hlw := hw.lt
  obtain ⟨n1, n2, n3⟩ := hw.apart hp
  have HP := Lib.hid hp; clear hp
  have HW := Lib.hid hw; clear hw
  obtain ⟨w1, hmk, hs1, hu1, hz1⟩ := make_sec (w.alloc (.cells #[.int .i64 n, .int .i64 l, .int .i64 p, .int .i64 f] 62))
  have hc : ∀ j, w1.cell? ⟨w.heap.size, j, none⟩ = (#[Value.int .i64 n, .int .i64 l, .int .i64 p, .int .i64 f])[j]? := fun j => by
    rw [hu1.cell (p := ⟨w.heap.size, j, none⟩) (by simp) (fun h => h), World.cell?_alloc_at _ _ _ _ rfl]
  simp only [World.size_alloc] at hmk hs1 hz1
  have HS1 := Lib.hid hs1; clear hs1
  have hu1' := ((Upd.refl (fun _ => False) w).alloc (.cells #[.int .i64 n, .int .i64 l, .int .i64 p, .int .i64 f] 62)).trans hu1
  have HU1 := Lib.hid hu1'
  clear hu1 hu1'
  have HC := Lib.hid hc; clear hc
  have HZ1 := Lib.hid hz1; clear hz1
  go_enter Try.func37, Try.ntmps37
  go_wp2_with fail
  refine (put_any q _ wb b ab cm size n0 l0 p0 f0 next used D C _ zeros (HW.out.old HU1.out) (HP.out.old HU1.out) hd HS1.out).mono ?_
  rintro e w2 ⟨rfl, hp2, hu2⟩
  have HU2 := Lib.hid hu2
  have hF : ∀ k, k = ab ∨ k = cm → k ≠ wb ∧ k ≠ w.heap.size := fun k hk => by omega
  have hc2 : ∀ j, w2.cell? ⟨w.heap.size, j, none⟩ = (#[Value.int .i64 n, .int .i64 l, .int .i64 p, .int .i64 f])[j]? := fun j => by
    rw [hu2.cell (p := ⟨w.heap.size, j, none⟩) (by have := HZ1.out; show w.heap.size < _; omega) (fun h => (hF _ h).2 rfl), HC.out j]
  have HW2 := Lib.hid ((HW.out.old HU1.out).upd hu2 (fun h => (hF _ h).1 rfl))
  have HP2 := Lib.hid hp2; clear hp2 hu2
  have d0 : w2.cell? ⟨w.heap.size, 0, none⟩ = some (.int .i64 n) := hc2 0
  have d1 : w2.cell? ⟨w.heap.size, 1, none⟩ = some (.int .i64 l) := hc2 1
  have d2 : w2.cell? ⟨w.heap.size, 2, none⟩ = some (.int .i64 p) := hc2 2
  have d3 : w2.cell? ⟨w.heap.size, 3, none⟩ = some (.int .i64 f) := hc2 3
  clear hc2
  have e2 := HW2.out.c2
  have e3 := HW2.out.c3
  have e4 := HW2.out.c4
  have e5 := HW2.out.c5
  have ef := HW2.out.frozen
  have hne : w.heap.size ≠ wb := by omega
  go_wp2_with fail
  have hu3 : Upd (fun k => k = wb) w2 ((((w2.setCell ⟨wb, 2, none⟩ (.int .i64 n)).setCell ⟨wb, 3, none⟩ (.int .i64 l)).setCell ⟨wb, 4, none⟩ (.int .i64 p)).setCell ⟨wb, 5, none⟩ (.int .i64 f)) := ((((Upd.refl (fun k => k = wb) w2).setCell (p := ⟨wb, 2, none⟩) (Or.inl rfl) _).setCell (p := ⟨wb, 3, none⟩) (Or.inl rfl) _).setCell (p := ⟨wb, 4, none⟩) (Or.inl rfl) _).setCell (p := ⟨wb, 5, none⟩) (Or.inl rfl) _
  have HW3 := Lib.hid (HW2.out.head n l p f)
  have HP3 := Lib.hid (HP2.out.upd hu3 n1.symm n2.symm n3.symm (fun k e => by rw [e]; exact HW2.out.notB))
  have HU3 := Lib.hid hu3
  generalize ((((w2.setCell ⟨wb, 2, none⟩ (.int .i64 n)).setCell ⟨wb, 3, none⟩ (.int .i64 l)).setCell ⟨wb, 4, none⟩ (.int .i64 p)).setCell ⟨wb, 5, none⟩ (.int .i64 f)) = w3 at HW3 HP3 HU3 ⊢
  clear hu3 d0 d1 d2 d3 e2 e3 e4 e5 ef
  refine (head_any n l p f _).mono ?_
  rintro e w4 ⟨v4, rfl, hs4, hf4, hu4⟩
  obtain ⟨k4, o4, c4, rfl, _⟩ := hs4.shape
  have HS4 := Lib.hid hs4; clear hs4 hf4
  have HU4 := Lib.hid hu4; clear hu4
  go_wp2_with fail
  refine (put_any q _ wb b ab cm size n l p f next used _ _ _ (headB n l p f) (HW3.out.old HU4.out) (HP3.out.old HU4.out) (by rw [viewL_length]; exact hd) HS4.out).mono ?_
  rintro e w5 ⟨rfl, hp5, hu5⟩
  have HP5 := Lib.hid hp5; clear hp5
  have HU5 := Lib.hid hu5; clear hu5
  go_wp2_with fail
  go_ret
  have u1 : Upd (fun k => k = ab ∨ k = cm ∨ k = wb) w w2 := (HU1.out.mono (fun _ _ h => h.elim)).trans (HU2.out.mono (fun _ _ h => by rcases h with h | h <;> simp [h]))
  have u2 : Upd (fun k => k = ab ∨ k = cm ∨ k = wb) w2 w4 := (HU3.out.mono (fun _ _ h => Or.inr (Or.inr h))).trans (HU4.out.mono (fun _ _ h => h.elim))
  exact ⟨rfl, HP5.out, (HW3.out.old HU4.out).upd HU5.out (fun h => (hF _ h).1 rfl), (u1.trans u2).trans (HU5.out.mono (fun _ _ h => by rcases h with h | h <;> simp [h]))⟩
end Go.Proofs.Ytchpekecgdbphaa
