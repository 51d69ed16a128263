/-
  A plate that has failed: Fail, Copy.
-/
import Derived.Test.YtcmhcibkpmbnoaaPlateOff
import Derived.Laws.IdiomRangeMap
import Derived.Deep.RegionHeld3
set_option linter.unusedVariables false
namespace Go.Proofs.Ytcmhcibkpmbnoaa
open Go Go.RowKit Go.MapKept Go.ChangeMaps

structure DeadAt (w : World) (b n : Nat) : Prop where
  c0 : w.cell? ⟨b, 0, none⟩ = some (.slice none 0 0)
  c1 : w.cell? ⟨b, 1, none⟩ = some (.map none) ∨ ∃ m, w.cell? ⟨b, 1, none⟩ = some (.map (some m)) ∧ w.im m = some []
  c2 : w.cell? ⟨b, 2, none⟩ = some (.int .i64 n)
  c3 : w.cell? ⟨b, 3, none⟩ = some (.bool true)
  tag : ∃ cur, w.heap[b]? = some (.cells cur 55 (0, 0))
  pos : 0 < n
theorem DeadAt.lt {w : World} {b n : Nat} (h : DeadAt w b n) : b < w.heap.size := World.block_lt_of_cell? _ _ h.c0
theorem DeadAt.upd {F : Nat → Prop} {w w' : World} {b n : Nat} (h : DeadAt w b n) (u : Upd F w w') (hb : ¬ F b) (hm : ∀ m, w.cell? ⟨b, 1, none⟩ = some (.map (some m)) → ¬ F m) : DeadAt w' b n := by
  have hl := h.lt
  have hc : ∀ o, w'.cell? ⟨b, o, none⟩ = w.cell? ⟨b, o, none⟩ := fun o => u.cell (p := ⟨b, o, none⟩) hl hb
  obtain ⟨cur, ht⟩ := h.tag
  refine ⟨(hc 0).trans h.c0, ?_, (hc 2).trans h.c2, (hc 3).trans h.c3, ⟨cur, (u.block b hl hb).trans ht⟩, h.pos⟩
  rcases h.c1 with h1 | ⟨m, h1, h2⟩
  · exact .inl ((hc 1).trans h1)
  · exact .inr ⟨m, (hc 1).trans h1, (u.im (im_lt (by rw [h2]; rfl)) (hm m h1)).trans h2⟩
theorem DeadAt.old {w w' : World} {b n : Nat} (h : DeadAt w b n) (u : Upd (fun _ => False) w w') : DeadAt w' b n := h.upd u (fun h => h) (fun _ _ h => h)
theorem DeadAt.st {w : World} {b n : Nat} (h : DeadAt w b n) : StAt w (.pointer (some ⟨b, 0, none⟩)) 60 := st_dead h.pos h.c2 h.c3
theorem tag_put0 {w : World} {b : Nat} {ty : TypeId} (h : ∃ cur, w.heap[b]? = some (.cells cur ty (0, 0))) (k o : Nat) (v : Value) : ∃ cur, (w.setCell ⟨k, o, none⟩ v).heap[b]? = some (.cells cur ty (0, 0)) := by
  obtain ⟨cur, h⟩ := h
  by_cases e : k = b
  · subst e
    refine ⟨cur.setIfInBounds o v, ?_⟩
    show (w.heap.modify k _)[k]? = _
    rw [Array.getElem?_modify, if_pos rfl, h]
    rfl
  · refine ⟨cur, ?_⟩
    show (w.heap.modify k _)[b]? = _
    rw [Array.getElem?_modify, if_neg e, h]
def FailPost (w : World) (b n : Nat) (e : Ending) (w' : World) : Prop := e = .returned (.int .i64 0) ∧ DeadAt w' b n ∧ Upd (fun k => k = b) w w' ∧ w'.cell? ⟨b, 1, none⟩ = some (.map none)
theorem fail_any (w : World) (b ab cm : Nat) (D : List (List Int)) (C : Int → Option (List Int)) (h : PlateAt w b ab cm D C) : Calls Try.prog 28 #[.pointer (some ⟨b, 0, none⟩)] w (FailPost w b D.length) := by
  have HST := Lib.hid (state_ok w b ab cm D C h)
  have hp := h.pos
  obtain ⟨v0, c0, _⟩ := h.c0
  have c1 := h.c1
  have c2 := h.c2
  have c3 := h.c3
  obtain ⟨cur, ht⟩ := h.tag
  have f0 : ∀ o, w.frozen? ⟨b, o, none⟩ = false := fun o => by simp [World.frozen?, ht]
  have HT : Hid (∃ cur, w.heap[b]? = some (.cells cur 55 (0, 0))) := Lib.hid ⟨cur, ht⟩
  clear ht h
  go_enter Try.func28, Try.ntmps28
  go_wp2_with (go_at_call 43; refine HST.out.mono ?_; rintro e w' ⟨rfl, rfl⟩)
  go_ret
  refine ⟨rfl, ⟨?_, .inl ?_, ?_, ?_, ?_, hp⟩, ?_, ?_⟩
  · simp [go_sem, c0]
  · simp [go_sem, c1]
  · simp [go_sem, c2]
  · simp [go_sem, c3]
  · iterate 3 (refine tag_put0 ?_ _ _ _)
    exact HT.out
  · iterate 3 (refine Upd.setCell ?_ (by exact Or.inl rfl) _)
    exact Upd.refl _ _
  · simp [go_sem, c1]
theorem clone_nil (w : World) (pb : Nat) (h0 : w.cell? ⟨pb, 0, none⟩ = some (.slice none 0 0)) : Calls Try.prog 19 #[.pointer (some ⟨pb, 0, none⟩)] w (Same w (.slice none 0 0)) := by
  go_enter Try.func19, Try.ntmps19
  go_wp2
  refine wp_loop_rounds 1 ?_
  rw [rounds_succ]
  go_wp2
  go_ret
  exact ⟨rfl, rfl⟩
def DeadCopy (w : World) (n : Nat) (e : Ending) (w' : World) : Prop := ∃ b', e = .returned (.pointer (some ⟨b', 0, none⟩)) ∧ DeadAt w' b' n ∧ w.heap.size ≤ b' ∧ (∀ m, w'.cell? ⟨b', 1, none⟩ = some (.map (some m)) → w.heap.size ≤ m) ∧ Upd (fun _ => False) w w'
/-- What is made first. -/
structure CutDC (w : World) (n b' : Nat) (wc : World) : Prop where
  d : DeadAt wc b' n
  ge : w.heap.size ≤ b'
  mge : ∀ m, wc.cell? ⟨b', 1, none⟩ = some (.map (some m)) → w.heap.size ≤ m
  up : Upd (fun _ => False) w wc
theorem cutDC {w X : World} {n m : Nat} (u : Upd (fun _ => False) w X) (him : X.im m = some []) (hm : w.heap.size ≤ m) (hn : 0 < n) : CutDC w n X.heap.size (X.alloc (.cells #[.slice none 0 0, .map (some m), .int .i64 n, .bool true] 55)) := by
  have hlt := im_lt (w := X) (b := m) (by rw [him]; rfl)
  have h1 : (X.alloc (.cells #[.slice none 0 0, .map (some m), .int .i64 n, .bool true] 55)).cell? ⟨X.heap.size, 1, none⟩ = some (.map (some m)) := by simp [go_sem]
  refine ⟨⟨by simp [go_sem], .inr ⟨m, h1, by rw [im_alloc_old _ hlt]; exact him⟩, by simp [go_sem], by simp [go_sem], ⟨_, (MapKept.heap_alloc X _).1⟩, hn⟩, u.size, fun m' e => ?_, u.alloc _⟩
  rw [h1] at e
  cases e
  exact hm
theorem CutDC.drew {w wc : World} {n b' : Nat} (h : CutDC w n b' wc) : CutDC w n b' wc.drew := ⟨h.d.old (Upd.refl _ _).drew, h.ge, h.mge, h.up.drew⟩
theorem dead_copied {w wc w' : World} {n b' : Nat} (h : CutDC w n b' wc) (u : Upd (fun _ => False) wc w') : DeadCopy w n (.returned (.pointer (some ⟨b', 0, none⟩))) w' :=
  ⟨b', rfl, h.d.old u, h.ge, fun m e => h.mge m ((u.cell (p := ⟨b', 1, none⟩) h.d.lt (fun h => h)).symm.trans e), h.up.trans u⟩
set_option maxRecDepth 100000 in
set_option maxHeartbeats 4000000 in
theorem copy_dead (w : World) (b n : Nat) (h : DeadAt w b n) : Calls Try.prog 13 #[.pointer (some ⟨b, 0, none⟩)] w (DeadCopy w n) := by
  have hmm := @run_makeMap Try.prog
  have hp := h.pos
  have c0 := h.c0
  have hc1 := h.c1
  have c2 := h.c2
  have c3 := h.c3
  have lb := h.lt
  clear h
  have HC1 := Lib.hid hc1; clear hc1
  go_enter Try.func13, Try.ntmps13
  go_upto_region 3 with (fail)
  go_region_held3 (fun w' => w'.cell? ⟨b, 2, none⟩ = some (.int .i64 n) ∧ w'.cell? ⟨b, 3, none⟩ = some (.bool true))
    (first | exact ⟨c2, c3⟩ | exact ⟨(Upd.cell (F := fun _ => False) (p := ⟨b, 2, none⟩) (by repeat (first | exact Upd.refl _ _ | apply Upd.drew | apply Upd.alloc)) lb (fun h => h)).trans c2, (Upd.cell (F := fun _ => False) (p := ⟨b, 3, none⟩) (by repeat (first | exact Upd.refl _ _ | apply Upd.drew | apply Upd.alloc)) lb (fun h => h)).trans c3⟩)
    ((go_at_call 19; (with_reducible refine (clone_nil _ b (by first | exact c0 | exact (Upd.cell (F := fun _ => False) (p := ⟨b, 0, none⟩) (by repeat (first | exact Upd.refl _ _ | apply Upd.drew | apply Upd.alloc)) lb (fun h => h)).trans c0)).mono ?_); rintro e w' ⟨rfl, rfl⟩))
  all_goals
    have hcc := (cutDC (X := w.alloc (.map #[] 0)) (m := w.heap.size) (w := w) ((Upd.refl _ _).alloc _) (by simp [go_sem]) (Nat.le_refl _) hp).drew
    rw [World.size_alloc] at hcc
    generalize ((w.alloc (.map #[] 0)).alloc (.cells #[.slice none 0 0, .map (some w.heap.size), .int .i64 n, .bool true] 55)).drew = wc at hcc ⊢
    have HCC := Lib.hid hcc; clear hcc
    clear hmm c0 c2 c3
    generalize w.heap.size + 1 = b' at HCC ⊢
    rcases HC1.out with c1 | ⟨m, c1, him⟩
    · have c1' := (HCC.out.up.cell (p := ⟨b, 1, none⟩) lb (fun h => h)).trans c1
      have hr := run_range_nilMap (P := Try.prog) wc 53 _ _ Try.underlying53
      have hnx := fun ty => run_next_nilMap (P := Try.prog) wc ty 0 0 #[]
      clear c1
      go_wp2_with fail
      refine wp_loop_rounds 1 ?_
      rw [rounds_succ]
      go_wp2_with fail
      go_ret
      exact dead_copied HCC.out (by repeat (first | exact Upd.refl _ _ | apply Upd.drew | apply Upd.alloc))
    · have c1' := (HCC.out.up.cell (p := ⟨b, 1, none⟩) lb (fun h => h)).trans c1
      have him' := (HCC.out.up.im (im_lt (by rw [him]; rfl)) (fun h => h)).trans him
      clear c1 him
      go_wp2_with (at_range; refine wpList_range_im rfl _ 53 _ _ rfl Try.underlying53 m [] rfl him' ?_; intro w0 hit0 hu0 hs0 hc0; clear hc0)
      go_frame
      have HIT := Lib.hid hit0; clear hit0
      have HU0 := Lib.hid hu0; clear hu0
      clear c1' him'
      refine wp_loop_rounds 1 ?_
      rw [rounds_succ]
      go_wp2_with (at_next; refine wpList_next_im rfl _ rfl wc.heap.size m [] rfl HIT.out ?_ ?_)
      go_ret
      exact dead_copied HCC.out HU0.out
end Go.Proofs.Ytcmhcibkpmbnoaa
