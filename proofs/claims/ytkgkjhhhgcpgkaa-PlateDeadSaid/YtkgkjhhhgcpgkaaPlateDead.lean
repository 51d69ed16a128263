/-
  PlateDead: a plate that has failed answers nothing any more.
-/
import Derived.Test.YtkgkjhhhgcpgkaaPlateOff
import Derived.Laws.IdiomRangeMap
namespace Go.Proofs.Ytkgkjhhhgcpgkaa
open Go Go.RowKit Go.MapKept Go.ChangeMaps

structure DeadAt (w : World) (b n : Nat) : Prop where
  c0 : w.cell? ⟨b, 0, none⟩ = some (.slice none 0 0)
  c1 : w.cell? ⟨b, 1, none⟩ = some (.map none)
  c2 : w.cell? ⟨b, 2, none⟩ = some (.int .i64 n)
  c3 : w.cell? ⟨b, 3, none⟩ = some (.bool true)
  pos : 0 < n
theorem DeadAt.old {w w' : World} {b n : Nat} (h : DeadAt w b n) (u : Upd (fun _ => False) w w') : DeadAt w' b n := by
  have hl := World.block_lt_of_cell? _ _ h.c0
  have hc : ∀ o, w'.cell? ⟨b, o, none⟩ = w.cell? ⟨b, o, none⟩ := fun o => u.cell (p := ⟨b, o, none⟩) hl (fun h => h)
  exact ⟨(hc 0).trans h.c0, (hc 1).trans h.c1, (hc 2).trans h.c2, (hc 3).trans h.c3, h.pos⟩
def FailPost (w : World) (b n : Nat) (e : Ending) (w' : World) : Prop := e = .returned (.int .i64 0) ∧ DeadAt w' b n ∧ Upd (fun k => k = b) w w'
theorem fail_any (w : World) (b ab cm : Nat) (D : List (List Int)) (C : Int → Option (List Int)) (h : PlateAt w b ab cm D C) : Calls Try.prog 27 #[.pointer (some ⟨b, 0, none⟩)] w (FailPost w b D.length) := by
  have HST := Lib.hid (state_ok w b ab cm D C h)
  have hp := h.pos
  obtain ⟨v0, c0, _⟩ := h.c0
  have c1 := h.c1
  have c2 := h.c2
  have c3 := h.c3
  obtain ⟨cur, ht⟩ := h.tag
  have f0 : ∀ o, w.frozen? ⟨b, o, none⟩ = false := fun o => by simp [World.frozen?, ht]
  clear ht h
  go_enter Try.func27, Try.ntmps27
  go_wp2_with (go_at_call 33; refine HST.out.mono ?_; rintro e w' ⟨rfl, rfl⟩)
  go_ret
  refine ⟨rfl, ⟨?_, ?_, ?_, ?_, hp⟩, ?_⟩
  · simp [go_sem, c0]
  · simp [go_sem, c1]
  · simp [go_sem, c2]
  · simp [go_sem, c3]
  · iterate 3 (refine Upd.setCell ?_ (by exact Or.inl rfl) _)
    exact Upd.refl _ _
theorem clone_nil (w : World) (pb : Nat) (h0 : w.cell? ⟨pb, 0, none⟩ = some (.slice none 0 0)) : Calls Try.prog 37 #[.pointer (some ⟨pb, 0, none⟩)] w (Same w (.slice none 0 0)) := by
  go_enter Try.func37, Try.ntmps37
  go_wp2
  refine wp_loop_rounds 1 ?_
  rw [rounds_succ]
  go_wp2
  go_ret
  exact ⟨rfl, rfl⟩
def DeadCopy (w : World) (e : Ending) (w' : World) : Prop := ∃ b', e = .returned (.pointer (some ⟨b', 0, none⟩)) ∧ w'.cell? ⟨b', 3, none⟩ = some (.bool true) ∧ Upd (fun _ => False) w w'
set_option maxRecDepth 100000 in
set_option maxHeartbeats 4000000 in
theorem copy_dead (w : World) (b n : Nat) (h : DeadAt w b n) : Calls Try.prog 24 #[.pointer (some ⟨b, 0, none⟩)] w (DeadCopy w) := by
  have hmm := @run_makeMap Try.prog
  have hp := h.pos
  have c0 := h.c0
  have c1 := h.c1
  have c2 := h.c2
  have c3 := h.c3
  have lb := World.block_lt_of_cell? _ _ c0
  simp only [] at lb
  go_enter Try.func24, Try.ntmps24
  go_upto_region 3 with (fail)
  go_cut [3] (fun v wc => ∃ b', v = .pointer (some ⟨b', 0, none⟩) ∧ wc.cell? ⟨b', 3, none⟩ = some (.bool true) ∧ Upd (fun _ => False) w wc)
  case first =>
    --{R
    go_region_with (go_at_call 37; refine (clone_nil _ b (by first | exact c0 | exact (((Upd.refl (fun _ => False) w).alloc _).cell (p := ⟨b, 0, none⟩) lb (fun h => h)).trans c0)).mono ?_; rintro e w' ⟨rfl, rfl⟩)
    all_goals
      go_wp2_with fail
      go_meet
      case rel => exact ⟨_, rfl, by simp [go_sem], by first | exact ((Upd.refl _ _).alloc _).alloc _ | exact (((Upd.refl _ _).alloc _).alloc _).drew | exact (((Upd.refl _ _).alloc _).alloc _).drewN _⟩
    --}R
  case rest =>
    obtain ⟨b', rfl, h3, hu⟩ := hcut
    have c1' := (hu.cell (p := ⟨b, 1, none⟩) lb (fun h => h)).trans c1
    have HU := Lib.hid hu; clear hu
    clear c0 c1 c2 c3
    have hr := run_range_nilMap (P := Try.prog) wc 61 _ _ Try.underlying61
    have hnx := fun ty => run_next_nilMap (P := Try.prog) wc ty 0 0 #[]
    go_wp2_with fail
    refine wp_loop_rounds 1 ?_
    rw [rounds_succ]
    go_wp2_with fail
    go_ret
    exact ⟨b', rfl, by rw [World.cell?_alloc_old _ _ _ (by have := World.block_lt_of_cell? _ _ h3; simp only [] at this; show b' ≠ _; omega)]; exact h3, HU.out.alloc _⟩
end Go.Proofs.Ytkgkjhhhgcpgkaa
