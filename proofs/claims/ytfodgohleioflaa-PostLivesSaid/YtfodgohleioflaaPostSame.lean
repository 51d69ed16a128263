/-
  SameCmd, SameVote, SameMsg: of messages that hold the same.
-/
import Derived.Test.YtfodgohleioflaaPostOwn
namespace Go.Proofs.Ytfodgohleioflaa
open Go Go.RowKit Go.MapKept Go.ChangeMaps
set_option linter.unusedVariables false

theorem ints_equal (w : World) (v v' : Value) (l : List Int) (h : Ints w v l) (h' : Ints w v' l) : Calls Try.prog 39 #[v, v'] w (BoolPost w true) := by
  have hb := h.2
  rcases h.cells with ⟨rfl, a, c, rfl, _⟩ | ⟨b, o, cap, rfl, hl, hc⟩
  · obtain ⟨a', c', rfl⟩ := h'.shape
    refine (Try.slices_Equal_int_empty a a' c 0 c' w (by omega)).mono fun e w' ⟨he, hw⟩ => ⟨he, hw ▸ Upd.refl _ _⟩
  · rcases h'.cells with ⟨rfl, a', c', rfl, _⟩ | ⟨b', o', cap', rfl, hl', hc'⟩
    · exact (Try.slices_Equal_int_empty (some ⟨b, o, none⟩) a' cap 0 c' w (by omega)).mono fun e w' ⟨he, hw⟩ => ⟨he, hw ▸ Upd.refl _ _⟩
    · refine (Try.slices_Equal_int b o l.length cap b' o' l.length cap' l l w (Nat.le_refl _) (Nat.le_refl _) (by omega) (by omega) hc hc').mono fun e w' ⟨he, q, hw⟩ => ⟨by rw [he]; simp, hw ▸ (Upd.refl _ _).drewN q⟩
theorem Byts.in' {w : World} {v : Value} {l : List Int} (h : Byts w v l) : ∃ p c, v = .slice p l.length c ∧ Lib.BytesIn w p l.length l := by
  rcases h.1 with ⟨h0, a, c, rfl, _⟩ | ⟨b, o, cap, rfl, _, _, hc⟩
  · have h0' : l = [] := by simpa using h0
    subst h0'
    exact ⟨a, c, rfl, Lib.BytesIn.nil w a []⟩
  · refine ⟨_, cap, by rw [List.length_map], fun _ => ⟨b, o, rfl, fun i hi => ?_⟩⟩
    have := hc i 0 (by simpa using hi) (by omega)
    simp only [Nat.mul_one, Nat.add_zero] at this
    rw [this, List.getD_eq_getElem?_getD, List.getD_eq_getElem?_getD, List.getElem?_map, List.getElem?_eq_getElem hi]
    rfl
theorem bytes_equal (w : World) (v v' : Value) (l : List Int) (h : Byts w v l) (h' : Byts w v' l) : Calls Try.prog 30 #[v, v'] w (BoolPost w true) := by
  obtain ⟨p, c, rfl, h1⟩ := h.in'
  obtain ⟨p', c', rfl, h2⟩ := h'.in'
  refine (Try.bytes_Equal_all p p' l.length c l.length c' l l w rfl rfl h1 h2).mono fun e w' ⟨he, hw⟩ => ⟨by rw [he]; simp, hw ▸ Upd.refl _ _⟩
set_option maxRecDepth 100000 in
set_option maxHeartbeats 4000000 in
theorem same_cmd (w : World) (c : CmdS) (nv nv' : Value) (l : List Int) (h : Ints w nv l) (h' : Ints w nv' l) : Calls Try.prog 27 #[.agg (cmdC c nv), .agg (cmdC c nv')] w (BoolPost w true) := by
  obtain ⟨na, nn, nc, rfl⟩ := h.slice
  obtain ⟨na', nn', nc', rfl⟩ := h'.slice
  have HN := Lib.hid h; clear h
  have HN' := Lib.hid h'; clear h'
  unfold cmdC
  go_enter Try.func27, Try.ntmps27
  go_wp2_with (go_at_call 39; refine (ints_equal _ _ _ l (HN.out.old (((Upd.refl _ _).alloc _).alloc _)) (HN'.out.old (((Upd.refl _ _).alloc _).alloc _))).mono ?_; rintro e w' ⟨rfl, hu⟩)
  go_ret
  exact ⟨rfl, (((Upd.refl _ _).alloc _).alloc _).trans hu⟩
end Go.Proofs.Ytfodgohleioflaa
