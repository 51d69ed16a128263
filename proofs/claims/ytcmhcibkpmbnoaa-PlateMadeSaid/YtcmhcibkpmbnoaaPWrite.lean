/-
  Write of a plate: what is kept is memory of its own; what is no sector is refused.
-/
import Derived.Test.YtcmhcibkpmbnoaaPlateDead
import Derived.Test.YtcmhcibkpmbnoaaByX
import Derived.Deep.RegionWith
import Derived.Deep.DeepCutAuto
import Derived.Deep.CutBlock
import Derived.Deep.DeepMust
set_option linter.unusedVariables false
namespace Go.Proofs.Ytcmhcibkpmbnoaa
open Go Go.RowKit Go.MapKept Go.ChangeMaps

theorem clone_b64 (w : World) (v : Value) (l : List Int) (h : BytV w v l) (hl : l.length = 64) : Calls Try.prog 16 #[v] w (ClonePost w l) := by
  rcases h with ⟨rfl, _⟩ | ⟨k, o, c, rfl, hc⟩
  · simp at hl
  · rw [hl]
    refine (Try.bytes_Clone_at ⟨k, o, none⟩ 64 _ l w hl (by omega) (fun i hi => by rw [Addr.add_lit]; exact hc i (by omega))).mono ?_
    rintro e w' ⟨v', rfl, ho, _, hb⟩
    exact ⟨v', rfl, sec_of_owns hl ho, Fresh.of_owns ho, Upd.of_below hb⟩
/-- Behind the store into the cache; what is kept is new. -/
def CutF (w : World) (cm : Nat) (M : List (Int × Value)) (i : Int) (l : List Int) (wc : World) : Prop :=
  ∃ sv, wc.im cm = some (aput M i sv) ∧ Sec wc sv l ∧ Fresh w.heap.size sv ∧ Upd (fun k => k = cm) w wc
def WriteF (w : World) (cm : Nat) (M : List (Int × Value)) (i : Nat) (l : List Int) (e : Ending) (w' : World) : Prop :=
  e = .returned (.int .i64 0) ∧ CutF w cm M i l w'
theorem write_own (i : Nat) (w : World) (b ab cm : Nat) (D : List (List Int)) (C : Int → Option (List Int)) (M : List (Int × Value)) (v : Value) (l : List Int) (h : PlateAt w b ab cm D C) (hm : w.im cm = some M) (hi : i < D.length) (hv : BytV w v l) (hl : l.length = 64) :
    Calls Try.prog 21 #[.pointer (some ⟨b, 0, none⟩), .int .i64 i, v] w (WriteF w cm M i l) := by
  have pv := put_sec
  have c1 := h.c1
  have hh := has_any i w b ab cm D C h
  rw [decide_eq_true (by omega)] at hh
  obtain ⟨lb, la, lc⟩ := h.lt
  have HST := Lib.hid (state_ok w b ab cm D C h)
  have HHH := Lib.hid hh; clear hh
  clear h
  obtain ⟨va, vc, rfl⟩ := hv.shape
  rw [hl] at hv ⊢
  have HV : Hid (∀ W, Upd (fun _ => False) w W → Calls Try.prog 16 #[.slice va 64 vc] W (ClonePost W l)) := Lib.hid fun W u => clone_b64 W _ l (hv.old u) hl
  clear hv
  go_enter Try.func21, Try.ntmps21
  go_upto_region 6 with (first
    | (go_at_call 43; refine HST.out.mono ?_; rintro e w' ⟨rfl, rfl⟩)
    | (go_at_call 44; refine HHH.out.mono ?_; rintro e w' ⟨rfl, rfl⟩))
  go_cut [] (fun wc => CutF w cm M i l wc)
  case first =>
    go_region_with (go_at_call 16; refine (HV.out _ (by repeat (first | exact Upd.refl _ _ | apply Upd.drew | apply Upd.alloc))).mono ?_; rintro e w' ⟨v', rfl, hv', hf', hu'⟩; obtain ⟨k', o', c', rfl, hk'⟩ := hv'.shape; have U3 : Upd (fun _ => False) w w' := Upd.trans (by repeat (first | exact Upd.refl _ _ | apply Upd.drew | apply Upd.alloc)) hu'; have wc1 := (U3.cell (p := ⟨b, 1, none⟩) lb (fun h => h)).trans c1; have wim := (U3.im lc (fun h => h)).trans hm; have lbw : b < w'.heap.size := (by have := U3.size; omega); have HV' := Lib.hid hv'; have HF' : Hid (Fresh w.heap.size _) := Lib.hid (fun b o n c e => Nat.le_trans (Upd.size (F := fun _ => False) (by repeat (first | exact Upd.refl _ _ | apply Upd.drew | apply Upd.alloc))) (hf' b o n c e)); clear hv'; clear hf' hu'; have HU3 := Lib.hid U3; clear U3)
    all_goals
      go_wp2_with fail
      go_meet
      case rel => exact ⟨_, im_mput_same wim _, HV'.out.upd ((Upd.refl (fun k => k = cm) w').mput (Or.inl rfl) _ _) (fun k e => by rw [e]; exact im_notB (by rw [wim]; rfl)), HF'.out, (HU3.out.mono (G := fun k => k = cm) (fun _ _ h => h.elim)).mput (by exact Or.inl rfl) _ _⟩
  case rest =>
    have HC := Lib.hid hcut; clear hcut
    go_wp2_with fail
    go_ret
    exact ⟨rfl, HC.out⟩
/-- A plate that was written, behind a Spoil of what was handed in. -/
theorem plate_put_spoil {w w1 w2 w3 : World} {b ab cm g i : Nat} {D : List (List Int)} {C : Int → Option (List Int)} {l : List Int} {M : List (Int × Value)} (h : PlateAt w b ab cm D C) (hi : i < D.length) (hm : w.im cm = some M) (u1 : Upd (fun _ => False) w w1) (hc : CutF w1 cm M i l w2) (u3 : Upd (fun k => k = g) w2 w3) (hg : w.heap.size ≤ g) (hg1 : g < w1.heap.size) : PlateAt w3 b ab cm D (cput C i l) ∧ Upd (fun k => k = cm) w w3 := by
  obtain ⟨sv, k1, k2, k3, k4⟩ := hc
  obtain ⟨lb, la, lc⟩ := h.lt
  have hcm : cm < w2.heap.size := by have := u1.size; have := k4.size; omega
  have hu : Upd (fun k => k = cm) w w3 := ((u1.mono (fun _ _ h => h.elim)).trans k4).trans' u3 (fun i hi e => by omega)
  refine ⟨plate_put h hi hm ⟨sv, (u3.im hcm (by omega)).trans k1, ?_, hu⟩, hu⟩
  obtain ⟨k, o, c, cur, hv, hl, hk, hcl⟩ := k2
  have hlt := (Array.getElem?_eq_some_iff.1 hk).1
  have hge := k3 k o _ _ hv
  have hne : k ≠ g := by omega
  exact ⟨k, o, c, cur, hv, hl, (u3.block k hlt hne).trans hk, fun j hj => (u3.cell (p := ⟨k, o + j, none⟩) hlt hne).trans (hcl j hj)⟩
theorem write_bad (i : Int) (w : World) (b ab cm : Nat) (D : List (List Int)) (C : Int → Option (List Int)) (v : Value) (l : List Int) (h : PlateAt w b ab cm D C) (hv : BytV w v l) (hl : l.length ≤ 140737488355328) (hbad : ¬ (0 ≤ i ∧ i < D.length) ∨ l.length ≠ 64) :
    Calls Try.prog 21 #[.pointer (some ⟨b, 0, none⟩), .int .i64 i, v] w (Same w (.int .i64 1)) := by
  have hh := has_any i w b ab cm D C h
  have HST := Lib.hid (state_ok w b ab cm D C h)
  obtain ⟨va, vc, rfl⟩ := hv.shape
  clear h hv
  by_cases hi : 0 ≤ i ∧ i < D.length
  · have hl2 : l.length ≠ 64 := hbad.resolve_left (fun h => h hi)
    rw [decide_eq_true hi] at hh
    have HHH := Lib.hid hh; clear hh
    have q1 : ((l.length : Int) == 64) = false := beq_eq_false_iff_ne.2 (by omega)
    clear hbad
    go_enter Try.func21, Try.ntmps21
    go_wp2_with (first
      | (go_at_call 43; refine HST.out.mono ?_; rintro e w' ⟨rfl, rfl⟩)
      | (go_at_call 44; refine HHH.out.mono ?_; rintro e w' ⟨rfl, rfl⟩))
    go_ret
    exact ⟨rfl, rfl⟩
  · rw [decide_eq_false hi] at hh
    have HHH := Lib.hid hh; clear hh
    clear hbad
    go_enter Try.func21, Try.ntmps21
    go_wp2_with (first
      | (go_at_call 43; refine HST.out.mono ?_; rintro e w' ⟨rfl, rfl⟩)
      | (go_at_call 44; refine HHH.out.mono ?_; rintro e w' ⟨rfl, rfl⟩))
    go_ret
    exact ⟨rfl, rfl⟩
end Go.Proofs.Ytcmhcibkpmbnoaa
