/-
  PostNobody: the walk.
-/
import Derived.Test.YtfodgohleioflaaPostNum
import Derived.Test.YtfodgohleioflaaPostOff
namespace Go.Proofs.Ytfodgohleioflaa
open Go Go.RowKit Go.MapKept Go.ChangeMaps
set_option linter.unusedVariables false

theorem zero_msg (w : World) : MsgAt (fun _ => False) w (msgN 0) ⟨0, 0, 0, 0, 0, 0, 0, 0, 0, false, default, [], [], []⟩ :=
  ⟨.slice none 0 0, .slice none 0 0, .slice none 0 0, rfl, Ints.nil w, (fun b o n c e _ => by cases e), ⟨[], rfl, Row.nil w 14, by simp, fun i hi => absurd hi (Nat.not_lt_zero i)⟩, (fun b o n c e _ => by cases e), (fun b o n c e => by cases e), ⟨Row.nil w 1, by simp⟩, (fun b o n c e _ => by cases e)⟩
def NoRel (w0 : World) (i : Value) (wr : World) : Prop := ∃ k : Nat, k ≤ 2 ∧ i = .int .i64 k ∧ Upd (fun _ => False) w0 wr
set_option maxHeartbeats 8000000 in
set_option maxRecDepth 100000 in
theorem nobody_walk (w : World) (id : Int) (S : Nat → Prop) (C : Array Value) (d : MsgD) (hC : MsgAt S w C d) (hS : ∀ k, S k → k < w.heap.size) : Calls Try.prog 6 #[.agg C, .int .i64 id] w (BoolPost w true) := by
  obtain ⟨hs, hone⟩ := msgC_one hC
  have HC := Lib.hid hC; clear hC
  have HSZ := Lib.hid hs; clear hs
  have HONE := Lib.hid hone; clear hone
  go_enter Try.func6, Try.ntmps6
  go_wp2_with fail
  have hW : ∃ (w0 : World) (mb tb sb : Nat), _ = w0 ∧ w.heap.size = mb ∧ w.heap.size + 1 = tb ∧ w.heap.size + 1 + 1 = sb := ⟨((w.alloc (.cells C 34)).alloc (.cells #[.map none, .int .i64 0] 60)).alloc (.cells #[.pointer none, .pointer (some ⟨w.heap.size + 1, 0, none⟩)] 23), _, _, _, rfl, rfl, rfl, rfl⟩
  obtain ⟨w0, mb, tb, sb, hw0, hmb, htb, hsb⟩ := hW
  have hu0 : Upd (fun _ => False) w w0 := by rw [← hw0]; exact (((Upd.refl _ _).alloc _).alloc _).alloc _
  have hp0 : w0.cell? ⟨sb, 0, none⟩ = some (.pointer none) := by rw [← hw0, ← hsb]; simp [go_sem]
  have hp1 : w0.cell? ⟨sb, 1, none⟩ = some (.pointer (some ⟨tb, 0, none⟩)) := by rw [← hw0, ← hsb, ← htb]; simp [go_sem]
  have h0 : w0.cell? ⟨tb, 0, none⟩ = some (.map none) := by rw [← hw0, ← htb]; simp [go_sem]
  have hcl : sb < w0.heap.size := by rw [← hw0, ← hsb]; simp
  have hmm : w0.heap[mb]? = some (.cells C 34 (0, 0)) := by
    rw [← hw0, ← hmb, (MapKept.heap_alloc _ _).2 _ (by simp; omega), (MapKept.heap_alloc _ _).2 _ (by simp)]; exact (MapKept.heap_alloc _ _).1
  rw [hw0, hsb, hmb]
  have HU0 := Lib.hid hu0; clear hu0
  have HP0 := Lib.hid hp0; clear hp0
  have HP1 := Lib.hid hp1; clear hp1
  have HMM := Lib.hid hmm; clear hmm
  have hs0 : OffP w0 (.pointer (some ⟨tb, 0, none⟩)) := Or.inr ⟨tb, rfl, h0⟩
  have HS := Lib.hid hs0; clear hs0
  clear hw0 hmb htb hsb h0
  have hz : (Try.prog.info? 34).map (·.size) = some (msgN 0).size := by kernel_rfl
  have HZ := Lib.hid hz; clear hz
  go_loopw [17] (fun i wr => NoRel w0 i wr) (fun i _ => 2 - (intOf i).toNat)
  case atStart => exact ⟨0, by omega, rfl, Upd.refl _ _⟩
  case round =>
    obtain ⟨k, hk, rfl, hu⟩ := hrel
    have hmr := (hu.block mb (Array.getElem?_eq_some_iff.1 HMM.out).1 (fun h => h)).trans HMM.out
    have HMR := Lib.hid hmr; clear hmr
    by_cases hlt : k < 2
    · obtain ⟨a, hp, hst⟩ : ∃ a, wr.cell? ⟨sb, k, none⟩ = some (.pointer a) ∧ OffP wr (.pointer a) := by
        match k, hlt with
        | 0, _ => exact ⟨none, (hu.cell (p := ⟨sb, 0, none⟩) hcl (fun h => h)).trans HP0.out, Or.inl rfl⟩
        | 1, _ => exact ⟨_, (hu.cell (p := ⟨sb, 1, none⟩) hcl (fun h => h)).trans HP1.out, HS.out.old hu⟩
      have HU := Lib.hid hu; clear hu
      have HST := Lib.hid hst; clear hst
      go_wp2_with (first
        | (refine wpList_load_block rfl 34 _ rfl mb rfl C (0, 0) _ Try.isAgg34 (fun w => by rw [HSZ.out]; exact Try.sizeOf34 w) HMR.out ?_)
        | (go_at_call 8; refine (send_off _ _ C HSZ.out HONE.out HST.out).mono ?_; rintro e w1 ⟨rfl, hu1⟩; have HU1 := Lib.hid hu1; clear hu1)
        | (go_at_call 9; refine (take_off _ _ id (HST.out.old HU1.out)).mono ?_; rintro e w2 ⟨rfl, hu2⟩; have HU2 := Lib.hid (HU1.out.trans hu2); clear hu2)
        | (refine wpList_store_last (w0 := w2) (C0 := msgN 0) rfl 34 _ _ rfl rfl (msgN 0) rfl HZ.out rfl (msgN_one 0) ?_)
        | (go_at_call 11; refine (twice_off _ _ id ((HST.out.old HU2.out).old ((Upd.refl _ _).alloc _))).mono ?_; rintro e w3 ⟨rfl, hu3⟩; have HX3 := Lib.hid ((hu3.block w2.heap.size (by simp) (fun h => h)).trans (MapKept.heap_alloc w2 (.cells (msgN 0) 34)).1); have HU3 := Lib.hid ((HU2.out.alloc _).trans hu3); clear hu3)
        | (go_at_call 10; refine (lose_off _ _ id (HST.out.old HU3.out)).mono ?_; rintro e w4 ⟨rfl, hu4⟩; have HX4 := Lib.hid ((hu4.block w2.heap.size (Array.getElem?_eq_some_iff.1 HX3.out).1 (fun h => h)).trans HX3.out); have HU4 := Lib.hid (HU3.out.trans hu4); clear hu4)
        | (go_at_call 12; refine (packets_off _ _ (HST.out.old HU4.out)).mono ?_; rintro e w5 ⟨rfl, rfl⟩)
        | (refine wpList_load_block_g (by rfl) 34 _ rfl w2.heap.size rfl (msgN 0) (0, 0) _ Try.isAgg34 Try.sizeOf34 HX4.out ?_)
        | (go_at_call 17; refine (same_msg _ _ _ _ _ _ (zero_msg _) (zero_msg _)).mono ?_; rintro e w5 ⟨rfl, hu5⟩; have HU5 := Lib.hid (HU4.out.trans hu5); clear hu5))
      go_roundw
      case rel => exact ⟨k + 1, hlt, by go_num, HU.out.trans HU5.out⟩
      case measure => simp [intOf]; omega
    · have HUA := Lib.hid (HU0.out.trans hu); clear hu
      go_wp2_with (first
        | (refine wpList_load_block rfl 34 _ rfl mb rfl C (0, 0) _ Try.isAgg34 (fun w => by rw [HSZ.out]; exact Try.sizeOf34 w) HMR.out ?_)
        | (go_at_call 5; refine (numbers_walk _ 1 S C d (HC.out.old HUA.out) (fun k hk => Nat.lt_of_lt_of_le (hS k hk) HUA.out.size)).mono ?_; rintro e w1 ⟨rfl, hu1⟩; have HU1 := Lib.hid hu1; clear hu1))
      go_ret
      exact ⟨rfl, HUA.out.trans HU1.out⟩
end Go.Proofs.Ytfodgohleioflaa
