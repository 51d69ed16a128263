/-
  LeadNobody: what a try that no call made answers. The contracts and the walk.
-/
import Derived.Test.YtlichkheakjkhaaChooses
namespace Go.Proofs.Ytlichkheakjkhaa
open Go Go.RowKit

/-- state tells of p that no call made it, here and later. -/
def Off (w : World) (p : Value) : Prop := ∀ (node : Int) (w' : World), Upd (fun _ => False) w w' → Calls Try.prog 34 #[p, .int .i64 node] w' fun e w'' => e = .returned (.int .i64 2) ∧ w' = w''
theorem Off.old {w w' : World} {p : Value} (h : Off w p) (u : Upd (fun _ => False) w w') : Off w' p := fun node w'' hu => h node w'' (u.trans hu)
theorem off_nil (w : World) : Off w (.pointer none) := fun node w' _ => state_nil node w'
theorem off_zero {w : World} {b : Nat} (h0 : w.cell? ⟨b, 0, none⟩ = some (.int .i64 0)) (h1 : w.cell? ⟨b, 1, none⟩ = some (.int .i64 0)) : Off w (.pointer (some ⟨b, 0, none⟩)) := fun node w' u =>
  have hl := World.block_lt_of_cell? _ _ h0
  state_zero node w' b ((u.cell (p := ⟨b, 0, none⟩) hl (fun h => h)).trans h0) ((u.cell (p := ⟨b, 1, none⟩) hl (fun h => h)).trans h1)

abbrev cmd0 : CmdD := ⟨0, 0, ⟨#[]⟩, 0, 0, 0, 0, 0, 0, 0, 0, []⟩
def ZeroPost (w : World) (e : Ending) (w' : World) : Prop := e = .returned (.tuple #[.agg (CmdD.cells cmd0 (.slice none 0 0)), .bool false]) ∧ Upd (fun _ => False) w w'
theorem bound_off (slot : Int) (w : World) (p : Value) (h : Off w p) : Calls Try.prog 11 #[p, .int .i64 slot] w (ZeroPost w) := by
  have HH := Lib.hid h; clear h
  go_enter Try.func11, Try.ntmps11
  go_wp2_with (go_at_call 34; refine (HH.out _ _ ((Upd.refl _ _).alloc _)).mono ?_; rintro e w' ⟨rfl, rfl⟩)
  refine bodyPost_ret (v := .tuple #[.agg (CmdD.cells cmd0 (.slice none 0 0)), .bool false]) ?_ rfl ?_
  · simp [results, Try.results11, go_sem, CmdD.cells]
  · exact ⟨rfl, (Upd.refl _ _).alloc _⟩
theorem proposed_off (slot : Int) (w : World) (p : Value) (h : Off w p) : Calls Try.prog 16 #[p, .int .i64 slot] w (ZeroPost w) := by
  have HH := Lib.hid h; clear h
  go_enter Try.func16, Try.ntmps16
  go_wp2_with (go_at_call 34; refine (HH.out _ _ ((Upd.refl _ _).alloc _)).mono ?_; rintro e w' ⟨rfl, rfl⟩)
  refine bodyPost_ret (v := .tuple #[.agg (CmdD.cells cmd0 (.slice none 0 0)), .bool false]) ?_ rfl ?_
  · simp [results, Try.results16, go_sem, CmdD.cells]
  · exact ⟨rfl, (Upd.refl _ _).alloc _⟩
theorem promise_off (node : Int) (w : World) (p v : Value) (h : Off w p) : Calls Try.prog 10 #[p, .int .i64 node, v] w (Ret0 w 2) := by
  have HH := Lib.hid h; clear h
  go_enter Try.func10, Try.ntmps10
  go_wp2_with (go_at_call 34; refine (HH.out _ _ (Upd.refl _ _)).mono ?_; rintro e w' ⟨rfl, rfl⟩)
  go_ret
  exact ⟨rfl, Upd.refl _ _⟩
theorem propose_off (slot : Int) (w : World) (p : Value) (c : CmdD) (v : Value) (h : Off w p) : Calls Try.prog 14 #[p, .int .i64 slot, .agg (c.cells v)] w (Ret0 w 2) := by
  have HH := Lib.hid h; clear h
  simp only [CmdD.cells]
  go_enter Try.func14, Try.ntmps14
  go_wp2_with (go_at_call 34; refine (HH.out _ _ ((Upd.refl _ _).alloc _)).mono ?_; rintro e w' ⟨rfl, rfl⟩)
  go_ret
  exact ⟨rfl, (Upd.refl _ _).alloc _⟩
theorem accepted_off (node slot : Int) (w : World) (p : Value) (h : Off w p) : Calls Try.prog 19 #[p, .int .i64 node, .int .i64 slot] w (Ret0 w 2) := by
  have HH := Lib.hid h; clear h
  go_enter Try.func19, Try.ntmps19
  go_wp2_with (go_at_call 34; refine (HH.out _ _ (Upd.refl _ _)).mono ?_; rintro e w' ⟨rfl, rfl⟩)
  go_ret
  exact ⟨rfl, Upd.refl _ _⟩
theorem leads_off (w : World) (p v : Value) (h : Off w p) : Calls Try.prog 18 #[p, v] w (BoolPost w false) := by
  have HH := Lib.hid h; clear h
  go_enter Try.func18, Try.ntmps18
  go_wp2_with (go_at_call 34; refine (HH.out _ _ (Upd.refl _ _)).mono ?_; rintro e w' ⟨rfl, rfl⟩)
  go_ret
  exact ⟨rfl, Upd.refl _ _⟩
theorem chosen_off (slot : Int) (w : World) (p v : Value) (h : Off w p) : Calls Try.prog 20 #[p, .int .i64 slot, v] w (BoolPost w false) := by
  have HH := Lib.hid h; clear h
  go_enter Try.func20, Try.ntmps20
  go_wp2_with (go_at_call 34; refine (HH.out _ _ (Upd.refl _ _)).mono ?_; rintro e w' ⟨rfl, rfl⟩)
  go_ret
  exact ⟨rfl, Upd.refl _ _⟩
theorem next_off (w : World) (p : Value) (h : Off w p) : Calls Try.prog 12 #[p] w (Ret0 w 0) := by
  have HH := Lib.hid h; clear h
  go_enter Try.func12, Try.ntmps12
  go_wp2_with (go_at_call 34; refine (HH.out _ _ (Upd.refl _ _)).mono ?_; rintro e w' ⟨rfl, rfl⟩)
  go_ret
  exact ⟨rfl, Upd.refl _ _⟩
def NilPost (w : World) (e : Ending) (w' : World) : Prop := e = .returned (.slice none 0 0) ∧ Upd (fun _ => False) w w'
theorem open_off (w : World) (p : Value) (h : Off w p) : Calls Try.prog 15 #[p] w (NilPost w) := by
  have HH := Lib.hid h; clear h
  go_enter Try.func15, Try.ntmps15
  go_wp2_with (go_at_call 34; refine (HH.out _ _ (Upd.refl _ _)).mono ?_; rintro e w' ⟨rfl, rfl⟩)
  go_ret
  exact ⟨rfl, Upd.refl _ _⟩
theorem ballot_nil (w : World) : Calls Try.prog 13 #[.pointer none] w (Ret0 w 0) := by
  go_enter Try.func13, Try.ntmps13
  go_wp2
  go_ret
  exact ⟨rfl, Upd.refl _ _⟩
theorem ballot_zero (w : World) (b : Nat) (h0 : w.cell? ⟨b, 0, none⟩ = some (.int .i64 0)) : Calls Try.prog 13 #[.pointer (some ⟨b, 0, none⟩)] w (Ret0 w 0) := by
  go_enter Try.func13, Try.ntmps13
  go_wp2
  go_ret
  exact ⟨rfl, Upd.refl _ _⟩
/-- .. and its ballot is none. -/
def OffB (w : World) (p : Value) : Prop := Off w p ∧ ∀ (w' : World), Upd (fun _ => False) w w' → Calls Try.prog 13 #[p] w' (Ret0 w' 0)
theorem OffB.old {w w' : World} {p : Value} (h : OffB w p) (u : Upd (fun _ => False) w w') : OffB w' p := ⟨h.1.old u, fun w'' hu => h.2 w'' (u.trans hu)⟩
theorem offB_nil (w : World) : OffB w (.pointer none) := ⟨off_nil w, fun w' _ => ballot_nil w'⟩
theorem offB_zero {w : World} {b : Nat} (h0 : w.cell? ⟨b, 0, none⟩ = some (.int .i64 0)) (h1 : w.cell? ⟨b, 1, none⟩ = some (.int .i64 0)) : OffB w (.pointer (some ⟨b, 0, none⟩)) :=
  ⟨off_zero h0 h1, fun w' u => ballot_zero w' b ((u.cell (p := ⟨b, 0, none⟩) (World.block_lt_of_cell? _ _ h0) (fun h => h)).trans h0)⟩

def NoRel (w0 : World) (i : Value) (wr : World) : Prop := ∃ k : Nat, k ≤ 2 ∧ i = .int .i64 k ∧ Upd (fun _ => False) w0 wr
set_option maxHeartbeats 8000000 in
set_option maxRecDepth 100000 in
theorem nobody_walk (w : World) (node slot : Int) (c : CmdD) (v : Value) (hv : ∃ a n k, v = .slice a n k) : Calls Try.prog 7 #[.int .i64 node, .int .i64 slot, .agg (c.cells v)] w (BoolPost w true) := by
  obtain ⟨va, vn, vk, rfl⟩ := hv
  simp only [CmdD.cells]
  go_enter Try.func7, Try.ntmps7
  go_wp2_with fail
  have hW : ∃ (w0 : World) (cb tb sb : Nat), _ = w0 ∧ w.heap.size = cb ∧ w.heap.size + 1 = tb ∧ w.heap.size + 1 + 1 = sb := ⟨((w.alloc (.cells #[.int .i64 c.id, .int .i64 c.kind, .string c.key, .int .i64 c.blob, .int .i64 c.other, .int .i64 c.index, .int .i64 c.node, .int .i64 c.size, .int .u32 c.sum, .int .i64 c.k, .int .i64 c.m, .slice va vn vk] 33)).alloc (.cells #[.int .i64 0, .int .i64 0, .map none, .map none, .map none] 60)).alloc (.cells #[.pointer none, .pointer (some ⟨w.heap.size + 1, 0, none⟩)] 23), _, _, _, rfl, rfl, rfl, rfl⟩
  obtain ⟨w0, cb, tb, sb, hw0, hcb, htb, hsb⟩ := hW
  have hu0 : Upd (fun _ => False) w w0 := by rw [← hw0]; exact (((Upd.refl _ _).alloc _).alloc _).alloc _
  have hp0 : w0.cell? ⟨sb, 0, none⟩ = some (.pointer none) := by rw [← hw0, ← hsb]; simp [go_sem]
  have hp1 : w0.cell? ⟨sb, 1, none⟩ = some (.pointer (some ⟨tb, 0, none⟩)) := by rw [← hw0, ← hsb, ← htb]; simp [go_sem]
  have ho : OffB w0 (.pointer (some ⟨tb, 0, none⟩)) := offB_zero (by rw [← hw0, ← htb]; simp [go_sem]) (by rw [← hw0, ← htb]; simp [go_sem])
  have hcl : cb < w0.heap.size ∧ sb < w0.heap.size := by rw [← hw0, ← hcb, ← hsb]; simp; omega
  have hc0 : ∀ j, j < 12 → w0.cell? ⟨cb, j, none⟩ = (c.cells (.slice va vn vk))[j]? := by
    intro j hj
    rw [← hw0, ← hcb]
    have h1 := ((Upd.refl (fun _ => False) ((w.alloc (.cells #[.int .i64 c.id, .int .i64 c.kind, .string c.key, .int .i64 c.blob, .int .i64 c.other, .int .i64 c.index, .int .i64 c.node, .int .i64 c.size, .int .u32 c.sum, .int .i64 c.k, .int .i64 c.m, .slice va vn vk] 33)))).alloc (.cells #[.int .i64 0, .int .i64 0, .map none, .map none, .map none] 60)).alloc (.cells #[.pointer none, .pointer (some ⟨w.heap.size + 1, 0, none⟩)] 23)
    rw [h1.cell (p := ⟨w.heap.size, j, none⟩) (by simp) (fun h => h), World.cell?_alloc_at _ _ _ _ rfl]
    rfl
  rw [hw0, hsb, htb, hcb]
  have HU0 := Lib.hid hu0; clear hu0
  have HP0 := Lib.hid hp0; clear hp0
  have HP1 := Lib.hid hp1; clear hp1
  have HO := Lib.hid ho; clear ho
  have HC0 := Lib.hid hc0; clear hc0
  clear hw0 hcb htb hsb
  go_loopw [17] (fun i wr => NoRel w0 i wr) (fun i _ => 2 - (intOf i).toNat)
  case atStart => exact ⟨0, by omega, rfl, Upd.refl _ _⟩
  case round =>
    obtain ⟨k, hk, rfl, hu⟩ := hrel
    by_cases hlt : k < 2
    · obtain ⟨a, hp, hof⟩ : ∃ a, wr.cell? ⟨sb, k, none⟩ = some (.pointer a) ∧ OffB wr (.pointer a) := by
        match k, hlt with
        | 0, _ => exact ⟨none, (hu.cell (p := ⟨sb, 0, none⟩) hcl.2 (fun h => h)).trans HP0.out, offB_nil wr⟩
        | 1, _ => exact ⟨_, (hu.cell (p := ⟨sb, 1, none⟩) hcl.2 (fun h => h)).trans HP1.out, HO.out.old hu⟩
      have HU := Lib.hid hu; clear hu
      have HOF := Lib.hid hof; clear hof
      go_wp2_with fail
      refine (bound_off slot _ _ HOF.out.1).mono ?_
      rintro e w1 ⟨rfl, hu1⟩
      simp only [CmdD.cells]
      have HU1 := Lib.hid (HU.out.trans hu1)
      have HO1 := Lib.hid (HOF.out.old hu1); clear hu1
      go_wp2_with fail
      refine (proposed_off slot _ _ (HO1.out.old ((Upd.refl _ _).alloc _)).1).mono ?_
      rintro e w2 ⟨rfl, hu2⟩
      simp only [CmdD.cells]
      have HU2 := Lib.hid ((HU1.out.alloc _).trans hu2)
      have HO2 := Lib.hid ((HO1.out.old ((Upd.refl _ _).alloc _)).old hu2); clear hu2
      go_wp2_with fail
      refine (promise_off node _ _ _ (HO2.out.old ((Upd.refl _ _).alloc _)).1).mono ?_
      rintro e w3 ⟨rfl, hu3⟩
      have HU3 := Lib.hid ((HU2.out.alloc _).trans hu3)
      have HO3 := Lib.hid ((HO2.out.old ((Upd.refl _ _).alloc _)).old hu3); clear hu3
      obtain ⟨d0, d1, d2, d3, d4, d5, d6, d7, d8, d9, d10, d11⟩ := prop_cells (w := w3) (fun j hj => (HU3.out.cell (p := ⟨cb, j, none⟩) hcl.1 (fun h => h)).trans (HC0.out j hj))
      go_wp2_with fail
      refine (propose_off slot _ _ c (.slice va vn vk) HO3.out.1).mono ?_
      rintro e w4 ⟨rfl, hu4⟩
      have HU4 := Lib.hid (HU3.out.trans hu4)
      have HO4 := Lib.hid (HO3.out.old hu4); clear hu4
      clear d0 d1 d2 d3 d4 d5 d6 d7 d8 d9 d10 d11
      go_wp2_with fail
      refine (accepted_off node slot _ _ HO4.out.1).mono ?_
      rintro e w5 ⟨rfl, hu5⟩
      have HU5 := Lib.hid (HU4.out.trans hu5)
      have HO5 := Lib.hid (HO4.out.old hu5); clear hu5
      go_wp2_with fail
      refine (leads_off _ _ _ (HO5.out.old ((Upd.refl _ _).alloc _)).1).mono ?_
      rintro e w6 ⟨rfl, hu6⟩
      have HU6 := Lib.hid ((HU5.out.alloc _).trans hu6)
      have HO6 := Lib.hid ((HO5.out.old ((Upd.refl _ _).alloc _)).old hu6); clear hu6
      go_wp2_with fail
      refine (chosen_off slot _ _ _ (HO6.out.old ((Upd.refl _ _).alloc _)).1).mono ?_
      rintro e w7 ⟨rfl, hu7⟩
      have HU7 := Lib.hid ((HU6.out.alloc _).trans hu7)
      have HO7 := Lib.hid ((HO6.out.old ((Upd.refl _ _).alloc _)).old hu7); clear hu7
      go_wp2_with fail
      refine (next_off _ _ HO7.out.1).mono ?_
      rintro e w8 ⟨rfl, hu8⟩
      have HU8 := Lib.hid (HU7.out.trans hu8)
      have HO8 := Lib.hid (HO7.out.old hu8); clear hu8
      go_wp2_with fail
      refine (HO8.out.2 _ (Upd.refl _ _)).mono ?_
      rintro e w9 ⟨rfl, hu9⟩
      have HU9 := Lib.hid (HU8.out.trans hu9)
      have HO9 := Lib.hid (HO8.out.old hu9); clear hu9
      go_wp2_with fail
      refine (open_off _ _ HO9.out.1).mono ?_
      rintro e w10 ⟨rfl, hu10⟩
      have HU10 := Lib.hid (HU9.out.trans hu10); clear hu10
      go_wp2_with fail
      go_roundw
      case rel => exact ⟨k + 1, hlt, by go_num, HU10.out⟩
      case measure => simp [intOf]; omega
    · go_wp2_with fail
      refine (chooses_walk _ none 0 [] 1 (Ints.nil _)).mono ?_
      rintro e w11 ⟨rfl, hu11⟩
      have HU11 := Lib.hid hu11; clear hu11
      go_wp2_with fail
      go_ret
      exact ⟨rfl, (HU0.out.trans hu).trans HU11.out⟩
end Go.Proofs.Ytlichkheakjkhaa
