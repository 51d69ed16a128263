/-
  VoteNobody: the walk.
-/
import Derived.Test.YtdbapinageapnaaGreatProg
import Derived.Test.YtdbapinageapnaaGreatCmdRead
namespace Go.Proofs.YtdbapinageapnaaGreat
open Go Go.RowKit Go.MapKept Go.ChangeMaps

def Same (w : World) (v : Value) (e : Ending) (w' : World) : Prop := e = .returned v ∧ w = w'
def BoolPost (w : World) (r : Bool) (e : Ending) (w' : World) : Prop := e = .returned (.bool r) ∧ Upd (fun _ => False) w w'
def UPost (w : World) (v : Value) (e : Ending) (w' : World) : Prop := e = .returned v ∧ Upd (fun _ => False) w w'
/-- An acceptor that no call made. -/
def NoAcc (w : World) (p : Value) : Prop := ∀ (w' : World) (l : Value), Upd (fun _ => False) w w' → Calls Tryz.prog 9 #[p, l] w' (Same w' (.int .i64 2))
theorem NoAcc.old {w w' : World} {p : Value} (h : NoAcc w p) (u : Upd (fun _ => False) w w') : NoAcc w' p := fun w'' l hu => h w'' l (u.trans hu)
theorem noAcc_nil (w : World) : NoAcc w (.pointer none) := fun w' l _ => by
  go_enter Tryz.func9, Tryz.ntmps9
  go_wp2
  go_ret
  exact ⟨rfl, rfl⟩
theorem noAcc_zero {w : World} {b : Nat} (h0 : w.cell? ⟨b, 0, none⟩ = some (.pointer none)) : NoAcc w (.pointer (some ⟨b, 0, none⟩)) := fun w' l u => by
  have c0 := (u.cell (p := ⟨b, 0, none⟩) (World.block_lt_of_cell? _ _ h0) (fun h => h)).trans h0
  go_enter Tryz.func9, Tryz.ntmps9
  go_wp2
  go_ret
  exact ⟨rfl, rfl⟩
theorem prepare_none (w : World) (p : Value) (x y : Int) (h : NoAcc w p) : Calls Tryz.prog 4 #[p, .int .i64 x, .int .i64 y] w (UPost w (.tuple #[.bool false, .slice none 0 0, .int .i64 2])) := by
  have HH := Lib.hid h; clear h
  go_enter Tryz.func4, Tryz.ntmps4
  go_wp2_with (go_at_call 9; refine (HH.out _ _ ((Upd.refl _ _).alloc _)).mono ?_; rintro e w' ⟨rfl, rfl⟩)
  go_ret3
  exact ⟨rfl, (Upd.refl _ _).alloc _⟩
set_option maxRecDepth 100000 in
theorem accept_none (w : World) (p : Value) (x y : Int) (cs : Array Value) (h : NoAcc w p) : Calls Tryz.prog 5 #[p, .int .i64 x, .int .i64 y, .agg cs] w (UPost w (.tuple #[.bool false, .int .i64 2])) := by
  have HH := Lib.hid h; clear h
  go_enter Tryz.func5, Tryz.ntmps5
  go_wp2_with (go_at_call 9; refine (HH.out _ _ (((Upd.refl _ _).alloc _).alloc _)).mono ?_; rintro e w' ⟨rfl, rfl⟩)
  go_ret2
  exact ⟨rfl, ((Upd.refl _ _).alloc _).alloc _⟩
theorem promised_none (w : World) (p : Value) (h : NoAcc w p) : Calls Tryz.prog 7 #[p] w (Same w (.int .i64 0)) := by
  have HH := Lib.hid h; clear h
  go_enter Tryz.func7, Tryz.ntmps7
  go_wp2_with (go_at_call 9; refine (HH.out _ _ (Upd.refl _ _)).mono ?_; rintro e w' ⟨rfl, rfl⟩)
  go_ret
  exact ⟨rfl, rfl⟩
set_option maxRecDepth 100000 in
theorem votes_none (w : World) (p : Value) (x : Int) (h : NoAcc w p) : Calls Tryz.prog 6 #[p, .int .i64 x] w (Same w (.slice none 0 0)) := by
  have HH := Lib.hid h; clear h
  go_enter Tryz.func6, Tryz.ntmps6
  go_wp2_with (go_at_call 9; refine (HH.out _ _ (Upd.refl _ _)).mono ?_; rintro e w' ⟨rfl, rfl⟩)
  go_ret
  exact ⟨rfl, rfl⟩
/-- A shelf that no call made. -/
def NoSh (w : World) (p : Value) : Prop := ∀ (w' : World), Upd (fun _ => False) w w' → Calls Tryz.prog 25 #[p] w' (Same w' (.bool true))
theorem NoSh.old {w w' : World} {p : Value} (h : NoSh w p) (u : Upd (fun _ => False) w w') : NoSh w' p := fun w'' hu => h w'' (u.trans hu)
theorem noSh_nil (w : World) : NoSh w (.pointer none) := fun w' _ => by
  go_enter Tryz.func25, Tryz.ntmps25
  go_wp2
  go_ret
  exact ⟨rfl, rfl⟩
theorem noSh_zero {w : World} {b : Nat} (h0 : w.cell? ⟨b, 0, none⟩ = some (.pointer none)) : NoSh w (.pointer (some ⟨b, 0, none⟩)) := fun w' u => by
  have c0 := (u.cell (p := ⟨b, 0, none⟩) (World.block_lt_of_cell? _ _ h0) (fun h => h)).trans h0
  go_enter Tryz.func25, Tryz.ntmps25
  go_wp2
  go_ret
  exact ⟨rfl, rfl⟩
theorem slife_none (w : World) (p : Value) (h : NoSh w p) : Calls Tryz.prog 18 #[p] w (Same w (.int .i64 0)) := by
  have HH := Lib.hid h; clear h
  go_enter Tryz.func18, Tryz.ntmps18
  go_wp2_with (go_at_call 25; refine (HH.out _ (Upd.refl _ _)).mono ?_; rintro e w' ⟨rfl, rfl⟩)
  go_ret
  exact ⟨rfl, rfl⟩
set_option maxRecDepth 100000 in
theorem vopen_none (w : World) (p : Value) (h : NoSh w p) : Calls Tryz.prog 8 #[p] w (Same w (.tuple #[.pointer none, .int .i64 2])) := by
  have HH := Lib.hid h; clear h
  go_enter Tryz.func8, Tryz.ntmps8
  go_wp2_with (go_at_call 18; refine (slife_none _ _ HH.out).mono ?_; rintro e w' ⟨rfl, rfl⟩)
  go_ret2
  exact ⟨rfl, rfl⟩
def NoRel (w0 : World) (i : Value) (wr : World) : Prop := ∃ k : Nat, k ≤ 2 ∧ i = .int .i64 k ∧ Upd (fun _ => False) w0 wr
set_option maxHeartbeats 8000000 in
set_option maxRecDepth 100000 in
theorem nobody_walk (w : World) (x y : Int) (i0 i1 : Int) (s2 : ByteArray) (i3 i4 i5 i6 i7 i8 i9 i10 : Int) (va : Option Addr) (vn vk : Nat) : Calls Tryz.prog 3 #[.int .i64 x, .int .i64 y, .agg (cmdCells i0 i1 s2 i3 i4 i5 i6 i7 i8 i9 i10 va vn vk)] w (BoolPost w true) := by
  go_enter Tryz.func3, Tryz.ntmps3
  unfold cmdCells
  go_wp2_with fail
  have hW : ∃ (w0 : World) (cb tb sb : Nat), _ = w0 ∧ w.heap.size = cb ∧ w.heap.size + 1 = tb ∧ w.heap.size + 1 + 1 = sb := ⟨((w.alloc (.cells #[.int .i64 i0, .int .i64 i1, .string s2, .int .i64 i3, .int .i64 i4, .int .i64 i5, .int .i64 i6, .int .i64 i7, .int .u32 i8, .int .i64 i9, .int .i64 i10, .slice va vn vk] 27)).alloc (.cells #[.pointer none, .int .i64 0, .map none] 32)).alloc (.cells #[.pointer none, .pointer (some ⟨w.heap.size + 1, 0, none⟩)] 28), _, _, _, rfl, rfl, rfl, rfl⟩
  obtain ⟨w0, cb, tb, sb, hw0, hcb, htb, hsb⟩ := hW
  have hu0 : Upd (fun _ => False) w w0 := by rw [← hw0]; exact (((Upd.refl _ _).alloc _).alloc _).alloc _
  have hp0 : w0.cell? ⟨sb, 0, none⟩ = some (.pointer none) := by rw [← hw0, ← hsb]; simp [go_sem]
  have hp1 : w0.cell? ⟨sb, 1, none⟩ = some (.pointer (some ⟨tb, 0, none⟩)) := by rw [← hw0, ← hsb, ← htb]; simp [go_sem]
  have h0 : w0.cell? ⟨tb, 0, none⟩ = some (.pointer none) := by rw [← hw0, ← htb]; simp [go_sem]
  have hcl : sb < w0.heap.size := by rw [← hw0, ← hsb]; simp
  have hcbl : cb < w0.heap.size := by rw [← hw0, ← hcb]; simp; omega
  have hcc : ∀ j, j < 12 → w0.cell? ⟨cb, j, none⟩ = (cmdCells i0 i1 s2 i3 i4 i5 i6 i7 i8 i9 i10 va vn vk)[j]? := by
    intro j hj
    rw [← hw0, ← hcb]
    unfold cmdCells
    match j, hj with
    | 0, _ | 1, _ | 2, _ | 3, _ | 4, _ | 5, _ | 6, _ | 7, _ | 8, _ | 9, _ | 10, _ | 11, _ => simp [go_sem]
  rw [hw0, hsb, htb, hcb]
  have HU0 := Lib.hid hu0; clear hu0
  have HP0 := Lib.hid hp0; clear hp0
  have HP1 := Lib.hid hp1; clear hp1
  have HCC := Lib.hid hcc; clear hcc
  have HS := Lib.hid (noAcc_zero h0)
  clear hw0 htb hsb hcb h0
  go_loopw [22] (fun i wr => NoRel w0 i wr) (fun i _ => 2 - (intOf i).toNat)
  case atStart => exact ⟨0, by omega, rfl, Upd.refl _ _⟩
  case round =>
    obtain ⟨k, hk, rfl, hu⟩ := hrel
    by_cases hlt : k < 2
    · obtain ⟨a, hp, hst⟩ : ∃ a, wr.cell? ⟨sb, k, none⟩ = some (.pointer a) ∧ NoAcc wr (.pointer a) := by
        match k, hlt with
        | 0, _ => exact ⟨none, (hu.cell (p := ⟨sb, 0, none⟩) hcl (fun h => h)).trans HP0.out, noAcc_nil wr⟩
        | 1, _ => exact ⟨_, (hu.cell (p := ⟨sb, 1, none⟩) hcl (fun h => h)).trans HP1.out, HS.out.old hu⟩
      have HU := Lib.hid hu; clear hu
      have HST := Lib.hid hst; clear hst
      go_wp2_with fail
      refine (prepare_none _ _ x y HST.out).mono ?_
      rintro e w2 ⟨rfl, hu2⟩
      have HST2 := Lib.hid (HST.out.old hu2)
      have HU2 := Lib.hid (HU.out.trans hu2); clear hu2
      have hcj : ∀ j, j < 12 → w2.cell? ⟨cb, j, none⟩ = (cmdCells i0 i1 s2 i3 i4 i5 i6 i7 i8 i9 i10 va vn vk)[j]? := fun j hj => (HU2.out.cell (p := ⟨cb, j, none⟩) hcbl (fun h => h)).trans (HCC.out j hj)
      have d0 := hcj 0 (by omega)
      have d1 := hcj 1 (by omega)
      have d2 := hcj 2 (by omega)
      have d3 := hcj 3 (by omega)
      have d4 := hcj 4 (by omega)
      have d5 := hcj 5 (by omega)
      have d6 := hcj 6 (by omega)
      have d7 := hcj 7 (by omega)
      have d8 := hcj 8 (by omega)
      have d9 := hcj 9 (by omega)
      have d10 := hcj 10 (by omega)
      have d11 := hcj 11 (by omega)
      simp only [cmdCells, List.getElem?_toArray, List.getElem?_cons_succ, List.getElem?_cons_zero] at d0 d1 d2 d3 d4 d5 d6 d7 d8 d9 d10 d11
      clear hcj
      go_wp2_with fail
      refine (accept_none _ _ x y _ HST2.out).mono ?_
      rintro e w3 ⟨rfl, hu3⟩
      have HST3 := Lib.hid (HST2.out.old hu3)
      have HU3 := Lib.hid (HU2.out.trans hu3); clear hu3 d0 d1 d2 d3 d4 d5 d6 d7 d8 d9 d10 d11
      go_wp2_with (first
        | (go_at_call 6; refine (votes_none _ _ _ HST3.out).mono ?_; rintro e w' ⟨rfl, rfl⟩)
        | (go_at_call 7; refine (promised_none _ _ HST3.out).mono ?_; rintro e w' ⟨rfl, rfl⟩))
      go_roundw
      case rel => exact ⟨k + 1, hlt, by go_num, HU3.out⟩
      case measure => simp [intOf]; omega
    · have HUA := Lib.hid (HU0.out.trans hu); clear hu
      go_wp2_with fail
      have hW : ∃ (w1 : World) (tb sb : Nat), _ = w1 ∧ wr.heap.size = tb ∧ wr.heap.size + 1 = sb := ⟨(wr.alloc (.cells #[.pointer none, .map none, .map none, .map none] 47)).alloc (.cells #[.pointer none, .pointer (some ⟨wr.heap.size, 0, none⟩)] 29), _, _, rfl, rfl, rfl⟩
      obtain ⟨w1, tb1, sb1, hw1, htb1, hsb1⟩ := hW
      have hu1 : Upd (fun _ => False) wr w1 := by rw [← hw1]; exact ((Upd.refl _ _).alloc _).alloc _
      have hq0 : w1.cell? ⟨sb1, 0, none⟩ = some (.pointer none) := by rw [← hw1, ← hsb1]; simp [go_sem]
      have hq1 : w1.cell? ⟨sb1, 1, none⟩ = some (.pointer (some ⟨tb1, 0, none⟩)) := by rw [← hw1, ← hsb1, ← htb1]; simp [go_sem]
      have h2 : w1.cell? ⟨tb1, 0, none⟩ = some (.pointer none) := by rw [← hw1, ← htb1]; simp [go_sem]
      have hcl1 : sb1 < w1.heap.size := by rw [← hw1, ← hsb1]; simp
      rw [hw1, hsb1, htb1]
      have HU1 := Lib.hid (HUA.out.trans hu1); clear hu1
      have HQ0 := Lib.hid hq0; clear hq0
      have HQ1 := Lib.hid hq1; clear hq1
      have HN := Lib.hid (noSh_zero h2)
      clear hw1 htb1 hsb1 h2 HS HP0 HP1 HCC
      go_loopw [71] (fun i wx => NoRel w1 i wx) (fun i _ => 2 - (intOf i).toNat)
      case atStart => exact ⟨0, by omega, rfl, Upd.refl _ _⟩
      case round =>
        obtain ⟨k2, hk2, rfl, hu⟩ := hrel
        by_cases hlt2 : k2 < 2
        · obtain ⟨a, hp, hst⟩ : ∃ a, wr.cell? ⟨sb1, k2, none⟩ = some (.pointer a) ∧ NoSh wr (.pointer a) := by
            match k2, hlt2 with
            | 0, _ => exact ⟨none, (hu.cell (p := ⟨sb1, 0, none⟩) hcl1 (fun h => h)).trans HQ0.out, noSh_nil _⟩
            | 1, _ => exact ⟨_, (hu.cell (p := ⟨sb1, 1, none⟩) hcl1 (fun h => h)).trans HQ1.out, HN.out.old hu⟩
          have HU := Lib.hid hu; clear hu
          have HST := Lib.hid hst; clear hst
          go_wp2_with (go_at_call 8; refine (vopen_none _ _ HST.out).mono ?_; rintro e w' ⟨rfl, rfl⟩)
          go_roundw
          case rel => exact ⟨k2 + 1, hlt2, by go_num, HU.out⟩
          case measure => simp [intOf]; omega
        · go_wp2_with fail
          go_ret
          exact ⟨rfl, HU1.out.trans hu⟩
end Go.Proofs.YtdbapinageapnaaGreat
