/-
  WalNobody: the walk.
-/
import Derived.Test.YtgfbkefpoffgpaaProg
import Derived.Test.YtgfbkefpoffgpaaLib2
namespace Go.Proofs.Ytgfbkefpoffgpaa
open Go Go.RowKit Go.MapKept Go.ChangeMaps

def Same (w : World) (v : Value) (e : Ending) (w' : World) : Prop := e = .returned v ∧ w = w'
def BoolPost (w : World) (r : Bool) (e : Ending) (w' : World) : Prop := e = .returned (.bool r) ∧ Upd (fun _ => False) w w'
/-- A log that no call made. -/
def NoWal (w : World) (p : Value) : Prop := ∀ (w' : World), Upd (fun _ => False) w w' → Calls Try.prog 22 #[p] w' (Same w' (.bool true))
theorem NoWal.old {w w' : World} {p : Value} (h : NoWal w p) (u : Upd (fun _ => False) w w') : NoWal w' p := fun w'' hu => h w'' (u.trans hu)
theorem noWal_nil (w : World) : NoWal w (.pointer none) := fun w' _ => by
  go_enter Try.func22, Try.ntmps22
  go_wp2
  go_ret
  exact ⟨rfl, rfl⟩
theorem noWal_zero {w : World} {b : Nat} (h0 : w.cell? ⟨b, 0, none⟩ = some (.pointer none)) : NoWal w (.pointer (some ⟨b, 0, none⟩)) := fun w' u => by
  have c0 := (u.cell (p := ⟨b, 0, none⟩) (World.block_lt_of_cell? _ _ h0) (fun h => h)).trans h0
  go_enter Try.func22, Try.ntmps22
  go_wp2
  go_ret
  exact ⟨rfl, rfl⟩
theorem append_none (w : World) (p v : Value) (h : NoWal w p) : Calls Try.prog 8 #[p, v] w (Same w (.tuple #[.int .i64 0, .int .i64 2])) := by
  have HH := Lib.hid h; clear h
  go_enter Try.func8, Try.ntmps8
  go_wp2_with (go_at_call 22; refine (HH.out _ (Upd.refl _ _)).mono ?_; rintro e w' ⟨rfl, rfl⟩)
  go_ret2
  exact ⟨rfl, rfl⟩
theorem sync_none (w : World) (p : Value) (h : NoWal w p) : Calls Try.prog 9 #[p] w (Same w (.int .i64 2)) := by
  have HH := Lib.hid h; clear h
  go_enter Try.func9, Try.ntmps9
  go_wp2_with (go_at_call 22; refine (HH.out _ (Upd.refl _ _)).mono ?_; rintro e w' ⟨rfl, rfl⟩)
  go_ret
  exact ⟨rfl, rfl⟩
theorem check_none (w : World) (p v : Value) (h : NoWal w p) : Calls Try.prog 10 #[p, v] w (Same w (.int .i64 2)) := by
  have HH := Lib.hid h; clear h
  go_enter Try.func10, Try.ntmps10
  go_wp2_with (go_at_call 22; refine (HH.out _ (Upd.refl _ _)).mono ?_; rintro e w' ⟨rfl, rfl⟩)
  go_ret
  exact ⟨rfl, rfl⟩
theorem life_none (w : World) (p : Value) (h : NoWal w p) : Calls Try.prog 11 #[p] w (Same w (.int .i64 0)) := by
  have HH := Lib.hid h; clear h
  go_enter Try.func11, Try.ntmps11
  go_wp2_with (go_at_call 22; refine (HH.out _ (Upd.refl _ _)).mono ?_; rintro e w' ⟨rfl, rfl⟩)
  go_ret
  exact ⟨rfl, rfl⟩
theorem last_none (w : World) (p : Value) (h : NoWal w p) : Calls Try.prog 12 #[p] w (Same w (.int .i64 0)) := by
  have HH := Lib.hid h; clear h
  go_enter Try.func12, Try.ntmps12
  go_wp2_with (go_at_call 22; refine (HH.out _ (Upd.refl _ _)).mono ?_; rintro e w' ⟨rfl, rfl⟩)
  go_ret
  exact ⟨rfl, rfl⟩
theorem room_none (w : World) (p : Value) (h : NoWal w p) : Calls Try.prog 13 #[p] w (Same w (.int .i64 0)) := by
  have HH := Lib.hid h; clear h
  go_enter Try.func13, Try.ntmps13
  go_wp2_with (go_at_call 22; refine (HH.out _ (Upd.refl _ _)).mono ?_; rintro e w' ⟨rfl, rfl⟩)
  go_ret
  exact ⟨rfl, rfl⟩
/-- A plate that no call made. -/
def NoPl (w : World) (p : Value) : Prop := ∀ (w' : World), Upd (fun _ => False) w w' → Calls Try.prog 16 #[p] w' (Same w' (.int .i64 0))
theorem NoPl.old {w w' : World} {p : Value} (h : NoPl w p) (u : Upd (fun _ => False) w w') : NoPl w' p := fun w'' hu => h w'' (u.trans hu)
theorem noPl_nil (w : World) : NoPl w (.pointer none) := fun w' _ => by
  go_enter Try.func16, Try.ntmps16
  go_wp2
  go_ret
  exact ⟨rfl, rfl⟩
theorem noPl_zero {w : World} {b : Nat} (h2 : w.cell? ⟨b, 2, none⟩ = some (.int .i64 0)) : NoPl w (.pointer (some ⟨b, 0, none⟩)) := fun w' u => by
  have c2 := (u.cell (p := ⟨b, 2, none⟩) (World.block_lt_of_cell? _ _ h2) (fun h => h)).trans h2
  go_enter Try.func16, Try.ntmps16
  go_wp2
  go_ret
  exact ⟨rfl, rfl⟩
set_option maxRecDepth 100000 in
theorem open_none (w : World) (p : Value) (h : NoPl w p) : Calls Try.prog 14 #[p] w (Same w (.tuple #[.pointer none, .slice none 0 0, .int .i64 2])) := by
  have HH := Lib.hid h; clear h
  go_enter Try.func14, Try.ntmps14
  go_wp2_with (go_at_call 16; refine (HH.out _ (Upd.refl _ _)).mono ?_; rintro e w' ⟨rfl, rfl⟩)
  go_ret3
  exact ⟨rfl, rfl⟩
def NoRel (w0 : World) (i : Value) (wr : World) : Prop := ∃ k : Nat, k ≤ 2 ∧ i = .int .i64 k ∧ Upd (fun _ => False) w0 wr
set_option maxHeartbeats 8000000 in
set_option maxRecDepth 100000 in
theorem nobody_walk (w : World) (va : Option Addr) (vl vc : Nat) : Calls Try.prog 3 #[.slice va vl vc] w (BoolPost w true) := by
  go_enter Try.func3, Try.ntmps3
  go_wp2_with fail
  have hW : ∃ (w0 : World) (tb sb : Nat), _ = w0 ∧ w.heap.size = tb ∧ w.heap.size + 1 = sb := ⟨(w.alloc (.cells #[.pointer none, .int .i64 0, .int .i64 0, .int .i64 0, .int .i64 0, .int .i64 0, .int .i64 0, .int .i64 0] 28)).alloc (.cells #[.pointer none, .pointer (some ⟨w.heap.size, 0, none⟩)] 23), _, _, rfl, rfl, rfl⟩
  obtain ⟨w0, tb, sb, hw0, htb, hsb⟩ := hW
  have hu0 : Upd (fun _ => False) w w0 := by rw [← hw0]; exact ((Upd.refl _ _).alloc _).alloc _
  have hp0 : w0.cell? ⟨sb, 0, none⟩ = some (.pointer none) := by rw [← hw0, ← hsb]; simp [go_sem]
  have hp1 : w0.cell? ⟨sb, 1, none⟩ = some (.pointer (some ⟨tb, 0, none⟩)) := by rw [← hw0, ← hsb, ← htb]; simp [go_sem]
  have h0 : w0.cell? ⟨tb, 0, none⟩ = some (.pointer none) := by rw [← hw0, ← htb]; simp [go_sem]
  have hcl : sb < w0.heap.size := by rw [← hw0, ← hsb]; simp
  rw [hw0, hsb, htb]
  have HU0 := Lib.hid hu0; clear hu0
  have HP0 := Lib.hid hp0; clear hp0
  have HP1 := Lib.hid hp1; clear hp1
  have HS := Lib.hid (noWal_zero h0)
  clear hw0 htb hsb h0
  go_loopw [18] (fun i wr => NoRel w0 i wr) (fun i _ => 2 - (intOf i).toNat)
  case atStart => exact ⟨0, by omega, rfl, Upd.refl _ _⟩
  case round =>
    obtain ⟨k, hk, rfl, hu⟩ := hrel
    by_cases hlt : k < 2
    · obtain ⟨a, hp, hst⟩ : ∃ a, wr.cell? ⟨sb, k, none⟩ = some (.pointer a) ∧ NoWal wr (.pointer a) := by
        match k, hlt with
        | 0, _ => exact ⟨none, (hu.cell (p := ⟨sb, 0, none⟩) hcl (fun h => h)).trans HP0.out, noWal_nil wr⟩
        | 1, _ => exact ⟨_, (hu.cell (p := ⟨sb, 1, none⟩) hcl (fun h => h)).trans HP1.out, HS.out.old hu⟩
      have HU := Lib.hid hu; clear hu
      have HST := Lib.hid hst; clear hst
      go_wp2_with (first
        | (go_at_call 8; refine (append_none _ _ _ HST.out).mono ?_; rintro e w' ⟨rfl, rfl⟩)
        | (go_at_call 9; refine (sync_none _ _ HST.out).mono ?_; rintro e w' ⟨rfl, rfl⟩)
        | (go_at_call 10; refine (check_none _ _ _ HST.out).mono ?_; rintro e w' ⟨rfl, rfl⟩))
      have hcell : ∀ j, j < 3 → (wr.alloc (.cells #[.int .i64 2, .int .i64 2, .int .i64 2] 30)).cell? ⟨wr.heap.size, j, none⟩ = some (.int .i64 2) := by
        intro j hj
        rw [World.cell?_alloc_at _ _ _ _ rfl]
        match j, hj with
        | 0, _ => rfl | 1, _ => rfl | 2, _ => rfl
      have hu5 : Upd (fun _ => False) wr (wr.alloc (.cells #[.int .i64 2, .int .i64 2, .int .i64 2] 30)) := (Upd.refl _ _).alloc _
      have hsz5 : wr.heap.size < (wr.alloc (.cells #[.int .i64 2, .int .i64 2, .int .i64 2] 30)).heap.size := by simp
      generalize wr.alloc (.cells #[.int .i64 2, .int .i64 2, .int .i64 2] 30) = w5 at hcell hu5 hsz5 ⊢
      obtain ⟨eb, heb⟩ : ∃ eb, wr.heap.size = eb := ⟨_, rfl⟩
      rw [heb] at hcell hsz5 ⊢
      clear heb
      have HC := Lib.hid hcell; clear hcell
      have HU5 := Lib.hid (HU.out.trans hu5)
      have HST5 := Lib.hid (HST.out.old hu5); clear hu5
      go_loopw [35] (fun i wx => ∃ j : Nat, j ≤ 3 ∧ i = .int .i64 j ∧ Upd (fun _ => False) w5 wx) (fun i _ => 3 - (intOf i).toNat)
      case atStart => exact ⟨0, by omega, rfl, Upd.refl _ _⟩
      case round =>
        obtain ⟨j, hj, rfl, hux⟩ := hrel
        by_cases hj5 : j < 3
        · have hcj := (hux.cell (p := ⟨eb, j, none⟩) hsz5 (fun h => h)).trans (HC.out j hj5)
          have HUX := Lib.hid hux; clear hux
          go_wp2_with fail
          go_roundw
          case rel => exact ⟨j + 1, hj5, by go_num, HUX.out⟩
          case measure => simp [intOf]; omega
        · have HUX := Lib.hid (HU5.out.trans hux)
          have HSTX := Lib.hid (HST5.out.old hux); clear hux
          go_wp2_with (first
            | (go_at_call 11; refine (life_none _ _ HSTX.out).mono ?_; rintro e w' ⟨rfl, rfl⟩)
            | (go_at_call 12; refine (last_none _ _ HSTX.out).mono ?_; rintro e w' ⟨rfl, rfl⟩)
            | (go_at_call 13; refine (room_none _ _ HSTX.out).mono ?_; rintro e w' ⟨rfl, rfl⟩))
          go_roundw
          case rel => exact ⟨k + 1, hlt, by go_num, HUX.out⟩
          case measure => simp [intOf]; omega
    · have HUA := Lib.hid (HU0.out.trans hu); clear hu
      go_wp2_with fail
      have hW : ∃ (w1 : World) (tb sb : Nat), _ = w1 ∧ wr.heap.size = tb ∧ wr.heap.size + 1 = sb := ⟨(wr.alloc (.cells #[.slice none 0 0, .map none, .int .i64 0, .bool false] 42)).alloc (.cells #[.pointer none, .pointer (some ⟨wr.heap.size, 0, none⟩)] 24), _, _, rfl, rfl, rfl⟩
      obtain ⟨w1, tb1, sb1, hw1, htb1, hsb1⟩ := hW
      have hu1 : Upd (fun _ => False) wr w1 := by rw [← hw1]; exact ((Upd.refl _ _).alloc _).alloc _
      have hq0 : w1.cell? ⟨sb1, 0, none⟩ = some (.pointer none) := by rw [← hw1, ← hsb1]; simp [go_sem]
      have hq1 : w1.cell? ⟨sb1, 1, none⟩ = some (.pointer (some ⟨tb1, 0, none⟩)) := by rw [← hw1, ← hsb1, ← htb1]; simp [go_sem]
      have h2 : w1.cell? ⟨tb1, 2, none⟩ = some (.int .i64 0) := by rw [← hw1, ← htb1]; simp [go_sem]
      have hcl1 : sb1 < w1.heap.size := by rw [← hw1, ← hsb1]; simp
      rw [hw1, hsb1, htb1]
      have HU1 := Lib.hid (HUA.out.trans hu1); clear hu1
      have HQ0 := Lib.hid hq0; clear hq0
      have HQ1 := Lib.hid hq1; clear hq1
      have HN := Lib.hid (noPl_zero h2)
      clear hw1 htb1 hsb1 h2 HS HP0 HP1
      go_loopw [58] (fun i wx => NoRel w1 i wx) (fun i _ => 2 - (intOf i).toNat)
      case atStart => exact ⟨0, by omega, rfl, Upd.refl _ _⟩
      case round =>
        obtain ⟨k2, hk2, rfl, hu⟩ := hrel
        by_cases hlt2 : k2 < 2
        · obtain ⟨a, hp, hst⟩ : ∃ a, wr.cell? ⟨sb1, k2, none⟩ = some (.pointer a) ∧ NoPl wr (.pointer a) := by
            match k2, hlt2 with
            | 0, _ => exact ⟨none, (hu.cell (p := ⟨sb1, 0, none⟩) hcl1 (fun h => h)).trans HQ0.out, noPl_nil _⟩
            | 1, _ => exact ⟨_, (hu.cell (p := ⟨sb1, 1, none⟩) hcl1 (fun h => h)).trans HQ1.out, HN.out.old hu⟩
          have HU := Lib.hid hu; clear hu
          have HST := Lib.hid hst; clear hst
          go_wp2_with (go_at_call 14; refine (open_none _ _ HST.out).mono ?_; rintro e w' ⟨rfl, rfl⟩)
          go_roundw
          case rel => exact ⟨k2 + 1, hlt2, by go_num, HU.out⟩
          case measure => simp [intOf]; omega
        · go_wp2_with fail
          go_ret
          exact ⟨rfl, HU1.out.trans hu⟩
end Go.Proofs.Ytgfbkefpoffgpaa
