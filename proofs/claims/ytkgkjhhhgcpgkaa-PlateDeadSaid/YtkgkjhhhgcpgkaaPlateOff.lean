/-
  Plates that no call made, or that have failed.
-/
import Derived.Test.YtkgkjhhhgcpgkaaReads
namespace Go.Proofs.Ytkgkjhhhgcpgkaa
open Go Go.RowKit Go.MapKept Go.ChangeMaps

/-- state tells r of p, here and later. -/
def StAt (w : World) (p : Value) (r : Int) : Prop := ∀ (w' : World), Upd (fun _ => False) w w' → Calls Try.prog 33 #[p] w' (Same w' (.int .i64 r))
theorem StAt.old {w w' : World} {p : Value} {r : Int} (h : StAt w p r) (u : Upd (fun _ => False) w w') : StAt w' p r := fun w'' hu => h w'' (u.trans hu)
theorem st_nil (w : World) : StAt w (.pointer none) 2 := fun w' _ => by
  go_enter Try.func33, Try.ntmps33
  go_wp2
  go_ret
  exact ⟨rfl, rfl⟩
theorem st_zero {w : World} {b : Nat} (h2 : w.cell? ⟨b, 2, none⟩ = some (.int .i64 0)) : StAt w (.pointer (some ⟨b, 0, none⟩)) 2 := fun w' u => by
  have c2 := (u.cell (p := ⟨b, 2, none⟩) (World.block_lt_of_cell? _ _ h2) (fun h => h)).trans h2
  clear h2 u
  go_enter Try.func33, Try.ntmps33
  go_wp2
  go_ret
  exact ⟨rfl, rfl⟩
theorem st_dead {w : World} {b n : Nat} (hn : 0 < n) (h2 : w.cell? ⟨b, 2, none⟩ = some (.int .i64 n)) (h3 : w.cell? ⟨b, 3, none⟩ = some (.bool true)) : StAt w (.pointer (some ⟨b, 0, none⟩)) 60 := fun w' u => by
  have c2 := (u.cell (p := ⟨b, 2, none⟩) (World.block_lt_of_cell? _ _ h2) (fun h => h)).trans h2
  have c3 := (u.cell (p := ⟨b, 3, none⟩) (World.block_lt_of_cell? _ _ h3) (fun h => h)).trans h3
  clear h2 h3 u
  go_enter Try.func33, Try.ntmps33
  go_wp2
  go_ret
  exact ⟨rfl, rfl⟩
theorem read_st (i : Int) (w : World) (p : Value) (r : Int) (hr : r = 2 ∨ r = 60) (h : StAt w p r) : Calls Try.prog 11 #[p, .int .i64 i] w (Same w (.tuple #[.slice none 0 0, .int .i64 r])) := by
  have HH := Lib.hid h; clear h
  rcases hr with rfl | rfl
  all_goals
    go_enter Try.func11, Try.ntmps11
    go_wp2_with (go_at_call 33; refine (HH.out _ (Upd.refl _ _)).mono ?_; rintro e w' ⟨rfl, rfl⟩)
    go_ret2
    exact ⟨rfl, rfl⟩
theorem write_st (i : Int) (w : World) (p v : Value) (r : Int) (hr : r = 2 ∨ r = 60) (h : StAt w p r) : Calls Try.prog 28 #[p, .int .i64 i, v] w (Same w (.int .i64 r)) := by
  have HH := Lib.hid h; clear h
  rcases hr with rfl | rfl
  all_goals
    go_enter Try.func28, Try.ntmps28
    go_wp2_with (go_at_call 33; refine (HH.out _ (Upd.refl _ _)).mono ?_; rintro e w' ⟨rfl, rfl⟩)
    go_ret
    exact ⟨rfl, rfl⟩
theorem sync_st (w : World) (p : Value) (r : Int) (hr : r = 2 ∨ r = 60) (h : StAt w p r) : Calls Try.prog 25 #[p] w (Same w (.int .i64 r)) := by
  have HH := Lib.hid h; clear h
  rcases hr with rfl | rfl
  all_goals
    go_enter Try.func25, Try.ntmps25
    go_wp2_with (go_at_call 33; refine (HH.out _ (Upd.refl _ _)).mono ?_; rintro e w' ⟨rfl, rfl⟩)
    go_ret
    exact ⟨rfl, rfl⟩
theorem crash_st (w : World) (p v : Value) (t n : Int) (r : Int) (hr : r = 2 ∨ r = 60) (h : StAt w p r) : Calls Try.prog 22 #[p, v, .int .i64 t, .int .i64 n] w (Same w (.int .i64 r)) := by
  have HH := Lib.hid h; clear h
  rcases hr with rfl | rfl
  all_goals
    go_enter Try.func22, Try.ntmps22
    go_wp2_with (go_at_call 33; refine (HH.out _ (Upd.refl _ _)).mono ?_; rintro e w' ⟨rfl, rfl⟩)
    go_ret
    exact ⟨rfl, rfl⟩
theorem fail_st (w : World) (p : Value) (r : Int) (hr : r = 2 ∨ r = 60) (h : StAt w p r) : Calls Try.prog 27 #[p] w (Same w (.int .i64 r)) := by
  have HH := Lib.hid h; clear h
  rcases hr with rfl | rfl
  all_goals
    go_enter Try.func27, Try.ntmps27
    go_wp2_with (go_at_call 33; refine (HH.out _ (Upd.refl _ _)).mono ?_; rintro e w' ⟨rfl, rfl⟩)
    go_ret
    exact ⟨rfl, rfl⟩
theorem image_st (w : World) (p : Value) (r : Int) (hr : r = 2 ∨ r = 60) (h : StAt w p r) : Calls Try.prog 23 #[p] w (Same w (.slice none 0 0)) := by
  have HH := Lib.hid h; clear h
  rcases hr with rfl | rfl
  all_goals
    go_enter Try.func23, Try.ntmps23
    go_wp2_with (go_at_call 33; refine (HH.out _ (Upd.refl _ _)).mono ?_; rintro e w' ⟨rfl, rfl⟩)
    go_ret
    exact ⟨rfl, rfl⟩
theorem dirty_st (w : World) (p : Value) (r : Int) (hr : r = 2 ∨ r = 60) (h : StAt w p r) : Calls Try.prog 20 #[p] w (Same w (.slice none 0 0)) := by
  have HH := Lib.hid h; clear h
  rcases hr with rfl | rfl
  all_goals
    go_enter Try.func20, Try.ntmps20
    go_wp2_with (go_at_call 33; refine (HH.out _ (Upd.refl _ _)).mono ?_; rintro e w' ⟨rfl, rfl⟩)
    go_ret
    exact ⟨rfl, rfl⟩
/-- What else is told of one that no call made. -/
structure NoneAt (w : World) (p : Value) : Prop where
  sectors : ∀ (w' : World), Upd (fun _ => False) w w' → Calls Try.prog 19 #[p] w' (Same w' (.int .i64 0))
  copy : ∀ (w' : World), Upd (fun _ => False) w w' → Calls Try.prog 24 #[p] w' (Same w' (.pointer none))
  failed : ∀ (w' : World), Upd (fun _ => False) w w' → Calls Try.prog 26 #[p] w' (Same w' (.bool false))
theorem NoneAt.old {w w' : World} {p : Value} (h : NoneAt w p) (u : Upd (fun _ => False) w w') : NoneAt w' p := ⟨fun w'' hu => h.1 w'' (u.trans hu), fun w'' hu => h.2 w'' (u.trans hu), fun w'' hu => h.3 w'' (u.trans hu)⟩
theorem none_nil (w : World) : NoneAt w (.pointer none) := by
  refine ⟨fun w' _ => ?_, fun w' _ => ?_, fun w' _ => ?_⟩
  · go_enter Try.func19, Try.ntmps19
    go_wp2
    go_ret
    exact ⟨rfl, rfl⟩
  · go_enter Try.func24, Try.ntmps24
    go_wp2
    go_ret
    exact ⟨rfl, rfl⟩
  · go_enter Try.func26, Try.ntmps26
    go_wp2
    go_ret
    exact ⟨rfl, rfl⟩
theorem sectors_any (w : World) (b n : Nat) (h2 : w.cell? ⟨b, 2, none⟩ = some (.int .i64 n)) : Calls Try.prog 19 #[.pointer (some ⟨b, 0, none⟩)] w (Same w (.int .i64 n)) := by
  go_enter Try.func19, Try.ntmps19
  go_wp2
  go_ret
  exact ⟨rfl, rfl⟩
theorem failed_any (w : World) (b : Nat) (x : Bool) (h3 : w.cell? ⟨b, 3, none⟩ = some (.bool x)) : Calls Try.prog 26 #[.pointer (some ⟨b, 0, none⟩)] w (Same w (.bool x)) := by
  go_enter Try.func26, Try.ntmps26
  go_wp2
  go_ret
  exact ⟨rfl, rfl⟩
theorem none_zero {w : World} {b : Nat} (h2 : w.cell? ⟨b, 2, none⟩ = some (.int .i64 0)) (h3 : w.cell? ⟨b, 3, none⟩ = some (.bool false)) : NoneAt w (.pointer (some ⟨b, 0, none⟩)) := by
  have hl := World.block_lt_of_cell? _ _ h2
  refine ⟨fun w' u => ?_, fun w' u => ?_, fun w' u => ?_⟩
  · exact sectors_any w' b 0 ((u.cell (p := ⟨b, 2, none⟩) hl (fun h => h)).trans h2)
  · have c2 := (u.cell (p := ⟨b, 2, none⟩) hl (fun h => h)).trans h2
    go_enter Try.func24, Try.ntmps24
    go_wp2
    go_ret
    exact ⟨rfl, rfl⟩
  · exact failed_any w' b false ((u.cell (p := ⟨b, 3, none⟩) hl (fun h => h)).trans h3)
def NoRel (w0 : World) (i : Value) (wr : World) : Prop := ∃ k : Nat, k ≤ 2 ∧ i = .int .i64 k ∧ Upd (fun _ => False) w0 wr
set_option maxHeartbeats 8000000 in
set_option maxRecDepth 100000 in
theorem nobody_walk (w : World) (i : Int) : Calls Try.prog 8 #[.int .i64 i] w (BoolPost w true) := by
  go_enter Try.func8, Try.ntmps8
  go_wp2_with fail
  have hW : ∃ (w0 : World) (tb sb : Nat), _ = w0 ∧ w.heap.size = tb ∧ w.heap.size + 1 = sb := ⟨(w.alloc (.cells #[.slice none 0 0, .map none, .int .i64 0, .bool false] 63)).alloc (.cells #[.pointer none, .pointer (some ⟨w.heap.size, 0, none⟩)] 23), _, _, rfl, rfl, rfl⟩
  obtain ⟨w0, tb, sb, hw0, htb, hsb⟩ := hW
  have hu0 : Upd (fun _ => False) w w0 := by rw [← hw0]; exact ((Upd.refl _ _).alloc _).alloc _
  have hp0 : w0.cell? ⟨sb, 0, none⟩ = some (.pointer none) := by rw [← hw0, ← hsb]; simp [go_sem]
  have hp1 : w0.cell? ⟨sb, 1, none⟩ = some (.pointer (some ⟨tb, 0, none⟩)) := by rw [← hw0, ← hsb, ← htb]; simp [go_sem]
  have h2 : w0.cell? ⟨tb, 2, none⟩ = some (.int .i64 0) := by rw [← hw0, ← htb]; simp [go_sem]
  have h3 : w0.cell? ⟨tb, 3, none⟩ = some (.bool false) := by rw [← hw0, ← htb]; simp [go_sem]
  have hcl : sb < w0.heap.size := by rw [← hw0, ← hsb]; simp
  rw [hw0, hsb, htb]
  have HU0 := Lib.hid hu0; clear hu0
  have HP0 := Lib.hid hp0; clear hp0
  have HP1 := Lib.hid hp1; clear hp1
  have HS := Lib.hid (st_zero h2)
  have HN := Lib.hid (none_zero h2 h3)
  clear hw0 htb hsb h2 h3
  go_loopw [15] (fun i wr => NoRel w0 i wr) (fun i _ => 2 - (intOf i).toNat)
  case atStart => exact ⟨0, by omega, rfl, Upd.refl _ _⟩
  case round =>
    obtain ⟨k, hk, rfl, hu⟩ := hrel
    by_cases hlt : k < 2
    · obtain ⟨a, hp, hst, hno⟩ : ∃ a, wr.cell? ⟨sb, k, none⟩ = some (.pointer a) ∧ StAt wr (.pointer a) 2 ∧ NoneAt wr (.pointer a) := by
        match k, hlt with
        | 0, _ => exact ⟨none, (hu.cell (p := ⟨sb, 0, none⟩) hcl (fun h => h)).trans HP0.out, st_nil wr, none_nil wr⟩
        | 1, _ => exact ⟨_, (hu.cell (p := ⟨sb, 1, none⟩) hcl (fun h => h)).trans HP1.out, HS.out.old hu, HN.out.old hu⟩
      have HU := Lib.hid hu; clear hu
      have HST := Lib.hid hst; clear hst
      have HNO := Lib.hid hno; clear hno
      go_wp2_with (first
        | (go_at_call 11; refine (read_st _ _ _ 2 (Or.inl rfl) HST.out).mono ?_; rintro e w' ⟨rfl, rfl⟩)
        | (go_at_call 28; refine (write_st _ _ _ _ 2 (Or.inl rfl) HST.out).mono ?_; rintro e w' ⟨rfl, rfl⟩)
        | (go_at_call 25; refine (sync_st _ _ 2 (Or.inl rfl) HST.out).mono ?_; rintro e w' ⟨rfl, rfl⟩)
        | (go_at_call 22; refine (crash_st _ _ _ _ _ 2 (Or.inl rfl) HST.out).mono ?_; rintro e w' ⟨rfl, rfl⟩)
        | (go_at_call 27; refine (fail_st _ _ 2 (Or.inl rfl) HST.out).mono ?_; rintro e w' ⟨rfl, rfl⟩))
      have hcell : ∀ j, j < 5 → (wr.alloc (.cells #[.int .i64 2, .int .i64 2, .int .i64 2, .int .i64 2, .int .i64 2] 29)).cell? ⟨wr.heap.size, j, none⟩ = some (.int .i64 2) := by
        intro j hj
        rw [World.cell?_alloc_at _ _ _ _ rfl]
        match j, hj with
        | 0, _ => rfl | 1, _ => rfl | 2, _ => rfl | 3, _ => rfl | 4, _ => rfl
      have hu5 : Upd (fun _ => False) wr (wr.alloc (.cells #[.int .i64 2, .int .i64 2, .int .i64 2, .int .i64 2, .int .i64 2] 29)) := (Upd.refl _ _).alloc _
      have hsz5 : wr.heap.size < (wr.alloc (.cells #[.int .i64 2, .int .i64 2, .int .i64 2, .int .i64 2, .int .i64 2] 29)).heap.size := by simp
      generalize wr.alloc (.cells #[.int .i64 2, .int .i64 2, .int .i64 2, .int .i64 2, .int .i64 2] 29) = w5 at hcell hu5 hsz5 ⊢
      obtain ⟨eb, heb⟩ : ∃ eb, wr.heap.size = eb := ⟨_, rfl⟩
      rw [heb] at hcell hsz5 ⊢
      clear heb
      have HC := Lib.hid hcell; clear hcell
      have HU5 := Lib.hid (HU.out.trans hu5)
      have HST5 := Lib.hid (HST.out.old hu5)
      have HNO5 := Lib.hid (HNO.out.old hu5); clear hu5
      go_loopw [38] (fun i wx => ∃ j : Nat, j ≤ 5 ∧ i = .int .i64 j ∧ Upd (fun _ => False) w5 wx) (fun i _ => 5 - (intOf i).toNat)
      case atStart => exact ⟨0, by omega, rfl, Upd.refl _ _⟩
      case round =>
        obtain ⟨j, hj, rfl, hux⟩ := hrel
        by_cases hj5 : j < 5
        · have hcj := (hux.cell (p := ⟨eb, j, none⟩) hsz5 (fun h => h)).trans (HC.out j hj5)
          have HUX := Lib.hid hux; clear hux
          go_wp2_with fail
          go_roundw
          case rel => exact ⟨j + 1, hj5, by go_num, HUX.out⟩
          case measure => simp [intOf]; omega
        · have HUX := Lib.hid (HU5.out.trans hux)
          have HSTX := Lib.hid (HST5.out.old hux)
          have HNOX := Lib.hid (HNO5.out.old hux); clear hux
          go_wp2_with (first
            | (go_at_call 19; refine (HNOX.out.sectors _ (Upd.refl _ _)).mono ?_; rintro e w' ⟨rfl, rfl⟩)
            | (go_at_call 23; refine (image_st _ _ 2 (Or.inl rfl) HSTX.out).mono ?_; rintro e w' ⟨rfl, rfl⟩)
            | (go_at_call 20; refine (dirty_st _ _ 2 (Or.inl rfl) HSTX.out).mono ?_; rintro e w' ⟨rfl, rfl⟩)
            | (go_at_call 24; refine (HNOX.out.copy _ (Upd.refl _ _)).mono ?_; rintro e w' ⟨rfl, rfl⟩)
            | (go_at_call 26; refine (HNOX.out.failed _ (Upd.refl _ _)).mono ?_; rintro e w' ⟨rfl, rfl⟩))
          go_roundw
          case rel => exact ⟨k + 1, hlt, by go_num, HUX.out⟩
          case measure => simp [intOf]; omega
    · go_wp2_with fail
      refine (new_any 3 _ (by omega) (by omega)).mono ?_
      rintro e w1 ⟨b, ab, cm, rfl, hp, l1, l2, l3, hu1⟩
      have hlen : (List.replicate 3 zeros).length = 3 := List.length_replicate
      have c2 := hp.c2
      rw [hlen] at c2
      have HU1 := Lib.hid hu1; clear hu1 hp
      go_wp2_with fail
      refine (sectors_any _ b 3 c2).mono ?_
      rintro e w' ⟨rfl, rfl⟩
      go_wp2_with fail
      go_ret
      exact ⟨rfl, (HU0.out.trans hu).trans HU1.out⟩
end Go.Proofs.Ytkgkjhhhgcpgkaa
