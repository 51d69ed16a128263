/-
  EpochNobody: what a state that no call made answers.
-/
import Derived.Test.YtmpjbolopgccpaaGreatProg
import Derived.Test.YtmpjbolopgccpaaGreatLib4
set_option linter.unusedVariables false
namespace Go.Proofs.YtmpjbolopgccpaaGreat
open Go Go.RowKit Go.MapKept Go.ChangeMaps
set_option linter.unusedVariables false

def Same (w : World) (v : Value) (e : Ending) (w' : World) : Prop := e = .returned v ∧ w = w'
def BoolPost (w : World) (r : Bool) (e : Ending) (w' : World) : Prop := e = .returned (.bool r) ∧ Upd (fun _ => False) w w'
def UPost (w : World) (v : Value) (e : Ending) (w' : World) : Prop := e = .returned v ∧ Upd (fun _ => False) w w'
/-- A state that no call made. -/
def NoSt (w : World) (p : Value) : Prop := ∀ (w' : World), Upd (fun _ => False) w w' → Calls Tryz.prog 21 #[p] w' (Same w' (.bool true))
theorem NoSt.old {w w' : World} {p : Value} (h : NoSt w p) (u : Upd (fun _ => False) w w') : NoSt w' p := fun w'' hu => h w'' (u.trans hu)
theorem noSt_nil (w : World) : NoSt w (.pointer none) := fun w' _ => by
  go_enter Tryz.func21, Tryz.ntmps21
  go_wp2
  go_ret
  exact ⟨rfl, rfl⟩
theorem noSt_zero {w : World} {b : Nat} (h0 : w.cell? ⟨b, 0, none⟩ = some (.int .i64 0)) : NoSt w (.pointer (some ⟨b, 0, none⟩)) := fun w' u => by
  have c0 := (u.cell (p := ⟨b, 0, none⟩) (World.block_lt_of_cell? _ _ h0) (fun h => h)).trans h0
  go_enter Tryz.func21, Tryz.ntmps21
  go_wp2
  go_ret
  exact ⟨rfl, rfl⟩
theorem epoch_no (w : World) (p : Value) (h : NoSt w p) : Calls Tryz.prog 8 #[p] w (Same w (.int .i64 0)) := by
  have HH := Lib.hid h; clear h
  go_enter Tryz.func8, Tryz.ntmps8
  go_wp2_with (go_at_call 21; refine (HH.out _ (Upd.refl _ _)).mono ?_; rintro e w' ⟨rfl, rfl⟩)
  go_ret
  exact ⟨rfl, rfl⟩
theorem slot_no (w : World) (p : Value) (h : NoSt w p) : Calls Tryz.prog 9 #[p] w (Same w (.int .i64 0)) := by
  have HH := Lib.hid h; clear h
  go_enter Tryz.func9, Tryz.ntmps9
  go_wp2_with (go_at_call 21; refine (HH.out _ (Upd.refl _ _)).mono ?_; rintro e w' ⟨rfl, rfl⟩)
  go_ret
  exact ⟨rfl, rfl⟩
theorem voters_no (w : World) (p : Value) (n : Int) (h : NoSt w p) : Calls Tryz.prog 10 #[p, .int .i64 n] w (Same w (.slice none 0 0)) := by
  have HH := Lib.hid h; clear h
  go_enter Tryz.func10, Tryz.ntmps10
  go_wp2_with (go_at_call 21; refine (HH.out _ (Upd.refl _ _)).mono ?_; rintro e w' ⟨rfl, rfl⟩)
  go_ret
  exact ⟨rfl, rfl⟩
theorem members_no (w : World) (p : Value) (h : NoSt w p) : Calls Tryz.prog 11 #[p] w (Same w (.slice none 0 0)) := by
  have HH := Lib.hid h; clear h
  go_enter Tryz.func11, Tryz.ntmps11
  go_wp2_with (go_at_call 21; refine (HH.out _ (Upd.refl _ _)).mono ?_; rintro e w' ⟨rfl, rfl⟩)
  go_ret
  exact ⟨rfl, rfl⟩
theorem keys_no (w : World) (p : Value) (h : NoSt w p) : Calls Tryz.prog 12 #[p] w (Same w (.slice none 0 0)) := by
  have HH := Lib.hid h; clear h
  go_enter Tryz.func12, Tryz.ntmps12
  go_wp2_with (go_at_call 21; refine (HH.out _ (Upd.refl _ _)).mono ?_; rintro e w' ⟨rfl, rfl⟩)
  go_ret
  exact ⟨rfl, rfl⟩
theorem moves_no (w : World) (p : Value) (h : NoSt w p) : Calls Tryz.prog 13 #[p] w (Same w (.slice none 0 0)) := by
  have HH := Lib.hid h; clear h
  go_enter Tryz.func13, Tryz.ntmps13
  go_wp2_with (go_at_call 21; refine (HH.out _ (Upd.refl _ _)).mono ?_; rintro e w' ⟨rfl, rfl⟩)
  go_ret
  exact ⟨rfl, rfl⟩
theorem recodes_no (w : World) (p : Value) (h : NoSt w p) : Calls Tryz.prog 14 #[p] w (Same w (.slice none 0 0)) := by
  have HH := Lib.hid h; clear h
  go_enter Tryz.func14, Tryz.ntmps14
  go_wp2_with (go_at_call 21; refine (HH.out _ (Upd.refl _ _)).mono ?_; rintro e w' ⟨rfl, rfl⟩)
  go_ret
  exact ⟨rfl, rfl⟩
theorem mine_no (w : World) (p : Value) (n : Int) (h : NoSt w p) : Calls Tryz.prog 15 #[p, .int .i64 n] w (UPost w (.slice none 0 0)) := by
  have HH := Lib.hid h; clear h
  go_enter Tryz.func15, Tryz.ntmps15
  go_wp2_with (go_at_call 21; refine (HH.out _ (by first | exact Upd.refl _ _ | exact (Upd.refl _ _).alloc _)).mono ?_; rintro e w' ⟨rfl, rfl⟩)
  go_ret
  exact ⟨rfl, by first | exact Upd.refl _ _ | exact (Upd.refl _ _).alloc _⟩
theorem failed_no (w : World) (p : Value) (n : Int) (h : NoSt w p) : Calls Tryz.prog 16 #[p, .int .i64 n] w (Same w (.bool false)) := by
  have HH := Lib.hid h; clear h
  go_enter Tryz.func16, Tryz.ntmps16
  go_wp2_with (go_at_call 21; refine (HH.out _ (Upd.refl _ _)).mono ?_; rintro e w' ⟨rfl, rfl⟩)
  go_ret
  exact ⟨rfl, rfl⟩
theorem copy_no (w : World) (p : Value) (h : NoSt w p) : Calls Tryz.prog 17 #[p] w (UPost w (.pointer none)) := by
  have HH := Lib.hid h; clear h
  go_enter Tryz.func17, Tryz.ntmps17
  go_wp2_with (go_at_call 21; refine (HH.out _ (by first | exact Upd.refl _ _ | exact (Upd.refl _ _).alloc _)).mono ?_; rintro e w' ⟨rfl, rfl⟩)
  go_ret
  exact ⟨rfl, by first | exact Upd.refl _ _ | exact (Upd.refl _ _).alloc _⟩
theorem same_no (w : World) (p q : Value) (h : NoSt w p) : Calls Tryz.prog 18 #[p, q] w (Same w (.bool false)) := by
  have HH := Lib.hid h; clear h
  go_enter Tryz.func18, Tryz.ntmps18
  go_wp2_with (go_at_call 21; refine (HH.out _ (Upd.refl _ _)).mono ?_; rintro e w' ⟨rfl, rfl⟩)
  go_ret
  exact ⟨rfl, rfl⟩
theorem code_no (w : World) (p : Value) (h : NoSt w p) : Calls Tryz.prog 19 #[p] w (UPost w (.agg #[.int .i64 0, .int .i64 0])) := by
  have HH := Lib.hid h; clear h
  go_enter Tryz.func19, Tryz.ntmps19
  go_wp2_with (go_at_call 21; refine (HH.out _ ((Upd.refl _ _).alloc _)).mono ?_; rintro e w' ⟨rfl, rfl⟩)
  refine bodyPost_ret (v := .agg #[.int .i64 0, .int .i64 0]) (by simp [results, Tryz.results19, go_sem]) rfl ?_
  exact ⟨rfl, (Upd.refl _ _).alloc _⟩
end Go.Proofs.YtmpjbolopgccpaaGreat
