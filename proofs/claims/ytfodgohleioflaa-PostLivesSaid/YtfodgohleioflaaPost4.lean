/-
  Lose and Twice.
-/
import Derived.Test.YtfodgohleioflaaPost3
namespace Go.Proofs.Ytfodgohleioflaa
open Go Go.RowKit Go.MapKept Go.ChangeMaps

structure LoseP (w : World) (b mb : Nat) (last id : Int) (M : List (Int × Value)) (e : Ending) (w' : World) : Prop where
  e : e = .returned (.int .i64 0)
  p : PostAt w' b mb last (adel M id)
  u : Upd (fun k => k = b ∨ k = mb) w w'
set_option maxRecDepth 100000 in
set_option maxHeartbeats 4000000 in
theorem lose_ok (w : World) (b mb : Nat) (last id : Int) (M : List (Int × Value)) (h : PostAt w b mb last M) (C : Array Value) (hg : aget M id = some (.agg C)) (hs : C.size = 24) (hone : C.all (·.oneCell') = true) :
    Calls Try.prog 10 #[.pointer (some ⟨b, 0, none⟩), .int .i64 id] w (LoseP w b mb last id M) := by
  have hz : (Try.prog.info? 34).map (·.size) = some C.size := by rw [hs]; kernel_rfl
  have HZ := Lib.hid hz; clear hz
  have HST := Lib.hid (fun w' (u : Upd (fun _ => False) w w') => take_ok w' b mb last id M (h.old u) C hg hs hone)
  have HH := Lib.hid h; clear h
  go_enter Try.func10, Try.ntmps10
  go_wp2_with (first
    | (go_at_call 9; refine (HST.out _ (Upd.refl _ _)).mono ?_; rintro e w2 ⟨rfl, hp, hu⟩; have HP := Lib.hid hp; clear hp; have HU := Lib.hid hu; clear hu)
    | (refine wpList_store_last (w0 := w2) (C0 := msgN 0) rfl 34 _ _ rfl rfl C rfl HZ.out (by rw [hs]; rfl) hone ?_))
  go_ret
  exact ⟨rfl, HP.out.old ((Upd.refl _ _).alloc _), HU.out.alloc _⟩
set_option maxRecDepth 100000 in
set_option maxHeartbeats 4000000 in
theorem lose_no (w : World) (b mb : Nat) (last id : Int) (M : List (Int × Value)) (h : PostAt w b mb last M) (hg : aget M id = none) :
    Calls Try.prog 10 #[.pointer (some ⟨b, 0, none⟩), .int .i64 id] w (fun e w' => e = .returned (.int .i64 90) ∧ Upd (fun _ => False) w w') := by
  have hz : (Try.prog.info? 34).map (·.size) = some (msgN 0).size := by kernel_rfl
  have HZ := Lib.hid hz; clear hz
  have HST := Lib.hid (fun w' (u : Upd (fun _ => False) w w') => take_no w' b mb last id M (h.old u) hg)
  have HH := Lib.hid h; clear h
  go_enter Try.func10, Try.ntmps10
  go_wp2_with (first
    | (go_at_call 9; refine (HST.out _ (Upd.refl _ _)).mono ?_; rintro e w2 ⟨rfl, hu⟩; have HU := Lib.hid hu; clear hu)
    | (refine wpList_store_last (w0 := w2) (C0 := msgN 0) rfl 34 _ _ rfl rfl (msgN 0) rfl HZ.out rfl (msgN_one 0) ?_))
  go_ret
  exact ⟨rfl, HU.out.alloc _⟩
end Go.Proofs.Ytfodgohleioflaa
