/-
  Twice.
-/
import Derived.Test.YtfodgohleioflaaPost4
namespace Go.Proofs.Ytfodgohleioflaa
open Go Go.RowKit Go.MapKept Go.ChangeMaps

set_option maxRecDepth 100000 in
set_option maxHeartbeats 4000000 in
theorem twice_ok (w : World) (b mb : Nat) (last id q : Int) (M : List (Int × Value)) (h : PostAt w b mb last M) (hM : M.length < 4000) (hl0 : 0 ≤ last) (hl : last < 1000000) (hg : aget M id = some (.agg (msgN q))) :
    Calls Try.prog 11 #[.pointer (some ⟨b, 0, none⟩), .int .i64 id] w (SendP w b mb last M (.agg (msgN q))) := by
  have c0 := h.c0
  have hm := h.m
  have look := look_msg
  obtain ⟨lb, lm, lne⟩ := h.lt
  have HST := Lib.hid (fun w' (u : Upd (fun _ => False) w w') => state_ok w' b mb last M (h.old u))
  have HSEND := Lib.hid (fun w' (u : Upd (fun _ => False) w w') => send_nil w' b mb last q M (h.old u) hM hl0 hl)
  have HH := Lib.hid h; clear h
  have hz : (Try.prog.info? 34).map (·.size) = some (msgN q).size := by kernel_rfl
  have HZ := Lib.hid hz; clear hz
  go_enter Try.func11, Try.ntmps11
  go_wp2_with (first
    | (go_at_call 21; refine (HST.out _ (by first | exact Upd.refl _ _ | exact (Upd.refl _ _).alloc _)).mono ?_; rintro e w' ⟨rfl, rfl⟩)
    | (refine wpList_store_last (w0 := w) (C0 := msgN 0) rfl 34 _ _ rfl rfl (msgN q) rfl HZ.out rfl (msgN_one q) ?_)
    | (refine wpList_load_block rfl 34 _ rfl w.heap.size rfl (msgN q) (0, 0) _ Try.isAgg34 Try.sizeOf34 (MapKept.heap_alloc w _).1 ?_)
    | (go_at_call 8; refine (HSEND.out _ ((Upd.refl _ _).alloc _)).mono ?_; rintro e w2 ⟨rfl, hp, hu⟩; have HP := Lib.hid hp; clear hp; have HU := Lib.hid hu; clear hu))
  go_ret2
  exact ⟨rfl, HP.out, ((Upd.refl _ _).alloc _).trans HU.out⟩
set_option maxRecDepth 100000 in
set_option maxHeartbeats 4000000 in
theorem twice_no (w : World) (b mb : Nat) (last id : Int) (M : List (Int × Value)) (h : PostAt w b mb last M) (hg : aget M id = none) :
    Calls Try.prog 11 #[.pointer (some ⟨b, 0, none⟩), .int .i64 id] w (fun e w' => e = .returned (.tuple #[.int .i64 0, .int .i64 90]) ∧ Upd (fun _ => False) w w') := by
  have c0 := h.c0
  have hm := h.m
  have look := look_msg
  obtain ⟨lb, lm, lne⟩ := h.lt
  have HST := Lib.hid (fun w' (u : Upd (fun _ => False) w w') => state_ok w' b mb last M (h.old u))
  have HH := Lib.hid h; clear h
  have hz : (Try.prog.info? 34).map (·.size) = some (msgN 0).size := by kernel_rfl
  have HZ := Lib.hid hz; clear hz
  go_enter Try.func11, Try.ntmps11
  go_wp2_with (first
    | (go_at_call 21; refine (HST.out _ (by first | exact Upd.refl _ _ | exact (Upd.refl _ _).alloc _)).mono ?_; rintro e w' ⟨rfl, rfl⟩)
    | (refine wpList_store_last (w0 := w) (C0 := msgN 0) rfl 34 _ _ rfl rfl (msgN 0) rfl HZ.out rfl (msgN_one 0) ?_))
  go_ret2
  exact ⟨rfl, (Upd.refl _ _).alloc _⟩
end Go.Proofs.Ytfodgohleioflaa
