/-
  Take, Lose, Twice.
-/
import Derived.Test.YtfodgohleioflaaPost2
import Derived.Test.YtfodgohleioflaaLib7
namespace Go.Proofs.Ytfodgohleioflaa
open Go Go.RowKit Go.MapKept Go.ChangeMaps

theorem look_msg (w : World) (b : Nat) (k : Int) (ok : Bool) : (Instr.lookup 58 (.map (some b)) (.int .i64 k) ok).run Try.prog w =
    lookR (.agg (msgN 0)) w k (LookElse Try.prog 58 b k ok w) ok (w.im b) :=
  run_lookup_any Try.underlying58 Try.underlying3 (fun _ => by kernel_rfl) w b k ok
structure TakeP (w : World) (b mb : Nat) (last id : Int) (M : List (Int × Value)) (C : Array Value) (e : Ending) (w' : World) : Prop where
  e : e = .returned (.tuple #[.agg C, .int .i64 0])
  p : PostAt w' b mb last (adel M id)
  u : Upd (fun k => k = b ∨ k = mb) w w'
set_option maxRecDepth 100000 in
set_option maxHeartbeats 4000000 in
theorem take_ok (w : World) (b mb : Nat) (last id : Int) (M : List (Int × Value)) (h : PostAt w b mb last M) (C : Array Value) (hg : aget M id = some (.agg C)) (hs : C.size = 24) (hone : C.all (·.oneCell') = true) :
    Calls Try.prog 9 #[.pointer (some ⟨b, 0, none⟩), .int .i64 id] w (TakeP w b mb last id M C) := by
  have c0 := h.c0
  have hm := h.m
  have look := look_msg
  obtain ⟨lb, lm, lne⟩ := h.lt
  have HST := Lib.hid (fun w' (u : Upd (fun _ => False) w w') => state_ok w' b mb last M (h.old u))
  have HH := Lib.hid h; clear h
  have hz : (Try.prog.info? 34).map (·.size) = some C.size := by rw [hs]; kernel_rfl
  have HZ := Lib.hid hz; clear hz
  have HS := Lib.hid hs; clear hs
  have HONE := Lib.hid hone; clear hone
  have hb1 : ((w.alloc (.cells (msgN 0) 34)).alloc (.cells (msgN 0) 34)).heap[w.heap.size]? = some (.cells (msgN 0) 34 (0, 0)) := by
    rw [(MapKept.heap_alloc _ _).2 _ (by simp)]; exact (MapKept.heap_alloc _ _).1
  have HB1 := Lib.hid hb1; clear hb1
  have hb2 : ((w.alloc (.cells (msgN 0) 34)).alloc (.cells (msgN 0) 34)).heap[w.heap.size + 1]? = some (.cells (msgN 0) 34 (0, 0)) := by
    have := (MapKept.heap_alloc (w.alloc (.cells (msgN 0) 34)) (.cells (msgN 0) 34)).1
    simpa using this
  have HB2 := Lib.hid hb2; clear hb2
  have hu2 : Upd (fun _ => False) w ((w.alloc (.cells (msgN 0) 34)).alloc (.cells (msgN 0) 34)) := ((Upd.refl _ _).alloc _).alloc _
  have HU2 := Lib.hid hu2; clear hu2
  go_enter Try.func9, Try.ntmps9
  go_wp2_with (first
    | (go_at_call 21; refine (HST.out _ (by first | exact Upd.refl _ _ | exact (Upd.refl _ _).alloc _)).mono ?_; rintro e w' ⟨rfl, rfl⟩)
    | (refine wpList_store_block rfl 34 _ _ rfl (w.heap.size + 1) rfl C rfl HZ.out HONE.out (msgN 0) 34 HB2.out (by rw [HS.out]; rfl) ?_; intro w2 hb2 hu2; have HB2' := Lib.hid hb2; clear hb2; have HU2' := Lib.hid hu2; clear hu2
       have HUA := Lib.hid (HU2.out.trans' HU2'.out (fun i hi e => by omega)); have HB1' := Lib.hid ((HU2'.out.block w.heap.size (by simp; omega) (by omega)).trans HB1.out)
       have c0 : w2.cell? ⟨b, 0, none⟩ = _ := (HUA.out.cell lb (fun h => h)).trans c0
       have hm : w2.im mb = _ := (HUA.out.im lm (fun h => h)).trans hm)
    | (refine wpList_delete_im rfl _ _ rfl Try.underlying58 Try.underlying3 rfl (l := M) (by assumption) rfl ?_)
    | (refine wpList_load_block rfl 34 _ rfl (w.heap.size + 1) rfl C (0, 0) _ Try.isAgg34 (fun w => by rw [HS.out]; exact Try.sizeOf34 w) ((heap_mdel_other _ (by omega)).trans HB2'.out) ?_)
    | (refine wpList_store_block rfl 34 _ _ rfl w.heap.size rfl C rfl HZ.out HONE.out (msgN 0) 34 ((heap_mdel_other _ (by omega)).trans HB1'.out) (by rw [HS.out]; rfl) ?_; intro w3 hb3 hu3; have HB3 := Lib.hid hb3; clear hb3; have HU3 := Lib.hid hu3; clear hu3))
  have hlv := run_loadVar_block (P := Try.prog) (Try.isAgg34 _) (by rw [HS.out]; exact Try.sizeOf34 _) HB3.out
  refine bodyPost_ret (v := .tuple #[.agg C, .int .i64 0]) (by simp [results, Try.results9, asAddr, hlv]) rfl ?_
  have hP2 := HH.out.old HUA.out
  have hP3 : PostAt (w2.mdel mb (.int .i64 id)) b mb last (adel M id) := ⟨by rw [cell_mdel]; exact hP2.c0, by rw [cell_mdel]; exact hP2.c1, by rw [frozen_mdel]; exact hP2.f1, im_mdel_same hP2.m⟩
  have hu := (HUA.out.mono (G := fun k => k = b ∨ k = mb) (fun _ _ h => h.elim)).mdel (b := mb) (Or.inl (Or.inr rfl)) (.int .i64 id)
  exact ⟨rfl, hP3.upd HU3.out (by omega) (by omega), hu.trans' HU3.out (fun i hi e => by omega)⟩
set_option maxRecDepth 100000 in
set_option maxHeartbeats 4000000 in
theorem take_no (w : World) (b mb : Nat) (last id : Int) (M : List (Int × Value)) (h : PostAt w b mb last M) (hg : aget M id = none) :
    Calls Try.prog 9 #[.pointer (some ⟨b, 0, none⟩), .int .i64 id] w (fun e w' => e = .returned (.tuple #[.agg (msgN 0), .int .i64 90]) ∧ Upd (fun _ => False) w w') := by
  have c0 := h.c0
  have hm := h.m
  have look := look_msg
  obtain ⟨lb, lm, lne⟩ := h.lt
  have HST := Lib.hid (fun w' (u : Upd (fun _ => False) w w') => state_ok w' b mb last M (h.old u))
  have HH := Lib.hid h; clear h
  have hz : (Try.prog.info? 34).map (·.size) = some (msgN 0).size := by kernel_rfl
  have HZ := Lib.hid hz; clear hz
  have hb1 : ((w.alloc (.cells (msgN 0) 34)).alloc (.cells (msgN 0) 34)).heap[w.heap.size]? = some (.cells (msgN 0) 34 (0, 0)) := by
    rw [(MapKept.heap_alloc _ _).2 _ (by simp)]; exact (MapKept.heap_alloc _ _).1
  have HB1 := Lib.hid hb1; clear hb1
  have hb2 : ((w.alloc (.cells (msgN 0) 34)).alloc (.cells (msgN 0) 34)).heap[w.heap.size + 1]? = some (.cells (msgN 0) 34 (0, 0)) := by
    have := (MapKept.heap_alloc (w.alloc (.cells (msgN 0) 34)) (.cells (msgN 0) 34)).1
    simpa using this
  have HB2 := Lib.hid hb2; clear hb2
  have hu2 : Upd (fun _ => False) w ((w.alloc (.cells (msgN 0) 34)).alloc (.cells (msgN 0) 34)) := ((Upd.refl _ _).alloc _).alloc _
  have HU2 := Lib.hid hu2; clear hu2
  go_enter Try.func9, Try.ntmps9
  go_wp2_with (first
    | (go_at_call 21; refine (HST.out _ (by first | exact Upd.refl _ _ | exact (Upd.refl _ _).alloc _)).mono ?_; rintro e w' ⟨rfl, rfl⟩)
    | (refine wpList_store_block rfl 34 _ _ rfl (w.heap.size + 1) rfl (msgN 0) rfl HZ.out (msgN_one 0) (msgN 0) 34 HB2.out rfl ?_; intro w2 hb2 hu2; have HB2' := Lib.hid hb2; clear hb2; have HU2' := Lib.hid hu2; clear hu2
       have HUA := Lib.hid (HU2.out.trans' HU2'.out (fun i hi e => by omega)); have HB1' := Lib.hid ((HU2'.out.block w.heap.size (by simp; omega) (by omega)).trans HB1.out)
       have c0 : w2.cell? ⟨b, 0, none⟩ = _ := (HUA.out.cell lb (fun h => h)).trans c0
       have hm : w2.im mb = _ := (HUA.out.im lm (fun h => h)).trans hm)
    | (refine wpList_store_block rfl 34 _ _ rfl w.heap.size rfl (msgN 0) rfl HZ.out (msgN_one 0) (msgN 0) 34 HB1'.out rfl ?_; intro w3 hb3 hu3; have HB3 := Lib.hid hb3; clear hb3; have HU3 := Lib.hid hu3; clear hu3))
  have hlv := run_loadVar_block (P := Try.prog) (Try.isAgg34 _) (Try.sizeOf34 _) HB3.out
  refine bodyPost_ret (v := .tuple #[.agg (msgN 0), .int .i64 90]) (by simp [results, Try.results9, asAddr, hlv]) rfl ?_
  exact ⟨rfl, HUA.out.trans' HU3.out (fun i hi e => by omega)⟩
end Go.Proofs.Ytfodgohleioflaa
