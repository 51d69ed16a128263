/-
  A post that no call made: its state.
-/
import Derived.Test.YtfodgohleioflaaPost5
namespace Go.Proofs.Ytfodgohleioflaa
open Go Go.RowKit Go.MapKept Go.ChangeMaps

/-- Nobody's post: none, or one without a map. -/
def OffP (w : World) (p : Value) : Prop := p = .pointer none ∨ ∃ b, p = .pointer (some ⟨b, 0, none⟩) ∧ w.cell? ⟨b, 0, none⟩ = some (.map none)
theorem OffP.old {w w' : World} {p : Value} (h : OffP w p) (u : Upd (fun _ => False) w w') : OffP w' p := by
  rcases h with h | ⟨b, h, hc⟩
  · exact .inl h
  · exact .inr ⟨b, h, (u.cell (World.block_lt_of_cell? _ _ hc) (fun h => h)).trans hc⟩
theorem state_off (w : World) (p : Value) (h : OffP w p) : Calls Try.prog 21 #[p] w (Same w (.int .i64 2)) := by
  have r1 : ∀ (w : World) (r : Option Nat), (binOp .eql 58 (.map r) (.map none)).run Try.prog w = .ok (.bool r.isNone) w := fun w r => run_eql_map_nil w _ _ _ r Try.underlying58
  rcases h with rfl | ⟨b, rfl, c0⟩
  · go_enter Try.func21, Try.ntmps21
    go_wp2
    go_ret
    exact ⟨rfl, rfl⟩
  · go_enter Try.func21, Try.ntmps21
    go_wp2
    go_ret
    exact ⟨rfl, rfl⟩
theorem packets_off (w : World) (p : Value) (h : OffP w p) : Calls Try.prog 12 #[p] w (Same w (.slice none 0 0)) := by
  have HST := Lib.hid (state_off w p h); clear h
  go_enter Try.func12, Try.ntmps12
  go_wp2_with (go_at_call 21; refine HST.out.mono ?_; rintro e w' ⟨rfl, rfl⟩)
  go_ret
  exact ⟨rfl, rfl⟩
theorem twice_off (w : World) (p : Value) (id : Int) (h : OffP w p) : Calls Try.prog 11 #[p, .int .i64 id] w (fun e w' => e = .returned (.tuple #[.int .i64 0, .int .i64 2]) ∧ Upd (fun _ => False) w w') := by
  have HST := Lib.hid (fun w' (u : Upd (fun _ => False) w w') => state_off w' p (h.old u)); clear h
  go_enter Try.func11, Try.ntmps11
  go_wp2_with (go_at_call 21; refine (HST.out _ (by first | exact Upd.refl _ _ | exact (Upd.refl _ _).alloc _)).mono ?_; rintro e w' ⟨rfl, rfl⟩)
  go_ret2
  exact ⟨rfl, by first | exact Upd.refl _ _ | exact (Upd.refl _ _).alloc _⟩
set_option maxRecDepth 100000 in
set_option maxHeartbeats 4000000 in
theorem take_off (w : World) (p : Value) (id : Int) (h : OffP w p) : Calls Try.prog 9 #[p, .int .i64 id] w (fun e w' => e = .returned (.tuple #[.agg (msgN 0), .int .i64 2]) ∧ Upd (fun _ => False) w w') := by
  have HST := Lib.hid (fun w' (u : Upd (fun _ => False) w w') => state_off w' p (h.old u)); clear h
  have hz : (Try.prog.info? 34).map (·.size) = some (msgN 0).size := by kernel_rfl
  have HZ := Lib.hid hz; clear hz
  have hb1 := (MapKept.heap_alloc w (.cells (msgN 0) 34)).1
  have HB1 := Lib.hid hb1; clear hb1
  go_enter Try.func9, Try.ntmps9
  go_wp2_with (first
    | (go_at_call 21; refine (HST.out _ (by first | exact Upd.refl _ _ | exact (Upd.refl _ _).alloc _)).mono ?_; rintro e w' ⟨rfl, rfl⟩)
    | (refine wpList_store_block rfl 34 _ _ rfl w.heap.size rfl (msgN 0) rfl HZ.out (msgN_one 0) (msgN 0) 34 HB1.out rfl ?_; intro w3 hb3 hu3; have HB3 := Lib.hid hb3; clear hb3; have HU3 := Lib.hid hu3; clear hu3))
  have hlv := run_loadVar_block (P := Try.prog) (Try.isAgg34 _) (Try.sizeOf34 _) HB3.out
  refine bodyPost_ret (v := .tuple #[.agg (msgN 0), .int .i64 2]) (by simp [results, Try.results9, asAddr, hlv]) rfl ?_
  exact ⟨rfl, ((Upd.refl (fun _ => False) w).alloc _).trans' HU3.out (fun i hi e => by omega)⟩
set_option maxRecDepth 100000 in
set_option maxHeartbeats 4000000 in
theorem lose_off (w : World) (p : Value) (id : Int) (h : OffP w p) : Calls Try.prog 10 #[p, .int .i64 id] w (fun e w' => e = .returned (.int .i64 2) ∧ Upd (fun _ => False) w w') := by
  have hz : (Try.prog.info? 34).map (·.size) = some (msgN 0).size := by kernel_rfl
  have HZ := Lib.hid hz; clear hz
  have HST := Lib.hid (take_off w p id h); clear h
  go_enter Try.func10, Try.ntmps10
  go_wp2_with (first
    | (go_at_call 9; refine HST.out.mono ?_; rintro e w2 ⟨rfl, hu⟩; have HU := Lib.hid hu; clear hu)
    | (refine wpList_store_last (w0 := w2) (C0 := msgN 0) rfl 34 _ _ rfl rfl (msgN 0) rfl HZ.out rfl (msgN_one 0) ?_))
  go_ret
  exact ⟨rfl, HU.out.alloc _⟩
set_option maxRecDepth 100000 in
set_option maxHeartbeats 4000000 in
theorem send_off (w : World) (p : Value) (C : Array Value) (hs : C.size = 24) (hone : C.all (·.oneCell') = true) (h : OffP w p) : Calls Try.prog 8 #[p, .agg C] w (fun e w' => e = .returned (.tuple #[.int .i64 0, .int .i64 2]) ∧ Upd (fun _ => False) w w') := by
  have HST := Lib.hid (fun w' (u : Upd (fun _ => False) w w') => state_off w' p (h.old u)); clear h
  have hz : (Try.prog.info? 34).map (·.size) = some C.size := by rw [hs]; kernel_rfl
  have HZ := Lib.hid hz; clear hz
  have HS := Lib.hid hs; clear hs
  have HONE := Lib.hid hone; clear hone
  go_enter Try.func8, Try.ntmps8
  go_wp2_with (first
    | (go_at_call 21; refine (HST.out _ (by first | exact Upd.refl _ _ | exact (Upd.refl _ _).alloc _)).mono ?_; rintro e w' ⟨rfl, rfl⟩)
    | (refine wpList_store_last (w0 := w) (C0 := msgN 0) rfl 34 _ _ rfl rfl C rfl HZ.out (by rw [HS.out]; rfl) HONE.out ?_))
  go_ret2
  exact ⟨rfl, by first | exact Upd.refl _ _ | exact (Upd.refl _ _).alloc _⟩
end Go.Proofs.Ytfodgohleioflaa
