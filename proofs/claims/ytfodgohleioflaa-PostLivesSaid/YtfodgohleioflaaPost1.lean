/-
  The post: its state, New, own of a message without slices.
-/
import Derived.Test.YtfodgohleioflaaProg
import Derived.Test.YtfodgohleioflaaLib5
import Derived.Test.YtfodgohleioflaaLib6
import Derived.Outline
import Derived.WalkSpells
import Derived.Lib.SliceRun
import Derived.Test.YtfodgohleioflaaShelf
import Derived.Deep.Upon
import Derived.Deep.DeepMust
import Derived.Deep.DeepCutAuto
import Derived.Deep.CutBlock
import Derived.Deep.RegionWith
namespace Go.Proofs.Ytfodgohleioflaa
open Go Go.RowKit Go.MapKept Go.ChangeMaps

def Same (w : World) (v : Value) (e : Ending) (w' : World) : Prop := e = .returned v ∧ w = w'
def BoolPost (w : World) (r : Bool) (e : Ending) (w' : World) : Prop := e = .returned (.bool r) ∧ Upd (fun _ => False) w w'
/-- A post: its map, the last number. -/
structure PostAt (w : World) (b mb : Nat) (last : Int) (M : List (Int × Value)) : Prop where
  c0 : w.cell? ⟨b, 0, none⟩ = some (.map (some mb))
  c1 : w.cell? ⟨b, 1, none⟩ = some (.int .i64 last)
  f1 : w.frozen? ⟨b, 1, none⟩ = false
  m : w.im mb = some M
theorem PostAt.lt {w : World} {b mb : Nat} {last : Int} {M : List (Int × Value)} (h : PostAt w b mb last M) : b < w.heap.size ∧ mb < w.heap.size ∧ b ≠ mb := by
  refine ⟨World.block_lt_of_cell? _ _ h.c0, im_lt (by rw [h.m]; rfl), fun e => ?_⟩
  have := cell_im h.c0
  simp only [] at this
  rw [e, h.m] at this; cases this
theorem PostAt.upd {F : Nat → Prop} {w w' : World} {b mb : Nat} {last : Int} {M : List (Int × Value)} (h : PostAt w b mb last M) (u : Upd F w w') (hb : ¬ F b) (hm : ¬ F mb) : PostAt w' b mb last M := by
  obtain ⟨l1, l2, _⟩ := h.lt
  exact ⟨(u.cell (p := ⟨b, 0, none⟩) l1 hb).trans h.c0, (u.cell (p := ⟨b, 1, none⟩) l1 hb).trans h.c1, (u.frozen (p := ⟨b, 1, none⟩) l1 hb).trans h.f1, (u.im l2 hm).trans h.m⟩
theorem PostAt.old {w w' : World} {b mb : Nat} {last : Int} {M : List (Int × Value)} (h : PostAt w b mb last M) (u : Upd (fun _ => False) w w') : PostAt w' b mb last M := h.upd u (fun h => h) (fun h => h)
theorem state_ok (w : World) (b mb : Nat) (last : Int) (M : List (Int × Value)) (h : PostAt w b mb last M) : Calls Try.prog 21 #[.pointer (some ⟨b, 0, none⟩)] w (Same w (.int .i64 0)) := by
  have c0 := h.c0
  have HH := Lib.hid h; clear h
  have r1 : ∀ (w : World) (r : Option Nat), (binOp .eql 58 (.map r) (.map none)).run Try.prog w = .ok (.bool r.isNone) w := fun w r => run_eql_map_nil w _ _ _ r Try.underlying58
  go_enter Try.func21, Try.ntmps21
  go_wp2
  go_ret
  exact ⟨rfl, rfl⟩
def NewP (w : World) (e : Ending) (w' : World) : Prop := ∃ b mb, e = .returned (.pointer (some ⟨b, 0, none⟩)) ∧ PostAt w' b mb 0 [] ∧ w.heap.size ≤ b ∧ w.heap.size ≤ mb ∧ Upd (fun _ => False) w w'
theorem new_any (w : World) : Calls Try.prog 7 #[] w (NewP w) := by
  have hmm := @run_makeMap Try.prog
  go_enter Try.func7, Try.ntmps7
  go_wp2
  go_ret
  exact ⟨w.heap.size + 1, w.heap.size, rfl, ⟨by simp [go_sem], by simp [go_sem], by simp [go_sem], by simp [go_sem]⟩, by omega, Nat.le_refl _, ((Upd.refl _ _).alloc _).alloc _⟩
/-- A message of which only the ID stands. -/
def msgN (id : Int) : Array Value := #[.int .i64 0, .int .i64 0, .int .i64 0, .int .i64 0, .int .i64 0, .int .i64 0, .int .i64 0, .int .i64 0, .int .i64 id, .bool false,
  .int .i64 0, .int .i64 0, .string ⟨#[]⟩, .int .i64 0, .int .i64 0, .int .i64 0, .int .i64 0, .int .i64 0, .int .u32 0, .int .i64 0, .int .i64 0, .slice none 0 0, .slice none 0 0, .slice none 0 0]
theorem msgN_one (id : Int) : (msgN id).all (·.oneCell') = true := by unfold msgN; simp [Value.oneCell']
theorem clone_ints_nil (w : World) : Calls Try.prog 34 #[.slice none 0 0] w (Same w (.slice none 0 0)) :=
  (Try.slices_Clone_int_nil 0 0 w).mono fun _ _ ⟨h1, h2⟩ => ⟨h1, h2.symm⟩
theorem clone_bytes_nil (w : World) : Calls Try.prog 33 #[.slice none 0 0] w (Same w (.slice none 0 0)) := by
  have r1 : ∀ (w : World) (a : Option Addr) (n c : Nat), (binOp .eql 32 (.slice a n c) (.slice none 0 0)).run Try.prog w = .ok (.bool a.isNone) w := fun w a n c => Go.Lib.run_eql_slice_nil w _ _ a n c 0 0 Try.underlying32
  go_enter Try.func33, Try.ntmps33
  go_wp2
  go_ret
  exact ⟨rfl, rfl⟩
theorem clone_votes_nil (w : World) : Calls Try.prog 35 #[.slice none 0 0] w (Same w (.slice none 0 0)) := by
  have r1 : ∀ (w : World) (a : Option Addr) (n c : Nat), (binOp .eql 31 (.slice a n c) (.slice none 0 0)).run Try.prog w = .ok (.bool a.isNone) w := fun w a n c => Go.Lib.run_eql_slice_nil w _ _ a n c 0 0 Try.underlying31
  go_enter Try.func35, Try.ntmps35
  go_wp2
  go_ret
  exact ⟨rfl, rfl⟩
set_option maxRecDepth 100000 in
set_option maxHeartbeats 4000000 in
theorem own_nil (w : World) (id : Int) : Calls Try.prog 22 #[.agg (msgN id)] w (fun e w' => e = .returned (.agg (msgN id)) ∧ Upd (fun _ => False) w w') := by
  unfold msgN
  go_enter Try.func22, Try.ntmps22
  go_wp2_with (first
    | (go_at_call 33; refine (clone_bytes_nil _).mono ?_; rintro e w' ⟨rfl, rfl⟩)
    | (go_at_call 34; refine (clone_ints_nil _).mono ?_; rintro e w' ⟨rfl, rfl⟩)
    | (go_at_call 35; refine (clone_votes_nil _).mono ?_; rintro e w' ⟨rfl, rfl⟩))
  go_loopw [21] (fun i wr => i = .int .i64 0 ∧ wr = (w.alloc (.cells (msgN id) 34)).alloc (.cells (msgN 0) 34)) (fun _ _ => 0)
  case atStart => exact ⟨rfl, rfl⟩
  case round =>
    obtain ⟨rfl, rfl⟩ := hrel
    have hb0 : ((w.alloc (.cells (msgN id) 34)).alloc (.cells (msgN 0) 34)).heap[w.heap.size]? = some (.cells (msgN id) 34 (0, 0)) := by
      rw [(MapKept.heap_alloc _ _).2 _ (by simp)]; exact (MapKept.heap_alloc _ _).1
    have HB0 := Lib.hid hb0; clear hb0
    have hw0 : (w.alloc (.cells (msgN id) 34)).heap.size = w.heap.size + 1 := by simp
    have huw : Upd (fun _ => False) w ((w.alloc (.cells (msgN id) 34)).alloc (.cells (msgN id) 34)) := ((Upd.refl _ _).alloc _).alloc _
    have HUW := Lib.hid huw; clear huw
    generalize w.alloc (.cells (msgN id) 34) = w0 at HB0 hw0 HUW ⊢
    have hz : (Try.prog.info? 34).map (·.size) = some 24 := by kernel_rfl
    have HZ := Lib.hid hz; clear hz
    have HW0 := Lib.hid hw0; clear hw0
    go_upto_region 9 with (fail)
    go_wp2_with (first
      | (refine wpList_load_block rfl 34 _ rfl w.heap.size rfl (msgN id) (0, 0) _ Try.isAgg34 Try.sizeOf34 HB0.out ?_)
      | (refine wpList_store_last (w0 := w0) (C0 := msgN 0) rfl 34 _ _ rfl (by show Value.pointer (some ⟨w.heap.size + 1, 0, none⟩) = Value.pointer (some ⟨w0.heap.size, 0, none⟩); rw [HW0.out]) (msgN id) rfl HZ.out rfl (msgN_one id) ?_))
    have hres : (w0.alloc (.cells (msgN id) 34)).heap[w.heap.size + 1]? = some (.cells (msgN id) 34 (0, 0)) := by
      have := (MapKept.heap_alloc w0 (.cells (msgN id) 34)).1
      rw [HW0.out] at this; exact this
    have hlv := run_loadVar_block (P := Try.prog) (Try.isAgg34 _) (Try.sizeOf34 _) hres
    exact bodyPost_ret (v := .agg (msgN id)) (by simp [results, Try.results22]; exact hlv) rfl ⟨rfl, HUW.out⟩
end Go.Proofs.Ytfodgohleioflaa
