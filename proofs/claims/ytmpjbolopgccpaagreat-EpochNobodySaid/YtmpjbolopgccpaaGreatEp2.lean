/-
  EpochNobody: Apply, Blob and Find of a state that no call made; SameOut of two outcomes of nothing; what is equal.
-/
import Derived.Test.YtmpjbolopgccpaaGreatEpNil
import Derived.Test.YtmpjbolopgccpaaGreatCmdRead
import Derived.Defers
set_option linter.unusedVariables false
namespace Go.Proofs.YtmpjbolopgccpaaGreat
open Go Go.RowKit Go.MapKept Go.ChangeMaps
set_option linter.unusedVariables false

def blob0 : Array Value := #[.int .i64 0, .int .i64 0, .int .u32 0, .int .i64 0, .int .i64 0, .slice none 0 0]
def out0 : Array Value := #[.int .i64 0, .int .i64 0, .int .i64 0, .int .u32 0, .int .i64 0, .int .i64 0, .slice none 0 0, .int .i64 0]
set_option maxRecDepth 100000 in
theorem apply_no (w : World) (p : Option Addr) (cs : Array Value) (h : NoSt w (.pointer p)) : Calls Tryz.prog 4 #[.pointer p, .agg cs] w (UPost w (.tuple #[.agg out0, .int .i64 2])) := by
  have HH := Lib.hid h; clear h
  go_enter_defers Tryz.func4, Tryz.ntmps4
  go_wp2_with (go_at_call 21; refine (HH.out _ ((((Upd.refl _ _).alloc _).alloc _).alloc _)).mono ?_; rintro e w' ⟨rfl, rfl⟩)
  refine ⟨.tuple #[.agg out0, .int .i64 2], by simp [results, Tryz.results4, go_sem, out0], ?_⟩
  exact ⟨rfl, (((Upd.refl _ _).alloc _).alloc _).alloc _⟩
set_option maxRecDepth 100000 in
theorem blob_no (w : World) (p : Value) (s : ByteArray) (h : NoSt w p) : Calls Tryz.prog 5 #[p, .string s] w (UPost w (.tuple #[.agg blob0, .bool false])) := by
  have HH := Lib.hid h; clear h
  go_enter Tryz.func5, Tryz.ntmps5
  go_wp2_with (go_at_call 21; refine (HH.out _ ((Upd.refl _ _).alloc _)).mono ?_; rintro e w' ⟨rfl, rfl⟩)
  refine bodyPost_ret (v := .tuple #[.agg blob0, .bool false]) (by simp [results, Tryz.results5, go_sem, blob0]) rfl ?_
  exact ⟨rfl, (Upd.refl _ _).alloc _⟩
set_option maxRecDepth 100000 in
theorem find_no (w : World) (p : Value) (n : Int) (h : NoSt w p) : Calls Tryz.prog 6 #[p, .int .i64 n] w (UPost w (.tuple #[.agg blob0, .bool false])) := by
  have HH := Lib.hid h; clear h
  go_enter Tryz.func6, Tryz.ntmps6
  go_wp2_with (go_at_call 21; refine (HH.out _ ((Upd.refl _ _).alloc _)).mono ?_; rintro e w' ⟨rfl, rfl⟩)
  refine bodyPost_ret (v := .tuple #[.agg blob0, .bool false]) (by simp [results, Tryz.results6, go_sem, blob0]) rfl ?_
  exact ⟨rfl, (Upd.refl _ _).alloc _⟩
theorem equal_nil (w : World) : Calls Tryz.prog 50 #[.slice none 0 0, .slice none 0 0] w (Same w (.bool true)) := by
  go_enter Tryz.func50, Tryz.ntmps50
  go_wp2
  go_loop [13] (fun i => i = .int .i64 0) (fun i => 0)
  case atStart => rfl
  case round =>
    subst hrel
    go_wp2
    go_ret
    exact ⟨rfl, rfl⟩
set_option maxRecDepth 100000 in
theorem sameBlob_zero (w : World) : Calls Tryz.prog 29 #[.agg blob0, .agg blob0] w (BoolPost w true) := by
  unfold blob0
  go_enter Tryz.func29, Tryz.ntmps29
  go_wp2_with (go_at_call 50; refine (equal_nil _).mono ?_; rintro e w' ⟨rfl, rfl⟩)
  go_ret
  exact ⟨rfl, ((Upd.refl _ _).alloc _).alloc _⟩
set_option maxRecDepth 100000 in
theorem sameOut_zero (w : World) : Calls Tryz.prog 7 #[.agg out0, .agg out0] w (BoolPost w true) := by
  unfold out0
  go_enter Tryz.func7, Tryz.ntmps7
  go_wp2_with (go_at_call 29; refine (sameBlob_zero _).mono ?_; rintro e w' ⟨rfl, hu⟩)
  go_ret
  exact ⟨rfl, (((Upd.refl _ _).alloc _).alloc _).trans hu⟩
end Go.Proofs.YtmpjbolopgccpaaGreat
