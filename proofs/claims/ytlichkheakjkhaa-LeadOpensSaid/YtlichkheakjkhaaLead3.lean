/-
  Promise.
-/
import Derived.Test.YtlichkheakjkhaaLead2
import Derived.RegionTactic
import Derived.BigRegion
import Derived.Deep.DeepFit
namespace Go.Proofs.Ytlichkheakjkhaa
open Go Go.RowKit

/-- Look-ups and stores at the maps of a try, for the walk. -/
theorem look_bool (w : World) (b : Nat) (k : Int) (ok : Bool) : (Instr.lookup 51 (.map (some b)) (.int .i64 k) ok).run Try.prog w =
    lookR (.bool false) w k (LookElse Try.prog 51 b k ok w) ok (w.im b) :=
  run_lookup_any Try.underlying51 Try.underlying3 (fun _ => by kernel_rfl) w b k ok
theorem put_bool (w : World) (b : Nat) (k : Int) (v : Value) : (Instr.mapUpdate 51 (.map (some b)) (.int .i64 k) v).run Try.prog w = putR w b k v (PutElse Try.prog 51 b k v w) (w.im b) :=
  run_mapUpdate_any Try.underlying51 Try.underlying3 w b k v
theorem look_vote (w : World) (b : Nat) (k : Int) (ok : Bool) : (Instr.lookup 57 (.map (some b)) (.int .i64 k) ok).run Try.prog w =
    lookR (.agg #[.int .i64 0, .int .i64 0, .int .i64 0, .int .i64 0, .string ⟨#[]⟩, .int .i64 0, .int .i64 0, .int .i64 0, .int .i64 0, .int .i64 0, .int .u32 0, .int .i64 0, .int .i64 0, .slice none 0 0]) w k (LookElse Try.prog 57 b k ok w) ok (w.im b) :=
  run_lookup_any Try.underlying57 Try.underlying3 (fun _ => by kernel_rfl) w b k ok
theorem put_vote (w : World) (b : Nat) (k : Int) (v : Value) : (Instr.mapUpdate 57 (.map (some b)) (.int .i64 k) v).run Try.prog w = putR w b k v (PutElse Try.prog 57 b k v w) (w.im b) :=
  run_mapUpdate_any Try.underlying57 Try.underlying3 w b k v

theorem promise_bad (node : Int) (w : World) (b m1 m2 m3 : Nat) (ballot frm : Int) (P B O : List (Int × Value)) (v : Value) (hb : 1 ≤ ballot) (h : TryAt w b m1 m2 m3 ballot frm P B O) (hn : node < 0 ∨ 16 ≤ node) :
    Calls Try.prog 10 #[.pointer (some ⟨b, 0, none⟩), .int .i64 node, v] w fun e w' => e = .returned (.int .i64 1) ∧ w = w' := by
  have hs : stateR node = 1 := by rw [stateR, if_neg (by omega)]
  go_enter Try.func10, Try.ntmps10
  go_wp2_with (go_at_call 34; refine (state_any _ _ _ _ _ hb h.c0 h.c1).mono ?_; rintro e w' ⟨rfl, rfl⟩)
  go_ret
  exact ⟨rfl, rfl⟩
theorem promise_again (node : Int) (w : World) (b m1 m2 m3 : Nat) (ballot frm : Int) (P B O : List (Int × Value)) (v : Value) (hb : 1 ≤ ballot) (h : TryAt w b m1 m2 m3 ballot frm P B O) (h0 : 0 ≤ node) (h1 : node < 16)
    (hp : aget P node = some (.bool true)) :
    Calls Try.prog 10 #[.pointer (some ⟨b, 0, none⟩), .int .i64 node, v] w fun e w' => e = .returned (.int .i64 0) ∧ w = w' := by
  have hs : stateR node = 0 := by rw [stateR, if_pos (by omega)]
  have hl := look_bool
  have c2 := h.c2
  have i1 := h.i1
  go_enter Try.func10, Try.ntmps10
  go_wp2_with (go_at_call 34; refine (state_any _ _ _ _ _ hb h.c0 h.c1).mono ?_; rintro e w' ⟨rfl, rfl⟩)
  go_ret
  exact ⟨rfl, rfl⟩
end Go.Proofs.Ytlichkheakjkhaa
