/-
  slices.Clone at bytes, nodes and votes.
-/
import Derived.Test.YtfodgohleioflaaPostD
import Derived.Shelf.SlicesE.Clone
import Derived.Outline
import Derived.WalkSpells
import Derived.Lib.SliceRun
import Derived.Deep.Upon
import Derived.Deep.DeepMust
import Derived.Deep.DeepCutAuto
import Derived.Deep.CutBlock
import Derived.Deep.RegionWith
namespace Go.Proofs.Ytfodgohleioflaa
open Go Go.RowKit Go.MapKept Go.ChangeMaps Go.Shelf

theorem info_byte : (Try.prog.info? 5).map (fun i => (i.zero, i.size, i.bytes)) = some (some (.int .u8 0), 1, 1) := by kernel_rfl
theorem info_int : (Try.prog.info? 3).map (fun i => (i.zero, i.size, i.bytes)) = some (some (.int .i64 0), 1, 8) := by kernel_rfl
theorem info_vote : (Try.prog.info? 71).map (fun i => (i.zero, i.size, i.bytes)) = some (some (.agg (voteC default (.slice none 0 0)).toArray), 14, 136) := by kernel_rfl
def cloneB_ren : Go.Shelf.Ren := ⟨fun | 41 => 33 | n => n, fun | 22 => 32 | 23 => 5 | 4 => 4 | n => n, fun | n => n⟩
theorem cloneB_lay : Go.Proofs.SlLaysE0.n41 Try.prog cloneB_ren := {
  mixed := by kernel_rfl
  f41 := ⟨Try.f33.name, by decide, Try.func33.trans (congrArg some (by kernel_rfl))⟩
  t4 := Try.underlying4
  a4 := Try.isAgg4
  z4 := Try.sizeOf4
  v4 := Try.zeroValue4
  t22 := Try.underlying32
  a22 := Try.isAgg32
  z22 := Try.sizeOf32
  v22 := Try.zeroValue32 }
def cloneI_ren : Go.Shelf.Ren := ⟨fun | 41 => 34 | n => n, fun | 22 => 28 | 23 => 3 | 4 => 4 | n => n, fun | n => n⟩
theorem cloneI_lay : Go.Proofs.SlLaysE0.n41 Try.prog cloneI_ren := {
  mixed := by kernel_rfl
  f41 := ⟨Try.f34.name, by decide, Try.func34.trans (congrArg some (by kernel_rfl))⟩
  t4 := Try.underlying4
  a4 := Try.isAgg4
  z4 := Try.sizeOf4
  v4 := Try.zeroValue4
  t22 := Try.underlying28
  a22 := Try.isAgg28
  z22 := Try.sizeOf28
  v22 := Try.zeroValue28 }
def cloneV_ren : Go.Shelf.Ren := ⟨fun | 41 => 35 | n => n, fun | 22 => 31 | 23 => 71 | 4 => 4 | n => n, fun | n => n⟩
theorem cloneV_lay : Go.Proofs.SlLaysE0.n41 Try.prog cloneV_ren := {
  mixed := by kernel_rfl
  f41 := ⟨Try.f35.name, by decide, Try.func35.trans (congrArg some (by kernel_rfl))⟩
  t4 := Try.underlying4
  a4 := Try.isAgg4
  z4 := Try.sizeOf4
  v4 := Try.zeroValue4
  t22 := Try.underlying31
  a22 := Try.isAgg31
  z22 := Try.sizeOf31
  v22 := Try.zeroValue31 }
theorem cloneB_zero (a : Addr) (c : Nat) (w : World) : Calls Try.prog 33 #[.slice (some a) 0 c] w fun e w' => ∃ v', e = .returned v' ∧ w'.ownsRow w.heap.size 5 1 v' 0 [] ∧ v' ≠ .slice none 0 0 ∧ Below w.heap.size w w' := by
  obtain ⟨i0, hi, hz0, hz1, hz2⟩ := info_parts info_byte
  have q22 : ∀ (w : World) (a : Option Addr) (n c : Nat), (binOp .eql 32 (.slice a n c) (.slice none 0 0)).run Try.prog w = .ok (.bool a.isNone) w := fun w a n c => Go.Lib.run_eql_slice_nil w _ _ a n c 0 0 Try.underlying32
  go_enter Try.func33, Try.ntmps33
  go_wp2_with (at_builtin; refine wpList_append_own _ rfl _ _ 32 rfl w.heap.size 5 i0 _ 1 1 Try.underlying32 hi hz0 hz1 hz2 rfl (by decide) _ _ _ rfl (World.ownsRow_made w #[] 0 (Nat.le_refl _) (Nat.zero_le _) (by simp)) a 0 c [] rfl rfl (by intro j u hj; simp at hj) (by intro u hu; cases hu) (by unfold maxLen; omega) (by omega) (by simp) ?_)
  intro v' w1 hown hgrow hnil
  go_wp2
  go_ret
  refine ⟨v', rfl, by simpa using hown, ?_, ?_⟩
  · first | exact hnil | (intro e; exact absurd (hnil.1 e).1 (by simp))
  · exact ((Below.refl _ w).alloc (Nat.le_refl _) _).grown hgrow (by simp) (by intro k hk; simp [Value.ownBlock] at hk; omega)
theorem cloneI_zero (a : Addr) (c : Nat) (w : World) : Calls Try.prog 34 #[.slice (some a) 0 c] w fun e w' => ∃ v', e = .returned v' ∧ w'.ownsRow w.heap.size 3 1 v' 0 [] ∧ v' ≠ .slice none 0 0 ∧ Below w.heap.size w w' := by
  obtain ⟨i0, hi, hz0, hz1, hz2⟩ := info_parts info_int
  have q22 : ∀ (w : World) (a : Option Addr) (n c : Nat), (binOp .eql 28 (.slice a n c) (.slice none 0 0)).run Try.prog w = .ok (.bool a.isNone) w := fun w a n c => Go.Lib.run_eql_slice_nil w _ _ a n c 0 0 Try.underlying28
  go_enter Try.func34, Try.ntmps34
  go_wp2_with (at_builtin; refine wpList_append_own _ rfl _ _ 28 rfl w.heap.size 3 i0 _ 1 8 Try.underlying28 hi hz0 hz1 hz2 rfl (by decide) _ _ _ rfl (World.ownsRow_made w #[] 0 (Nat.le_refl _) (Nat.zero_le _) (by simp)) a 0 c [] rfl rfl (by intro j u hj; simp at hj) (by intro u hu; cases hu) (by unfold maxLen; omega) (by omega) (by simp) ?_)
  intro v' w1 hown hgrow hnil
  go_wp2
  go_ret
  refine ⟨v', rfl, by simpa using hown, ?_, ?_⟩
  · first | exact hnil | (intro e; exact absurd (hnil.1 e).1 (by simp))
  · exact ((Below.refl _ w).alloc (Nat.le_refl _) _).grown hgrow (by simp) (by intro k hk; simp [Value.ownBlock] at hk; omega)
theorem cloneV_zero (a : Addr) (c : Nat) (w : World) : Calls Try.prog 35 #[.slice (some a) 0 c] w fun e w' => ∃ v', e = .returned v' ∧ w'.ownsRow w.heap.size 71 14 v' 0 [] ∧ v' ≠ .slice none 0 0 ∧ Below w.heap.size w w' := by
  obtain ⟨i0, hi, hz0, hz1, hz2⟩ := info_parts info_vote
  have q22 : ∀ (w : World) (a : Option Addr) (n c : Nat), (binOp .eql 31 (.slice a n c) (.slice none 0 0)).run Try.prog w = .ok (.bool a.isNone) w := fun w a n c => Go.Lib.run_eql_slice_nil w _ _ a n c 0 0 Try.underlying31
  go_enter Try.func35, Try.ntmps35
  go_wp2_with (at_builtin; refine wpList_append_own _ rfl _ _ 31 rfl w.heap.size 71 i0 _ 14 136 Try.underlying31 hi hz0 hz1 hz2 rfl (by decide) _ _ _ rfl (World.ownsRow_made w #[] 0 (Nat.le_refl _) (Nat.zero_le _) (by simp)) a 0 c [] rfl rfl (by intro j u hj; simp at hj) (by intro u hu; cases hu) (by unfold maxLen; omega) (by omega) (by simp) ?_)
  intro v' w1 hown hgrow hnil
  go_wp2
  go_ret
  refine ⟨v', rfl, by simpa using hown, ?_, ?_⟩
  · first | exact hnil | (intro e; exact absurd (hnil.1 e).1 (by simp))
  · exact ((Below.refl _ w).alloc (Nat.le_refl _) _).grown hgrow (by simp) (by intro k hk; simp [Value.ownBlock] at hk; omega)
theorem voteC_one (d : VoteD) (nv : Value) (h : nv.oneCell' = true) : ∀ u ∈ voteC d nv, u.oneCell' = true := by
  intro u hu
  simp only [voteC, List.mem_cons, List.not_mem_nil, or_false] at hu
  rcases hu with rfl | rfl | rfl | rfl | rfl | rfl | rfl | rfl | rfl | rfl | rfl | rfl | rfl | rfl <;> first | rfl | exact h
theorem clone_bytes (w : World) (v : Value) (l : List Int) (h : Byts w v l) : Calls Try.prog 33 #[v] w (CloneP w 5 1 (l.map fun x => [.int .u8 x])) := by
  obtain ⟨i0, hi, hz0, hz1, hz2⟩ := info_parts info_byte
  refine clone_row (slT := 0) (bytes := 1) (by omega) (fun n c w => AnyE.slices_Clone_nil cloneB_lay n c w) cloneB_zero (fun b off n c news w h1 h2 h3 h4 h5 => ?_) w v _ h.1 ?_ ?_ ?_
  · exact AnyE.slices_Clone cloneB_lay i0 _ 1 1 hi hz0 hz1 hz2 rfl (by decide) Try.sizeOf5 b off n c news w h1 h2 h3 h4 h5
  · have := h.2; simp only [List.length_map]; unfold maxLen; omega
  · have := h.2; simp only [List.length_map]; omega
  · intro r hr u hu
    obtain ⟨x, _, rfl⟩ := List.mem_map.1 hr
    simp only [List.mem_singleton] at hu
    subst hu; rfl
theorem clone_ints (w : World) (v : Value) (l : List Int) (h : Ints w v l) : Calls Try.prog 34 #[v] w (CloneP w 3 1 (l.map fun x => [.int .i64 x])) := by
  obtain ⟨i0, hi, hz0, hz1, hz2⟩ := info_parts info_int
  refine clone_row (slT := 0) (bytes := 8) (by omega) (fun n c w => AnyE.slices_Clone_nil cloneI_lay n c w) cloneI_zero (fun b off n c news w h1 h2 h3 h4 h5 => ?_) w v _ h.1 ?_ ?_ ?_
  · exact AnyE.slices_Clone cloneI_lay i0 _ 1 8 hi hz0 hz1 hz2 rfl (by decide) Try.sizeOf3 b off n c news w h1 h2 h3 h4 h5
  · have := h.2; simp only [List.length_map]; unfold maxLen; omega
  · have := h.2; simp only [List.length_map]; omega
  · intro r hr u hu
    obtain ⟨x, _, rfl⟩ := List.mem_map.1 hr
    simp only [List.mem_singleton] at hu
    subst hu; rfl
theorem clone_votes (w : World) (v : Value) (rows : List (List Value)) (h : Row w v 14 rows) (hb : rows.length * 136 ≤ 140737488355328) (h1 : ∀ r ∈ rows, ∀ u ∈ r, u.oneCell' = true) : Calls Try.prog 35 #[v] w (CloneP w 71 14 rows) := by
  obtain ⟨i0, hi, hz0, hz1, hz2⟩ := info_parts info_vote
  refine clone_row (slT := 0) (bytes := 136) (by omega) (fun n c w => AnyE.slices_Clone_nil cloneV_lay n c w) cloneV_zero (fun b off n c news w h1 h2 h3 h4 h5 => ?_) w v _ h ?_ hb h1
  · exact AnyE.slices_Clone cloneV_lay i0 _ 14 136 hi hz0 hz1 hz2 rfl (by decide) Try.sizeOf71 b off n c news w h1 h2 h3 h4 h5
  · unfold maxLen; omega
end Go.Proofs.Ytfodgohleioflaa
