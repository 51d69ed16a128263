/-
  SameVote, SameMsg: of messages that hold the same.
-/
import Derived.Test.YtfodgohleioflaaPostSame
namespace Go.Proofs.Ytfodgohleioflaa
open Go Go.RowKit Go.MapKept Go.ChangeMaps
set_option linter.unusedVariables false

theorem voteC_toArray_one (d : VoteD) (nv : Value) (h : nv.oneCell' = true) : (voteC d nv).toArray.all (·.oneCell') = true :=
  Array.all_eq_true_iff_forall_mem.2 (fun u hu => voteC_one d nv h u (by simpa using hu))
theorem two_block {w : World} {C : Array Value} {t t' : TypeId} (Z : Array Value) : ((w.alloc (.cells C t)).alloc (.cells Z t')).heap[w.heap.size]? = some (.cells C t (0, 0)) ∧ ((w.alloc (.cells C t)).alloc (.cells Z t')).heap[w.heap.size + 1]? = some (.cells Z t' (0, 0)) := by
  obtain ⟨_, h2, h3, _⟩ := two_alloc w C Z t t'
  exact ⟨h2, h3⟩
theorem cmd_in {w : World} {b : Nat} {d : VoteD} {nv : Value} (h : w.heap[b]? = some (.cells (voteC d nv).toArray 71 (0, 0))) (j : Nat) (_ : j < (cmdC d.cmd nv).size) : w.cell? ((⟨b, 2, none⟩ : Addr).add j) = (cmdC d.cmd nv)[j]? := by
  rw [add_lit0, cell_block h]
  have e : (voteC d nv).toArray = #[.int .i64 d.slot, .int .i64 d.ballot] ++ cmdC d.cmd nv := rfl
  rw [e, Array.getElem?_append_right (by simp)]
  simp
set_option maxRecDepth 100000 in
set_option maxHeartbeats 4000000 in
theorem same_vote (w : World) (d : VoteD) (nv nv' : Value) (h : Ints w nv d.nodes) (h' : Ints w nv' d.nodes) : Calls Try.prog 29 #[.agg (voteC d nv).toArray, .agg (voteC d nv').toArray] w (BoolPost w true) := by
  obtain ⟨na, nn, nc, rfl⟩ := h.slice
  obtain ⟨na', nn', nc', rfl⟩ := h'.slice
  have HN := Lib.hid h; clear h
  have HN' := Lib.hid h'; clear h'
  obtain ⟨hu, k1, k2, _⟩ := two_alloc w (voteC d (.slice na nn nc)).toArray (voteC d (.slice na' nn' nc')).toArray 71 71
  have HU := Lib.hid hu; clear hu
  have HK1 := Lib.hid k1; clear k1
  have HK2 := Lib.hid k2; clear k2
  unfold voteC
  go_enter Try.func29, Try.ntmps29
  go_wp2_with (first
    | (refine wpList_load_cells rfl 30 _ rfl ⟨w.heap.size, 2, none⟩ rfl (cmdC d.cmd (.slice na nn nc)) Try.isAgg30 Try.sizeOf30 (fun j hj => cmd_in HK1.out j hj) ?_)
    | (refine wpList_load_cells rfl 30 _ rfl ⟨w.heap.size + 1, 2, none⟩ rfl (cmdC d.cmd (.slice na' nn' nc')) Try.isAgg30 Try.sizeOf30 (fun j hj => cmd_in HK2.out j hj) ?_)
    | (go_at_call 27; refine (same_cmd _ d.cmd _ _ d.nodes (HN.out.old HU.out) (HN'.out.old HU.out)).mono ?_; rintro e w' ⟨rfl, hu⟩))
  go_ret
  exact ⟨rfl, HU.out.trans hu⟩
end Go.Proofs.Ytfodgohleioflaa
