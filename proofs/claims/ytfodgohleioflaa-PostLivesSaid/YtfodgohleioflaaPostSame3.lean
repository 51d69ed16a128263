/-
  SameMsg: of messages that hold the same.
-/
import Derived.Test.YtfodgohleioflaaPostSame2
namespace Go.Proofs.Ytfodgohleioflaa
open Go Go.RowKit Go.MapKept Go.ChangeMaps
set_option linter.unusedVariables false

def zeroVote : Array Value := #[.int .i64 0, .int .i64 0, .int .i64 0, .int .i64 0, .string ⟨#[]⟩, .int .i64 0, .int .i64 0, .int .i64 0, .int .i64 0, .int .i64 0, .int .u32 0, .int .i64 0, .int .i64 0, .slice none 0 0]
theorem size_alloc1 (w : World) (o : Obj) : (w.alloc o).heap.size = w.heap.size + 1 := by simp
set_option maxRecDepth 100000 in
set_option maxHeartbeats 4000000 in
theorem votes_equal (w : World) (v v' : Value) (l : List VoteD) (h : Vots w v l) (h' : Vots w v' l) :
    Calls Try.prog 28 #[v, v', .func (.func 29) #[] #[]] w (BoolPost w true) := by
  have hbig : l.length * 136 ≤ 140737488355328 := by obtain ⟨_, _, _, hb, _⟩ := h; exact hb
  obtain ⟨a, c, rfl, _, hc⟩ := h.cells
  obtain ⟨a', c', rfl, _, hc'⟩ := h'.cells
  have HC := Lib.hid hc; clear hc
  have HC' := Lib.hid hc'; clear hc'
  clear h h'
  go_enter Try.func28, Try.ntmps28
  go_wp2_with fail
  go_loopw [17] (fun i wr => ∃ k : Nat, k ≤ l.length ∧ i = .int .i64 k ∧ Upd (fun _ => False) w wr) (fun i _ => l.length - (intOf i).toNat)
  case atStart => exact ⟨0, Nat.zero_le _, rfl, Upd.refl _ _⟩
  case round =>
    obtain ⟨k, hk, rfl, hu⟩ := hrel
    by_cases hlt : k < l.length
    · obtain ⟨b, o, rfl, nv, hn, hcs⟩ := HC.out k hlt
      obtain ⟨b', o', rfl, nv', hn', hcs'⟩ := HC'.out k hlt
      have h1 := (hn.old hu)
      have h1' := (hn'.old hu)
      obtain ⟨na, nn, nc, rfl⟩ := h1.slice
      obtain ⟨na', nn', nc', rfl⟩ := h1'.slice
      have hbl : b < w.heap.size := World.block_lt_of_cell? _ _ (show w.cell? ⟨b, o + k * 14 + 0, none⟩ = some (.int .i64 (l.getD k default).slot) from hcs 0 (by omega))
      have hbl' : b' < w.heap.size := World.block_lt_of_cell? _ _ (show w.cell? ⟨b', o' + k * 14 + 0, none⟩ = some (.int .i64 (l.getD k default).slot) from hcs' 0 (by omega))
      generalize l.getD k default = d at hn hn' hcs hcs' h1 h1'
      have hus := hu.size
      have hload : ∀ W : World, Upd (fun _ => False) w W → ∀ j, j < (voteC d (.slice na nn nc)).toArray.size → W.cell? ((⟨b, o + k * 14, none⟩ : Addr).add j) = (voteC d (.slice na nn nc)).toArray[j]? := fun W u j hj => by
        rw [add_lit0, u.cell (p := ⟨b, o + k * 14 + j, none⟩) hbl (fun h => h), hcs j (by exact hj)]; simp
      have hload' : ∀ W : World, Upd (fun _ => False) w W → ∀ j, j < (voteC d (.slice na' nn' nc')).toArray.size → W.cell? ((⟨b', o' + k * 14, none⟩ : Addr).add j) = (voteC d (.slice na' nn' nc')).toArray[j]? := fun W u j hj => by
        rw [add_lit0, u.cell (p := ⟨b', o' + k * 14 + j, none⟩) hbl' (fun h => h), hcs' j (by exact hj)]; simp
      have HL := Lib.hid hload; clear hload hcs hn
      have HL' := Lib.hid hload'; clear hload' hcs' hn'
      have H1 := Lib.hid h1; clear h1
      have H1' := Lib.hid h1'; clear h1'
      have HUR := Lib.hid hu; clear hu
      have hz : (Try.prog.info? 71).map (·.size) = some 14 := by kernel_rfl
      have HZ := Lib.hid hz; clear hz
      obtain ⟨hb1, hb2⟩ := two_block (w := wr) (C := (voteC d (.slice na nn nc)).toArray) (t := 71) (t' := 71) (voteC d (.slice na' nn' nc')).toArray
      have HB1 := Lib.hid hb1; clear hb1
      have HB2 := Lib.hid hb2; clear hb2
      go_wp2_with (first
        | (refine wpList_store_last (w0 := wr) (C0 := zeroVote) rfl 71 _ _ rfl rfl (voteC d (.slice na nn nc)).toArray rfl HZ.out rfl (voteC_toArray_one _ _ rfl) ?_)
        | (refine wpList_store_last (w0 := wr.alloc (.cells (voteC d (.slice na nn nc)).toArray 71)) (C0 := zeroVote) rfl 71 _ _ rfl (by show Value.pointer (some ⟨wr.heap.size + 1, 0, none⟩) = _; rw [size_alloc1]) (voteC d (.slice na' nn' nc')).toArray rfl HZ.out rfl (voteC_toArray_one _ _ rfl) ?_)
        | (refine wpList_load_block rfl 71 _ rfl wr.heap.size rfl (voteC d (.slice na nn nc)).toArray (0, 0) _ Try.isAgg71 Try.sizeOf71 HB1.out ?_)
        | (refine wpList_load_block rfl 71 _ rfl (wr.heap.size + 1) rfl (voteC d (.slice na' nn' nc')).toArray (0, 0) _ Try.isAgg71 Try.sizeOf71 HB2.out ?_)
        | (refine wpList_load_cells rfl 71 _ rfl ⟨b, o + k * 14, none⟩ rfl (voteC d (.slice na nn nc)).toArray Try.isAgg71 Try.sizeOf71 (HL.out _ (by first | exact HUR.out | exact HUR.out.alloc _ | exact (HUR.out.alloc _).alloc _)) ?_)
        | (refine wpList_load_cells rfl 71 _ rfl ⟨b', o' + k * 14, none⟩ rfl (voteC d (.slice na' nn' nc')).toArray Try.isAgg71 Try.sizeOf71 (HL'.out _ (by first | exact HUR.out | exact HUR.out.alloc _ | exact (HUR.out.alloc _).alloc _)) ?_)
        | (go_at_call 29; refine (same_vote _ d _ _ (H1.out.old (by first | exact Upd.refl _ _ | exact (Upd.refl _ _).alloc _ | exact ((Upd.refl _ _).alloc _).alloc _)) (H1'.out.old (by first | exact Upd.refl _ _ | exact (Upd.refl _ _).alloc _ | exact ((Upd.refl _ _).alloc _).alloc _))).mono ?_; rintro e w' ⟨rfl, hu'⟩))
      go_roundw
      case rel => exact ⟨k + 1, hlt, by go_num, (((HUR.out.alloc _).alloc _).trans hu')⟩
      case measure => simp [intOf]; omega
    · go_wp2_with fail
      go_ret
      exact ⟨rfl, hu⟩
end Go.Proofs.Ytfodgohleioflaa
