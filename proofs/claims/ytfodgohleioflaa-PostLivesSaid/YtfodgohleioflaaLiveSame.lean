/-
  SameSent: of packets that hold the same; Spoil.
-/
import Derived.Test.YtfodgohleioflaaRefPost4
namespace Go.Proofs.Ytfodgohleioflaa
open Go Go.RowKit Go.MapKept Go.ChangeMaps
set_option linter.unusedVariables false

/-- The packets of a slice, in cells. -/
def SentsC (w : World) (v : Value) (L : List (Int × MsgD)) : Prop := ∃ a c, v = .slice a L.length c ∧ ∀ i, i < L.length → ∃ b o C S, a = some ⟨b, o, none⟩ ∧ b < w.heap.size ∧ MsgAt S w C (L.getD i default).2 ∧ ∀ j, j < 25 → w.cell? ⟨b, o + i * 25 + j, none⟩ = (sentC (L.getD i default) C)[j]?
theorem Sents.c {S : Nat → Prop} {w : World} {v : Value} {L : List (Int × MsgD)} (h : Sents S w v L) : SentsC w v L := by
  obtain ⟨a, c, rfl⟩ := h.shape
  refine ⟨a, c, rfl, fun i hi => ?_⟩
  obtain ⟨b, o, C, e, hb, hm, hc⟩ := h.at' hi
  exact ⟨b, o, C, S, e, hb, hm, hc⟩
theorem RefAt.c {G : Nat → Prop} {w : World} {x B : Nat} {last : Int} {L : List (Int × MsgD)} {v : Value} {Cs : List (Array Value)} (h : RefAt G w x B last L v Cs) : SentsC w v L := by
  obtain ⟨a, c, rfl⟩ := owns_len h.own
  refine ⟨a, c, rfl, fun i hi => ?_⟩
  obtain ⟨g, cap, e, _, hg, _, hc⟩ := h.at' hi
  injection e with e _ _
  exact ⟨g, 0, _, _, e, hg, h.msg i hi, fun j hj => by rw [Nat.zero_add]; exact hc j hj⟩
theorem SentsC.old {w w' : World} {v : Value} {L : List (Int × MsgD)} (h : SentsC w v L) (u : Upd (fun _ => False) w w') : SentsC w' v L := by
  obtain ⟨a, c, rfl, h⟩ := h
  refine ⟨a, c, rfl, fun i hi => ?_⟩
  obtain ⟨b, o, C, S, e, hb, hm, hc⟩ := h i hi
  exact ⟨b, o, C, S, e, Nat.lt_of_lt_of_le hb u.size, hm.old u, fun j hj => by rw [← hc j hj]; exact u.cell (p := ⟨b, o + i * 25 + j, none⟩) hb (fun h => h)⟩
theorem msg_in_sent {w : World} {b : Nat} {p : Int × MsgD} {d : MsgD} {nv vv bv : Value} (h : w.heap[b]? = some (.cells (sentC p (msgC d nv vv bv)).toArray 56 (0, 0))) (j : Nat) (_ : j < (msgC d nv vv bv).size) : w.cell? ((⟨b, 1, none⟩ : Addr).add j) = (msgC d nv vv bv)[j]? := by
  rw [add_lit0, cell_block h, Nat.add_comm]
  unfold sentC
  simp
theorem sent_arr {S : Nat → Prop} {w : World} {C : Array Value} {p : Int × MsgD} (h : MsgAt S w C p.2) : (sentC p C).toArray.all (·.oneCell') = true :=
  Array.all_eq_true_iff_forall_mem.2 (fun u hu => sentC_one (p := p) h u (by simpa using hu))
set_option maxRecDepth 100000 in
set_option maxHeartbeats 4000000 in
theorem same_sent1 (w : World) (S S' : Nat → Prop) (C C' : Array Value) (p : Int × MsgD) (h : MsgAt S w C p.2) (h' : MsgAt S' w C' p.2) : Calls Try.prog 32 #[.agg (sentC p C).toArray, .agg (sentC p C').toArray] w (BoolPost w true) := by
  obtain ⟨nv, vv, bv, rfl⟩ := h.form
  obtain ⟨nv', vv', bv', rfl⟩ := h'.form
  obtain ⟨hu, k1, k2, _⟩ := two_alloc w (sentC p (msgC p.2 nv vv bv)).toArray (sentC p (msgC p.2 nv' vv' bv')).toArray 56 56
  have HU := Lib.hid hu; clear hu
  have HK1 := Lib.hid k1
  have HK2 := Lib.hid k2
  have H1 := Lib.hid h; clear h
  have H1' := Lib.hid h'; clear h'
  have c1 := (cell_block k1 0).trans (show (sentC p (msgC p.2 nv vv bv)).toArray[0]? = some (.int .i64 p.1) from rfl)
  have c2 := (cell_block k2 0).trans (show (sentC p (msgC p.2 nv' vv' bv')).toArray[0]? = some (.int .i64 p.1) from rfl)
  clear k1 k2
  go_enter Try.func32, Try.ntmps32
  go_wp2_with (first
    | (refine wpList_load_cells_g (by rfl) 34 _ rfl ⟨w.heap.size, 1, none⟩ rfl (msgC p.2 nv vv bv) Try.isAgg34 Try.sizeOf34 (fun j hj => msg_in_sent HK1.out j hj) ?_)
    | (refine wpList_load_cells_g (by rfl) 34 _ rfl ⟨w.heap.size + 1, 1, none⟩ rfl (msgC p.2 nv' vv' bv') Try.isAgg34 Try.sizeOf34 (fun j hj => msg_in_sent HK2.out j hj) ?_)
    | (go_at_call 17; refine (same_msg _ _ _ _ _ p.2 (H1.out.old HU.out) (H1'.out.old HU.out)).mono ?_; rintro e w' ⟨rfl, hu⟩))
  go_ret
  exact ⟨rfl, HU.out.trans hu⟩
set_option maxRecDepth 100000 in
set_option maxHeartbeats 4000000 in
theorem sents_equal (w : World) (v v' : Value) (L : List (Int × MsgD)) (h : SentsC w v L) (h' : SentsC w v' L) (hL : L.length ≤ 4000) :
    Calls Try.prog 31 #[v, v', .func (.func 32) #[] #[]] w (BoolPost w true) := by
  obtain ⟨a, c, rfl, hc⟩ := h
  obtain ⟨a', c', rfl, hc'⟩ := h'
  have HC := Lib.hid hc; clear hc
  have HC' := Lib.hid hc'; clear hc'
  go_enter Try.func31, Try.ntmps31
  go_wp2_with fail
  go_loopw [17] (fun i wr => ∃ k : Nat, k ≤ L.length ∧ i = .int .i64 k ∧ Upd (fun _ => False) w wr) (fun i _ => L.length - (intOf i).toNat)
  case atStart => exact ⟨0, Nat.zero_le _, rfl, Upd.refl _ _⟩
  case round =>
    obtain ⟨k, hk, rfl, hu⟩ := hrel
    by_cases hlt : k < L.length
    · obtain ⟨b, o, C, S, rfl, hbl, hm, hcs⟩ := HC.out k hlt
      obtain ⟨b', o', C', S', rfl, hbl', hm', hcs'⟩ := HC'.out k hlt
      generalize L.getD k default = p at hm hm' hcs hcs'
      obtain ⟨nv, vv, bv, rfl⟩ := hm.form
      obtain ⟨nv', vv', bv', rfl⟩ := hm'.form
      have h1 := (hm.old hu)
      have h1' := (hm'.old hu)
      have hus := hu.size
      have hload : ∀ W : World, Upd (fun _ => False) w W → ∀ j, j < (sentC p (msgC p.2 nv vv bv)).toArray.size → W.cell? ((⟨b, o + k * 25, none⟩ : Addr).add j) = (sentC p (msgC p.2 nv vv bv)).toArray[j]? := fun W u j hj => by
        rw [add_lit0, u.cell (p := ⟨b, o + k * 25 + j, none⟩) hbl (fun h => h), hcs j (by simpa [sentC, msgC] using hj)]; simp
      have hload' : ∀ W : World, Upd (fun _ => False) w W → ∀ j, j < (sentC p (msgC p.2 nv' vv' bv')).toArray.size → W.cell? ((⟨b', o' + k * 25, none⟩ : Addr).add j) = (sentC p (msgC p.2 nv' vv' bv')).toArray[j]? := fun W u j hj => by
        rw [add_lit0, u.cell (p := ⟨b', o' + k * 25 + j, none⟩) hbl' (fun h => h), hcs' j (by simpa [sentC, msgC] using hj)]; simp
      have HL := Lib.hid hload; clear hload hcs hm
      have HL' := Lib.hid hload'; clear hload' hcs' hm'
      have HA := Lib.hid (sent_arr h1)
      have HA' := Lib.hid (sent_arr h1')
      have H1 := Lib.hid h1; clear h1
      have H1' := Lib.hid h1'; clear h1'
      have HUR := Lib.hid hu; clear hu
      have hz : (Try.prog.info? 56).map (·.size) = some 25 := by kernel_rfl
      have HZ := Lib.hid hz; clear hz
      obtain ⟨hb1, hb2⟩ := two_block (w := wr) (C := (sentC p (msgC p.2 nv vv bv)).toArray) (t := 56) (t' := 56) (sentC p (msgC p.2 nv' vv' bv')).toArray
      have HB1 := Lib.hid hb1; clear hb1
      have HB2 := Lib.hid hb2; clear hb2
      go_wp2_with (first
        | (refine wpList_store_last (w0 := wr) (C0 := zeroSent) rfl 56 _ _ rfl rfl (sentC p (msgC p.2 nv vv bv)).toArray rfl HZ.out rfl HA.out ?_)
        | (refine wpList_store_last (w0 := wr.alloc (.cells (sentC p (msgC p.2 nv vv bv)).toArray 56)) (C0 := zeroSent) rfl 56 _ _ rfl (by show Value.pointer (some ⟨wr.heap.size + 1, 0, none⟩) = _; rw [size_alloc1]) (sentC p (msgC p.2 nv' vv' bv')).toArray rfl HZ.out rfl HA'.out ?_)
        | (refine wpList_load_block rfl 56 _ rfl wr.heap.size rfl (sentC p (msgC p.2 nv vv bv)).toArray (0, 0) _ Try.isAgg56 Try.sizeOf56 HB1.out ?_)
        | (refine wpList_load_block rfl 56 _ rfl (wr.heap.size + 1) rfl (sentC p (msgC p.2 nv' vv' bv')).toArray (0, 0) _ Try.isAgg56 Try.sizeOf56 HB2.out ?_)
        | (refine wpList_load_cells rfl 56 _ rfl ⟨b, o + k * 25, none⟩ rfl (sentC p (msgC p.2 nv vv bv)).toArray Try.isAgg56 Try.sizeOf56 (HL.out _ (by first | exact HUR.out | exact HUR.out.alloc _ | exact (HUR.out.alloc _).alloc _)) ?_)
        | (refine wpList_load_cells rfl 56 _ rfl ⟨b', o' + k * 25, none⟩ rfl (sentC p (msgC p.2 nv' vv' bv')).toArray Try.isAgg56 Try.sizeOf56 (HL'.out _ (by first | exact HUR.out | exact HUR.out.alloc _ | exact (HUR.out.alloc _).alloc _)) ?_)
        | (go_at_call 32; refine (same_sent1 _ S S' _ _ p (H1.out.old (((Upd.refl _ _).alloc _).alloc _)) (H1'.out.old (((Upd.refl _ _).alloc _).alloc _))).mono ?_; rintro e w' ⟨rfl, hu'⟩))
      go_roundw
      case rel => exact ⟨k + 1, hlt, by go_num, (((HUR.out.alloc _).alloc _).trans hu')⟩
      case measure => simp [intOf]; omega
    · go_wp2_with fail
      go_ret
      exact ⟨rfl, hu⟩
set_option maxRecDepth 100000 in
theorem same_sent (w : World) (v v' : Value) (L : List (Int × MsgD)) (h : SentsC w v L) (h' : SentsC w v' L) (hL : L.length ≤ 4000) : Calls Try.prog 20 #[v, v'] w (BoolPost w true) := by
  have HE := Lib.hid (sents_equal w v v' L h h' hL); clear h h'
  go_enter Try.func20, Try.ntmps20
  go_wp2_with (go_at_call 31; refine HE.out.mono ?_; rintro e w' ⟨rfl, hu⟩)
  go_ret
  exact ⟨rfl, hu⟩
end Go.Proofs.Ytfodgohleioflaa
