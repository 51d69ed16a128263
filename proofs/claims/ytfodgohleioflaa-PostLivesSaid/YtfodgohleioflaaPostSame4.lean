/-
  SameMsg: of messages that hold the same.
-/
import Derived.Test.YtfodgohleioflaaPostSame3
namespace Go.Proofs.Ytfodgohleioflaa
open Go Go.RowKit Go.MapKept Go.ChangeMaps
set_option linter.unusedVariables false

theorem cmd_in_msg {w : World} {b : Nat} {d : MsgD} {nv vv bv : Value} (h : w.heap[b]? = some (.cells (msgC d nv vv bv) 34 (0, 0))) (j : Nat) (hj : j < (cmdC d.cmd nv).size) : w.cell? ((⟨b, 10, none⟩ : Addr).add j) = (cmdC d.cmd nv)[j]? := by
  rw [add_lit0, cell_block h]
  have e : msgC d nv vv bv = #[.int .i64 d.k0, .int .i64 d.k1, .int .i64 d.k2, .int .i64 d.k3, .int .i64 d.k4, .int .i64 d.k5, .int .i64 d.k6, .int .i64 d.k7, .int .i64 d.k8, .bool d.ok] ++ (cmdC d.cmd nv ++ #[vv, bv]) := rfl
  rw [e, Array.getElem?_append_right (by simp)]
  have : 10 + j - (#[Value.int .i64 d.k0, .int .i64 d.k1, .int .i64 d.k2, .int .i64 d.k3, .int .i64 d.k4, .int .i64 d.k5, .int .i64 d.k6, .int .i64 d.k7, .int .i64 d.k8, .bool d.ok] : Array Value).size = j := by simp
  rw [this, Array.getElem?_append_left hj]
theorem Byts.shape {w : World} {v : Value} {l : List Int} (h : Byts w v l) : ∃ a c, v = .slice a l.length c := by
  obtain ⟨a, c, e⟩ := h.1.length
  rw [List.length_map] at e
  exact ⟨a, c, e⟩
set_option maxRecDepth 100000 in
set_option maxHeartbeats 4000000 in
theorem same_msg (w : World) (S S' : Nat → Prop) (C C' : Array Value) (d : MsgD) (h : MsgAt S w C d) (h' : MsgAt S' w C' d) : Calls Try.prog 17 #[.agg C, .agg C'] w (BoolPost w true) := by
  obtain ⟨nv, vv, bv, rfl, hn, _, hv, _, _, hb, _⟩ := h
  obtain ⟨nv', vv', bv', rfl, hn', _, hv', _, _, hb', _⟩ := h'
  obtain ⟨na, nn, nc, rfl⟩ := hn.slice
  obtain ⟨na', nn', nc', rfl⟩ := hn'.slice
  obtain ⟨va, vc, rfl, _⟩ := hv.cells
  obtain ⟨va', vc', rfl, _⟩ := hv'.cells
  obtain ⟨ba, bc, rfl⟩ := hb.shape
  obtain ⟨ba', bc', rfl⟩ := hb'.shape
  have HN := Lib.hid hn; clear hn
  have HN' := Lib.hid hn'; clear hn'
  have HV := Lib.hid hv; clear hv
  have HV' := Lib.hid hv'; clear hv'
  have HB := Lib.hid hb; clear hb
  have HB' := Lib.hid hb'; clear hb'
  obtain ⟨hu, k1, k2, _⟩ := two_alloc w (msgC d (.slice na nn nc) (.slice va d.votes.length vc) (.slice ba d.bytes.length bc)) (msgC d (.slice na' nn' nc') (.slice va' d.votes.length vc') (.slice ba' d.bytes.length bc')) 34 34
  have HU := Lib.hid hu; clear hu
  have HK1 := Lib.hid k1; clear k1
  have HK2 := Lib.hid k2; clear k2
  have HLT := Lib.hid (fun (W : World) (u : Upd (fun _ => False) ((w.alloc (.cells (msgC d (.slice na nn nc) (.slice va d.votes.length vc) (.slice ba d.bytes.length bc)) 34)).alloc (.cells (msgC d (.slice na' nn' nc') (.slice va' d.votes.length vc') (.slice ba' d.bytes.length bc')) 34)) W) => And.intro ((u.block _ (Array.getElem?_eq_some_iff.1 HK1.out).1 (fun h => h)).trans HK1.out) ((u.block _ (Array.getElem?_eq_some_iff.1 HK2.out).1 (fun h => h)).trans HK2.out))
  unfold msgC
  go_enter Try.func17, Try.ntmps17
  go_wp2_with (first
    | (refine wpList_load_cells rfl 30 _ rfl ⟨w.heap.size, 10, none⟩ rfl (cmdC d.cmd (.slice na nn nc)) Try.isAgg30 Try.sizeOf30 (fun j hj => cmd_in_msg HK1.out j hj) ?_)
    | (refine wpList_load_cells rfl 30 _ rfl ⟨w.heap.size + 1, 10, none⟩ rfl (cmdC d.cmd (.slice na' nn' nc')) Try.isAgg30 Try.sizeOf30 (fun j hj => cmd_in_msg HK2.out j hj) ?_)
    | (go_at_call 27; refine (same_cmd _ d.cmd _ _ d.nodes (HN.out.old HU.out) (HN'.out.old HU.out)).mono ?_; rintro e w1 ⟨rfl, hu1⟩
       obtain ⟨h1, h2⟩ := HLT.out w1 hu1
       have c1 : w1.cell? ⟨w.heap.size, 22, none⟩ = some (.slice va d.votes.length vc) := cell_block h1 22
       have c2 : w1.cell? ⟨w.heap.size + 1, 22, none⟩ = some (.slice va' d.votes.length vc') := cell_block h2 22
       clear h1 h2
       have HU1 := Lib.hid hu1; clear hu1)
    | (go_at_call 28; refine (votes_equal _ _ _ d.votes (HV.out.updF (HU.out.trans HU1.out)) (HV'.out.updF (HU.out.trans HU1.out))).mono ?_; rintro e w2 ⟨rfl, hu2⟩
       obtain ⟨h1, h2⟩ := HLT.out w2 (HU1.out.trans hu2)
       have c3 : w2.cell? ⟨w.heap.size, 23, none⟩ = some (.slice ba d.bytes.length bc) := cell_block h1 23
       have c4 : w2.cell? ⟨w.heap.size + 1, 23, none⟩ = some (.slice ba' d.bytes.length bc') := cell_block h2 23
       clear h1 h2
       have HU2 := Lib.hid hu2; clear hu2)
    | (go_at_call 30; refine (bytes_equal _ _ _ d.bytes (HB.out.old (HU.out.trans (HU1.out.trans HU2.out))) (HB'.out.old (HU.out.trans (HU1.out.trans HU2.out)))).mono ?_; rintro e w3 ⟨rfl, hu3⟩; have HU3 := Lib.hid hu3; clear hu3))
  go_ret
  exact ⟨rfl, HU.out.trans (HU1.out.trans (HU2.out.trans HU3.out))⟩
end Go.Proofs.Ytfodgohleioflaa
