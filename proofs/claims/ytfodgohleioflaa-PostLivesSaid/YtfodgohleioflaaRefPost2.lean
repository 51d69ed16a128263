/-
  The reference's post: place, Take, Lose, Twice.
-/
import Derived.Test.YtfodgohleioflaaRefPost
import Derived.Test.YtfodgohleioflaaPostNum
namespace Go.Proofs.Ytfodgohleioflaa
open Go Go.RowKit Go.MapKept Go.ChangeMaps
set_option linter.unusedVariables false

theorem RefAt.at' {G : Nat → Prop} {w : World} {x B : Nat} {last : Int} {L : List (Int × MsgD)} {v : Value} {Cs : List (Array Value)} (h : RefAt G w x B last L v Cs) {i : Nat} (hi : i < L.length) : ∃ g cap, v = .slice (some ⟨g, 0, none⟩) L.length cap ∧ L.length ≤ cap ∧ g < w.heap.size ∧ B ≤ g ∧
    ∀ j, j < 25 → w.cell? ⟨g, i * 25 + j, none⟩ = (sentC (L.getD i default) (Cs.getD i #[]))[j]? := by
  have hr := Row.of_clone (zipS_all (p := fun r => r.length = 25) h.len (fun i hi => by show (sentC _ _).length = 25; unfold sentC; rw [List.length_cons, msgC_len (h.msg i hi)])) (by rw [zipS_length h.len]; exact h.own)
  have hz := zipS_length h.len
  obtain ⟨_, ⟨_, h0⟩ | ⟨g, cap, cur, rfl, hg, hh, hn, _⟩⟩ := h.own
  · omega
  · refine ⟨g, cap, rfl, hn, (Array.getElem?_eq_some_iff.1 hh).1, hg, fun j hj => ?_⟩
    rcases hr with ⟨e, _⟩ | ⟨b, o, c, hv, _, _, hc⟩
    · rw [e] at hz; simp at hz; omega
    · injection hv with hv1 _ _
      injection hv1 with hv1
      injection hv1 with hb ho _
      subst hb ho
      have := hc i j (by omega) hj
      rw [Nat.zero_add, zipS_get h.len hi] at this
      exact this
set_option maxRecDepth 100000 in
set_option maxHeartbeats 4000000 in
theorem place_any (w : World) (G : Nat → Prop) (x B : Nat) (last id r : Int) (L : List (Int × MsgD)) (v : Value) (Cs : List (Array Value)) (h : RefAt G w x B last L v Cs) (hL : L.length ≤ 4000)
    (hr : (∃ q : Nat, q < L.length ∧ r = (q : Int) ∧ (L.getD q default).1 = id ∧ ∀ j, j < q → (L.getD j default).1 ≠ id) ∨ (r = -1 ∧ ∀ j, j < L.length → (L.getD j default).1 ≠ id)) :
    Calls Try.prog 26 #[.pointer (some ⟨x, 0, none⟩), .int .i64 id] w (fun e w' => e = .returned (.int .i64 r) ∧ Upd (fun _ => False) w w') := by
  obtain ⟨sa, sc, rfl⟩ := owns_len h.own
  have c0 := h.c0
  have HH := Lib.hid h; clear h
  have HR := Lib.hid hr; clear hr
  have hs25 : (Try.prog.info? 56).map (·.size) = some 25 := by kernel_rfl
  have HZ25 := Lib.hid hs25; clear hs25
  go_enter Try.func26, Try.ntmps26
  go_wp2_with fail
  go_loopw [12] (fun i wr => ∃ k : Nat, k ≤ L.length ∧ i = .int .i64 (k : Int) ∧ Upd (fun _ => False) w wr ∧ ∀ j, j < k → (L.getD j default).1 ≠ id) (fun i _ => L.length - (intOf i).toNat)
  case atStart => exact ⟨0, Nat.zero_le _, rfl, Upd.refl _ _, fun j hj => absurd hj (Nat.not_lt_zero j)⟩
  case round =>
    obtain ⟨k, hk, rfl, hu, hno⟩ := hrel
    by_cases hlt : k < L.length
    · obtain ⟨g, cap, e1, hcap, hg, _, hc⟩ := HH.out.at' hlt
      injection e1 with e1 _ e2
      subst e1 e2
      have hm := HH.out.msg k hlt
      obtain ⟨nv, vv, bv, hC⟩ := hm.form
      rw [hC] at hm hc
      clear hC
      have HNO := Lib.hid hno; clear hno
      have HU := Lib.hid hu; clear hu
      have hHR := HR.out
      generalize hp : L.getD k default = p at hc hm
      have hload : ∀ j, j < (sentC p (msgC p.2 nv vv bv)).toArray.size → wr.cell? ((⟨g, k * 25, none⟩ : Addr).add j) = (sentC p (msgC p.2 nv vv bv)).toArray[j]? := fun j hj => by
        rw [add_lit0, HU.out.cell (p := ⟨g, k * 25 + j, none⟩) hg (fun h => h), hc j (by simpa [sentC, msgC] using hj)]; simp
      have HLD := Lib.hid hload; clear hload hc
      have hsa : (sentC p (msgC p.2 nv vv bv)).toArray.all (·.oneCell') = true := Array.all_eq_true_iff_forall_mem.2 (fun u hu => sentC_one (p := p) hm u (by simpa using hu))
      have HSA := Lib.hid hsa; clear hsa hm
      have hc0 : (wr.alloc (.cells (sentC p (msgC p.2 nv vv bv)).toArray 56)).cell? ⟨wr.heap.size, 0, none⟩ = some (.int .i64 p.1) := (cell_block (MapKept.heap_alloc _ _).1 0).trans rfl
      by_cases hid : p.1 = id
      · go_wp2_with (first
          | (refine wpList_load_cells rfl 56 _ rfl ⟨g, k * 25, none⟩ rfl (sentC p (msgC p.2 nv vv bv)).toArray Try.isAgg56 Try.sizeOf56 HLD.out ?_)
          | (refine wpList_store_last (w0 := wr) (C0 := zeroSent) rfl 56 _ _ rfl rfl (sentC p (msgC p.2 nv vv bv)).toArray rfl HZ25.out rfl HSA.out ?_))
        go_ret
        refine ⟨?_, HU.out.alloc _⟩
        rcases hHR with ⟨q, h1, h2, h3, h4⟩ | ⟨_, h2⟩
        · have : q = k := by
            rcases Nat.lt_trichotomy q k with h | h | h
            · exact absurd h3 (HNO.out q h)
            · exact h
            · exact absurd (by rw [hp]; exact hid) (h4 k h)
          rw [h2, this]; rfl
        · exact absurd (by rw [hp]; exact hid) (h2 k hlt)
      · go_wp2_with (first
          | (refine wpList_load_cells rfl 56 _ rfl ⟨g, k * 25, none⟩ rfl (sentC p (msgC p.2 nv vv bv)).toArray Try.isAgg56 Try.sizeOf56 HLD.out ?_)
          | (refine wpList_store_last (w0 := wr) (C0 := zeroSent) rfl 56 _ _ rfl rfl (sentC p (msgC p.2 nv vv bv)).toArray rfl HZ25.out rfl HSA.out ?_))
        go_roundw
        case rel => exact ⟨k + 1, hlt, by go_num, HU.out.alloc _, fun j hj => by
          by_cases e : j < k
          · exact HNO.out j e
          · obtain rfl : j = k := by omega
            rw [hp]; exact hid⟩
        case measure => simp [intOf]; omega
    · obtain rfl : k = L.length := by omega
      go_wp2_with fail
      go_ret
      refine ⟨?_, hu⟩
      rcases HR.out with ⟨q, h1, h2, h3, h4⟩ | ⟨h1, _⟩
      · exact absurd h3 (hno q h1)
      · rw [h1]; rfl
end Go.Proofs.Ytfodgohleioflaa
