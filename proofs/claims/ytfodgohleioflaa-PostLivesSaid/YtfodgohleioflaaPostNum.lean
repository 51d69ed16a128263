/-
  PostNumbers: the walk.
-/
import Derived.Test.YtfodgohleioflaaPostB
import Derived.Test.YtfodgohleioflaaLib8
namespace Go.Proofs.Ytfodgohleioflaa
open Go Go.RowKit Go.MapKept Go.ChangeMaps
set_option linter.unusedVariables false

def un50 (x : Int) : Int := IntKind.u64.wrap x % 50
theorem un50_is (x : Int) : wrap64 ((IntKind.u64.wrap x).tmod 50) = un50 x := by
  have h : 0 ≤ IntKind.u64.wrap x := by rw [IntKind.wrap_u64]; omega
  unfold un50
  rw [Int.tmod_eq_emod_of_nonneg h]
  unfold wrap64; omega
theorem un50_range (x : Int) : 0 ≤ un50 x ∧ un50 x < 50 := by unfold un50; omega
/-- So many of the same message. -/
def sames (d : MsgD) (q : Nat) : List (Int × MsgD) := (List.range q).map fun (i : Nat) => ((i : Int) + 1, d)
theorem sames_length (d : MsgD) (q : Nat) : (sames d q).length = q := by simp [sames]
theorem sames_succ (d : MsgD) (q : Nat) : sames d (q + 1) = sames d q ++ [((q : Int) + 1, d)] := by simp [sames, List.range_succ]
theorem sames_get (d : MsgD) {q i : Nat} (h : i < q) : (sames d q).getD i default = ((i : Int) + 1, d) := by
  rw [List.getD_eq_getElem?_getD]
  unfold sames
  rw [List.getElem?_map, List.getElem?_range h]; rfl
theorem Sents.shape {S : Nat → Prop} {w : World} {v : Value} {L : List (Int × MsgD)} (h : Sents S w v L) : ∃ a c, v = .slice a L.length c := by
  obtain ⟨Cs, hl, hr, _⟩ := h
  obtain ⟨a, c, e⟩ := hr.length
  rw [zipS_length hl] at e
  exact ⟨a, c, e⟩
theorem Sents.old {S : Nat → Prop} {w w' : World} {v : Value} {L : List (Int × MsgD)} (h : Sents S w v L) (u : Upd (fun _ => False) w w') : Sents S w' v L := by
  obtain ⟨Cs, hl, hr, hm⟩ := h
  exact ⟨Cs, hl, hr.upd u (fun _ _ _ _ _ _ h => h), fun i hi => (hm i hi).old u⟩
theorem Sents.at' {S : Nat → Prop} {w : World} {a : Option Addr} {n c : Nat} {L : List (Int × MsgD)} (h : Sents S w (.slice a n c) L) {i : Nat} (hi : i < L.length) : ∃ b o C, a = some ⟨b, o, none⟩ ∧ b < w.heap.size ∧ MsgAt S w C (L.getD i default).2 ∧
    ∀ j, j < 25 → w.cell? ⟨b, o + i * 25 + j, none⟩ = (sentC (L.getD i default) C)[j]? := by
  obtain ⟨Cs, hl, hr, hm⟩ := h
  rcases hr with ⟨h0, _⟩ | ⟨b, o, cap, e, _, _, hc⟩
  · have := zipS_length hl
    rw [h0] at this; simp at this; omega
  · injection e with e1 _ _
    have hcs : ∀ j, j < 25 → w.cell? ⟨b, o + i * 25 + j, none⟩ = (sentC (L.getD i default) (Cs.getD i #[]))[j]? := fun j hj => by
      rw [hc i j (by rw [zipS_length hl]; exact hi) hj, zipS_get hl hi]
    refine ⟨b, o, Cs.getD i #[], e1, ?_, hm i hi, hcs⟩
    exact World.block_lt_of_cell? _ _ (show w.cell? ⟨b, o + i * 25 + 0, none⟩ = some (.int .i64 (L.getD i default).1) from hcs 0 (by omega))
theorem sentC_arr {S : Nat → Prop} {w : World} {C : Array Value} {d : MsgD} (h : MsgAt S w C d) (k : Int) : (sentC (k + 1, d) C).toArray.all (·.oneCell') = true :=
  Array.all_eq_true_iff_forall_mem.2 (fun u hu => sentC_one (p := (k + 1, d)) h u (by simpa using hu))
def zeroSent : Array Value := #[.int .i64 0, .int .i64 0, .int .i64 0, .int .i64 0, .int .i64 0, .int .i64 0, .int .i64 0, .int .i64 0, .int .i64 0, .int .i64 0, .bool false,
  .int .i64 0, .int .i64 0, .string ⟨#[]⟩, .int .i64 0, .int .i64 0, .int .i64 0, .int .i64 0, .int .i64 0, .int .u32 0, .int .i64 0, .int .i64 0, .slice none 0 0, .slice none 0 0, .slice none 0 0]
/-- Behind q of the sends. -/
def NumRel (w : World) (B b mb : Nat) (d : MsgD) (n : Nat) (i : Value) (wr : World) : Prop := ∃ (q : Nat) (M : List (Int × Value)), q ≤ n ∧ i = .int .i64 (q : Int) ∧ PostB B wr b mb (q : Int) (sames d q) M ∧ Upd (fun k => k = b ∨ k = mb) w wr
set_option maxRecDepth 100000 in
set_option maxHeartbeats 4000000 in
theorem numbers_walk (w : World) (n0 : Int) (S : Nat → Prop) (C : Array Value) (d : MsgD) (hC : MsgAt S w C d) (hS : ∀ k, S k → k < w.heap.size) : Calls Try.prog 5 #[.int .i64 n0, .agg C] w (BoolPost w true) := by
  have s50 := un50_is n0
  obtain ⟨r0, r1⟩ := un50_range n0
  generalize un50 n0 = nn at s50 r0 r1
  obtain ⟨n, rfl⟩ := Int.eq_ofNat_of_zero_le r0
  have HC := Lib.hid hC; clear hC
  go_enter Try.func5, Try.ntmps5
  go_wp2_with (first
    | (go_at_call 7; refine (new_any _).mono ?_; rintro e w1 ⟨b, mb, rfl, hp, hb0, hm0, hu1⟩; have HP := Lib.hid (PostB.new hp); clear hp; have HU1 := Lib.hid hu1; clear hu1))
  have hs := (msgC_one HC.out).1
  have HS := Lib.hid hs; clear hs
  have hbl0 : (w.alloc (.cells C 34)).heap[w.heap.size]? = some (.cells C 34 (0, 0)) := (MapKept.heap_alloc _ _).1
  have hbl1 := (HU1.out.block w.heap.size (by simp) (fun h => h)).trans hbl0
  have HBL := Lib.hid hbl1; clear hbl0 hbl1
  have hu2 : Upd (fun _ => False) w w1 := ((Upd.refl _ _).alloc _).trans HU1.out
  have HU2 := Lib.hid hu2; clear hu2
  have hbB : w.heap.size < b ∧ w.heap.size < mb := by simp at hb0 hm0; omega
  generalize hBB : w1.heap.size = BB at HP
  clear hBB hb0 hm0 HU1
  rw [s50]
  go_loopw [20] (fun i wr => NumRel w1 BB b mb d n i wr) (fun i _ => n - (intOf i).toNat)
  case atStart => exact ⟨0, [], Nat.zero_le _, rfl, HP.out, Upd.refl _ _⟩
  case round =>
    obtain ⟨q, M, hq, rfl, hp, hu⟩ := hrel
    have hblq := (hu.block w.heap.size (Array.getElem?_eq_some_iff.1 HBL.out).1 (fun e => by omega)).trans HBL.out
    have HBQ := Lib.hid hblq; clear hblq
    have hml := hp.is'.len
    rw [sames_length] at hml
    have HPQ := Lib.hid hp; clear hp
    have HUQ := Lib.hid hu; clear hu
    have hSb : ∀ k, S k → ¬ (k = b ∨ k = mb) := fun k hk e => by have := hS k hk; omega
    have HCQ := Lib.hid ((HC.out.old HU2.out).upd HUQ.out hSb)
    by_cases hlt : q < n
    · go_wp2_with (first
        | (refine wpList_load_block rfl 34 _ rfl w.heap.size rfl C (0, 0) _ Try.isAgg34 (fun w => by rw [HS.out]; exact Try.sizeOf34 w) HBQ.out ?_)
        | (go_at_call 8; refine (send_any _ b mb (q : Int) M S C d HCQ.out hSb HPQ.out.is'.at' (by omega) (by omega) (by omega)).mono ?_; rintro e w2 ⟨rfl, C2, hp2, hm2, hu2⟩
           have HP2 := Lib.hid (HPQ.out.send (by omega) hp2 hm2 hu2); clear hp2 hm2
           have HU3 := Lib.hid (HUQ.out.trans hu2); clear hu2))
      go_roundw
      case rel => exact ⟨q + 1, _, hlt, by go_num, by rw [sames_succ]; exact HP2.out, HU3.out⟩
      case measure => simp [intOf]; omega
    · obtain rfl : q = n := by omega
      go_wp2_with (go_at_call 12; refine (packets_all _ _ b mb _ _ M HPQ.out.is' (by rw [sames_length]; omega) (by omega)).mono ?_; rintro e w2 ⟨v, rfl, hsn, hfr, hu2⟩; obtain ⟨pa, pc, hpv⟩ := hsn.shape; rw [sames_length] at hpv; subst hpv; have HSN := Lib.hid hsn; clear hsn; clear hfr; have HU3 := Lib.hid hu2; clear hu2)
      have hs25 : (Try.prog.info? 56).map (·.size) = some 25 := by kernel_rfl
      have HZ25 := Lib.hid hs25; clear hs25
      go_loopw [42] (fun i wr => ∃ k : Nat, k ≤ q ∧ i = .int .i64 (k : Int) ∧ Upd (fun _ => False) w2 wr) (fun i _ => q - (intOf i).toNat)
      case atStart => exact ⟨0, Nat.zero_le _, rfl, Upd.refl _ _⟩
      case round =>
        obtain ⟨k, hk, rfl, hur⟩ := hrel
        have HUR := Lib.hid hur; clear hur
        have HW3 := Lib.hid (HU3.out.trans HUR.out)
        by_cases hlk : k < q
        · obtain ⟨sb, so, C3, rfl, hsb, hm3, hcs⟩ := HSN.out.at' (i := k) (by rw [sames_length]; exact hlk)
          rw [sames_get d hlk] at hm3 hcs
          obtain ⟨nv3, vv3, bv3, rfl⟩ := hm3.form
          have hload : ∀ j, j < (sentC ((k : Int) + 1, d) (msgC d nv3 vv3 bv3)).toArray.size → wr.cell? ((⟨sb, so + k * 25, none⟩ : Addr).add j) = (sentC ((k : Int) + 1, d) (msgC d nv3 vv3 bv3)).toArray[j]? := fun j hj => by
            rw [add_lit0, HUR.out.cell (p := ⟨sb, so + k * 25 + j, none⟩) hsb (fun h => h), hcs j (by simpa [sentC, msgC] using hj)]; simp
          have HLD := Lib.hid hload; clear hload hcs
          have HM3 := Lib.hid (hm3.old HUR.out); clear hm3
          have HC3 := Lib.hid (HCQ.out.old HW3.out)
          have hbq3 := (HW3.out.block w.heap.size (Array.getElem?_eq_some_iff.1 HBQ.out).1 (fun h => h)).trans HBQ.out
          have HB3 := Lib.hid hbq3; clear hbq3
          have hlt3 := (Array.getElem?_eq_some_iff.1 HB3.out).1
          have hsa := sentC_arr HM3.out (k : Int)
          have hc0 : (wr.alloc (.cells (sentC ((k : Int) + 1, d) (msgC d nv3 vv3 bv3)).toArray 56)).cell? ⟨wr.heap.size, 0, none⟩ = some (.int .i64 ((k : Int) + 1)) := (cell_block (MapKept.heap_alloc _ _).1 0).trans rfl
          have hcm : ∀ j, j < (msgC d nv3 vv3 bv3).size → (wr.alloc (.cells (sentC ((k : Int) + 1, d) (msgC d nv3 vv3 bv3)).toArray 56)).cell? ((⟨wr.heap.size, 1, none⟩ : Addr).add j) = (msgC d nv3 vv3 bv3)[j]? := fun j _ => by
            rw [add_lit0, cell_block (MapKept.heap_alloc _ _).1, Nat.add_comm]
            unfold sentC
            simp
          have HCM := Lib.hid hcm; clear hcm
          have hz3 := (msgC_one HM3.out).1
          have HSA := Lib.hid hsa; clear hsa
          go_wp2_with (first
            | (refine wpList_load_cells rfl 56 _ rfl ⟨sb, so + k * 25, none⟩ rfl (sentC ((k : Int) + 1, d) (msgC d nv3 vv3 bv3)).toArray Try.isAgg56 Try.sizeOf56 HLD.out ?_)
            | (refine wpList_store_last (w0 := wr) (C0 := zeroSent) rfl 56 _ _ rfl rfl (sentC ((k : Int) + 1, d) (msgC d nv3 vv3 bv3)).toArray rfl HZ25.out rfl HSA.out ?_)
            | (refine wpList_load_cells_g (by rfl) 34 _ rfl ⟨wr.heap.size, 1, none⟩ rfl (msgC d nv3 vv3 bv3) Try.isAgg34 Try.sizeOf34 HCM.out ?_)
            | (refine wpList_load_block_g (by rfl) 34 _ rfl w.heap.size rfl C (0, 0) _ Try.isAgg34 (fun w => by rw [HS.out]; exact Try.sizeOf34 w) (((Upd.refl (fun _ => False) wr).alloc _).block _ hlt3 (fun h => h) |>.trans HB3.out) ?_)
            | (go_at_call 17; refine (same_msg _ _ _ _ _ d (HM3.out.old ((Upd.refl _ _).alloc _)) (HC3.out.old ((Upd.refl _ _).alloc _))).mono ?_; rintro e w4 ⟨rfl, hu4⟩; have HU4 := Lib.hid hu4; clear hu4))
          go_roundw
          case rel => exact ⟨k + 1, hlk, by go_num, HUR.out.trans (((Upd.refl _ _).alloc _).trans HU4.out)⟩
          case measure => simp [intOf]; omega
        · obtain rfl : k = q := by omega
          by_cases hn0 : k = 0
          · subst hn0
            have hno := HPQ.out.none' (id := 0) (fun p hp e => absurd hp (by simp [sames]))
            have hpw := HPQ.out.is'.at'.old HW3.out
            have HPW := Lib.hid hpw; clear hpw
            go_wp2_with (first
              | (go_at_call 11; refine (twice_no _ b mb _ 0 M HPW.out hno).mono ?_; rintro e w4 ⟨rfl, hu4⟩; have HU4 := Lib.hid hu4; clear hu4)
              | (go_at_call 10; refine (lose_no _ b mb _ 0 M (HPW.out.old HU4.out) hno).mono ?_; rintro e w5 ⟨rfl, hu5⟩; have HU5 := Lib.hid hu5; clear hu5))
            go_ret
            exact ⟨rfl, (HU2.out.trans' ((HUQ.out.trans ((HW3.out.trans (HU4.out.trans HU5.out)).mono (fun _ _ h => h.elim)))) (fun i hi e => by omega))⟩
          · obtain ⟨C5, h5, hm5⟩ := HPQ.out.is'.msg (k - 1) (by rw [sames_length]; omega)
            rw [sames_get d (by omega)] at h5 hm5
            have hid : ((k - 1 : Nat) : Int) + 1 = (k : Int) := by omega
            simp only [hid] at h5
            have hpw := HPQ.out.old HW3.out
            have hg5 := aget_of_mem (im_nodup hpw.is'.at'.m) (List.mem_of_getElem? h5)
            have hm6 := hm5.old HW3.out
            have HPW := Lib.hid hpw; clear hpw
            have HM6 := Lib.hid hm6; clear hm6
            have hk0 : ¬ ((k : Int) = 0) := by omega
            go_wp2_with (go_at_call 11; refine (twice_any _ b mb _ (k : Int) M _ C5 d HM6.out HPQ.out.is'.far HPW.out.is'.at' (by omega) (by omega) (by omega) hg5).mono ?_; rintro e w4 ⟨rfl, _, _, _, hu4⟩; have HU4 := Lib.hid hu4; clear hu4)
            go_ret
            exact ⟨rfl, (HU2.out.trans' ((HUQ.out.trans ((HW3.out.mono (fun _ _ h => h.elim)).trans HU4.out))) (fun i hi e => by omega))⟩
end Go.Proofs.Ytfodgohleioflaa
