/-
  PostLives: the walk.
-/
import Derived.Test.YtfodgohleioflaaLiveLib2
import Derived.Test.YtfodgohleioflaaMsgRead
import Derived.Test.YtfodgohleioflaaTaken0
import Derived.Test.YtfodgohleioflaaLib8
namespace Go.Proofs.Ytfodgohleioflaa
open Go Go.RowKit Go.MapKept Go.ChangeMaps
set_option linter.unusedVariables false

/-- A call that comes in: its two numbers, its message. -/
structure DoM where
  op : Int
  id : Int
  msg : MsgD
instance : Inhabited DoM := ⟨⟨0, 0, default⟩⟩
def doC (d : DoM) (nv vv bv : Value) : List Value := .int .i64 d.op :: .int .i64 d.id :: (msgC d.msg nv vv bv).toList
def DosM (w : World) (v : Value) (ds : List DoM) : Prop := ∃ a c, v = .slice a ds.length c ∧ ∀ i, i < ds.length → ∃ b o nv vv bv, a = some ⟨b, o, none⟩ ∧ b < w.heap.size ∧ MsgAt (fun k => k < w.heap.size) w (msgC (ds.getD i default).msg nv vv bv) (ds.getD i default).msg ∧
  ∀ j, j < 26 → w.cell? ⟨b, o + i * 26 + j, none⟩ = (doC (ds.getD i default) nv vv bv)[j]?
def zeroDo : Array Value := #[.int .i64 0, .int .i64 0, .int .i64 0, .int .i64 0, .int .i64 0, .int .i64 0, .int .i64 0, .int .i64 0, .int .i64 0, .int .i64 0, .int .i64 0, .bool false,
  .int .i64 0, .int .i64 0, .string ⟨#[]⟩, .int .i64 0, .int .i64 0, .int .i64 0, .int .i64 0, .int .i64 0, .int .u32 0, .int .i64 0, .int .i64 0, .slice none 0 0, .slice none 0 0, .slice none 0 0]
theorem doC_one {S : Nat → Prop} {w : World} {d : DoM} {nv vv bv : Value} (h : MsgAt S w (msgC d.msg nv vv bv) d.msg) : (doC d nv vv bv).toArray.all (·.oneCell') = true :=
  Array.all_eq_true_iff_forall_mem.2 (fun u hu => by
    have hu' : u ∈ doC d nv vv bv := by simpa using hu
    rcases List.mem_cons.1 hu' with rfl | hu'
    · rfl
    · rcases List.mem_cons.1 hu' with rfl | hu'
      · rfl
      · exact (Array.all_eq_true_iff_forall_mem.1 (msgC_one h).2) u (by simpa using hu'))
theorem do_msg {w : World} {b : Nat} {d : DoM} {nv vv bv : Value} (h : w.heap[b]? = some (.cells (doC d nv vv bv).toArray 36 (0, 0))) (j : Nat) (_ : j < (msgC d.msg nv vv bv).size) : w.cell? ((⟨b, 2, none⟩ : Addr).add j) = (msgC d.msg nv vv bv)[j]? := by
  rw [add_lit0, cell_block h, Nat.add_comm]
  unfold doC
  simp
theorem spoil_cell (w : World) (v : Value) (t : TypeId) (N : Nat) (h : w.heap.size = N) : (w.alloc (.cells #[v] t)).cell? ⟨N, 0, none⟩ = some v := by
  rw [← h]; exact cell_block (MapKept.heap_alloc _ _).1 0
theorem spoil_ne {w6 w7 wr : World} {sv : Value} {k N : Nat} (h : SpM w6 w7 wr) (hi : Inn (Mem w6.heap.size w7) sv) (hk : Blk sv k) (hN : wr.heap.size + 1 = N) : k ≠ N := by
  have h1 := (hk.mem hi).lt
  have h2 := h.u.size
  omega
def LiveRel (w : World) (b mb x B : Nat) (n : Nat) (i : Value) (wr : World) : Prop := ∃ q : Nat, q ≤ n ∧ q ≤ 61 ∧ i = .int .i64 (q : Int) ∧ LiveOk w b mb x B q wr
theorem live_start {w1 : World} {b mb : Nat} (hp : PostAt w1 b mb 0 []) : LiveAt (w1.alloc (.cells #[.slice none 0 0, .int .i64 0] 50)) b mb w1.heap.size (w1.heap.size + 1) 0 [] [] (.slice none 0 0) [] (fun _ => False) (fun _ => False) := by
  obtain ⟨l1, l2, l3⟩ := hp.lt
  have hb : (w1.alloc (.cells #[.slice none 0 0, .int .i64 0] 50)).heap[w1.heap.size]? = some (.cells #[.slice none 0 0, .int .i64 0] 50 (0, 0)) := (MapKept.heap_alloc _ _).1
  exact ⟨⟨hp.old ((Upd.refl _ _).alloc _), rfl, fun i hi => absurd hi (Nat.not_lt_zero i), List.Pairwise.nil, fun p hp => absurd hp (by simp), fun k hk => hk.2.elim⟩,
    ⟨⟨_, hb⟩, cell_block hb 0, cell_block hb 1, rfl, ⟨rfl, .inl ⟨rfl, rfl⟩⟩, fun i hi => absurd hi (Nat.not_lt_zero i)⟩, fun k h => h.elim, fun k h => h.elim, ⟨by omega, by omega, by omega⟩, ⟨by omega, by omega⟩, by simp⟩
/-- Where a number stands among the packets. -/
theorem first_at (L : List (Int × MsgD)) (id : Int) : (∃ q, q < L.length ∧ (L.getD q default).1 = id ∧ ∀ j, j < q → (L.getD j default).1 ≠ id) ∨ ∀ j, j < L.length → (L.getD j default).1 ≠ id := by
  by_cases h : ∃ q, q < L.length ∧ (L.getD q default).1 = id
  · obtain ⟨q, hq⟩ := h
    left
    induction q using Nat.strongRecOn with
    | ind q ih =>
      by_cases h2 : ∃ j, j < q ∧ (L.getD j default).1 = id
      · obtain ⟨j, h3, h4⟩ := h2
        exact ih j h3 ⟨by omega, h4⟩
      · exact ⟨q, hq.1, hq.2, fun j hj e => h2 ⟨j, hj, e⟩⟩
  · right
    exact fun j hj e => h ⟨j, hj, e⟩
theorem aget_no {S : Nat → Prop} {w : World} {b mb : Nat} {last : Int} {L : List (Int × MsgD)} {M : List (Int × Value)} (h : PostIs S w b mb last L M) {id : Int} (hno : ∀ j, j < L.length → (L.getD j default).1 ≠ id) : aget M id = none := by
  refine aget_none fun p hp e => ?_
  obtain ⟨i, hi⟩ := List.mem_iff_getElem?.1 hp
  have hlt := (List.getElem?_eq_some_iff.1 hi).1
  obtain ⟨C, h1, _⟩ := h.msg i (by rw [← h.len]; exact hlt)
  rw [h1] at hi
  injection hi with hi
  exact hno i (by rw [← h.len]; exact hlt) (by rw [← e, ← hi])
theorem spoil_live {w w' : World} {b mb x B W0 : Nat} {last : Int} {L : List (Int × MsgD)} {M : List (Int × Value)} {v sv : Value} {Cs : List (Array Value)} {GP GR : Nat → Prop} (h : LiveAt w b mb x B last L M v Cs GP GR) (u : Upd (fun k => Blk sv k) w w') (hi : Inn (Mem W0 w) sv) (hW : B ≤ W0) (hg : ∀ k, Blk sv k → ¬ GP k ∧ ¬ GR k) : LiveAt w' b mb x B last L M v Cs GP GR :=
  h.upd u (fun k hk => by
    have hm := hk.mem hi
    exact ⟨Nat.le_trans hW hm.1, (hg k hk).1, (hg k hk).2, not_mem_own h.ref.own hm⟩)
set_option maxRecDepth 100000 in
set_option maxHeartbeats 40000000 in
theorem lives_walk (w : World) (v : Value) (ds : List DoM) (hv : DosM w v ds) : Calls Try.prog 4 #[v] w (BoolPost w true) := by
  obtain ⟨a, c, rfl, hds⟩ := hv
  have HD := Lib.hid hds; clear hds
  go_enter Try.func4, Try.ntmps4
  go_upto_block 0 with (first
    | (go_at_call 7; refine (new_any _).mono ?_; rintro e w1 ⟨b, mb, rfl, hp, hb0, hm0, hu1⟩; have HP := Lib.hid hp; clear hp; have HU1 := Lib.hid hu1; clear hu1))
  have hs := live_start HP.out
  have hx0 : w.heap.size ≤ w1.heap.size := HU1.out.size
  have hus : Upd (fun _ => False) w (w1.alloc (.cells #[.slice none 0 0, .int .i64 0] 50)) := HU1.out.alloc _
  have hB : w.heap.size ≤ w1.heap.size + 1 := by omega
  have hsz : (w1.alloc (.cells #[.slice none 0 0, .int .i64 0] 50)).heap.size = w1.heap.size + 1 := by simp
  generalize w1.alloc (.cells #[.slice none 0 0, .int .i64 0] 50) = w0 at hs hus hsz ⊢
  generalize w1.heap.size + 1 = B at hs hB hsz
  generalize w1.heap.size = x at hs hx0 ⊢
  have HS := Lib.hid hs; clear hs
  have HUS := Lib.hid hus; clear hus
  clear HP HU1 hsz
  go_cut [] (fun wc => ∃ q : Nat, q ≤ 61 ∧ LiveOk w b mb x B q wc)
  case rest =>
    clear HS HUS
    obtain ⟨q, hq, last, L, M, v, Cs, GP, GR, hlz, hl0, hlq, hLq, huz⟩ := hcut
    generalize wc = wz at hlz huz ⊢
    go_upto_region 32 with (fail)

    have z0 := hlz.ref.c0
    have hzx := hlz.ref.lt
    obtain ⟨va, vc, hva⟩ := owns_len hlz.ref.own
    rw [hva] at z0
    have HVA := Lib.hid hva; clear hva
    have HLZ := Lib.hid hlz; clear hlz
    have HUZ := Lib.hid huz; clear huz
    go_region_held3 (fun w' => w'.cell? ⟨x, 0, none⟩ = some (.slice va L.length vc)) (first | exact z0 | exact z5 | exact z6) (first | (go_at_call 12; refine (packets_all _ _ b mb _ L _ (by first | exact HLZ.out.post | exact HLZ.out.post.old ((Upd.refl _ _).drew)) (by omega) (by omega)).mono ?_; rintro e w5 ⟨pv, rfl, hsn, hfr, hpu⟩; obtain ⟨pa, pc, rfl⟩ := hsn.shape; have HSN := Lib.hid hsn.c; clear hsn hfr; have hpu' : Upd (fun _ => False) wz w5 := (by first | exact hpu | exact ((Upd.refl _ _).drew).trans hpu); have HPU := Lib.hid hpu'; have z5 := (hpu'.cell (p := ⟨x, 0, none⟩) hzx (fun h => h)).trans z0; clear hpu hpu') | (go_at_call 20; refine (same_sent _ _ _ L HSN.out (by have := (HLZ.out.ref.old HPU.out).c; rw [HVA.out] at this; exact this) (by omega)).mono ?_; rintro e w6 ⟨rfl, hu6⟩; have z6 := ((HPU.out.trans hu6).cell (p := ⟨x, 0, none⟩) hzx (fun h => h)).trans z0; have HU6 := Lib.hid (HPU.out.trans hu6); clear hu6))
    all_goals
      go_wp2_with fail
      go_ret
      exact ⟨rfl, HUZ.out.trans HU6.out⟩
  case first =>
    go_wp2_with fail
    go_loopw [28] (fun i wr => LiveRel w b mb x B ds.length i wr) (fun i _ => ds.length - (intOf i).toNat)
    case atStart => exact ⟨0, Nat.zero_le _, by omega, rfl, 0, [], [], _, [], _, _, HS.out, by omega, by omega, by simp, HUS.out⟩
    case round =>
      obtain ⟨q, hq, hq61, rfl, last, L, M, v, Cs, GP, GR, hla, hl0, hlq, hLq, hu⟩ := hrel
      have HLA := Lib.hid hla; clear hla
      have HU := Lib.hid hu; clear hu
      clear HS HUS
      have hdz : (Try.prog.info? 36).map (·.size) = some 26 := by kernel_rfl
      have HDZ := Lib.hid hdz; clear hdz
      have hs25 : (Try.prog.info? 56).map (·.size) = some 25 := by kernel_rfl
      have HZ25 := Lib.hid hs25; clear hs25
      have hz24 : (Try.prog.info? 34).map (·.size) = some 24 := by kernel_rfl
      have HZ24 := Lib.hid hz24; clear hz24
      by_cases hlt : q < ds.length
      · obtain ⟨bb, oo, nv, vv, bv, rfl, hbb, hm, hcs⟩ := HD.out q hlt
        have s5 := un5_is (ds.getD q default).op
        have r5 := un5_range (ds.getD q default).op
        generalize ds.getD q default = d at hm hcs s5 r5
        have hus := HU.out.size
        have hload : ∀ j, j < (doC d nv vv bv).toArray.size → wr.cell? ((⟨bb, oo + q * 26, none⟩ : Addr).add j) = (doC d nv vv bv).toArray[j]? := fun j hj => by
          rw [add_lit0, HU.out.cell (p := ⟨bb, oo + q * 26 + j, none⟩) hbb (fun h => h), hcs j (by simpa [doC, msgC] using hj)]; simp
        have HLD := Lib.hid hload; clear hload hcs
        have HDO := Lib.hid (doC_one hm)
        have HM := Lib.hid (hm.old (HU.out.alloc (.cells (doC d nv vv bv).toArray 36))); clear hm
        by_cases h60 : 60 < q
        · have h60' : ((60 : Int) < (q : Int)) := by omega
          go_wp2_with (first
            | (refine wpList_load_cells rfl 36 _ rfl ⟨bb, oo + q * 26, none⟩ rfl (doC d nv vv bv).toArray Try.isAgg36 Try.sizeOf36 HLD.out ?_)
            | (refine wpList_store_last (w0 := wr) (C0 := zeroDo) rfl 36 _ _ rfl rfl (doC d nv vv bv).toArray rfl HDZ.out rfl HDO.out ?_))
          go_meet
          case rel => exact ⟨q, hq61, last, L, M, v, Cs, GP, GR, HLA.out.old ((Upd.refl (fun _ => False) wr).alloc _), hl0, hlq, hLq, HU.out.alloc _⟩
        · have h60' : ¬ ((60 : Int) < (q : Int)) := by omega
          go_upto_region 7 with (first
            | (refine wpList_load_cells rfl 36 _ rfl ⟨bb, oo + q * 26, none⟩ rfl (doC d nv vv bv).toArray Try.isAgg36 Try.sizeOf36 HLD.out ?_)
            | (refine wpList_store_last (w0 := wr) (C0 := zeroDo) rfl 36 _ _ rfl rfl (doC d nv vv bv).toArray rfl HDZ.out rfl HDO.out ?_))
          have hk0 : (wr.alloc (.cells (doC d nv vv bv).toArray 36)).heap[wr.heap.size]? = some (.cells (doC d nv vv bv).toArray 36 (0, 0)) := (MapKept.heap_alloc _ _).1
          have hla := HLA.out.old ((Upd.refl (fun _ => False) wr).alloc (.cells (doC d nv vv bv).toArray 36))
          have hua := HU.out.alloc (.cells (doC d nv vv bv).toArray 36)
          generalize wr.alloc (.cells (doC d nv vv bv).toArray 36) = wa at hk0 hla hua HM ⊢
          have c0 := (cell_block hk0 0).trans (show (doC d nv vv bv).toArray[0]? = some (.int .i64 d.op) from rfl)
          have c1 := (cell_block hk0 1).trans (show (doC d nv vv bv).toArray[1]? = some (.int .i64 d.id) from rfl)
          have HK := Lib.hid hk0; clear hk0
          have HLW := Lib.hid hla; clear hla
          have hlwr := HLA.out.le
          clear HLA
          have HUA := Lib.hid hua; clear hua HU
          have hklt := (Array.getElem?_eq_some_iff.1 HK.out).1
          go_upto_block 2 with fail
          rw [s5]
          clear s5
          generalize un5 d.op = mop at r5 ⊢
          go_cut [7] (fun okv wc => okv = .bool true ∧ LiveOk w b mb x B (q + 1) wc)
          case first =>
            obtain ⟨hlb1, hlb2, hlb3⟩ := HLW.out.lb
            have hlwe := HLW.out.le
            have hml := HLW.out.post.len
            have hkw : B ≤ wr.heap.size := by omega
            have hkn : ¬ ((fun k => k = b ∨ k = mb) wr.heap.size) := by show ¬ (wr.heap.size = b ∨ wr.heap.size = mb); omega
            have h5 : mop = 0 ∨ mop = 1 ∨ mop = 2 ∨ mop = 3 ∨ mop = 4 := by omega
            rcases h5 with rfl | rfl | rfl | rfl | rfl
            · go_wp2_with (first
                | (refine wpList_load_cells rfl 34 _ rfl ⟨wr.heap.size, 2, none⟩ rfl (msgC d.msg nv vv bv) Try.isAgg34 Try.sizeOf34 (fun j hj => do_msg HK2.out j hj) ?_)
                | (refine wpList_load_cells rfl 34 _ rfl ⟨wr.heap.size, 2, none⟩ rfl (msgC d.msg nv vv bv) Try.isAgg34 Try.sizeOf34 (fun j hj => do_msg HK.out j hj) ?_)
                | (go_at_call 13; refine (copy_msg _ _ _ d.msg HM.out).mono ?_; rintro e w1 ⟨G, rfl, hm1, hu1⟩; obtain ⟨gn, gv, gb, rfl⟩ := hm1.form; obtain ⟨ga, gc, rfl⟩ := msg_bytes hm1; have HG := Lib.hid hm1; clear hm1; have HV1 := Lib.hid hu1; clear hu1)
                | (refine wpList_store_last (w0 := w1) (C0 := msgN 0) rfl 34 _ _ rfl rfl (msgC d.msg gn gv (.slice ga d.msg.bytes.length gc)) rfl HZ24.out rfl (msgC_one HG.out).2 ?_)
                | (refine wpList_load_block rfl 34 _ rfl w1.heap.size rfl (msgC d.msg gn gv (.slice ga d.msg.bytes.length gc)) (0, 0) _ Try.isAgg34 Try.sizeOf34 (MapKept.heap_alloc w1 _).1 ?_)
                | (go_at_call 8; refine (send_any _ b mb last M _ _ d.msg (HG.out.old ((Upd.refl _ _).alloc _)) (fun k hk e => by have := hk.1; omega) ((HLW.out.old HV1.out).old ((Upd.refl _ _).alloc _)).post.at' (by omega) hl0 (by omega)).mono ?_; rintro e w2 ⟨rfl, C2, hp2, hm2, hu2⟩
                   have hub : Upd (fun _ => False) w1 (w1.alloc (.cells (msgC d.msg gn gv (.slice ga d.msg.bytes.length gc)) 34)) := (Upd.refl _ _).alloc _
                   have hk2 := (hu2.block wr.heap.size (by have := HV1.out.size; simp; omega) (by omega)).trans ((hub.block wr.heap.size (by have := HV1.out.size; omega) (fun h => h)).trans ((HV1.out.block wr.heap.size hklt (fun h => h)).trans HK.out))
                   have hg2 := (hu2.block w1.heap.size (by simp) (by have := HV1.out.size; omega)).trans (MapKept.heap_alloc w1 (.cells (msgC d.msg gn gv (.slice ga d.msg.bytes.length gc)) 34)).1
                   have HK2 := Lib.hid hk2; clear hk2
                   have HG2 := Lib.hid hg2; clear hg2
                   have HUB := Lib.hid hub; clear hub
                   have HP2 := Lib.hid hp2; clear hp2
                   have HM2 := Lib.hid hm2; clear hm2
                   have HU2 := Lib.hid hu2; clear hu2)
                | (go_at_call 14; refine (rsend _ GR _ x B last L v Cs _ d.msg (((HLW.out.old HV1.out).old HUB.out).ref1 HU2.out) ((((HM.out.old HV1.out).old HUB.out)).upd HU2.out (fun k hk e => by omega)) (fun k hk e => by omega) (by omega) hl0 (by omega) (by have := HLW.out.le; have := HV1.out.size; have := HUB.out.size; have := HU2.out.size; omega)).mono ?_; rintro e w3 ⟨rfl, v3, Cs3, hr3, hu3⟩
                   have hg3 := send_given HG2.out hu3 (by have := HV1.out.size; omega) (((HLW.out.old HV1.out).old HUB.out).ref1 HU2.out).own
                   have c323 : w3.cell? ⟨w1.heap.size, 23, none⟩ = some (.slice ga d.msg.bytes.length gc) := cell_block hg3 23
                   have hga := given_any HLW.out HG.out HV1.out HUB.out HU2.out hu3
                   have HGA := Lib.hid hga; clear hga hg3
                   have HR3 := Lib.hid hr3; clear hr3
                   have HU3 := Lib.hid hu3; clear hu3)
                | (go_at_call 15; refine (spoil1 _ _ _ (.slice ga d.msg.bytes.length gc) _ (HGA.out.1.old ((Upd.refl _ _).alloc _)) (spoil_cell _ _ _ _ rfl) (fun j hj => by have := (HGA.out.2.2 j hj).2; have := HUB.out.size; have := HU2.out.size; have := HU3.out.size; omega)).mono ?_; rintro e w4 ⟨rfl, sp1, sp2, sp3, sp4⟩; have HS4 := Lib.hid sp1; clear sp1 sp2 sp3 sp4))
              go_meet
              case rel => exact ⟨by trivial, send_done HLW.out HUA.out HG.out HV1.out HUB.out (by simp) HP2.out HM2.out HU2.out HR3.out HU3.out ((Upd.refl _ _).alloc _) HS4.out hl0 hlq hLq ⟨hb0, hm0, hx0, hB⟩⟩
            · go_wp2_with (first
                | (refine wpList_load_cells rfl 34 _ rfl ⟨wr.heap.size, 2, none⟩ rfl (msgC d.msg nv vv bv) Try.isAgg34 Try.sizeOf34 (fun j hj => do_msg HK2.out j hj) ?_)
                | (refine wpList_load_cells rfl 34 _ rfl ⟨wr.heap.size, 2, none⟩ rfl (msgC d.msg nv vv bv) Try.isAgg34 Try.sizeOf34 (fun j hj => do_msg HK.out j hj) ?_)
                | (go_at_call 13; refine (copy_msg _ _ _ d.msg HM.out).mono ?_; rintro e w1 ⟨G, rfl, hm1, hu1⟩; obtain ⟨gn, gv, gb, rfl⟩ := hm1.form; obtain ⟨ga, gc, rfl⟩ := msg_bytes hm1; have HG := Lib.hid hm1; clear hm1; have HV1 := Lib.hid hu1; clear hu1)
                | (refine wpList_store_last (w0 := w1) (C0 := msgN 0) rfl 34 _ _ rfl rfl (msgC d.msg gn gv (.slice ga d.msg.bytes.length gc)) rfl HZ24.out rfl (msgC_one HG.out).2 ?_)
                | (refine wpList_load_block rfl 34 _ rfl w1.heap.size rfl (msgC d.msg gn gv (.slice ga d.msg.bytes.length gc)) (0, 0) _ Try.isAgg34 Try.sizeOf34 (MapKept.heap_alloc w1 _).1 ?_)
                | (go_at_call 8; refine (send_any _ b mb last M _ _ d.msg (HG.out.old ((Upd.refl _ _).alloc _)) (fun k hk e => by have := hk.1; omega) ((HLW.out.old HV1.out).old ((Upd.refl _ _).alloc _)).post.at' (by omega) hl0 (by omega)).mono ?_; rintro e w2 ⟨rfl, C2, hp2, hm2, hu2⟩
                   have hub : Upd (fun _ => False) w1 (w1.alloc (.cells (msgC d.msg gn gv (.slice ga d.msg.bytes.length gc)) 34)) := (Upd.refl _ _).alloc _
                   have hk2 := (hu2.block wr.heap.size (by have := HV1.out.size; simp; omega) (by omega)).trans ((hub.block wr.heap.size (by have := HV1.out.size; omega) (fun h => h)).trans ((HV1.out.block wr.heap.size hklt (fun h => h)).trans HK.out))
                   have hg2 := (hu2.block w1.heap.size (by simp) (by have := HV1.out.size; omega)).trans (MapKept.heap_alloc w1 (.cells (msgC d.msg gn gv (.slice ga d.msg.bytes.length gc)) 34)).1
                   have HK2 := Lib.hid hk2; clear hk2
                   have HG2 := Lib.hid hg2; clear hg2
                   have HUB := Lib.hid hub; clear hub
                   have HP2 := Lib.hid hp2; clear hp2
                   have HM2 := Lib.hid hm2; clear hm2
                   have HU2 := Lib.hid hu2; clear hu2)
                | (go_at_call 14; refine (rsend _ GR _ x B last L v Cs _ d.msg (((HLW.out.old HV1.out).old HUB.out).ref1 HU2.out) ((((HM.out.old HV1.out).old HUB.out)).upd HU2.out (fun k hk e => by omega)) (fun k hk e => by omega) (by omega) hl0 (by omega) (by have := HLW.out.le; have := HV1.out.size; have := HUB.out.size; have := HU2.out.size; omega)).mono ?_; rintro e w3 ⟨rfl, v3, Cs3, hr3, hu3⟩
                   have hg3 := send_given HG2.out hu3 (by have := HV1.out.size; omega) (((HLW.out.old HV1.out).old HUB.out).ref1 HU2.out).own
                   have c323 : w3.cell? ⟨w1.heap.size, 23, none⟩ = some (.slice ga d.msg.bytes.length gc) := cell_block hg3 23
                   have hga := given_any HLW.out HG.out HV1.out HUB.out HU2.out hu3
                   have HGA := Lib.hid hga; clear hga hg3
                   have HR3 := Lib.hid hr3; clear hr3
                   have HU3 := Lib.hid hu3; clear hu3)
                | (go_at_call 15; refine (spoil1 _ _ _ (.slice ga d.msg.bytes.length gc) _ (HGA.out.1.old ((Upd.refl _ _).alloc _)) (spoil_cell _ _ _ _ rfl) (fun j hj => by have := (HGA.out.2.2 j hj).2; have := HUB.out.size; have := HU2.out.size; have := HU3.out.size; omega)).mono ?_; rintro e w4 ⟨rfl, sp1, sp2, sp3, sp4⟩; have HS4 := Lib.hid sp1; clear sp1 sp2 sp3 sp4))
              go_meet
              case rel => exact ⟨by trivial, send_done HLW.out HUA.out HG.out HV1.out HUB.out (by simp) HP2.out HM2.out HU2.out HR3.out HU3.out ((Upd.refl _ _).alloc _) HS4.out hl0 hlq hLq ⟨hb0, hm0, hx0, hB⟩⟩
            · rcases first_at L d.id with ⟨q0, hq0, hid, hno⟩ | hno
              · obtain ⟨C, hMq, hmC⟩ := HLW.out.post.msg q0 hq0
                obtain ⟨hsC, honeC⟩ := msgC_one hmC
                rw [hid] at hMq
                have hg := aget_of_mem (im_nodup HLW.out.post.at'.m) (List.mem_of_getElem? hMq)
                clear hMq
                have HMC := Lib.hid hmC; clear hmC
                have HSC := Lib.hid hsC; clear hsC
                have HONE := Lib.hid honeC; clear honeC
                go_wp2_with (first
                  | (go_at_call 9; refine (take_ok _ b mb last d.id M HLW.out.post.at' C hg HSC.out HONE.out).mono ?_; rintro e w2 ⟨rfl, hp2, hu2⟩
                     have hub : Upd (fun _ => False) w2 (w2.alloc (.cells C 34)) := (Upd.refl _ _).alloc _
                     have c12 := (((hu2.mono (G := fun k => k = b ∨ k = mb) (fun _ _ h => h)).trans (hub.mono (fun _ _ h => h.elim))).cell (p := ⟨wr.heap.size, 1, none⟩) hklt (by show ¬ (wr.heap.size = b ∨ wr.heap.size = mb); omega)).trans c1
                     have HUB := Lib.hid hub; clear hub
                     have HP2 := Lib.hid hp2; clear hp2
                     have HU2 := Lib.hid hu2; clear hu2)
                  | (refine wpList_store_last (w0 := w2) (C0 := msgN 0) rfl 34 _ _ rfl rfl C rfl (by rw [HSC.out]; exact HZ24.out) (by rw [HSC.out]; rfl) HONE.out ?_)
                  | (go_at_call 16; refine (rtake_ok _ GR x B q0 last d.id L v Cs (HLW.out.ref1 (HU2.out.trans (HUB.out.mono (fun _ _ h => h.elim)))) (by omega) (by have := HLW.out.le; have := HUB.out.size; have := HU2.out.size; omega) hq0 hid hno).mono ?_; rintro e w3 ⟨C4, v3, Cs3, rfl, hm4, hr3, hu3⟩
                     obtain ⟨hsD, honeD⟩ := msgC_one hm4
                     have hga := take_given (HMC.out.upd HU2.out (fun k hk => HLW.out.post.far k hk)) (fun k hk => (hk.upd HU2.out (HLW.out.post.far k hk)).1) HUB.out hu3 (HLW.out.ref1 (HU2.out.trans (HUB.out.mono (fun _ _ h => h.elim)))) (fun k hk => (HLW.out.gp k hk.2).1) HLW.out.lb.2.2
                     have hgb := send_given (MapKept.heap_alloc w2 (.cells C 34)).1 hu3 (by have := HU2.out.size; have := HLW.out.lb; have := HLW.out.le; omega) (HLW.out.ref1 (HU2.out.trans (HUB.out.mono (fun _ _ h => h.elim)))).own
                     have HGA := Lib.hid hga; clear hga
                     have HGB := Lib.hid hgb; clear hgb
                     have HSD := Lib.hid hsD; clear hsD
                     have HOND := Lib.hid honeD; clear honeD
                     have HM4 := Lib.hid hm4; clear hm4
                     have HR3 := Lib.hid hr3; clear hr3
                     have HU3 := Lib.hid hu3; clear hu3)
                  | (refine wpList_store_last (w0 := w3) (C0 := msgN 0) rfl 34 _ _ rfl rfl C4 rfl (by rw [HSD.out]; exact HZ24.out) (by rw [HSD.out]; rfl) HOND.out ?_)
                  | (refine wpList_load_block rfl 34 _ rfl w2.heap.size rfl C (0, 0) _ Try.isAgg34 (fun w => by rw [HSC.out]; exact Try.sizeOf34 w) ((((Upd.refl (fun _ => False) w3).alloc _).block _ (Array.getElem?_eq_some_iff.1 HGB.out).1 (fun h => h)).trans HGB.out) ?_)
                  | (refine wpList_load_block rfl 34 _ rfl w3.heap.size rfl C4 (0, 0) _ Try.isAgg34 (fun w => by rw [HSD.out]; exact Try.sizeOf34 w) (MapKept.heap_alloc w3 _).1 ?_)
                  | (go_at_call 17; refine (same_msg _ _ _ _ _ _ (HGA.out.old ((Upd.refl _ _).alloc _)) (HM4.out.old ((Upd.refl _ _).alloc _))).mono ?_; rintro e w4 ⟨rfl, hu4⟩; have HU4 := Lib.hid (((Upd.refl (fun _ => False) w3).alloc (.cells C4 34)).trans hu4); clear hu4))
                go_meet
                case rel => exact ⟨by trivial, take_done HLW.out HUA.out hq0 hid HP2.out HU2.out HUB.out HR3.out HU3.out HU4.out hl0 hlq hLq ⟨hb0, hm0, hx0, hB⟩⟩
              · have hg := aget_no HLW.out.post hno
                go_wp2_with (first
                  | (go_at_call 9; refine (take_no _ b mb last d.id M HLW.out.post.at' hg).mono ?_; rintro e w2 ⟨rfl, hu2⟩
                     have hub : Upd (fun _ => False) wa (w2.alloc (.cells (msgN 0) 34)) := hu2.alloc _
                     have c12 := (hub.cell (p := ⟨wr.heap.size, 1, none⟩) hklt (fun h => h)).trans c1
                     have HUB := Lib.hid hub; clear hub hu2)
                  | (refine wpList_store_last (w0 := w2) (C0 := msgN 0) rfl 34 _ _ rfl rfl (msgN 0) rfl HZ24.out rfl (msgN_one 0) ?_)
                  | (go_at_call 16; refine (rtake_no _ GR x B last d.id L v Cs (HLW.out.old HUB.out).ref (by omega) hno).mono ?_; rintro e w3 ⟨rfl, hu3⟩
                     have HGB := Lib.hid ((hu3.block w2.heap.size (by simp) (fun h => h)).trans (MapKept.heap_alloc w2 (.cells (msgN 0) 34)).1)
                     have HU3 := Lib.hid (HUB.out.trans hu3); clear hu3)
                  | (refine wpList_store_last (w0 := w3) (C0 := msgN 0) rfl 34 _ _ rfl rfl (msgN 0) rfl HZ24.out rfl (msgN_one 0) ?_)
                  | (refine wpList_load_block rfl 34 _ rfl w2.heap.size rfl (msgN 0) (0, 0) _ Try.isAgg34 Try.sizeOf34 ((((Upd.refl (fun _ => False) w3).alloc _).block _ (Array.getElem?_eq_some_iff.1 HGB.out).1 (fun h => h)).trans HGB.out) ?_)
                  | (refine wpList_load_block rfl 34 _ rfl w3.heap.size rfl (msgN 0) (0, 0) _ Try.isAgg34 Try.sizeOf34 (MapKept.heap_alloc w3 _).1 ?_)
                  | (go_at_call 17; refine (same_msg _ _ _ _ _ _ (zero_msg2 _) (zero_msg2 _)).mono ?_; rintro e w4 ⟨rfl, hu4⟩; have HU4 := Lib.hid ((HU3.out.alloc (.cells (msgN 0) 34)).trans hu4); clear hu4))
                go_meet
                case rel => exact ⟨by trivial, none_done HLW.out HUA.out HU4.out hl0 hlq hLq⟩
            · rcases first_at L d.id with ⟨q0, hq0, hid, hno⟩ | hno
              · obtain ⟨C, hMq, hmC⟩ := HLW.out.post.msg q0 hq0
                obtain ⟨hsC, honeC⟩ := msgC_one hmC
                rw [hid] at hMq
                have hg := aget_of_mem (im_nodup HLW.out.post.at'.m) (List.mem_of_getElem? hMq)
                clear hMq
                have HSC := Lib.hid hsC; clear hsC
                have HONE := Lib.hid honeC; clear honeC hmC
                go_wp2_with fail
                go_region_with (first | (go_at_call 10; refine (lose_ok _ b mb last d.id M (by first | exact HLW.out.post.at' | exact HLW.out.post.at'.old ((Upd.refl _ _).drew)) C hg HSC.out HONE.out).mono ?_; rintro e w2 ⟨rfl, hp2, hu2⟩; have hu2' : Upd (fun k => k = b ∨ k = mb) wa w2 := (by first | exact hu2 | exact ((Upd.refl _ _).drew).trans hu2); have c12 := (hu2'.cell (p := ⟨wr.heap.size, 1, none⟩) hklt hkn).trans c1; have HP2 := Lib.hid hp2; have HU2 := Lib.hid hu2'; clear hp2 hu2 hu2') | (go_at_call 18; refine (rlose_ok _ GR x B q0 last d.id L v Cs (HLW.out.ref1 HU2.out) (by omega) (by have := HLW.out.le; have := HU2.out.size; omega) hq0 hid hno).mono ?_; rintro e w3 ⟨v3, Cs3, rfl, hr3, hu3⟩; have HR3 := Lib.hid hr3; have HU3 := Lib.hid hu3; clear hr3 hu3))
                all_goals
                  go_wp2_with fail
                  go_meet
                  case rel => exact ⟨by trivial, take_done HLW.out HUA.out hq0 hid HP2.out HU2.out (Upd.refl _ _) HR3.out HU3.out (Upd.refl _ _) hl0 hlq hLq ⟨hb0, hm0, hx0, hB⟩⟩
              · have hg := aget_no HLW.out.post hno
                go_wp2_with fail
                go_region_with (first | (go_at_call 10; refine (lose_no _ b mb last d.id M (by first | exact HLW.out.post.at' | exact HLW.out.post.at'.old ((Upd.refl _ _).drew)) hg).mono ?_; rintro e w2 ⟨rfl, hu2⟩; have hu2' : Upd (fun _ => False) wa w2 := (by first | exact hu2 | exact ((Upd.refl _ _).drew).trans hu2); have c12 := (hu2'.cell (p := ⟨wr.heap.size, 1, none⟩) hklt (fun h => h)).trans c1; have HU2 := Lib.hid hu2'; clear hu2 hu2') | (go_at_call 18; refine (rlose_no _ GR x B last d.id L v Cs (HLW.out.old HU2.out).ref (by omega) hno).mono ?_; rintro e w3 ⟨rfl, hu3⟩; have HU3 := Lib.hid (HU2.out.trans hu3); clear hu3))
                all_goals
                  go_wp2_with fail
                  go_meet
                  case rel => exact ⟨by trivial, none_done HLW.out HUA.out HU3.out hl0 hlq hLq⟩
            · rcases first_at L d.id with ⟨q0, hq0, hid, hno⟩ | hno
              · obtain ⟨C, hMq, hmC⟩ := HLW.out.post.msg q0 hq0
                obtain ⟨hsC, honeC⟩ := msgC_one hmC
                rw [hid] at hMq
                have hg := aget_of_mem (im_nodup HLW.out.post.at'.m) (List.mem_of_getElem? hMq)
                clear hMq
                have HMC := Lib.hid hmC; clear hmC
                clear hsC honeC
                go_wp2_with (first
                  | (go_at_call 11; refine (twice_any _ b mb last d.id M _ C _ HMC.out (fun k hk => HLW.out.post.far k hk) HLW.out.post.at' (by omega) hl0 (by omega) hg).mono ?_; rintro e w2 ⟨rfl, C2, hp2, hm2, hu2⟩; have c12 := (hu2.cell (p := ⟨wr.heap.size, 1, none⟩) hklt hkn).trans c1; have HP2 := Lib.hid hp2; clear hp2; have HM2 := Lib.hid hm2; clear hm2; have HU2 := Lib.hid hu2; clear hu2)
                  | (go_at_call 19; refine (rtwice_ok _ GR x B q0 last d.id L v Cs (HLW.out.ref1 HU2.out) (by omega) hl0 (by omega) (by have := HLW.out.le; have := HU2.out.size; omega) hq0 hid hno).mono ?_; rintro e w3 ⟨rfl, v3, Cs3, hr3, hu3⟩; have HR3 := Lib.hid hr3; clear hr3; have HU3 := Lib.hid hu3; clear hu3))
                go_meet
                case rel => exact ⟨by trivial, twice_done HLW.out HUA.out HP2.out HM2.out HU2.out HR3.out HU3.out hl0 hlq hLq ⟨hb0, hm0, hx0, hB⟩⟩
              · have hg := aget_no HLW.out.post hno
                go_wp2_with (first
                  | (go_at_call 11; refine (twice_no _ b mb last d.id M HLW.out.post.at' hg).mono ?_; rintro e w2 ⟨rfl, hu2⟩; have c12 := (hu2.cell (p := ⟨wr.heap.size, 1, none⟩) hklt (fun h => h)).trans c1; have HU2 := Lib.hid hu2; clear hu2)
                  | (go_at_call 19; refine (rtwice_no _ GR x B last d.id L v Cs (HLW.out.old HU2.out).ref (by omega) hno).mono ?_; rintro e w3 ⟨rfl, hu3⟩; have HU3 := Lib.hid (HU2.out.trans hu3); clear hu3))
                go_meet
                case rel => exact ⟨by trivial, none_done HLW.out HUA.out HU3.out hl0 hlq hLq⟩
          case rest =>
            obtain ⟨rfl, hok⟩ := hcut
            clear HM HK HLW HUA c0 c1 HLD HDO
            go_upto_region 24 with (fail)
            go_cut [139] (fun pv wd => pv = .bool false ∧ LiveOk w b mb x B (q + 1) wd)
            case first =>
              obtain ⟨last, L, M, v, Cs, GP, GR, hlz, hl0, hlq, hLq, huz⟩ := hok
              generalize wc = wz at hlz huz ⊢
              have z0 := hlz.ref.c0
              have hzx := hlz.ref.lt
              obtain ⟨va, vc, hva⟩ := owns_len hlz.ref.own
              rw [hva] at z0
              have HVA := Lib.hid hva; clear hva
              have HLZ := Lib.hid hlz; clear hlz
              have HUZ := Lib.hid huz; clear huz
              go_region_held3 (fun w' => w'.cell? ⟨x, 0, none⟩ = some (.slice va L.length vc)) (first | exact z0 | exact z5 | exact z6) (first | (go_at_call 12; refine (packets_all _ _ b mb _ L _ (by first | exact HLZ.out.post | exact HLZ.out.post.old ((Upd.refl _ _).drew)) (by omega) (by omega)).mono ?_; rintro e w5 ⟨pv, rfl, hsn, hfr, hpu⟩; obtain ⟨pa, pc, rfl⟩ := hsn.shape; have HSN := Lib.hid hsn.c; clear hsn hfr; have hpu' : Upd (fun _ => False) wz w5 := (by first | exact hpu | exact ((Upd.refl _ _).drew).trans hpu); have HPU := Lib.hid hpu'; have z5 := (hpu'.cell (p := ⟨x, 0, none⟩) hzx (fun h => h)).trans z0; clear hpu hpu') | (go_at_call 20; refine (same_sent _ _ _ L HSN.out (by have := (HLZ.out.ref.old HPU.out).c; rw [HVA.out] at this; exact this) (by omega)).mono ?_; rintro e w6 ⟨rfl, hu6⟩; have z6 := ((HPU.out.trans hu6).cell (p := ⟨x, 0, none⟩) hzx (fun h => h)).trans z0; have HU6 := Lib.hid (HPU.out.trans hu6); clear hu6))
              all_goals
                go_wp2_with fail
                go_meet
                case rel => exact ⟨by trivial, last, L, M, v, Cs, GP, GR, HLZ.out.old HU6.out, hl0, hlq, hLq, HUZ.out.trans HU6.out⟩
            case rest =>
              clear hok
              obtain ⟨rfl, last, L, M, v, Cs, GP, GR, hl6, hl0, hlq, hLq, hu6w⟩ := hcut
              generalize wc = w6 at hl6 hu6w ⊢
              have HL6 := Lib.hid hl6; clear hl6
              have HU6 := Lib.hid hu6w; clear hu6w
              go_wp2_with (go_at_call 12; refine (packets_all _ _ b mb _ L _ HL6.out.post (by omega) (by omega)).mono ?_; rintro e w7 ⟨pv, rfl, hsn, hfr, hpu⟩; obtain ⟨pa, pc, rfl⟩ := hsn.shape; have HSN := Lib.hid hsn; clear hsn hfr; have HPU := Lib.hid hpu; clear hpu)
              go_loopw [143] (fun i wq => ∃ k : Nat, k ≤ L.length ∧ i = .int .i64 (k : Int) ∧ SpM w6 w7 wq) (fun i _ => L.length - (intOf i).toNat)
              case atStart => exact ⟨0, Nat.zero_le _, rfl, SpM.refl _ _⟩
              case round =>
                obtain ⟨k, hk, rfl, hsp⟩ := hrel
                have HSP := Lib.hid hsp; clear hsp
                by_cases hkl : k < L.length
                · obtain ⟨sb, so, C3, rfl, hsb, hm3, hcs⟩ := HSN.out.at' hkl
                  generalize L.getD k default = pk at hm3 hcs
                  obtain ⟨nv3, vv3, bv3, rfl⟩ := hm3.form
                  obtain ⟨ga, gc, rfl⟩ := msg_bytes hm3
                  obtain ⟨hany, hinn, hnb⟩ := sent_spoil hm3
                  have hload : ∀ j, j < (sentC pk (msgC pk.2 nv3 vv3 (.slice ga pk.2.bytes.length gc))).toArray.size → wr.cell? ((⟨sb, so + k * 25, none⟩ : Addr).add j) = (sentC pk (msgC pk.2 nv3 vv3 (.slice ga pk.2.bytes.length gc))).toArray[j]? := fun j hj => by
                    have hj' : j < 25 := by simpa [sentC, msgC] using hj
                    rw [add_lit0]
                    have h1 := hcs j hj'
                    rw [List.getElem?_eq_getElem (by simpa [sentC, msgC] using hj)] at h1
                    rw [HSP.out.o _ _ h1 (fun n => hnb _ (List.getElem_mem _) n)]
                    simp
                  have HLD3 := Lib.hid hload; clear hload hcs
                  have HA3 := Lib.hid (sent_arr hm3)
                  have hsb3 : (wr.alloc (.cells (sentC pk (msgC pk.2 nv3 vv3 (.slice ga pk.2.bytes.length gc))).toArray 56)).cell? ⟨wr.heap.size, 24, none⟩ = some (.slice ga pk.2.bytes.length gc) := (cell_block (MapKept.heap_alloc _ _).1 24).trans rfl
                  have HANY := Lib.hid (HSP.out.any hany); clear hany
                  have HINN := Lib.hid hinn; clear hinn hnb hm3
                  go_wp2_with (first
                    | (refine wpList_load_cells rfl 56 _ rfl ⟨sb, so + k * 25, none⟩ rfl (sentC pk (msgC pk.2 nv3 vv3 (.slice ga pk.2.bytes.length gc))).toArray Try.isAgg56 Try.sizeOf56 HLD3.out ?_)
                    | (refine wpList_store_last (w0 := wr) (C0 := zeroSent) rfl 56 _ _ rfl rfl (sentC pk (msgC pk.2 nv3 vv3 (.slice ga pk.2.bytes.length gc))).toArray rfl HZ25.out rfl HA3.out ?_)
                    | (go_at_call 15; refine (spoil1 _ (wr.heap.size + 1) _ (.slice ga pk.2.bytes.length gc) _ (HANY.out.old (((Upd.refl _ _).alloc _).alloc _)) (spoil_cell _ _ _ _ (size_alloc1 _ _)) (fun j hj => spoil_ne HSP.out HINN.out hj rfl)).mono ?_; rintro e w9 ⟨rfl, sp1, sp2, sp3, sp4⟩; have HSP9 := Lib.hid (HSP.out.step (((Upd.refl _ _).alloc _).alloc _) ⟨rfl, sp1, sp2, sp3, sp4⟩ HINN.out); clear sp1 sp2 sp3 sp4))
                  go_roundw
                  case rel => exact ⟨k + 1, hkl, by go_num, HSP9.out⟩
                  case measure => simp [intOf]; omega
                · go_wp2_with fail
                  go_roundw
                  case rel => exact ⟨q + 1, hlt, by omega, by go_num, last, L, M, v, Cs, GP, GR, live_spoilt HL6.out HPU.out HSP.out, hl0, hlq, hLq, spoil_upd HSP.out HU6.out.size (HU6.out.trans HPU.out)⟩
                  case measure => simp [intOf]; omega
      · have hql : q = ds.length := by omega
        go_wp2_with fail
        go_meet
        case rel => exact ⟨q, hq61, last, L, M, v, Cs, GP, GR, HLA.out, hl0, hlq, hLq, HU.out⟩
end Go.Proofs.Ytfodgohleioflaa
