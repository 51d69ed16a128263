/-
  PostTaken: the walk.
-/
import Derived.Test.YtfodgohleioflaaTaken0
namespace Go.Proofs.Ytfodgohleioflaa
open Go Go.RowKit Go.MapKept Go.ChangeMaps
set_option linter.unusedVariables false

/-- The call at hand: its cells. -/
theorem DosN.at {w : World} {a : Option Addr} {c : Nat} {ds : List DoN} {q : Nat} (h : DosN w (.slice a ds.length c) ds) (hq : q < ds.length) : ∃ bb oo, a = some ⟨bb, oo, none⟩ ∧ bb < w.heap.size ∧
    (∀ i, i < ds.length → (ds.getD i default).rest.length = 24 ∧ (∀ c ∈ (ds.getD i default).rest, c.oneCell' = true) ∧ ∀ j, j < 26 → w.cell? ⟨bb, oo + i * 26 + j, none⟩ = (ds.getD i default).cells[j]?) := by
  rcases h with ⟨rfl, _⟩ | ⟨b, o, c', e, hi⟩
  · exact absurd hq (Nat.not_lt_zero _)
  · cases e
    refine ⟨b, o, rfl, ?_, hi⟩
    obtain ⟨_, _, h3⟩ := hi q hq
    have := h3 0 (by omega)
    rw [show (ds.getD q default).cells[0]? = some (.int .i64 (ds.getD q default).op) from rfl] at this
    exact World.block_lt_of_cell? _ _ this
def doZero : Array Value := #[.int .i64 0, .int .i64 0, .int .i64 0, .int .i64 0, .int .i64 0, .int .i64 0, .int .i64 0, .int .i64 0, .int .i64 0, .int .i64 0, .int .i64 0, .bool false,
  .int .i64 0, .int .i64 0, .string ⟨#[]⟩, .int .i64 0, .int .i64 0, .int .i64 0, .int .i64 0, .int .i64 0, .int .u32 0, .int .i64 0, .int .i64 0, .slice none 0 0, .slice none 0 0, .slice none 0 0]
theorem owns_shape {w : World} {base : Nat} {e : TypeId} {k n : Nat} {v : Value} {xs : List Value} (h : w.ownsRow base e k v n xs) : ∃ a c, v = .slice a n c := by
  obtain ⟨_, ⟨rfl, rfl⟩ | ⟨g, cap, cur, rfl, _⟩⟩ := h
  · exact ⟨none, 0, rfl⟩
  · exact ⟨_, cap, rfl⟩
theorem taken_step {w wr w2 : World} {b mb q : Nat} {ds : List DoN} {M' : List (Int × Value)} {last' left : Int} (hq : q < ds.length) (h60 : ¬ 60 < q) (hp : PostAt w2 b mb last' M') (hinv : Inv ds (q + 1) M' last') (hl : left = M'.length)
    (hur : Upd (fun _ => False) w wr) (u : Upd (fun k => k = b ∨ k = mb) wr w2) (hb0 : w.heap.size ≤ b) (hm0 : w.heap.size ≤ mb) : TakenRel w b mb ds (.int .i64 left) (.int .i64 ((q : Int) + 1)) w2 :=
  ⟨q + 1, M', last', hq, by omega, by simp, by rw [hl], hp, hinv, hur.trans' u (fun i hi e => by omega)⟩
set_option maxRecDepth 100000 in
set_option maxHeartbeats 40000000 in
theorem taken_walk (w : World) (v : Value) (ds : List DoN) (hv : DosN w v ds) : Calls Try.prog 3 #[v] w (BoolPost w true) := by
  obtain ⟨a, c, rfl⟩ : ∃ a c, v = .slice a ds.length c := by
    rcases hv with ⟨rfl, a, c, rfl⟩ | ⟨b, o, c, rfl, _⟩
    · exact ⟨_, _, rfl⟩
    · exact ⟨_, _, rfl⟩
  have HV := Lib.hid hv; clear hv
  go_enter Try.func3, Try.ntmps3
  go_wp2_with (first
    | (go_at_call 7; refine (new_any _).mono ?_; rintro e w1 ⟨b, mb, rfl, hp, hb0, hm0, hu1⟩; have HP := Lib.hid hp; clear hp; have HU1 := Lib.hid hu1; clear hu1))
  go_loopw [4, 18] (fun left i wr => TakenRel w b mb ds left i wr) (fun _ i _ => ds.length - (intOf i).toNat)
  case atStart => exact ⟨0, [], 0, Nat.zero_le _, by omega, rfl, rfl, HP.out, ⟨by omega, by omega, by simp, fun p hp => absurd hp (by simp)⟩, HU1.out⟩
  case round =>
    obtain ⟨q, M, last, hq, hq61, rfl, rfl, hp, hinv, hu⟩ := hrel
    have hl0 := hinv.l0
    have hlq := hinv.lq
    have hmq := hinv.mq
    have HPR := Lib.hid hp; clear hp
    have HINV := Lib.hid hinv; clear hinv
    have HUR := Lib.hid hu; clear hu
    clear HP HU1
    by_cases hlt : q < ds.length
    · obtain ⟨bb, oo, rfl, hbb, hcs⟩ := HV.out.at hlt
      have HCS := Lib.hid hcs; clear hcs
      have hbr : bb < wr.heap.size := Nat.lt_of_lt_of_le hbb HUR.out.size
      have hsz : (Try.prog.info? 36).map (·.size) = some 26 := by kernel_rfl
      obtain ⟨C, hC⟩ : ∃ C : Array Value, C = (ds.getD q default).cells.toArray := ⟨_, rfl⟩
      have hCs : C.size = 26 := by
        have := (HCS.out q hlt).1
        rw [hC, List.size_toArray]
        show (ds.getD q default).rest.length + 1 + 1 = 26
        omega
      have hC0 : C[0]? = some (.int .i64 (ds.getD q default).op) := by rw [hC]; rfl
      have hC1 : C[1]? = some (.int .i64 (ds.getD q default).id) := by rw [hC]; rfl
      have hC2 : C.all (·.oneCell') = true := Array.all_eq_true_iff_forall_mem.2 (fun u hu => by
        rw [hC] at hu
        have hu : u ∈ (ds.getD q default).cells := by simpa using hu
        rcases List.mem_cons.1 hu with rfl | hu
        · rfl
        · rcases List.mem_cons.1 hu with rfl | hu
          · rfl
          · exact (HCS.out q hlt).2.1 u hu)
      have hCc : ∀ j, j < C.size → wr.cell? ((⟨bb, oo + q * 26, none⟩ : Addr).add j) = C[j]? := fun j hj => by
        rw [add_lit0, HUR.out.cell hbb (fun h => h), (HCS.out q hlt).2.2 j (by omega), hC]; simp
      have HC2 := Lib.hid hC2; clear hC2
      have HCC := Lib.hid hCc; clear hCc
      have HSZ := Lib.hid hsz; clear hsz
      have HCZ := Lib.hid hCs; clear hCs
      have HCE := Lib.hid hC; clear hC
      have hpk := HPR.out.old ((Upd.refl (fun _ => False) wr).alloc (.cells C 36))
      have HPK := Lib.hid hpk; clear hpk
      have s5 := un5_is (ds.getD q default).op
      have hgk : ((wr.alloc (.cells C 36))).heap[wr.heap.size]? = some (.cells C 36 (0, 0)) := (MapKept.heap_alloc _ _).1
      have hk0 : (wr.alloc (.cells C 36)).cell? ⟨wr.heap.size, 0, none⟩ = some (.int .i64 (ds.getD q default).op) := (cell_block hgk 0).trans hC0
      have hk1 : (wr.alloc (.cells C 36)).cell? ⟨wr.heap.size, 1, none⟩ = some (.int .i64 (ds.getD q default).id) := (cell_block hgk 1).trans hC1
      clear hgk hC0 hC1
      by_cases h60 : 60 < q
      · go_wp2_with (first
              | (refine wpList_load_cells rfl 36 _ rfl ⟨bb, oo + q * 26, none⟩ rfl C Try.isAgg36 (fun w => by rw [HCZ.out]; exact Try.sizeOf36 w) HCC.out ?_)
              | (refine wpList_store_last (w0 := wr) (C0 := doZero) rfl 36 _ _ rfl rfl C rfl (by rw [HCZ.out]; exact HSZ.out) (by rw [HCZ.out]; rfl) HC2.out ?_)
              | (go_at_call 12; refine (packets_any _ b mb last M HPK.out (by omega) (HINV.out.bare hq61)).mono ?_; rintro e w2 ⟨base, vv, xs, rfl, hbase, ho, hu2⟩; obtain ⟨sa, sc, rfl⟩ := owns_shape ho; clear ho hbase; have HU2 := Lib.hid hu2; clear hu2))
        go_ret
        exact ⟨rfl, (HUR.out.alloc _).trans HU2.out⟩
      · by_cases h01 : un5 (ds.getD q default).op ≤ 1
        · obtain ⟨hinv', hlen'⟩ := HINV.out.add (k := q) (Nat.le_refl _) h01
          generalize (ds.getD q default).op = op at s5 hk0 h01
          have hr := (un5_range op).1
          have h5 : un5 op = 0 ∨ un5 op = 1 := by omega
          clear h01
          rcases h5 with h5 | h5
          · go_wp2_with (first
              | (refine wpList_load_cells rfl 36 _ rfl ⟨bb, oo + q * 26, none⟩ rfl C Try.isAgg36 (fun w => by rw [HCZ.out]; exact Try.sizeOf36 w) HCC.out ?_)
              | (refine wpList_store_last (w0 := wr) (C0 := doZero) rfl 36 _ _ rfl rfl C rfl (by rw [HCZ.out]; exact HSZ.out) (by rw [HCZ.out]; rfl) HC2.out ?_)
              | (refine wpList_buildTo rfl 34 _ rfl _ rfl (msgN (q : Int)) (by kernel_rfl) ?_)
              | (go_at_call 8; refine (send_nil _ b mb last (q : Int) M HPK.out (by omega) hl0 (by omega)).mono ?_; rintro e w2 ⟨rfl, hp2, hu2⟩; have HP2 := Lib.hid hp2; clear hp2; have HU2 := Lib.hid hu2; clear hu2))
            go_roundw
            case rel => exact taken_step hlt h60 HP2.out hinv' (by rw [hlen']; simp) HUR.out (((Upd.refl _ _).alloc _).trans HU2.out) hb0 hm0
            case measure => simp [intOf]; omega
          · go_wp2_with (first
              | (refine wpList_load_cells rfl 36 _ rfl ⟨bb, oo + q * 26, none⟩ rfl C Try.isAgg36 (fun w => by rw [HCZ.out]; exact Try.sizeOf36 w) HCC.out ?_)
              | (refine wpList_store_last (w0 := wr) (C0 := doZero) rfl 36 _ _ rfl rfl C rfl (by rw [HCZ.out]; exact HSZ.out) (by rw [HCZ.out]; rfl) HC2.out ?_)
              | (refine wpList_buildTo rfl 34 _ rfl _ rfl (msgN (q : Int)) (by kernel_rfl) ?_)
              | (go_at_call 8; refine (send_nil _ b mb last (q : Int) M HPK.out (by omega) hl0 (by omega)).mono ?_; rintro e w2 ⟨rfl, hp2, hu2⟩; have HP2 := Lib.hid hp2; clear hp2; have HU2 := Lib.hid hu2; clear hu2))
            go_roundw
            case rel => exact taken_step hlt h60 HP2.out hinv' (by rw [hlen']; simp) HUR.out (((Upd.refl _ _).alloc _).trans HU2.out) hb0 hm0
            case measure => simp [intOf]; omega
        · have hr := (un5_range (ds.getD q default).op).2
          have h5 : un5 (ds.getD q default).op = 2 ∨ un5 (ds.getD q default).op = 3 ∨ un5 (ds.getD q default).op = 4 := by omega
          clear h01 hr
          generalize (ds.getD q default).op = op at s5 hk0 h5
          generalize (ds.getD q default).id = id at hk1
          rcases h5 with h5 | h5 | h5
          · cases hg : aget M id with
            | none =>
              go_wp2_with (first
              | (refine wpList_store_last (w0 := w2) (C0 := msgN 0) rfl 34 _ _ rfl rfl (msgN 0) rfl (by kernel_rfl) rfl (msgN_one 0) ?_)
              | (refine wpList_load_cells rfl 36 _ rfl ⟨bb, oo + q * 26, none⟩ rfl C Try.isAgg36 (fun w => by rw [HCZ.out]; exact Try.sizeOf36 w) HCC.out ?_)
              | (refine wpList_store_last (w0 := wr) (C0 := doZero) rfl 36 _ _ rfl rfl C rfl (by rw [HCZ.out]; exact HSZ.out) (by rw [HCZ.out]; rfl) HC2.out ?_)
              | (go_at_call 9; refine (take_no _ b mb last id M HPK.out hg).mono ?_; rintro e w2 ⟨rfl, hu2⟩; have HU2 := Lib.hid hu2; clear hu2))
              go_roundw
              case rel => exact taken_step hlt h60 (HPK.out.old (HU2.out.alloc _)) HINV.out.keep rfl HUR.out (((((Upd.refl (fun _ => False) _).alloc _).trans HU2.out).alloc _).mono (fun _ _ h => h.elim)) hb0 hm0
              case measure => simp [intOf]; omega
            | some v =>
              obtain ⟨k, rfl, hkq, hks⟩ := HINV.out.got hg
              obtain ⟨hinv', hlen'⟩ := HINV.out.del (im_nodup HPR.out.m) hg
              have hkd : k < ds.length := by omega
              have hlk := (HCS.out k hkd).2.2 0 (by omega)
              have hlk : w.cell? ⟨bb, oo + k * 26, none⟩ = some (.int .i64 (ds.getD k default).op) := hlk
              have HLK := Lib.hid hlk; clear hlk
              have s5k := un5_is (ds.getD k default).op
              generalize (ds.getD k default).op = opk at HLK hks s5k
              have hks' : ¬ (1 < un5 opk) := by omega
              have hk1' : ¬ ((k : Int) < 0) := by omega
              have hk2' : ¬ ((q : Int) ≤ (k : Int)) := by omega
              have hk3' : (0 : Int) ≤ (k : Int) := by omega
              have hk4' : (k : Int) < (ds.length : Int) := by omega
              go_wp2_with (first
              | (refine wpList_store_last (w0 := w2) (C0 := msgN 0) rfl 34 _ _ rfl rfl (msgN k) rfl (by kernel_rfl) rfl (msgN_one k) ?_)
              | (refine wpList_load_cells rfl 36 _ rfl ⟨bb, oo + q * 26, none⟩ rfl C Try.isAgg36 (fun w => by rw [HCZ.out]; exact Try.sizeOf36 w) HCC.out ?_)
              | (refine wpList_store_last (w0 := wr) (C0 := doZero) rfl 36 _ _ rfl rfl C rfl (by rw [HCZ.out]; exact HSZ.out) (by rw [HCZ.out]; rfl) HC2.out ?_)
              | (go_at_call 9; refine (take_ok _ b mb last id M HPK.out (msgN k) hg rfl (msgN_one k)).mono ?_; rintro e w2 ⟨rfl, hp2, hu2⟩
                 have huw := Lib.hid ((HUR.out.alloc (.cells C 36)).trans' hu2 (fun i hi e => by omega))
                 have hm8 : (w2.alloc (.cells (msgN k) 34)).cell? ⟨w2.heap.size, 8, none⟩ = some (.int .i64 (k : Int)) := (cell_block (MapKept.heap_alloc _ _).1 8).trans rfl
                 have hlk : (w2.alloc (.cells (msgN k) 34)).cell? ⟨bb, oo + k * 26, none⟩ = some (.int .i64 opk) := ((huw.out.alloc _).cell (p := ⟨bb, oo + k * 26, none⟩) hbb (fun h => h)).trans HLK.out
                 have HP2 := Lib.hid hp2; clear hp2; have HU2 := Lib.hid hu2; clear hu2))
              go_roundw
              case rel => exact taken_step hlt h60 (HP2.out.old ((Upd.refl _ _).alloc _)) hinv' (by omega) HUR.out ((((Upd.refl _ _).alloc _).trans HU2.out).alloc _) hb0 hm0
              case measure => simp [intOf]; omega
          · cases hg : aget M id with
            | none =>
              go_wp2_with (first
              | (refine wpList_load_cells rfl 36 _ rfl ⟨bb, oo + q * 26, none⟩ rfl C Try.isAgg36 (fun w => by rw [HCZ.out]; exact Try.sizeOf36 w) HCC.out ?_)
              | (refine wpList_store_last (w0 := wr) (C0 := doZero) rfl 36 _ _ rfl rfl C rfl (by rw [HCZ.out]; exact HSZ.out) (by rw [HCZ.out]; rfl) HC2.out ?_)
              | (go_at_call 10; refine (lose_no _ b mb last id M HPK.out hg).mono ?_; rintro e w2 ⟨rfl, hu2⟩; have HU2 := Lib.hid hu2; clear hu2))
              go_roundw
              case rel => exact taken_step hlt h60 (HPK.out.old HU2.out) HINV.out.keep rfl HUR.out ((((Upd.refl (fun _ => False) _).alloc _).trans HU2.out).mono (fun _ _ h => h.elim)) hb0 hm0
              case measure => simp [intOf]; omega
            | some v =>
              obtain ⟨k, rfl, hkq, hks⟩ := HINV.out.got hg
              obtain ⟨hinv', hlen'⟩ := HINV.out.del (im_nodup HPR.out.m) hg
              go_wp2_with (first
              | (refine wpList_load_cells rfl 36 _ rfl ⟨bb, oo + q * 26, none⟩ rfl C Try.isAgg36 (fun w => by rw [HCZ.out]; exact Try.sizeOf36 w) HCC.out ?_)
              | (refine wpList_store_last (w0 := wr) (C0 := doZero) rfl 36 _ _ rfl rfl C rfl (by rw [HCZ.out]; exact HSZ.out) (by rw [HCZ.out]; rfl) HC2.out ?_)
              | (go_at_call 10; refine (lose_ok _ b mb last id M HPK.out (msgN k) hg rfl (msgN_one k)).mono ?_; rintro e w2 ⟨rfl, hp2, hu2⟩; have HP2 := Lib.hid hp2; clear hp2; have HU2 := Lib.hid hu2; clear hu2))
              go_roundw
              case rel => exact taken_step hlt h60 HP2.out hinv' (by omega) HUR.out (((Upd.refl _ _).alloc _).trans HU2.out) hb0 hm0
              case measure => simp [intOf]; omega
          · cases hg : aget M id with
            | none =>
              go_wp2_with (first
              | (refine wpList_load_cells rfl 36 _ rfl ⟨bb, oo + q * 26, none⟩ rfl C Try.isAgg36 (fun w => by rw [HCZ.out]; exact Try.sizeOf36 w) HCC.out ?_)
              | (refine wpList_store_last (w0 := wr) (C0 := doZero) rfl 36 _ _ rfl rfl C rfl (by rw [HCZ.out]; exact HSZ.out) (by rw [HCZ.out]; rfl) HC2.out ?_)
              | (go_at_call 11; refine (twice_no _ b mb last id M HPK.out hg).mono ?_; rintro e w2 ⟨rfl, hu2⟩; have HU2 := Lib.hid hu2; clear hu2))
              go_roundw
              case rel => exact taken_step hlt h60 (HPK.out.old HU2.out) HINV.out.keep rfl HUR.out ((((Upd.refl (fun _ => False) _).alloc _).trans HU2.out).mono (fun _ _ h => h.elim)) hb0 hm0
              case measure => simp [intOf]; omega
            | some v =>
              obtain ⟨k, rfl, hkq, hks⟩ := HINV.out.got hg
              obtain ⟨hinv', hlen'⟩ := HINV.out.add (k := k) (by omega) hks
              go_wp2_with (first
              | (refine wpList_load_cells rfl 36 _ rfl ⟨bb, oo + q * 26, none⟩ rfl C Try.isAgg36 (fun w => by rw [HCZ.out]; exact Try.sizeOf36 w) HCC.out ?_)
              | (refine wpList_store_last (w0 := wr) (C0 := doZero) rfl 36 _ _ rfl rfl C rfl (by rw [HCZ.out]; exact HSZ.out) (by rw [HCZ.out]; rfl) HC2.out ?_)
              | (go_at_call 11; refine (twice_ok _ b mb last id k M HPK.out (by omega) hl0 (by omega) hg).mono ?_; rintro e w2 ⟨rfl, hp2, hu2⟩; have HP2 := Lib.hid hp2; clear hp2; have HU2 := Lib.hid hu2; clear hu2))
              go_roundw
              case rel => exact taken_step hlt h60 HP2.out hinv' (by rw [hlen']; simp) HUR.out (((Upd.refl _ _).alloc _).trans HU2.out) hb0 hm0
              case measure => simp [intOf]; omega
    · have hql : q = ds.length := by omega
      go_wp2_with (go_at_call 12; refine (packets_any _ b mb last M HPR.out (by omega) (HINV.out.bare hq61)).mono ?_; rintro e w2 ⟨base, vv, xs, rfl, hbase, ho, hu2⟩; obtain ⟨sa, sc, rfl⟩ := owns_shape ho; clear ho hbase; have HU2 := Lib.hid hu2; clear hu2)
      go_ret
      exact ⟨rfl, HUR.out.trans HU2.out⟩
end Go.Proofs.Ytfodgohleioflaa
