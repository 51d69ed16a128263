/-
  PlaceFair: the walk.
-/
import Derived.Test.YtjocoaaeboapcaaPlace8
import Derived.Test.YtjocoaaeboapcaaFairLaw
import Derived.WalkSmall
namespace Go.Proofs.Ytjocoaaeboapcaa
open Go Go.RowKit Go.MapKept Go.ChangeMaps Heap

theorem look_int (w : World) (b : Nat) (k : Int) (ok : Bool) : (Instr.lookup 27 (.map (some b)) (.int .i64 k) ok).run Try.prog w =
    lookR (.int .i64 0) w k (LookElse Try.prog 27 b k ok w) ok (w.im b) :=
  run_lookup_any Try.underlying27 Try.underlying3 (fun _ => by kernel_rfl) w b k ok
theorem put_int (w : World) (b : Nat) (k : Int) (v : Value) : (Instr.mapUpdate 27 (.map (some b)) (.int .i64 k) v).run Try.prog w = putR w b k v (PutElse Try.prog 27 b k v w) (w.im b) :=
  run_mapUpdate_any Try.underlying27 Try.underlying3 w b k v
/-- Whether a mask has a bit. -/
def has (mask i : Int) : Bool := bits BinOp.and IntKind.u64 (mask / 2 ^ i.toNat) 1 == 1
theorem has_nat {mask : Int} {x : Nat} {r : Bool} (h : has mask x = r) : (bits BinOp.and IntKind.u64 (mask / 2 ^ x) 1 == 1) = r := h
theorem filt_yes {mask : Int} {q : Nat} (h : has mask q = true) : (nums (q + 1)).filter (has mask) = (nums q).filter (has mask) ++ [(q : Int)] := by
  rw [nums_succ, List.filter_append, List.filter_cons_of_pos h]; rfl
theorem filt_no {mask : Int} {q : Nat} (h : has mask q = false) : (nums (q + 1)).filter (has mask) = (nums q).filter (has mask) := by
  rw [nums_succ, List.filter_append, List.filter_cons_of_neg (by rw [h]; simp), List.filter_nil, List.append_nil]
theorem filt_few (p : Int → Bool) (q : Nat) (h : q ≤ 16) : ((nums q).filter p).length ≤ 16 := by
  refine Nat.le_trans (List.length_filter_le _ _) ?_
  unfold nums; simp; exact h
structure BitI (w : World) (mask : Int) (v i : Value) (q : Nat) (wr : World) : Prop where
  i : i = .int .i64 q
  le : q ≤ 16
  own : IOwn w.heap.size wr v ((nums q).filter (has mask))
  up : Upd (fun _ => False) w wr
/-- The counts of a list. -/
def CountIs (w : World) (b : Nat) (A : List Int) : Prop := ∃ M, w.im b = some M ∧ ∀ x, (aget M x).getD (.int .i64 0) = .int .i64 (A.count x)
theorem CountIs.put {w : World} {b : Nat} {A : List Int} (h : CountIs w b A) (x : Int) : CountIs (w.mput b (.int .i64 x) (.int .i64 ((A.count x : Nat) + 1 : Int))) b (A ++ [x]) := by
  obtain ⟨M, hm, hM⟩ := h
  refine ⟨_, im_mput_same hm _, fun y => ?_⟩
  rw [aget_aput]
  by_cases e : y = x
  · subst e
    rw [if_pos rfl, List.count_append, List.count_singleton_self]; rfl
  · rw [if_neg e, hM, List.count_append, List.count_singleton]
    simp [Ne.symm e]
theorem quarter (seed : Int) : ∃ S : Nat, wrap64 (IntKind.u64.wrap seed / 4) = (S : Int) ∧ S < 4611686018427387904 := by
  have h0 : 0 ≤ IntKind.u64.wrap seed ∧ IntKind.u64.wrap seed < 18446744073709551616 := by rw [IntKind.wrap_u64]; omega
  refine ⟨(IntKind.u64.wrap seed / 4).toNat, ?_, by omega⟩
  unfold wrap64; omega
theorem fairL {s : List Int} (hm : mems s = s) (hl : s.length ≤ 16) (hpos : 0 < s.length) {S q N : Nat} (hN1 : 1 ≤ N) (hN : N ≤ s.length) (hS : S + q < 9223372036854775808) :
    chooseE s ((S : Int) + (q : Int)) N = 0 ∧ chooseL s ((S : Int) + (q : Int)) N = (List.range N).map (el s S q) := by
  have hse : seedAt ((S : Int) + (q : Int)) s.length = (S + q) % s.length := by
    unfold seedAt
    rw [IntKind.wrap_u64]
    have : (((S : Int) + (q : Int)) % 18446744073709551616) = ((S + q : Nat) : Int) := by omega
    rw [this, ← Int.natCast_emod, Int.toNat_natCast]
  have hord : ord s ((S : Int) + (q : Int)) = rot s ((S + q) % s.length) := by unfold ord; rw [hm, hse]
  have hlen : (ord s ((S : Int) + (q : Int))).length = s.length := by rw [hord, (rot_perm s _).length_eq]
  have hE : chooseE s ((S : Int) + (q : Int)) N = 0 := by unfold chooseE; rw [if_neg (by omega), if_neg (by rw [hlen]; omega)]
  refine ⟨hE, ?_⟩
  unfold chooseL
  rw [if_pos hE, hord, Int.toNat_natCast]
  exact round_is hpos hN
theorem choose_at3 (w : World) (v : Value) (L : List Int) (seed sd x : Int) (N : Nat) (hx : x = N) (hs : seed = sd) (hv : Ints w v L) :
    Calls Try.prog 7 #[v, .int .i64 seed, .int .i64 x] w (ChooseP w L sd N) := by
  subst hx hs
  exact choose_any w v L seed N hv
structure FairI (wm : World) (b : Nat) (s : List Int) (S N : Nat) (i : Value) (q : Nat) (wr : World) : Prop where
  i : i = .int .i64 q
  le : q ≤ s.length
  cnt : CountIs wr b (allC s S N q)
  up : Upd (fun k => k = b) wm wr
structure FairJ (wm : World) (b : Nat) (A R : List Int) (i : Value) (j : Nat) (wr : World) : Prop where
  i : i = .int .i64 j
  le : j ≤ R.length
  cnt : CountIs wr b (A ++ R.take j)
  up : Upd (fun k => k = b) wm wr
set_option maxRecDepth 100000 in
set_option maxHeartbeats 4000000 in
theorem fair_walk (w : World) (mask seed n : Int) : Calls Try.prog 3 #[.int .u64 mask, .int .i64 seed, .int .i64 n] w (BoolPost w true) := by
  go_enter Try.func3, Try.ntmps3
  go_wp2_with fail
  go_loopw [7, 19] (fun v i wr => ∃ q : Nat, BitI w mask v i q wr) (fun _ i _ => 16 - (intOf i).toNat)
  case atStart => exact ⟨0, rfl, by omega, IOwn.nil _ _, Upd.refl _ _⟩
  case round =>
    obtain ⟨q, hR⟩ := hrel
    obtain rfl := hR.i
    have hq := hR.le
    obtain ⟨ra, rm, rc, rfl⟩ := hR.own.shape3
    have HR := Lib.hid hR; clear hR
    by_cases hlt : q < 16
    · cases hb : has mask q with
      | false =>
        have hbb := has_nat hb
        have HNO := Lib.hid (filt_no hb)
        clear hb
        go_wp2_with fail
        go_roundw
        case rel => exact ⟨q + 1, by go_num, by omega, by rw [HNO.out]; exact HR.out.own, HR.out.up⟩
        case measure => simp [intOf]; omega
      | true =>
        have hbb := has_nat hb
        have HYES := Lib.hid (filt_yes hb)
        clear hb
        have hfew := filt_few (has mask) q hq
        have HFEW := Lib.hid hfew; clear hfew
        go_wp2_with (at_builtin; go_must (refine wpList_append_ints rfl _ _ rfl w.heap.size _ (.slice (some ⟨wr.heap.size, 0, none⟩) 1 1) ((nums q).filter (has mask)) [(q : Int)] rfl ?hown rfl ?hints ?hlen ?hB ?_))
        case hown => exact HR.out.own.old ((Upd.refl (fun _ => False) _).alloc _)
        case hints => exact ints_one _ _ _ _ (Nat.le_refl _) (by simp [go_sem])
        case hlen => have := HFEW.out; simp only [List.length_cons, List.length_nil]; omega
        case hB => have := HR.out.up.size; simp; omega
        intro v' w3 hown3 hu3
        obtain ⟨ra', m', rc', rfl⟩ := hown3.shape3
        have hge := HR.out.own.ge
        have hu4 : Upd (fun _ => False) w w3 := (HR.out.up.alloc _).trans' hu3 (fun i hi e => by have := hge i e; omega)
        have HU4 := Lib.hid hu4; clear hu4 hge hu3
        have HOWN3 := Lib.hid hown3; clear hown3
        go_wp2_with fail
        go_roundw
        case rel => exact ⟨q + 1, by go_num, by omega, by rw [HYES.out]; exact HOWN3.out, HU4.out⟩
        case measure => simp [intOf]; omega
    · obtain rfl : q = 16 := by omega
      have hown := HR.out.own
      have hfm := filt_mems (has mask)
      have hfew := filt_few (has mask) 16 (by omega)
      have HUP := Lib.hid HR.out.up; clear HR
      generalize (nums 16).filter (has mask) = s at hown hfm hfew
      have hi0 := hown.ints (by omega)
      obtain ⟨a0, c0, e0⟩ := hown.shape
      obtain ⟨rfl, rfl, rfl⟩ : ra = a0 ∧ rm = s.length ∧ rc = c0 := by cases e0; exact ⟨rfl, rfl, rfl⟩
      clear e0 hown
      have HI := Lib.hid hi0; clear hi0
      have HFM := Lib.hid hfm; clear hfm
      by_cases hz : s = []
      · subst hz
        have hE : chooseE [] seed 1 = 140 := by unfold chooseE; simp [ord, rot, show mems [] = [] from rfl]
        have HE := Lib.hid hE; clear hE
        go_wp2_with fail
        refine (choose_any _ _ [] seed 1 HI.out).mono ?_
        rintro e w2 ⟨v2, rfl, ho2, hu2⟩
        rw [HE.out]
        obtain ⟨xa, xm, xc, rfl⟩ := ho2.shape3
        have HU2 := Lib.hid (HUP.out.trans hu2); clear hu2 ho2
        go_wp2_with fail
        go_ret
        exact ⟨rfl, HU2.out⟩
      · have hpos : 0 < s.length := List.length_pos_iff.2 hz
        have hmm := @run_makeMap Try.prog
        have lv := look_int
        have pv := put_int
        obtain ⟨S, hS, hS62⟩ := quarter seed
        have hna := seedAt_lt n hpos
        have hni := seedAt_is n s.length hpos
        generalize seedAt n s.length = N0 at hna hni
        have hz2 : ((s.length : Int) == 0) = false := by simp; omega
        obtain ⟨w1, rfl⟩ : ∃ w1 : World, w1 = wr := ⟨_, rfl⟩
        clear hz
        have hst : FairI (w1.alloc (.map #[] 0)) w1.heap.size s S (N0 + 1) (.int .i64 0) 0 (w1.alloc (.map #[] 0)) :=
          ⟨rfl, Nat.zero_le _, ⟨[], by simp [go_sem], fun x => rfl⟩, Upd.refl _ _⟩
        have HST := Lib.hid hst; clear hst
        have hnod : s.Nodup := by
          have := mems_sorted s
          rw [HFM.out] at this
          exact this.imp (fun h e => by omega)
        have HCNT := Lib.hid (fun x (hx : x ∈ s) => allC_count hnod hx S (N0 + 1)); clear hnod
        have HCLE := Lib.hid (fun q x => allC_le s S (N0 + 1) q x)
        have HAS := Lib.hid (fun q => allC_succ s S (N0 + 1) q)
        have HFL := Lib.hid (fun q (hq : q < s.length) => fairL (q := q) (S := S) (N := N0 + 1) HFM.out hfew hpos (by omega) (by omega) (by omega))
        have HI1 := Lib.hid (HI.out.old ((Upd.refl (fun _ => False) _).alloc (.map #[] 0)))
        have hbm : ((w1.alloc (.map #[] 0)).im w1.heap.size).isSome = true := by simp [go_sem]
        have HBM := Lib.hid hbm; clear hbm
        go_wp2_with fail
        rw [hS, show ((16 : Nat) : Int) = 16 from rfl]
        clear hS
        go_loopw [58] (fun i wq => ∃ q : Nat, FairI (w1.alloc (.map #[] 0)) w1.heap.size s S (N0 + 1) i q wq) (fun i _ => s.length - (intOf i).toNat)
        case atStart => exact ⟨0, HST.out⟩
        case round =>
          obtain ⟨q, hR⟩ := hrel
          obtain rfl := hR.i
          have hq2 := hR.le
          have HR := Lib.hid hR; clear hR
          by_cases hlq : q < s.length
          · have HIq := Lib.hid (HI1.out.updM HR.out.up (fun k e => by rw [e]; exact HBM.out))
            obtain ⟨fE, fL⟩ := HFL.out q hlq
            have hsu := HAS.out q
            have hle := HCLE.out q
            have hRl : ((List.range (N0 + 1)).map (el s S q)).length = N0 + 1 := by simp
            generalize (List.range (N0 + 1)).map (el s S q) = R at fL hsu hRl
            have HSU := Lib.hid hsu; clear hsu
            have HFE := Lib.hid fE; clear fE
            have HFLq := Lib.hid fL; clear fL
            have HRL := Lib.hid hRl
            have HLE := Lib.hid hle; clear hle
            go_wp2_with fail
            refine (choose_at3 _ _ s _ _ _ (N0 + 1) (by omega) rfl HIq.out).mono ?_
            rintro e w2 ⟨v2, rfl, ho2, hu2⟩
            rw [HFLq.out] at ho2
            rw [HFE.out]
            have hi2 := ho2.ints (by rw [HRL.out]; omega)
            obtain ⟨la, lm, lc, rfl⟩ := ho2.shape3
            have hlm : lm = R.length := by
              obtain ⟨a, c, e⟩ := hi2.shape
              cases e; rfl
            rw [hRl] at hlm
            subst hlm
            have HI2 := Lib.hid hi2; clear hi2
            have hst2 : FairJ (w1.alloc (.map #[] 0)) w1.heap.size (allC s S (N0 + 1) q) R (.int .i64 0) 0 w2 :=
              ⟨rfl, Nat.zero_le _, by
                obtain ⟨M, hM1, hM2⟩ := HR.out.cnt
                exact ⟨M, (hu2.im (im_lt (by rw [hM1]; rfl)) (fun h => h)).trans hM1, by simpa using hM2⟩, HR.out.up.trans (hu2.mono (fun _ _ h => h.elim))⟩
            have HST2 := Lib.hid hst2; clear hst2
            have hbm2 : (w2.im w1.heap.size).isSome = true := by
              obtain ⟨M, hM1, _⟩ := HST2.out.cnt
              rw [hM1]; rfl
            have HBM2 := Lib.hid hbm2; clear hbm2
            have hup2 : Upd (fun k => k = w1.heap.size) (w1.alloc (.map #[] 0)) w2 := HST2.out.up
            clear ho2 hu2 hRl
            generalize allC s S (N0 + 1) q = A at HSU HST2 HLE
            go_wp2_with fail
            go_loopw [80] (fun i wq => ∃ j : Nat, FairJ w2 w1.heap.size A R i j wq) (fun i _ => N0 + 1 - (intOf i).toNat)
            case atStart => exact ⟨0, rfl, Nat.zero_le _, HST2.out.cnt, Upd.refl _ _⟩
            case round =>
              obtain ⟨j, hJ⟩ := hrel
              obtain rfl := hJ.i
              have hj := hJ.le
              rw [HRL.out] at hj
              have HJ := Lib.hid hJ; clear hJ
              have HIj := Lib.hid (HI2.out.updM HJ.out.up (fun k e => by rw [e]; exact HBM2.out))
              by_cases hlj : j < N0 + 1
              · obtain ⟨b, o, rfl, hcell⟩ := HIj.out.cellAt (q := j) (by rw [HRL.out]; exact hlj)
                have htk : R.take (j + 1) = R.take j ++ [at0 R j] := by
                  rw [List.take_succ_eq_append_getElem (by rw [HRL.out]; exact hlj)]; unfold at0; rw [List.getD_eq_getElem?_getD, List.getElem?_eq_getElem (by rw [HRL.out]; exact hlj)]; rfl
                generalize at0 R j = x at hcell htk
                have hput := HJ.out.cnt.put x
                obtain ⟨M, hM1, hM2⟩ := HJ.out.cnt
                have hMx := hM2 x
                have hc : (A ++ R.take j).count x ≤ 300 := by
                  rw [List.count_append]
                  have h1 := HLE.out x
                  have h2 : (R.take j).count x ≤ j := Nat.le_trans List.count_le_length (by rw [List.length_take]; omega)
                  have h3 : q * (N0 + 1) ≤ 16 * 16 := Nat.mul_le_mul (by omega) (by omega)
                  omega
                generalize (A ++ R.take j).count x = c at hput hMx hc
                have HPUT := Lib.hid hput; clear hput hM2
                have HTK := Lib.hid htk; clear htk
                go_wp2_with fail
                go_roundw
                case rel => exact ⟨j + 1, by go_num, by rw [HRL.out]; omega, by rw [HTK.out, ← List.append_assoc]; exact HPUT.out, HJ.out.up.mput (by exact Or.inl rfl) _ _⟩
                case measure => simp [intOf]; omega
              · obtain rfl : j = N0 + 1 := by omega
                have hc := HJ.out.cnt
                rw [List.take_of_length_le (by rw [HRL.out]; exact Nat.le_refl _), ← HSU.out] at hc
                have HC := Lib.hid hc; clear hc
                have HUU := Lib.hid (hup2.trans HJ.out.up); clear hup2
                go_wp2_with fail
                go_roundw
                case rel => exact ⟨q + 1, by go_num, hlq, HC.out, HUU.out⟩
                case measure => simp [intOf]; omega
          · obtain rfl : q = s.length := by omega
            have HI3 := Lib.hid (HI1.out.updM HR.out.up (fun k e => by rw [e]; exact HBM.out))
            obtain ⟨M, hM1, hM2⟩ := HR.out.cnt
            have HM2 := Lib.hid hM2; clear hM2
            have HFIN : Hid (Upd (fun _ => False) w wr) := Lib.hid ((HUP.out.alloc _).trans' HR.out.up (fun i hi e => by have := HUP.out.size; omega))
            clear HR
            go_wp2_with fail
            go_loopw [92] (fun i wq => ∃ j : Nat, j ≤ s.length ∧ i = .int .i64 j ∧ wq = wr) (fun i _ => s.length - (intOf i).toNat)
            case atStart => exact ⟨0, Nat.zero_le _, rfl, rfl⟩
            case round =>
              obtain ⟨j, hj, rfl, rfl⟩ := hrel
              by_cases hlj : j < s.length
              · obtain ⟨b, o, rfl, hcell⟩ := HI3.out.cellAt hlj
                have hMx := HM2.out (at0 s j)
                rw [HCNT.out _ (at0_mem hlj)] at hMx
                generalize at0 s j = x at hcell hMx
                have hMx' : (aget M x).getD (.int .i64 0) = .int .i64 (1 + (N0 : Int)) := by rw [hMx]; congr 1; omega
                clear hMx
                go_wp2_with fail
                go_roundw
                case rel => exact ⟨j + 1, hlj, by go_num, by first | rfl | trivial⟩
                case measure => simp [intOf]; omega
              · obtain rfl : j = s.length := by omega
                go_wp2_with fail
                go_ret
                exact ⟨rfl, HFIN.out⟩
end Go.Proofs.Ytjocoaaeboapcaa
