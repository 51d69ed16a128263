/-
  WalCheckpoints: the walk.
-/
import Derived.Test.YtchpekecgdbphaaWalSyn
import Derived.Test.YtchpekecgdbphaaWalCk
set_option linter.unusedVariables false
namespace Go.Proofs.Ytchpekecgdbphaa
open Go Go.RowKit Go.MapKept Go.ChangeMaps

theorem Ins.txt {w : World} {v : Value} {L : List (List Int)} (h : Ins w v L) : Txt w v L := by
  refine ⟨h.sl, fun i hi => ?_⟩
  obtain ⟨b, o, c, sv, h1, h2, h3⟩ := h.at_ i hi
  exact ⟨b, o, c, sv, h1, h2, h3.b⟩
theorem Ins.isB {w : World} {v : Value} {L : List (List Int)} (h : Ins w v L) : ∀ i, i < L.length → IsB (L.getD i []) := fun i hi => by
  obtain ⟨_, _, _, _, _, _, h3⟩ := h.at_ i hi
  exact h3.is
/-- Texts that came in are fed, where what changes is new. -/
theorem Ins.feed {F : Nat → Prop} {w0 w : World} {v : Value} {L : List (List Int)} (h : Ins w0 v L) (u : Upd (fun _ => False) w0 w) (hF : ∀ i, F i → w0.heap.size ≤ i) : Feed F w v L := by
  refine ⟨h.sl, h.few, fun i hi => ?_⟩
  obtain ⟨b, o, c, sv, h1, h2, h3⟩ := h.at_ i hi
  have hb := World.block_lt_of_cell? _ _ h2
  obtain ⟨a, sc, rfl, hsc⟩ := h3.sl
  refine ⟨b, o, c, a, sc, h1, (u.cell (p := ⟨b, o + i, none⟩) hb (fun h => h)).trans h2, (h3.old u).b, h3.is, h3.few, hsc, fun g => by have := hF _ g; simp only [] at hb; omega, fun hr a' ha g => ?_⟩
  subst ha
  obtain ⟨k, ko, ks⟩ := a'
  have h4 := hF _ g
  rcases h3.b with ⟨e, _⟩ | ⟨k', o', c', e, hc⟩
  · rw [e] at hr; simp at hr
  · cases e
    have := World.block_lt_of_cell? _ _ (hc 0 (by omega))
    simp only [] at this h4
    omega
theorem LogSt.bd {w : World} {wb b ab cm size place : Nat} {n l f : Int} {recs : List (List Int)} {k : Nat} (h : LogSt w wb b ab cm size place n l f recs k) : f ≤ 1152921504606846976 := by
  obtain ⟨D, C, _, _, p3, _⟩ := h.x
  exact p3.f2
set_option maxRecDepth 100000 in
set_option maxHeartbeats 16000000 in
theorem checkpoints_walk (w : World) (sec : Int) (bv v : Value) (B L : List (List Int)) (mask : Int) (hb : Ins w bv B) (hv : Ins w v L) (hm0 : 0 ≤ mask) (hm1 : mask ≤ 18446744073709551615) : Calls Try.prog 6 #[.int .i64 sec, bv, v, .int .u64 mask] w (TruePost w) := by
  obtain ⟨ba, bc, rfl⟩ := hb.sl
  obtain ⟨va, vc, rfl⟩ := hv.sl
  have hbfew := hb.few
  have hfew := hv.few
  have HB := Lib.hid hb; clear hb
  have HV := Lib.hid hv; clear hv
  have HFR := Lib.hid (fresh_law sec w)
  go_enter Try.func6, Try.ntmps6
  go_wp2_with fail
  refine HFR.out.mono ?_
  rintro e w1 ⟨b, ab, cm, wb, hf⟩
  have hun := un40_lt sec
  generalize un40 sec = m at hf hun
  have HST := Lib.hid (fresh_st hf (by omega))
  obtain rfl := hf.e
  obtain ⟨g1, g2, g3, g4⟩ := hf.ge
  have HU1 := Lib.hid hf.up
  have hab : ab < w1.heap.size := HST.out.lt.2.2.1
  have hbw : b < w1.heap.size := HST.out.lt.2.1
  have hcw : cm < w1.heap.size := HST.out.lt.2.2.2
  have hww : wb < w1.heap.size := HST.out.lt.1
  clear hf HFR
  go_wp2_with fail
  go_loopw [11, 31] (fun nn i wr => ∃ (q : Nat) (recs : List (List Int)), nn = .int .i64 recs.length ∧ i = .int .i64 q ∧ q ≤ B.length ∧ LogSt wr wb b ab cm (6 + m) 0 1 1 1 recs 0 ∧ Upd (fun _ => False) w wr) (fun _ i _ => B.length - (intOf i).toNat)
  case atStart => exact ⟨0, [], rfl, rfl, by omega, HST.out, HU1.out⟩
  case round =>
    clear HST HU1
    obtain ⟨q, recs, rfl, rfl, hq, hst, hu⟩ := hrel
    have hmany : recs.length ≤ 6 + m := hst.many
    have HST := Lib.hid hst; clear hst
    have HU := Lib.hid hu; clear hu
    by_cases hlt : q < B.length
    --{A
    · obtain ⟨h, o, c, ka, sc, e1, e2, e4, e5, e6, e7, e8, e9⟩ := (HB.out.feed (F := fun x => x = cm ∨ x = wb) HU.out (fun i h => by rcases h with h | h <;> omega)).at_ q hlt
      cases e1
      have HAP := Lib.hid (app_any _ _ HST.out e4 e5 e6 (fun a n c e => by cases e; exact e7) (fun hr k' o' n' c' e => by cases e; have := e9 hr _ rfl; exact ⟨fun h => this (Or.inl h), fun h => this (Or.inr h)⟩))
      clear e4 e5 e6 e7 e9
      generalize B.getD q [] = r at e2 HAP
      go_wp2_with fail
      refine HAP.out.mono ?_
      rintro e w3 ⟨hu3, ⟨rfl, hs3⟩ | ⟨x, hx, rfl, hs3⟩⟩
      · have HS3 := Lib.hid hs3; clear hs3
        have HU3 := Lib.hid (HU.out.trans' hu3 (fun i hi e => by rcases e with e | e <;> omega)); clear hu3
        go_wp2_with fail
        go_roundw
        case rel => exact ⟨q + 1, recs ++ [r], by rw [List.length_append]; go_num, by go_num, hlt, HS3.out, HU3.out⟩
        case measure => simp [intOf]; omega
      · have HS3 := Lib.hid hs3; clear hs3
        have HU3 := Lib.hid (HU.out.trans' hu3 (fun i hi e => by rcases e with e | e <;> omega)); clear hu3
        rcases hx with rfl | rfl
        all_goals
          go_wp2_with fail
          go_roundw
          case rel => exact ⟨q + 1, recs, rfl, by go_num, hlt, HS3.out, HU3.out⟩
          case measure => simp [intOf]; omega
    --}A
    --{B
    · have HFE := Lib.hid (HV.out.feed (F := fun x => x = ab ∨ x = cm ∨ x = wb) HU.out (fun i h => by rcases h with h | h | h <;> omega))
      go_wp2_with fail
      refine (ck_any wr wb b ab cm (6 + m) 0 1 1 1 recs L 0 _ HST.out HFE.out).mono ?_
      rintro e w2 ⟨hu2, ⟨x, hx, rfl, hs2⟩ | ⟨rfl, hc2⟩⟩
      · have HS2 := Lib.hid hs2; clear hs2
        have HU2 := Lib.hid (HU.out.trans' hu2 (fun i hi e => by rcases e with e | e | e <;> omega)); clear hu2
        have hL := last_st HS2.out (by omega)
        rw [show (1 : Int) + (recs.length : Int) - 1 = (recs.length : Int) by omega] at hL
        have HLA := Lib.hid hL; clear hL
        rcases hx with rfl | rfl
        all_goals
          go_wp2_with fail
          refine HLA.out.mono ?_
          rintro e w3 ⟨rfl, rfl⟩
          go_wp2_with fail
          go_ret
          exact ⟨rfl, HU2.out⟩
      · have HC2 := Lib.hid hc2; clear hc2
        have HU2 := Lib.hid (HU.out.trans' hu2 (fun i hi e => by rcases e with e | e | e <;> omega)); clear hu2
        generalize (0 + usedB recs) % (6 + m) = pl at HC2
        have hLm : L.length ≤ 6 + m := HC2.out.st.many
        have hq1 : decide (0 < (([] : List Int).length : Int)) = false := rfl
        obtain ⟨D, p1, p2, p3⟩ := HC2.out.x
        have HD2 := Lib.hid (dirty_any w2 b ab cm D _ p1)
        clear p1 p2 p3
        go_wp2_with fail
        refine HD2.out.mono ?_
        rintro e w3 ⟨dv, ks, rfl, hks, _, _, hmem, hu3⟩
        obtain rfl : ks = [] := List.eq_nil_iff_forall_not_mem.2 (fun i hi => absurd rfl ((hmem i).1 hi))
        obtain ⟨da, dc, rfl⟩ := hks.shape
        clear hks hmem HD2
        have HC3 := Lib.hid (HC2.out.old hu3)
        have HU3 := Lib.hid (HU2.out.trans hu3)
        have hL := last_st HC3.out.st (by omega)
        rw [show (1 : Int) + (recs.length : Int) + (L.length : Int) - 1 = (recs.length : Int) + (L.length : Int) by omega] at hL
        have HLA := Lib.hid hL
        clear hL hu3 HC2 HU2
        go_wp2_with fail
        refine HLA.out.mono ?_
        rintro e w3' ⟨rfl, rfl⟩
        clear HLA
        obtain ⟨D, p1, p2, p3⟩ := HC3.out.x
        have HD3 := Lib.hid (dirty_any w3 b ab cm D _ p1)
        clear p1 p2 p3
        go_wp2_with fail
        refine HD3.out.mono ?_
        rintro e w4 ⟨dv, ks, rfl, hks, _, hfewk, _, hu4⟩
        have HC4 := Lib.hid (HC3.out.old hu4)
        have HU4 := Lib.hid (HU3.out.trans hu4)
        clear hu4 HC3 HU3 HD3
        go_wp2_with fail
        refine (kept_any w4 dv ks mask hks hfewk hm0 hm1).mono ?_
        rintro e w5 ⟨kv, K, rfl, hkv, hkf, hkl, _, hu5⟩
        have HC5 := Lib.hid (HC4.out.old hu5)
        have HU5 := Lib.hid (HU4.out.trans hu5)
        have hbl := HC4.out.st.lt
        clear hu5 hks HC4 HU4
        go_wp2_with fail
        refine (fall_any kv K (-1) 0 HC5.out.st hkv hkl (fun kb o c k e => by have := hkf kb o _ _ e; omega)).mono ?_
        rintro e w6 ⟨rfl, cm2, hfa, hcm2, hu6⟩
        have HFA := Lib.hid hfa; clear hfa
        have HU6 := Lib.hid (HU5.out.trans' hu6 (fun i hi e => by omega))
        clear hu6 hkv hkf
        have hcm3 : w.heap.size ≤ cm2 := Nat.le_trans HU5.out.size hcm2
        have hfl : cm2 < w6.heap.size := by
          obtain ⟨_, _, _, p1, _⟩ := HFA.out.x
          exact p1.lt.2.2
        have hs6 := HU6.out.size
        have hab6 : ab < w6.heap.size := by
          obtain ⟨_, _, _, p1, _⟩ := HFA.out.x
          exact p1.lt.2.1
        go_wp2_with fail
        refine (open_back HFA.out (by omega) (by omega) (by omega)).mono ?_
        rintro e w7 ⟨wb7, v7, j, hj1, hj2, rfl, hc7, hli7, hby7, hu7, hwb7⟩
        obtain rfl : j = L.length := by omega
        rw [List.take_length] at hc7 hli7 hby7
        obtain ⟨la, lc, rfl⟩ := hli7.txt.sl
        have HC7 := Lib.hid hc7; clear hc7
        have HL7 := Lib.hid hli7; clear hli7 hby7
        have HU7 := Lib.hid (HU6.out.trans' hu7 (fun i hi e => by omega))
        have hsz7 := hu7.size
        clear hu7 HFA
        go_wp2_with fail
        refine (open_back HC7.out.fallen (by omega) (by omega) (by omega)).mono ?_
        rintro e w8 ⟨wb8, v8, j, hj1, hj2, rfl, hc8, hli8, hby8, hu8, hwb8⟩
        obtain rfl : j = L.length := by omega
        rw [List.take_length] at hc8 hli8 hby8
        obtain ⟨la8, lc8, rfl⟩ := hli8.txt.sl
        have HC8 := Lib.hid hc8; clear hc8
        have HL8 := Lib.hid hli8; clear hli8 hby8
        have HU8 := Lib.hid (HU7.out.trans' hu8 (fun i hi e => by omega))
        have HL78 := Lib.hid (HL7.out.upd hu8 (fun k hk hf => by rcases hf with h | h <;> omega))
        obtain ⟨D, p1, p2, p3⟩ := HC7.out.x
        have HW7 := Lib.hid (p2.upd hu8 (fun hf => by rcases hf with h | h <;> omega))
        clear p1 p2 p3 hu8 HL7 HC7 HU7
        go_wp2_with fail
        refine (sameTexts_any _ _ _ L HL78.out.txt (HV.out.old HU8.out).txt HV.out.isB (by omega)).mono ?_
        rintro e w9 ⟨rfl, hu9⟩
        have HC9 := Lib.hid (HC8.out.old hu9)
        have HU9 := Lib.hid (HU8.out.trans hu9)
        have HL9 := Lib.hid (HL8.out.old hu9)
        have HW9 := Lib.hid (HW7.out.old hu9)
        clear hu9 HC8 HU8 HL8 HW7 HL78
        go_wp2_with fail
        refine (sameTexts_any _ _ _ L HL9.out.txt (HV.out.old HU9.out).txt HV.out.isB (by omega)).mono ?_
        rintro e w10 ⟨rfl, hu10⟩
        have HC10 := Lib.hid (HC9.out.old hu10)
        have HU10 := Lib.hid (HU9.out.trans hu10)
        have HW10 := Lib.hid (HW9.out.old hu10)
        clear hu10 HC9 HU9 HL9 HW9
        go_wp2_with fail
        refine (life_any HW10.out).mono ?_
        rintro e w11 ⟨rfl, rfl⟩
        go_wp2_with fail
        refine (life_st HC10.out.st).mono ?_
        rintro e w12 ⟨rfl, rfl⟩
        have hL := last_st HC10.out.st (by omega)
        rw [show (1 : Int) + (recs.length : Int) + (L.length : Int) - 1 = (recs.length : Int) + (L.length : Int) by omega] at hL
        go_wp2_with fail
        refine hL.mono ?_
        rintro e w13 ⟨rfl, rfl⟩
        clear hL
        go_wp2_with fail
        go_ret
        exact ⟨rfl, HU10.out⟩
    --}B
end Go.Proofs.Ytchpekecgdbphaa
