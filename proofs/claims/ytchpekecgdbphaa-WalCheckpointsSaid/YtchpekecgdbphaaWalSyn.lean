/-
  WalSynced: the walk.
-/
import Derived.Test.YtchpekecgdbphaaWalAnew
import Derived.Test.YtchpekecgdbphaaWalY
import Derived.Test.YtchpekecgdbphaaDirtyK
set_option linter.unusedVariables false
namespace Go.Proofs.Ytchpekecgdbphaa
open Go Go.RowKit Go.MapKept Go.ChangeMaps

theorem Txt.front {w : World} {a : Option Addr} {n c j : Nat} {L : List (List Int)} (h : Txt w (.slice a n c) L) (hj : j ≤ L.length) : Txt w (.slice a j c) (L.take j) := by
  have hl : (L.take j).length = j := by rw [List.length_take]; omega
  refine ⟨⟨a, c, by rw [hl]⟩, fun i hi => ?_⟩
  rw [hl] at hi ⊢
  obtain ⟨g, o, c', sv, e, h1, h2⟩ := h.at_ i (by omega)
  cases e
  refine ⟨g, o, c, sv, rfl, h1, ?_⟩
  rw [List.getD_eq_getElem?_getD, List.getElem?_take_of_lt hi, ← List.getD_eq_getElem?_getD]
  exact h2
theorem Wants.cap {w0 w : World} {B n c : Nat} {a : Option Addr} {L : List (List Int)} (h : Wants w0 B w (.slice a n c) L) : L.length ≤ c := by
  obtain ⟨xs, h1, h2, _⟩ := h.row
  obtain ⟨_, ⟨e, h0⟩ | ⟨g, cap, cur, e, hg, hh, hn, _⟩⟩ := h1
  · cases e; omega
  · cases e; omega
theorem last_st {w : World} {wb b ab cm size place : Nat} {n l f : Int} {recs : List (List Int)} {k : Nat} (h : LogSt w wb b ab cm size place n l f recs k) (hf : f + recs.length ≤ 1152921504606846978) : Calls Try.prog 11 #[.pointer (some ⟨wb, 0, none⟩)] w (Same w (.int .i64 (f + recs.length - 1))) := by
  obtain ⟨D, C, h1, h2, h3, h4⟩ := h.x
  have := h3.f1
  exact last_any h2 (by omega) (by omega)
set_option maxRecDepth 100000 in
set_option maxHeartbeats 16000000 in
theorem synced_walk (w : World) (sec : Int) (v : Value) (ds : List DoW) (mask t n : Int) (hv : Dos w v ds) (hm0 : 0 ≤ mask) (hm1 : mask ≤ 18446744073709551615) : Calls Try.prog 5 #[.int .i64 sec, v, .int .u64 mask, .int .i64 t, .int .i64 n] w (TruePost w) := by
  obtain ⟨va, vc, rfl⟩ := hv.sl
  have hfew := hv.few
  have HV := Lib.hid hv; clear hv
  have HFR := Lib.hid (fresh_law sec w)
  go_enter Try.func5, Try.ntmps5
  go_wp2_with fail
  refine HFR.out.mono ?_
  rintro e w1 ⟨b, ab, cm, wb, hf⟩
  have hun := un40_lt sec
  generalize un40 sec = m at hf hun
  have HST := Lib.hid (fresh_st hf (by omega))
  obtain rfl := hf.e
  obtain ⟨g1, g2, g3, g4⟩ := hf.ge
  have HU1 := Lib.hid hf.up
  have hab : ab < w1.heap.size := HST.out.lt.2.2.1
  have hbw : b < w1.heap.size := HST.out.lt.2.1
  have hcw : cm < w1.heap.size := HST.out.lt.2.2.2
  have hww : wb < w1.heap.size := HST.out.lt.1
  have HU1S := Lib.hid hf.up.size
  clear hf HFR
  go_wp2_with fail
  go_loopw [13, 14, 31] (fun want sy i wr => ∃ (q k : Nat) (recs : List (List Int)), sy = .int .i64 k ∧ i = .int .i64 q ∧ q ≤ ds.length ∧ LogSt wr wb b ab cm (6 + m) 0 1 1 1 recs k ∧ Wants w w1.heap.size wr want recs ∧ Upd (fun _ => False) w wr ∧ w1.heap.size ≤ wr.heap.size) (fun _ _ i _ => ds.length - (intOf i).toNat)
  case atStart => exact ⟨0, 0, [], rfl, rfl, by omega, HST.out, Wants.nil _ _ _, HU1.out, Nat.le_refl _⟩
  case round =>
    clear HST HU1
    obtain ⟨q, k, recs, rfl, rfl, hq, hst, hwa, hu, hw1⟩ := hrel
    obtain ⟨xa, xc, rfl⟩ := hwa.shape
    have hmany : recs.length ≤ 6 + m := hst.many
    have HST := Lib.hid hst; clear hst
    have HWA := Lib.hid hwa; clear hwa
    have HU := Lib.hid hu; clear hu
    by_cases hlt : q < ds.length
    · obtain ⟨hb, o, c, row, e, hrow, hcells⟩ := HV.out.at_ q hlt
      cases e
      generalize ds.getD q default = d at hrow
      obtain ⟨rv, sa, sn, sc, hin, rfl, hm0, hm1, hn0, hn1⟩ := hrow
      have hc := fun j (hj : j < 6) => by
        have h1 := hcells j hj
        have h2 : hb < w.heap.size := by
          have h3 := hcells 0 (by omega)
          exact World.block_lt_of_cell? _ _ (show w.cell? ⟨hb, o + q * 6 + 0, none⟩ = some (.int .i64 d.op) from h3)
        exact (HU.out.cell (p := ⟨hb, o + q * 6 + j, none⟩) h2 (fun h => h)).trans h1
      have z0 : wr.cell? ⟨hb, o + q * 6, none⟩ = some (.int .i64 d.op) := hc 0 (by omega)
      have z1 : wr.cell? ⟨hb, o + q * 6 + 1, none⟩ = some (.int .i64 d.torn) := hc 1 (by omega)
      have z2 : wr.cell? ⟨hb, o + q * 6 + 2, none⟩ = some (.int .i64 d.n) := hc 2 (by omega)
      have z3 : wr.cell? ⟨hb, o + q * 6 + 3, none⟩ = some rv := hc 3 (by omega)
      have z4 : wr.cell? ⟨hb, o + q * 6 + 4, none⟩ = some (.slice sa sn sc) := hc 4 (by omega)
      have z5 : wr.cell? ⟨hb, o + q * 6 + 5, none⟩ = some (.int .u64 d.mask) := hc 5 (by omega)
      clear hc hcells
      obtain ⟨ra, rc, rfl, _⟩ := hin.sl
      have HIN := Lib.hid hin; clear hin
      cases hop : (d.op.tmod 3 == 0) with
      | true =>
        go_wp2_with fail
        refine (sync_st (HST.out.old ((Upd.refl _ _).alloc _))).mono ?_
        rintro e w4 ⟨rfl, hs4, hu4⟩
        have HS4 := Lib.hid hs4; clear hs4
        have HW4 := Lib.hid ((HWA.out.old ((Upd.refl _ _).alloc _)).log (HST.out.old ((Upd.refl _ _).alloc _)) hab hu4 (fun i h => by rcases h with h | h; exact Or.inl h; exact Or.inr (Or.inl h)))
        have HU4 := Lib.hid ((HU.out.alloc _).trans' hu4 (fun i hi e => by omega))
        have hsz4 : wr.heap.size ≤ w4.heap.size := Nat.le_trans (by simp) hu4.size
        clear hu4
        go_wp2_with fail
        go_roundw
        case rel => exact ⟨q + 1, recs.length, recs, rfl, rfl, hlt, HS4.out, HW4.out, HU4.out, by omega⟩
        case measure => simp [intOf]; omega
      | false =>
        go_wp2_with fail
        have uA : Upd (fun _ => False) wr (wr.alloc (.cells #[.int .i64 d.op, .int .i64 d.torn, .int .i64 d.n, .slice ra d.txt.length rc, .slice sa sn sc, .int .u64 d.mask] 36)) := (Upd.refl _ _).alloc _
        have k3 : (wr.alloc (.cells #[.int .i64 d.op, .int .i64 d.torn, .int .i64 d.n, .slice ra d.txt.length rc, .slice sa sn sc, .int .u64 d.mask] 36)).cell? ⟨wr.heap.size, 3, none⟩ = some (.slice ra d.txt.length rc) := World.cell?_alloc_at _ _ _ _ rfl
        have hkA : wr.heap.size < (wr.alloc (.cells #[.int .i64 d.op, .int .i64 d.torn, .int .i64 d.n, .slice ra d.txt.length rc, .slice sa sn sc, .int .u64 d.mask] 36)).heap.size := by simp
        generalize (wr.alloc (.cells #[.int .i64 d.op, .int .i64 d.torn, .int .i64 d.n, .slice ra d.txt.length rc, .slice sa sn sc, .int .u64 d.mask] 36)) = wA at uA k3 hkA ⊢
        clear z0 z1 z2 z3 z4 z5
        obtain ⟨kb, hkb⟩ : ∃ kb, kb = wr.heap.size := ⟨_, rfl⟩
        rw [← hkb] at k3 hkA ⊢
        have hlt1 := HST.out.lt
        have hkb2 : wb < kb ∧ b < kb ∧ ab < kb ∧ cm < kb := by omega
        have HSTA := Lib.hid (HST.out.old uA)
        have HWAA := Lib.hid (HWA.out.old uA)
        have HUA := Lib.hid (HU.out.trans uA)
        have hwA : w.heap.size ≤ wA.heap.size := HUA.out.size
        have hw1A : w1.heap.size ≤ wA.heap.size := by omega
        have K := Lib.hid k3
        clear k3 uA hkb
        refine (clone_text _ _ _ (HIN.out.old HUA.out)).mono ?_
        rintro e w2 ⟨⟨v2, rfl, ho2, hcap2⟩, hu2⟩
        have HCAP := Lib.hid hcap2; clear hcap2
        obtain ⟨ca, cc, rfl⟩ := ho2.shape
        have HO2 := Lib.hid ho2; clear ho2
        have U2 := Lib.hid hu2; clear hu2
        go_wp2_with fail
        refine (app_st w2 wb b ab cm (6 + m) 0 1 1 1 recs k (.slice ca d.txt.length cc) d.txt (HSTA.out.old U2.out) HO2.out.byt HIN.out.is HIN.out.few HCAP.out (fun k o n c e => by have := HO2.out.fresh k o n c e; omega)).mono ?_
        rintro e w3 ⟨hu3, hcase⟩
        have U3 := Lib.hid hu3; clear hu3
        have HW3 := Lib.hid ((HWAA.out.old U2.out).log (HSTA.out.old U2.out) hab U3.out (fun i h => by rcases h with h | h; exact Or.inr (Or.inl h); exact Or.inr (Or.inr (Or.inl h))))
        have UW3 := Lib.hid (show Upd (fun _ => False) w w3 from (HUA.out.trans U2.out).trans' U3.out (fun i hi e => by omega))
        have hsz3 : kb < w3.heap.size ∧ w1.heap.size ≤ w3.heap.size := by have := U2.out.size; have := U3.out.size; omega
        have k3 : w3.cell? ⟨kb, 3, none⟩ = some (.slice ra d.txt.length rc) := by
          have hkl : kb < w2.heap.size := by have := U2.out.size; omega
          exact (U3.out.cell (p := ⟨kb, 3, none⟩) hkl (fun h => by simp only [] at h; omega)).trans ((U2.out.cell (p := ⟨kb, 3, none⟩) hkA (fun h => h)).trans K.out)
        rcases hcase with ⟨rfl, hs3⟩ | ⟨x, hx, rfl, hs3⟩
        · have HS3 := Lib.hid hs3; clear hs3
          go_wp2_with (at_builtin; go_must (refine wpList_append_want rfl _ _ rfl w w1.heap.size _ (.slice ra d.txt.length rc) recs d.txt w3.heap.size 1 rfl (HW3.out.old ((Upd.refl _ _).alloc _)) rfl (by rw [World.cell?_alloc_at _ _ _ _ rfl]; rfl) HIN.out (by omega) (by simp; omega) ?_))
          intro v5 wX hw5 hu5
          obtain ⟨ya, yc, rfl⟩ := hw5.shape
          have U5 : Hid (Upd (fun k => some k = Value.ownBlock (.slice xa recs.length xc)) w3 wX) := Lib.hid (((Upd.refl _ _).alloc _).trans hu5)
          have HTG := Lib.hid (HW3.out.tag)
          have HSX := Lib.hid (HS3.out.row U5.out (fun i hi => by obtain ⟨t1, t2, t3⟩ := HTG.out i hi; exact ⟨by omega, t3⟩))
          have HWX := Lib.hid hw5; clear hw5 hu5
          have UWX := Lib.hid (UW3.out.trans' U5.out (fun i hi e => by obtain ⟨t1, _⟩ := HTG.out i e; have := HU1S.out; omega))
          have hszX : w1.heap.size ≤ wX.heap.size := by have := U5.out.size; omega
          clear k3
          go_wp2_with fail
          go_roundw
          case rel => exact ⟨q + 1, k, recs ++ [d.txt], rfl, rfl, hlt, HSX.out, HWX.out, UWX.out, hszX⟩
          case measure => simp [intOf]; omega
        · have HS3 := Lib.hid hs3; clear hs3
          rcases hx with rfl | rfl
          all_goals
            go_wp2_with fail
            go_roundw
            case rel => exact ⟨q + 1, k, recs, rfl, rfl, hlt, HS3.out, HW3.out, UW3.out, hsz3.2⟩
            case measure => simp [intOf]; omega
    · go_wp2_with fail
      obtain ⟨D, C, p1, p2, p3, p4⟩ := HST.out.x
      refine (dirty_any wr b ab cm D C p1).mono ?_
      rintro e w2 ⟨dv, ks, rfl, hks, hfr, hfewk, _, hu2⟩
      clear p1 p2 p3 p4
      have HST2 := Lib.hid (HST.out.old hu2)
      have HWA2 := Lib.hid (HWA.out.old hu2)
      have HU2 := Lib.hid (HU.out.trans hu2)
      have hsz2 := hu2.size
      clear hu2 hfr
      go_wp2_with fail
      refine (kept_any w2 dv ks mask hks hfewk hm0 hm1).mono ?_
      rintro e w3 ⟨kv, K, rfl, hkv, hkf, hkl, _, hu3⟩
      have HST3 := Lib.hid (HST2.out.old hu3)
      have HWA3 := Lib.hid (HWA2.out.old hu3)
      have HU3 := Lib.hid (HU2.out.trans hu3)
      have hsz3 := hu3.size
      clear hu3 hks
      go_wp2_with fail
      refine (fall_any kv K t n HST3.out hkv hkl (fun kb o c k e => by have := hkf kb o _ _ e; omega)).mono ?_
      rintro e w4 ⟨rfl, cm2, hfa, hcm2, hu4⟩
      have HFA := Lib.hid hfa; clear hfa
      have HWA4 := Lib.hid (HWA3.out.log HST3.out hab hu4 (fun i h => by rcases h with h | h; exact Or.inr (Or.inr (Or.inr h)); exact Or.inl h))
      have HU4 := Lib.hid (HU3.out.trans' hu4 (fun i hi e => by omega))
      have hsz4 := hu4.size
      clear hu4 hkv hkf
      go_wp2_with fail
      refine (open_back HFA.out (by omega) (by omega) (by omega)).mono ?_
      rintro e w5 ⟨wb2, v5, j, hj1, hj2, rfl, hs5, hli5, hby5, hu5, hwb2⟩
      obtain ⟨la, lc, rfl⟩ := hli5.txt.sl
      have HS5 := Lib.hid hs5.st; clear hs5
      have HL5 := Lib.hid hli5; clear hli5 hby5
      have HWA5 := Lib.hid (HWA4.out.upd hu5 (fun k hk ho hf => by have := (HWA3.out.tag k ho).2.1; rcases hf with h | h <;> omega))
      have HU5 := Lib.hid (HU4.out.trans' hu5 (fun i hi e => by have := HU1S.out; omega))
      have hsz5 := hu5.size
      clear hu5
      have hcap := HWA5.out.cap
      have hq1 : decide ((k : Int) ≤ (j : Int)) = true := decide_eq_true (by omega)
      have hq2 : decide ((j : Int) ≤ (recs.length : Int)) = true := decide_eq_true (by omega)
      have hjl : (recs.take j).length = j := by rw [List.length_take]; omega
      go_wp2_with fail
      refine (life_st HS5.out).mono ?_
      rintro e w6 ⟨rfl, rfl⟩
      have hT1 : Txt w5 (.slice la j lc) (recs.take j) := by have h := HL5.out.txt; rw [hjl] at h; exact h
      go_wp2_with fail
      refine (sameTexts_any _ _ _ (recs.take j) hT1 ((HWA5.out.txt HU5.out).front hj2) (fun i hi => by
        rw [hjl] at hi
        rw [List.getD_eq_getElem?_getD, List.getElem?_take_of_lt hi, ← List.getD_eq_getElem?_getD]
        exact HWA5.out.isB i (by omega)) (by rw [hjl]; omega)).mono ?_
      rintro e w7 ⟨rfl, hu7⟩
      have HS7 := Lib.hid (HS5.out.old hu7)
      have HU7 := Lib.hid (HU5.out.trans hu7)
      clear hu7 hT1
      go_wp2_with fail
      have hL := last_st HS7.out (by rw [hjl]; omega)
      rw [hjl, show (1 : Int) + (j : Int) - 1 = (j : Int) by omega] at hL
      refine hL.mono ?_
      rintro e w8 ⟨rfl, rfl⟩
      go_wp2_with fail
      go_ret
      exact ⟨rfl, HU7.out⟩
end Go.Proofs.Ytchpekecgdbphaa
