/-
  WalAnew: the walk.
-/
import Derived.Test.YtchpekecgdbphaaWalG
import Derived.Test.YtchpekecgdbphaaWalD
import Derived.Test.YtchpekecgdbphaaWalRoom
set_option linter.unusedVariables false
namespace Go.Proofs.Ytchpekecgdbphaa
open Go Go.RowKit Go.MapKept Go.ChangeMaps

theorem un200 : un40 200 = 0 := by decide
theorem fresh_st {w w' : World} {m b ab cm wb : Nat} {e : Ending} (h : FreshL w m b ab cm wb e w') (hm : m < 40) : LogSt w' wb b ab cm (6 + m) 0 1 1 1 [] 0 := by
  refine ⟨_, _, h.p, by simpa [usedB] using h.wal, ?_, fun h => absurd h (Nat.lt_irrefl _)⟩
  refine log_fresh (by omega) (by omega) (by rw [headed_length, List.length_replicate]; omega) ?_ (fun i hi hne => ?_)
  · exact headed_at (by rw [List.length_replicate]; omega)
  · rw [headed_other (by rw [List.length_replicate]; omega) hne]
    exact rep_at (by omega)
theorem LogSt.row {F : Nat → Prop} {w w' : World} {wb b ab cm size place : Nat} {n l f : Int} {recs : List (List Int)} {k : Nat} (h : LogSt w wb b ab cm size place n l f recs k) (u : Upd F w w') (hF : ∀ i, F i → i ≠ ab ∧ ∃ cur, w.heap[i]? = some (.cells cur 28 (0, 0))) : LogSt w' wb b ab cm size place n l f recs k := by
  obtain ⟨D, C, p1, p2, p3, p4⟩ := h.x
  refine ⟨D, C, p1.upd u (fun hf => ?_) (fun hf => (hF _ hf).1 rfl) (fun hf => ?_) (fun i hf cur fr e => ?_), p2.upd u (fun hf => ?_), p3, p4⟩
  · obtain ⟨_, cur, ht⟩ := hF _ hf
    obtain ⟨cur', ht'⟩ := p1.tag
    rw [ht] at ht'; cases ht'
  · obtain ⟨_, cur, ht⟩ := hF _ hf
    obtain ⟨M, hm, _⟩ := p1.cache
    unfold World.im at hm
    rw [ht] at hm; cases hm
  · obtain ⟨_, cur', ht⟩ := hF _ hf
    rw [ht] at e; cases e
  · obtain ⟨_, cur, ht⟩ := hF _ hf
    obtain ⟨cur', ht'⟩ := p2.tag
    rw [ht] at ht'; cases ht'
/-- The wanted texts' row is none of the log's blocks. -/
theorem Wants.log {F : Nat → Prop} {w0 w w' : World} {B wb b ab cm size place : Nat} {n l f : Int} {recs L : List (List Int)} {k : Nat} {v : Value} (h : Wants w0 B w v L) (hs : LogSt w wb b ab cm size place n l f recs k) (hab : ab < B) (u : Upd F w w') (hF : ∀ i, F i → i = ab ∨ i = cm ∨ i = wb ∨ i = b) : Wants w0 B w' v L := by
  refine h.upd u (fun i hi hown hf => ?_)
  obtain ⟨_, _, cur, ht⟩ := h.tag i hown
  obtain ⟨D, C, p1, p2, _⟩ := hs.x
  rcases hF i hf with e | e | e | e
  · omega
  · obtain ⟨M, hm, _⟩ := p1.cache
    unfold World.im at hm
    rw [← e, ht] at hm; cases hm
  · obtain ⟨cur', ht'⟩ := p2.tag
    rw [← e, ht] at ht'; cases ht'
  · obtain ⟨cur', ht'⟩ := p1.tag
    rw [← e, ht] at ht'; cases ht'
theorem LogSt.many {w : World} {wb b ab cm size place : Nat} {n l f : Int} {recs : List (List Int)} {k : Nat} (h : LogSt w wb b ab cm size place n l f recs k) : recs.length ≤ size := by
  obtain ⟨D, C, _, _, p3, _⟩ := h.x
  have := p3.rs.many; have := p3.rs.room; omega
set_option maxRecDepth 100000 in
set_option maxHeartbeats 16000000 in
theorem anew_walk (w : World) (v : Value) (ds : List DoW) (hv : Dos w v ds) : Calls Try.prog 4 #[v] w (TruePost w) := by
  obtain ⟨va, vc, rfl⟩ := hv.sl
  have hfew := hv.few
  have HV := Lib.hid hv; clear hv
  have hfr := fresh_law 200 w
  rw [un200] at hfr
  have HFR := Lib.hid hfr; clear hfr
  go_enter Try.func4, Try.ntmps4
  go_wp2_with fail
  refine HFR.out.mono ?_
  rintro e w1 ⟨b, ab, cm, wb, hf⟩
  have HST := Lib.hid (fresh_st hf (by omega))
  obtain rfl := hf.e
  obtain ⟨g1, g2, g3, g4⟩ := hf.ge
  have HU1 := Lib.hid hf.up
  have hab : ab < w1.heap.size := HST.out.lt.2.2.1
  have HU1S := Lib.hid hf.up.size
  clear hf HFR
  go_wp2_with fail
  go_loopw [3, 5, 21] (fun lg want i wr => ∃ (q wb cm : Nat) (recs : List (List Int)), lg = .pointer (some ⟨wb, 0, none⟩) ∧ i = .int .i64 q ∧ q ≤ ds.length ∧ q ≤ 13 ∧ LogSt wr wb b ab cm 6 0 ((q : Int) + 1) ((q : Int) + 1) 1 recs recs.length ∧ Wants w w1.heap.size wr want recs ∧ Upd (fun _ => False) w wr ∧ w1.heap.size ≤ wr.heap.size ∧ w.heap.size ≤ cm ∧ w.heap.size ≤ wb) (fun _ _ i _ => ds.length - (intOf i).toNat)
  case atStart => exact ⟨0, wb, cm, [], rfl, rfl, by omega, by omega, HST.out, Wants.nil _ _ _, HU1.out, Nat.le_refl _, g3, g4⟩
  case round =>
    clear HST HU1 g3 g4
    obtain ⟨q, wv, cv, recs, rfl, rfl, hq, hq13, hst, hwa, hu, hw1, g3, g4⟩ := hrel
    obtain ⟨xa, xc, rfl⟩ := hwa.shape
    have hmany : recs.length ≤ 6 := hst.many
    have hlt0 := hst.lt
    have HST := Lib.hid hst; clear hst
    have HWA := Lib.hid hwa; clear hwa
    have HU := Lib.hid hu; clear hu
    by_cases hlt : q < ds.length
    · obtain ⟨hb, o, c, row, e, hrow, hcells⟩ := HV.out.at_ q hlt
      cases e
      generalize ds.getD q default = d at hrow
      obtain ⟨rv, sa, sn, sc, hin, rfl, hm0, hm1, hn0, hn1⟩ := hrow
      have hc := fun j (hj : j < 6) => by
        have h1 := hcells j hj
        have h2 : hb < w.heap.size := by
          have h3 := hcells 0 (by omega)
          exact World.block_lt_of_cell? _ _ (show w.cell? ⟨hb, o + q * 6 + 0, none⟩ = some (.int .i64 d.op) from h3)
        exact (HU.out.cell (p := ⟨hb, o + q * 6 + j, none⟩) h2 (fun h => h)).trans h1
      have z0 : wr.cell? ⟨hb, o + q * 6, none⟩ = some (.int .i64 d.op) := hc 0 (by omega)
      have z1 : wr.cell? ⟨hb, o + q * 6 + 1, none⟩ = some (.int .i64 d.torn) := hc 1 (by omega)
      have z2 : wr.cell? ⟨hb, o + q * 6 + 2, none⟩ = some (.int .i64 d.n) := hc 2 (by omega)
      have z3 : wr.cell? ⟨hb, o + q * 6 + 3, none⟩ = some rv := hc 3 (by omega)
      have z4 : wr.cell? ⟨hb, o + q * 6 + 4, none⟩ = some (.slice sa sn sc) := hc 4 (by omega)
      have z5 : wr.cell? ⟨hb, o + q * 6 + 5, none⟩ = some (.int .u64 d.mask) := hc 5 (by omega)
      clear hc hcells
      obtain ⟨ra, rc, rfl, _⟩ := hin.sl
      have HIN := Lib.hid hin; clear hin
      by_cases h12 : 12 < q
      · have q1 : (12 : Int) < (q : Int) := by omega
        go_wp2_with (go_at_call 17; refine (life_st (HST.out.old ((Upd.refl _ _).alloc _))).mono ?_; rintro e w2 ⟨rfl, rfl⟩)
        go_ret
        exact ⟨rfl, HU.out.alloc _⟩
      · have q1 : ¬ (12 : Int) < (q : Int) := by omega
        go_wp2_with fail
        have uA : Upd (fun _ => False) wr (wr.alloc (.cells #[.int .i64 d.op, .int .i64 d.torn, .int .i64 d.n, .slice ra d.txt.length rc, .slice sa sn sc, .int .u64 d.mask] 36)) := (Upd.refl _ _).alloc _
        have k1 : (wr.alloc (.cells #[.int .i64 d.op, .int .i64 d.torn, .int .i64 d.n, .slice ra d.txt.length rc, .slice sa sn sc, .int .u64 d.mask] 36)).cell? ⟨wr.heap.size, 1, none⟩ = some (.int .i64 d.torn) := World.cell?_alloc_at _ _ _ _ rfl
        have k2 : (wr.alloc (.cells #[.int .i64 d.op, .int .i64 d.torn, .int .i64 d.n, .slice ra d.txt.length rc, .slice sa sn sc, .int .u64 d.mask] 36)).cell? ⟨wr.heap.size, 2, none⟩ = some (.int .i64 d.n) := World.cell?_alloc_at _ _ _ _ rfl
        have k3 : (wr.alloc (.cells #[.int .i64 d.op, .int .i64 d.torn, .int .i64 d.n, .slice ra d.txt.length rc, .slice sa sn sc, .int .u64 d.mask] 36)).cell? ⟨wr.heap.size, 3, none⟩ = some (.slice ra d.txt.length rc) := World.cell?_alloc_at _ _ _ _ rfl
        have hkA : wr.heap.size < (wr.alloc (.cells #[.int .i64 d.op, .int .i64 d.torn, .int .i64 d.n, .slice ra d.txt.length rc, .slice sa sn sc, .int .u64 d.mask] 36)).heap.size := by simp
        generalize (wr.alloc (.cells #[.int .i64 d.op, .int .i64 d.torn, .int .i64 d.n, .slice ra d.txt.length rc, .slice sa sn sc, .int .u64 d.mask] 36)) = wA at uA k1 k2 k3 hkA ⊢
        clear z0 z1 z2 z3 z4 z5
        obtain ⟨kb, hkb⟩ : ∃ kb, kb = wr.heap.size := ⟨_, rfl⟩
        rw [← hkb] at k1 k2 k3 hkA ⊢
        have HOWN : Hid (∀ k, some k = Value.ownBlock (.slice xa recs.length xc) → k < kb) := Lib.hid (fun k e => by have := (HWA.out.tag k e).2.1; omega)
        have hlt1 := HST.out.lt
        have hkb2 : wv < kb ∧ b < kb ∧ ab < kb ∧ cv < kb := by omega
        clear hkb hlt0
        have HSTA := Lib.hid (HST.out.old uA)
        have HWAA := Lib.hid (HWA.out.old uA)
        have HUA := Lib.hid (HU.out.trans uA)
        have UA := Lib.hid uA
        have hwA : w.heap.size ≤ wA.heap.size := HUA.out.size
        have K := Lib.hid (And.intro k1 (And.intro k2 k3))
        clear k1 k2 k3 uA
        refine (clone_text _ _ _ (HIN.out.old HUA.out)).mono ?_
        rintro e w2 ⟨⟨v2, rfl, ho2, hcap2⟩, hu2⟩
        have HCAP := Lib.hid hcap2; clear hcap2
        obtain ⟨ca, cc, rfl⟩ := ho2.shape
        have HO2 := Lib.hid ho2; clear ho2
        have U2 := Lib.hid hu2; clear hu2
        go_wp2_with fail
        refine (app_st w2 wv b ab cv 6 0 ((q : Int) + 1) ((q : Int) + 1) 1 recs recs.length (.slice ca d.txt.length cc) d.txt (HSTA.out.old U2.out) HO2.out.byt HIN.out.is HIN.out.few HCAP.out (fun k o n c e => by have := HO2.out.fresh k o n c e; omega)).mono ?_
        rintro e w3 ⟨hu3, hcase⟩
        have U3 := Lib.hid hu3; clear hu3
        have HW3 := Lib.hid ((HWAA.out.old U2.out).log (HSTA.out.old U2.out) hab U3.out (fun i h => by rcases h with h | h; exact Or.inr (Or.inl h); exact Or.inr (Or.inr (Or.inl h))))
        have UW3 := Lib.hid (show Upd (fun _ => False) w w3 from (HUA.out.trans U2.out).trans' U3.out (fun i hi e => by omega))
        have K3 : Hid (w3.cell? ⟨kb, 1, none⟩ = some (.int .i64 d.torn) ∧ w3.cell? ⟨kb, 2, none⟩ = some (.int .i64 d.n) ∧ w3.cell? ⟨kb, 3, none⟩ = some (.slice ra d.txt.length rc)) := Lib.hid (by
          have hkl : kb < w2.heap.size := by have := U2.out.size; omega
          have c2 := fun o => U2.out.cell (p := ⟨kb, o, none⟩) hkA (fun h => h)
          have c3 := fun o => U3.out.cell (p := ⟨kb, o, none⟩) hkl (fun h => by simp only [] at h; omega)
          exact ⟨(c3 1).trans ((c2 1).trans K.out.1), (c3 2).trans ((c2 2).trans K.out.2.1), (c3 3).trans ((c2 3).trans K.out.2.2)⟩)
        have hw23 : kb < w3.heap.size ∧ w1.heap.size ≤ w3.heap.size := by have := U2.out.size; have := U3.out.size; have := UA.out.size; omega
        rcases hcase with ⟨rfl, hs3⟩ | ⟨x, hx, rfl, hs3⟩
        · have HS3 := Lib.hid hs3; clear hs3
          go_wp2_with fail
          refine (sync_st HS3.out).mono ?_
          rintro e w4 ⟨rfl, hs4, hu4⟩
          have HS4 := Lib.hid hs4; clear hs4
          have U4 := Lib.hid hu4; clear hu4
          have hkn : kb ≠ ab ∧ kb ≠ cv := by omega
          have hF4 : ¬ (kb = ab ∨ kb = cv) := by omega
          have k1 := (U4.out.cell (p := ⟨kb, 1, none⟩) hw23.1 hF4).trans K3.out.1
          have k2 := (U4.out.cell (p := ⟨kb, 2, none⟩) hw23.1 hF4).trans K3.out.2.1
          have k3 := (U4.out.cell (p := ⟨kb, 3, none⟩) hw23.1 hF4).trans K3.out.2.2
          have HW4 := Lib.hid (HW3.out.log HS3.out hab U4.out (fun i h => by rcases h with h | h; exact Or.inl h; exact Or.inr (Or.inl h)))
          have UW4 := Lib.hid (UW3.out.trans' U4.out (fun i hi e => by omega))
          have hw34 := U4.out.size
          go_wp2_with (at_builtin; go_must (refine wpList_append_want rfl _ _ rfl w w1.heap.size _ (.slice ra d.txt.length rc) recs d.txt w4.heap.size 1 rfl (HW4.out.old ((Upd.refl _ _).alloc _)) rfl (by rw [World.cell?_alloc_at _ _ _ _ rfl]; rfl) HIN.out (by omega) (by simp; omega) ?_))
          intro v5 wX hw5 hu5
          obtain ⟨ya, yc, rfl⟩ := hw5.shape
          have U5 : Hid (Upd (fun k => some k = Value.ownBlock (.slice xa recs.length xc)) w4 wX) := Lib.hid (((Upd.refl _ _).alloc _).trans hu5)
          have HTG := Lib.hid (HW4.out.tag)
          have HSX0 := Lib.hid (HS4.out.row U5.out (fun i hi => by obtain ⟨t1, t2, t3⟩ := HTG.out i hi; exact ⟨by omega, t3⟩))
          have HWX0 := Lib.hid hw5; clear hw5 hu5
          have UWX := Lib.hid (UW4.out.trans' U5.out (fun i hi e => by obtain ⟨t1, _⟩ := HTG.out i e; have := HU1S.out; omega))
          have hszX : kb < wX.heap.size ∧ w1.heap.size ≤ wX.heap.size := by have := U5.out.size; omega
          have hk4 : kb < w4.heap.size := by omega
          have hF5 : ¬ (some kb = Value.ownBlock (.slice xa recs.length xc)) := fun e => absurd (HOWN.out kb e) (Nat.lt_irrefl _)
          have KX : Hid (wX.cell? ⟨kb, 1, none⟩ = some (.int .i64 d.torn) ∧ wX.cell? ⟨kb, 2, none⟩ = some (.int .i64 d.n)) := Lib.hid ⟨(U5.out.cell (p := ⟨kb, 1, none⟩) hk4 hF5).trans k1, (U5.out.cell (p := ⟨kb, 2, none⟩) hk4 hF5).trans k2⟩
          clear k1 k2 k3 hF5 hF4
          obtain ⟨recsN, hRN⟩ : ∃ recsN, recsN = recs ++ [d.txt] := ⟨_, rfl⟩
          have HSX : Hid (LogSt wX wv b ab cv 6 0 ((q : Int) + 1) ((q : Int) + 1) 1 recsN recsN.length) := by rw [hRN]; exact HSX0
          have HWX : Hid (Wants w w1.heap.size wX (.slice ya (recs.length + 1) yc) recsN) := by
            rw [hRN]
            have h := HWX0.out
            rw [List.length_append] at h
            exact Lib.hid h
          clear HSX0 HWX0 hRN
          go_wp2_with fail
          refine (app_st _ wv b ab cv 6 0 ((q : Int) + 1) ((q : Int) + 1) 1 recsN recsN.length (.slice (some ⟨wX.heap.size, 0, none⟩) 2 2) [9, (q : Int)] (HSX.out.old ((Upd.refl _ _).alloc _)) (row_byt (w := wX) (l := [9, (q : Int)]) (by simp)) (fun y hy => by simp only [List.mem_cons, List.not_mem_nil, or_false] at hy; omega) (by simp) (fun a n c e => by cases e; exact Nat.le_refl _) (fun k o n c e => by cases e; omega)).mono ?_
          rintro e w6 ⟨hu6, hcase6⟩
          have U6 : Hid (Upd (fun x => x = cv ∨ x = wv) wX w6) := Lib.hid (((Upd.refl _ _).alloc _).trans hu6)
          have hs6 : ∃ recs2, LogSt w6 wv b ab cv 6 0 ((q : Int) + 1) ((q : Int) + 1) 1 recs2 recsN.length ∧ recs2.take recsN.length = recsN ∧ ∃ x y, e = .returned (.tuple #[.int .i64 x, .int .i64 y]) := by
            rcases hcase6 with ⟨rfl, h⟩ | ⟨x, _, rfl, h⟩
            · exact ⟨_, h, List.take_left, _, _, rfl⟩
            · exact ⟨_, h, List.take_length, _, _, rfl⟩
          clear hcase6 hu6
          obtain ⟨recs2, hs6, htk, x6, y6, rfl⟩ := hs6
          have HS6 := Lib.hid hs6; clear hs6
          have HTK := Lib.hid htk; clear htk
          have HW6 := Lib.hid (HWX.out.log HSX.out hab U6.out (fun i h => by rcases h with h | h; exact Or.inr (Or.inl h); exact Or.inr (Or.inr (Or.inl h))))
          have UW6 := Lib.hid (UWX.out.trans' U6.out (fun i hi e => by omega))
          have hF6 : ¬ (kb = cv ∨ kb = wv) := by omega
          have m1 := (U6.out.cell (p := ⟨kb, 1, none⟩) hszX.1 hF6).trans KX.out.1
          have m2 := (U6.out.cell (p := ⟨kb, 2, none⟩) hszX.1 hF6).trans KX.out.2
          have hsz6 := U6.out.size
          go_wp2_with fail
          refine (fall_lost d.torn (d.n.tmod 60) HS6.out (by have := Int.tmod_lt_of_pos d.n (show (0 : Int) < 60 by decide); omega)).mono ?_
          rintro e w7 ⟨rfl, cm2, hfa, hcm2, hu7⟩
          have HFA := Lib.hid hfa; clear hfa
          have U7 := Lib.hid hu7; clear hu7
          have HW7 := Lib.hid (HW6.out.log HS6.out hab U7.out (fun i h => by rcases h with h | h; exact Or.inr (Or.inr (Or.inr h)); exact Or.inl h))
          have UW7 := Lib.hid (UW6.out.trans' U7.out (fun i hi e => by omega))
          have hsz7 := U7.out.size
          go_wp2_with fail
          refine (open_lost HFA.out (by omega) (by omega) (by omega)).mono ?_
          rintro e w8 ⟨wb2, v8, rfl, hs8, hli8, hby8, hu8, hwb2⟩
          rw [HTK.out] at hs8 hli8 hby8
          obtain ⟨la, lc, rfl⟩ := hli8.txt.sl
          have HS8 := Lib.hid hs8; clear hs8
          have HL8 := Lib.hid hli8; clear hli8 hby8
          have U8 := Lib.hid hu8; clear hu8
          have HW8 := Lib.hid (HW7.out.upd U8.out (fun k hk ho hf => by have := (HW6.out.tag k ho).2.1; rcases hf with h | h <;> omega))
          have UW8 := Lib.hid (UW7.out.trans' U8.out (fun i hi e => by have := HU1S.out; omega))
          have hsz8 := U8.out.size
          go_wp2_with fail
          refine (sameTexts_any _ _ _ recsN HL8.out.txt (HW8.out.txt UW8.out) HW8.out.isB (by have := HS8.out.many; omega)).mono ?_
          rintro e w9 ⟨rfl, hu9⟩
          have HS9 := Lib.hid (HS8.out.old hu9)
          have HW9 := Lib.hid (HW8.out.old hu9)
          have UW9 := Lib.hid (UW8.out.trans hu9)
          have hsz9 := hu9.size
          clear hu9
          go_wp2_with fail
          refine (life_st HS9.out).mono ?_
          rintro e w10 ⟨rfl, rfl⟩
          go_wp2_with fail
          refine ⟨⟨q + 1, wb2, cm2, recsN, rfl, rfl, by omega, by omega, HS9.out, HW9.out, UW9.out, by omega, by have := HU1S.out; omega, by have := HU1S.out; omega⟩, ?_⟩
          simp only [intOf]
          omega
        · have HS3 := Lib.hid hs3; clear hs3
          have qx : (x == 0) = false := by rcases hx with rfl | rfl <;> rfl
          obtain ⟨wX, hwX⟩ : ∃ wX, wX = w3 := ⟨_, rfl⟩
          obtain ⟨recsN, hRN⟩ : ∃ recsN, recsN = recs := ⟨_, rfl⟩
          subst hRN hwX
          have HSX := HS3
          have HWX := HW3
          have UWX := UW3
          have hszX := hw23
          have KX := Lib.hid (And.intro K3.out.1 K3.out.2.1)
          go_wp2_with fail
          refine (app_st _ wv b ab cv 6 0 ((q : Int) + 1) ((q : Int) + 1) 1 recsN recsN.length (.slice (some ⟨wX.heap.size, 0, none⟩) 2 2) [9, (q : Int)] (HSX.out.old ((Upd.refl _ _).alloc _)) (row_byt (w := wX) (l := [9, (q : Int)]) (by simp)) (fun y hy => by simp only [List.mem_cons, List.not_mem_nil, or_false] at hy; omega) (by simp) (fun a n c e => by cases e; exact Nat.le_refl _) (fun k o n c e => by cases e; omega)).mono ?_
          rintro e w6 ⟨hu6, hcase6⟩
          have U6 : Hid (Upd (fun x => x = cv ∨ x = wv) wX w6) := Lib.hid (((Upd.refl _ _).alloc _).trans hu6)
          have hs6 : ∃ recs2, LogSt w6 wv b ab cv 6 0 ((q : Int) + 1) ((q : Int) + 1) 1 recs2 recsN.length ∧ recs2.take recsN.length = recsN ∧ ∃ x y, e = .returned (.tuple #[.int .i64 x, .int .i64 y]) := by
            rcases hcase6 with ⟨rfl, h⟩ | ⟨x, _, rfl, h⟩
            · exact ⟨_, h, List.take_left, _, _, rfl⟩
            · exact ⟨_, h, List.take_length, _, _, rfl⟩
          clear hcase6 hu6
          obtain ⟨recs2, hs6, htk, x6, y6, rfl⟩ := hs6
          have HS6 := Lib.hid hs6; clear hs6
          have HTK := Lib.hid htk; clear htk
          have HW6 := Lib.hid (HWX.out.log HSX.out hab U6.out (fun i h => by rcases h with h | h; exact Or.inr (Or.inl h); exact Or.inr (Or.inr (Or.inl h))))
          have UW6 := Lib.hid (UWX.out.trans' U6.out (fun i hi e => by omega))
          have hF6 : ¬ (kb = cv ∨ kb = wv) := by omega
          have m1 := (U6.out.cell (p := ⟨kb, 1, none⟩) hszX.1 hF6).trans KX.out.1
          have m2 := (U6.out.cell (p := ⟨kb, 2, none⟩) hszX.1 hF6).trans KX.out.2
          have hsz6 := U6.out.size
          go_wp2_with fail
          refine (fall_lost d.torn (d.n.tmod 60) HS6.out (by have := Int.tmod_lt_of_pos d.n (show (0 : Int) < 60 by decide); omega)).mono ?_
          rintro e w7 ⟨rfl, cm2, hfa, hcm2, hu7⟩
          have HFA := Lib.hid hfa; clear hfa
          have U7 := Lib.hid hu7; clear hu7
          have HW7 := Lib.hid (HW6.out.log HS6.out hab U7.out (fun i h => by rcases h with h | h; exact Or.inr (Or.inr (Or.inr h)); exact Or.inl h))
          have UW7 := Lib.hid (UW6.out.trans' U7.out (fun i hi e => by omega))
          have hsz7 := U7.out.size
          go_wp2_with fail
          refine (open_lost HFA.out (by omega) (by omega) (by omega)).mono ?_
          rintro e w8 ⟨wb2, v8, rfl, hs8, hli8, hby8, hu8, hwb2⟩
          rw [HTK.out] at hs8 hli8 hby8
          obtain ⟨la, lc, rfl⟩ := hli8.txt.sl
          have HS8 := Lib.hid hs8; clear hs8
          have HL8 := Lib.hid hli8; clear hli8 hby8
          have U8 := Lib.hid hu8; clear hu8
          have HW8 := Lib.hid (HW7.out.upd U8.out (fun k hk ho hf => by have := (HW6.out.tag k ho).2.1; rcases hf with h | h <;> omega))
          have UW8 := Lib.hid (UW7.out.trans' U8.out (fun i hi e => by have := HU1S.out; omega))
          have hsz8 := U8.out.size
          go_wp2_with fail
          refine (sameTexts_any _ _ _ recsN HL8.out.txt (HW8.out.txt UW8.out) HW8.out.isB (by have := HS8.out.many; omega)).mono ?_
          rintro e w9 ⟨rfl, hu9⟩
          have HS9 := Lib.hid (HS8.out.old hu9)
          have HW9 := Lib.hid (HW8.out.old hu9)
          have UW9 := Lib.hid (UW8.out.trans hu9)
          have hsz9 := hu9.size
          clear hu9
          go_wp2_with fail
          refine (life_st HS9.out).mono ?_
          rintro e w10 ⟨rfl, rfl⟩
          go_wp2_with fail
          refine ⟨⟨q + 1, wb2, cm2, recsN, rfl, rfl, by omega, by omega, HS9.out, HW9.out, UW9.out, by omega, by have := HU1S.out; omega, by have := HU1S.out; omega⟩, ?_⟩
          simp only [intOf]
          omega
    · go_wp2_with (go_at_call 17; refine (life_st HST.out).mono ?_; rintro e w2 ⟨rfl, rfl⟩)
      go_ret
      exact ⟨rfl, HU.out⟩
end Go.Proofs.Ytchpekecgdbphaa
