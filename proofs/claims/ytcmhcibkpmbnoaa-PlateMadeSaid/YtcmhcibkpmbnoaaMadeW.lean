/-
  PlateMade: the walk.
-/
import Derived.Test.YtcmhcibkpmbnoaaMTexts
set_option linter.unusedVariables false
namespace Go.Proofs.Ytcmhcibkpmbnoaa
open Go Go.RowKit Go.MapKept Go.ChangeMaps

theorem Txt.late {F : Nat → Prop} {w w' : World} {v : Value} {L : List (List Int)} (h : Txt w v L) (u : Upd F w w') (hF : ∀ k, F k → w.heap.size ≤ k) : Txt w' v L :=
  h.old ⟨u.os, u.tape, u.output, u.size, fun k hk _ => u.block k hk (fun e => by have := hF k e; omega)⟩
theorem txt_shape {w : World} {v : Value} {L : List (List Int)} (h : Txt w v L) : ∃ a c, v = .slice a L.length c := h.sl
set_option maxRecDepth 100000 in
set_option maxHeartbeats 8000000 in
theorem made_walk (w : World) (iv v : Value) (I : List (List Int)) (ds : List DoQ) (hI : Txt w iv I) (hIl : I.length * 24 ≤ 140737488355328) (hIt : ∀ i, i < I.length → (I.getD i []).length ≤ 140737488355328) (hv : DosQ w v ds) : Calls Try.prog 3 #[iv, v] w (TruePost w) := by
  obtain ⟨va, vc, rfl⟩ := hv.sl
  have hfew := hv.few
  have HV := Lib.hid hv; clear hv
  have HTX := Lib.hid (texts_txt w iv I hI hIl hIt)
  obtain ⟨ia, ic, rfl⟩ := hI.sl
  have HI := Lib.hid hI; clear hI
  have HIT := Lib.hid hIt; clear hIt
  by_cases hok : 0 < I.length ∧ I.length ≤ 8192 ∧ AllS I
  · obtain ⟨h1, h2, h3⟩ := hok
    have H3 := Lib.hid h3; clear h3
    go_enter Try.func3, Try.ntmps3
    go_wp2_with fail
    refine HTX.out.mono ?_
    rintro e w1 ⟨gv, rfl, hg, hu1⟩
    obtain ⟨ga, gc, rfl⟩ := hg.sl
    have HG := Lib.hid hg; clear hg
    have HU1 := Lib.hid hu1; clear hu1 HTX
    go_wp2_with fail
    refine (of_txt _ _ I HG.out H3.out h1 h2).mono ?_
    rintro e w2 ⟨b, ab, cm, rfl, hp, z1, z2, z3, hu2⟩
    have HP := Lib.hid hp; clear hp
    have HU2 := Lib.hid hu2; clear hu2
    go_wp2_with fail
    refine (rof_ok _ _ I (HI.out.old (HU1.out.trans HU2.out)) H3.out h1 h2).mono ?_
    rintro e w3 ⟨x, hb, hw, hd, rfl, hr⟩
    have hpa := pair_new HP.out z1 z2 z3 HU2.out hr
    have HU3 := Lib.hid ((HU1.out.trans HU2.out).trans hr.up)
    have HW13 := Lib.hid (HU2.out.trans hr.up)
    have HPA := Lib.hid hpa; clear hpa hr HP HU2 z1 z2 z3
    have hz1 := HU1.out.size
    go_wp2_with fail
    go_loopw [48] (fun iv wr => ∃ (q : Nat), iv = .int .i64 q ∧ q ≤ ds.length ∧ PairAt (fun k => w1.heap.size ≤ k) wr b x I.length ∧ Upd (fun _ => False) w1 wr ∧ Upd (fun _ => False) w wr) (fun i _ => ds.length - (intOf i).toNat)
    case atStart => exact ⟨0, rfl, by omega, HPA.out, HW13.out, HU3.out⟩
    case round =>
      obtain ⟨q, rfl, hq, hpq, hw1, hu⟩ := hrel
      have HPQ := Lib.hid hpq; clear hpq
      have HW1 := Lib.hid hw1; clear hw1
      have HU := Lib.hid hu; clear hu
      by_cases hlt : q < ds.length
      · obtain ⟨h, o, c, row, e, ⟨bv, kv, hbv, hbl, hkv, rfl⟩, hcells⟩ := HV.out.at_ q hlt
        cases e
        generalize ds.getD q default = d at hbv hbl hkv hcells
        obtain ⟨ba, bc, rfl⟩ := hbv.shape
        obtain ⟨ka, kc, rfl⟩ := hkv.shape
        have hc := fun j (hj : j < 6) => by
          have h1 := hcells j hj
          have h2 : h < w.heap.size := by
            have h3 := hcells 0 (by omega)
            exact World.block_lt_of_cell? _ _ (show w.cell? ⟨h, o + q * 6 + 0, none⟩ = some (.int .i64 d.op) from h3)
          exact (HU.out.cell (p := ⟨h, o + q * 6 + j, none⟩) h2 (fun h => h)).trans h1
        have z0 : wr.cell? ⟨h, o + q * 6, none⟩ = some (.int .i64 d.op) := hc 0 (by omega)
        have z1 : wr.cell? ⟨h, o + q * 6 + 1, none⟩ = some (.int .i64 d.i) := hc 1 (by omega)
        have z2 : wr.cell? ⟨h, o + q * 6 + 2, none⟩ = some (.int .i64 d.torn) := hc 2 (by omega)
        have z3 : wr.cell? ⟨h, o + q * 6 + 3, none⟩ = some (.int .i64 d.n) := hc 3 (by omega)
        have z4 : wr.cell? ⟨h, o + q * 6 + 4, none⟩ = some (.slice ba d.bs.length bc) := hc 4 (by omega)
        have z5 : wr.cell? ⟨h, o + q * 6 + 5, none⟩ = some (.slice ka d.ks.length kc) := hc 5 (by omega)
        clear hc hcells
        have HBV := Lib.hid hbv; clear hbv
        have HKV := Lib.hid hkv; clear hkv
        go_wp2_with fail
        have k0 : (wr.alloc (.cells #[.int .i64 d.op, .int .i64 d.i, .int .i64 d.torn, .int .i64 d.n, .slice ba d.bs.length bc, .slice ka d.ks.length kc] 35)).cell? ⟨wr.heap.size, 0, none⟩ = some (.int .i64 d.op) := World.cell?_alloc_at _ _ _ _ rfl
        have k1 : (wr.alloc (.cells #[.int .i64 d.op, .int .i64 d.i, .int .i64 d.torn, .int .i64 d.n, .slice ba d.bs.length bc, .slice ka d.ks.length kc] 35)).cell? ⟨wr.heap.size, 1, none⟩ = some (.int .i64 d.i) := World.cell?_alloc_at _ _ _ _ rfl
        have k2 : (wr.alloc (.cells #[.int .i64 d.op, .int .i64 d.i, .int .i64 d.torn, .int .i64 d.n, .slice ba d.bs.length bc, .slice ka d.ks.length kc] 35)).cell? ⟨wr.heap.size, 2, none⟩ = some (.int .i64 d.torn) := World.cell?_alloc_at _ _ _ _ rfl
        have k3 : (wr.alloc (.cells #[.int .i64 d.op, .int .i64 d.i, .int .i64 d.torn, .int .i64 d.n, .slice ba d.bs.length bc, .slice ka d.ks.length kc] 35)).cell? ⟨wr.heap.size, 3, none⟩ = some (.int .i64 d.n) := World.cell?_alloc_at _ _ _ _ rfl
        have k4 : (wr.alloc (.cells #[.int .i64 d.op, .int .i64 d.i, .int .i64 d.torn, .int .i64 d.n, .slice ba d.bs.length bc, .slice ka d.ks.length kc] 35)).cell? ⟨wr.heap.size, 4, none⟩ = some (.slice ba d.bs.length bc) := World.cell?_alloc_at _ _ _ _ rfl
        have k5 : (wr.alloc (.cells #[.int .i64 d.op, .int .i64 d.i, .int .i64 d.torn, .int .i64 d.n, .slice ba d.bs.length bc, .slice ka d.ks.length kc] 35)).cell? ⟨wr.heap.size, 5, none⟩ = some (.slice ka d.ks.length kc) := World.cell?_alloc_at _ _ _ _ rfl
        have uA : Upd (fun _ => False) wr (wr.alloc (.cells #[.int .i64 d.op, .int .i64 d.i, .int .i64 d.torn, .int .i64 d.n, .slice ba d.bs.length bc, .slice ka d.ks.length kc] 35)) := (Upd.refl _ _).alloc _
        have hkA : wr.heap.size < (wr.alloc (.cells #[.int .i64 d.op, .int .i64 d.i, .int .i64 d.torn, .int .i64 d.n, .slice ba d.bs.length bc, .slice ka d.ks.length kc] 35)).heap.size := by simp
        generalize wr.alloc (.cells #[.int .i64 d.op, .int .i64 d.i, .int .i64 d.torn, .int .i64 d.n, .slice ba d.bs.length bc, .slice ka d.ks.length kc] 35) = wA at k0 k1 k2 k3 k4 k5 uA hkA ⊢
        generalize wr.heap.size = kA at k0 k1 k2 k3 k4 k5 hkA ⊢
        have HPW := Lib.hid (HPQ.out.old uA)
        have HWA := Lib.hid (HW1.out.trans uA)
        have HUA := Lib.hid (HU.out.trans uA)
        have hzA := HUA.out.size
        clear uA z0 z1 z2 z3 z4 z5
        refine (does_any _ wA b x I.length d.op d.i d.torn d.n _ _ d.bs d.ks HPW.out (HBV.out.old HUA.out) hbl (HKV.out.old HUA.out) (fun k o n c e hn hg => by have := byt_lt HBV.out k o n c e hn; omega) (fun k o n c e hn hg => by have := ints_lt HKV.out k o n c e hn; omega)).mono ?_
        rintro e w5 ⟨rfl, ha⟩
        have hwz := HWA.out.size
        have hup : Upd (fun _ => False) w w5 ∧ Upd (fun _ => False) w1 w5 := by
          obtain ⟨_, F, hF, hFn⟩ := ha
          exact ⟨HUA.out.trans' hF (fun k hk e => by have := (hFn k e).1; omega), HWA.out.trans' hF (fun k hk e => by have := (hFn k e).1; omega)⟩
        have HP5 := Lib.hid (ha.1.mono (G' := fun k => w1.heap.size ≤ k) (fun k e => by rcases e with e | e <;> omega))
        have HU5 := Lib.hid hup.1
        have HW5 := Lib.hid hup.2
        clear ha hup
        go_wp2_with fail
        go_roundw
        case rel => exact ⟨q + 1, by go_num, hlt, HP5.out, HW5.out, HU5.out⟩
        case measure => simp [intOf]; omega
      · have hsec : ∃ c2, c2 = I.length ∧ wr.cell? ⟨b, 2, none⟩ = some (.int .i64 I.length) := by
          cases HPQ.out with
          | live ab cm hb hw hd B C h g => have := h.p.c2; rw [rowL_length] at this; exact ⟨_, rfl, this⟩
          | dead h g gm gr => exact ⟨_, rfl, h.p.c2⟩
        obtain ⟨_, _, hs2⟩ := hsec
        have HT := Lib.hid (sameTexts_eq wr _ _ I (HG.out.old HW1.out) (HI.out.old HU.out) (by omega))
        have lbz := World.block_lt_of_cell? _ _ hs2
        go_wp2_with fail
        refine HT.out.mono ?_
        rintro e w5 ⟨rfl, hu5⟩
        have hs5 := (hu5.cell (p := ⟨b, 2, none⟩) lbz (fun h => h)).trans hs2
        have HU5 := Lib.hid hu5; clear hu5
        go_wp2_with fail
        refine (sectors_p _ b I.length hs5).mono ?_
        rintro e w6 ⟨rfl, rfl⟩
        go_wp2_with fail
        go_ret
        exact ⟨rfl, HU.out.trans HU5.out⟩
  · have HOK := Lib.hid hok; clear hok
    go_enter Try.func3, Try.ntmps3
    go_wp2_with fail
    refine HTX.out.mono ?_
    rintro e w1 ⟨gv, rfl, hg, hu1⟩
    obtain ⟨ga, gc, rfl⟩ := hg.sl
    have HG := Lib.hid hg; clear hg
    have HU1 := Lib.hid hu1; clear hu1
    go_wp2_with fail
    refine (of_bad _ _ I HG.out (by omega) HIT.out HOK.out).mono ?_
    rintro e w2 ⟨rfl, rfl⟩
    go_wp2_with fail
    refine (rof_bad _ _ I (HI.out.old HU1.out) (by omega) HIT.out HOK.out).mono ?_
    rintro e w3 ⟨rfl, rfl⟩
    go_wp2_with fail
    go_ret
    exact ⟨rfl, HU1.out⟩
end Go.Proofs.Ytcmhcibkpmbnoaa
