/-
  PlatePlays: the walk.
-/
import Derived.Test.YtcmhcibkpmbnoaaPPlay
set_option linter.unusedVariables false
namespace Go.Proofs.Ytcmhcibkpmbnoaa
open Go Go.RowKit Go.MapKept Go.ChangeMaps

def DidP (w : World) (b x b' x' N : Nat) (e : Ending) (w' : World) : Prop := e = .returned (.bool true) ∧ Both w b x b' x' N w' ∧ Upd (fun _ => False) w w'
theorem does_both {w wz : World} {b x b' x' N : Nat} (h : Both w b x b' x' N wz) (hu : Upd (fun _ => False) w wz) (op i torn n : Int) (bv kv : Value) (bs ks : List Int) (hb : BytV w bv bs) (hbl : bs.length ≤ 140737488355328) (hk : Ints w kv ks) :
    Calls Try.prog 8 #[.pointer (some ⟨b, 0, none⟩), .pointer (some ⟨x, 0, none⟩), .agg #[.int .i64 op, .int .i64 i, .int .i64 torn, .int .i64 n, bv, kv]] wz (DidP w b x b' x' N) := by
  obtain ⟨lo, hi, k1, k2, k3⟩ := h.x
  have hz := hu.size
  refine (does_any _ wz b x N op i torn n bv kv bs ks k2 (hb.old hu) hbl (hk.old hu) (fun k o n c e hn hg => by have := byt_lt hb k o n c e hn; have := hg.1; omega) (fun k o n c e hn hg => by have := ints_lt hk k o n c e hn; have := hg.1; omega)).mono ?_
  rintro e w5 ⟨rfl, ha⟩
  have hup : Upd (fun _ => False) w w5 := by
    obtain ⟨_, F, hF, hFn⟩ := ha
    exact hu.trans' hF (fun k hk e => by have := (hFn k e).1.1; omega)
  exact ⟨rfl, Both.does (G := fun _ => True) h (fun _ _ _ => trivial) lo hi k1 k3 hz ha, hup⟩
theorem both_copy {w wA w4 : World} {b x b' x' b2 x2 N : Nat} (h : Both w b x b' x' N wA) (hz : w.heap.size ≤ wA.heap.size) (h2 : PairAt (fun k => wA.heap.size ≤ k ∧ k < w4.heap.size) w4 b2 x2 N) (u : Upd (fun _ => False) wA w4) : Both w b2 x2 b x N w4 := by
  obtain ⟨lo, hi, k1, k2, k3⟩ := h.x
  exact ⟨w.heap.size, wA.heap.size, u.size, h2.mono (fun k e => ⟨by omega, .inr e.1⟩), (k2.bound.old u).mono (fun k e => ⟨e.1.1, e.1.1, e.2⟩)⟩
set_option maxRecDepth 100000 in
set_option maxHeartbeats 8000000 in
theorem plays_walk (w : World) (n : Int) (v : Value) (ds : List DoQ) (hv : DosQ w v ds) : Calls Try.prog 4 #[.int .i64 n, v] w (TruePost w) := by
  obtain ⟨va, vc, rfl⟩ := hv.sl
  have hfew := hv.few
  have HV := Lib.hid hv; clear hv
  by_cases hn : 1 ≤ n ∧ n ≤ 8192
  · obtain ⟨N, rfl⟩ : ∃ N : Nat, n = N := ⟨n.toNat, by omega⟩
    have HNW := Lib.hid (fun W => new_any N W (by omega) (by omega))
    have HRN := Lib.hid (fun W => rnew_ok N W (by omega) (by omega))
    have HLN : Hid ((List.replicate N zeros).length = N) := Lib.hid List.length_replicate
    generalize List.replicate N zeros = L at HNW HRN HLN
    clear hn
    go_enter Try.func4, Try.ntmps4
    go_wp2_with fail
    refine (HNW.out _).mono ?_
    rintro e w1 ⟨b, ab, cm, rfl, hp, z1, z2, z3, hu1⟩
    have HP := Lib.hid hp; clear hp
    have HU1 := Lib.hid hu1; clear hu1
    go_wp2_with fail
    refine (HRN.out _).mono ?_
    rintro e w2 ⟨x, hb, hw, hd, rfl, hr⟩
    have hpa := pair_new HP.out z1 z2 z3 HU1.out hr
    rw [HLN.out] at hpa
    have HU2 := Lib.hid (HU1.out.trans hr.up)
    have HPA := Lib.hid hpa; clear hpa hr HP HU1 HNW HRN z1 z2 z3
    obtain ⟨Mid, hc1, hc2⟩ := copy_two HPA.out
    have HC1 := Lib.hid hc1; clear hc1
    have HC2 := Lib.hid hc2; clear hc2
    go_wp2_with fail
    refine HC1.out.mono ?_
    rintro e w3 ⟨b', rfl, hm⟩
    have HM := Lib.hid hm; clear hm
    go_wp2_with fail
    refine (HC2.out _ _ HM.out).mono ?_
    rintro e w4 ⟨x', rfl, hpa', hu4⟩
    have hz2 := HU2.out.size
    have hz4 := hu4.size
    have HB : Hid (Both w b x b' x' N w4) := Lib.hid ⟨w2.heap.size, w4.heap.size, Nat.le_refl _, ((HPA.out.bound).old hu4).mono (fun k h => ⟨h.1, .inl h.2⟩), hpa'.mono (fun k h => ⟨by omega, h.1, h.2⟩)⟩
    have HU4 := Lib.hid (HU2.out.trans hu4)
    clear hpa' hu4 HPA HC1 HC2 HM HU2 hz2 hz4
    go_wp2_with fail
    go_loopw [5, 7, 9, 10, 51] (fun pv xv ov ev iv wr => ∃ (q b x b' x' : Nat), pv = .pointer (some ⟨b, 0, none⟩) ∧ xv = .pointer (some ⟨x, 0, none⟩) ∧ ov = .pointer (some ⟨b', 0, none⟩) ∧ ev = .pointer (some ⟨x', 0, none⟩) ∧ iv = .int .i64 q ∧ q ≤ ds.length ∧ Both w b x b' x' N wr ∧ Upd (fun _ => False) w wr) (fun _ _ _ _ i _ => ds.length - (intOf i).toNat)
    case atStart => exact ⟨0, b, x, b', x', rfl, rfl, rfl, rfl, rfl, by omega, HB.out, HU4.out⟩
    case round =>
      clear HB HU4
      obtain ⟨q, b, x, b', x', rfl, rfl, rfl, rfl, rfl, hq, hbo, hu⟩ := hrel
      have HB := Lib.hid hbo; clear hbo
      have HU := Lib.hid hu; clear hu
      by_cases hlt : q < ds.length
      · obtain ⟨h, o, c, row, e, ⟨bv, kv, hbv, hbl, hkv, rfl⟩, hcells⟩ := HV.out.at_ q hlt
        cases e
        generalize ds.getD q default = d at hbv hbl hkv hcells
        obtain ⟨ba, bc, rfl⟩ := hbv.shape
        obtain ⟨ka, kc, rfl⟩ := hkv.shape
        have hc := fun j (hj : j < 6) => by
          have h1 := hcells j hj
          have h2 : h < w.heap.size := by
            have h3 := hcells 0 (by omega)
            exact World.block_lt_of_cell? _ _ (show w.cell? ⟨h, o + q * 6 + 0, none⟩ = some (.int .i64 d.op) from h3)
          exact (HU.out.cell (p := ⟨h, o + q * 6 + j, none⟩) h2 (fun h => h)).trans h1
        have z0 : wr.cell? ⟨h, o + q * 6, none⟩ = some (.int .i64 d.op) := hc 0 (by omega)
        have z1 : wr.cell? ⟨h, o + q * 6 + 1, none⟩ = some (.int .i64 d.i) := hc 1 (by omega)
        have z2 : wr.cell? ⟨h, o + q * 6 + 2, none⟩ = some (.int .i64 d.torn) := hc 2 (by omega)
        have z3 : wr.cell? ⟨h, o + q * 6 + 3, none⟩ = some (.int .i64 d.n) := hc 3 (by omega)
        have z4 : wr.cell? ⟨h, o + q * 6 + 4, none⟩ = some (.slice ba d.bs.length bc) := hc 4 (by omega)
        have z5 : wr.cell? ⟨h, o + q * 6 + 5, none⟩ = some (.slice ka d.ks.length kc) := hc 5 (by omega)
        clear hc hcells
        have HBV := Lib.hid hbv; clear hbv
        have HKV := Lib.hid hkv; clear hkv
        have s7 := un7_is d.op
        generalize un7 d.op = q7 at s7
        by_cases h5 : q7 = 5
        · subst h5
          go_wp2_with fail
          have k0 : (wr.alloc (.cells #[.int .i64 d.op, .int .i64 d.i, .int .i64 d.torn, .int .i64 d.n, .slice ba d.bs.length bc, .slice ka d.ks.length kc] 35)).cell? ⟨wr.heap.size, 0, none⟩ = some (.int .i64 d.op) := World.cell?_alloc_at _ _ _ _ rfl
          have k1 : (wr.alloc (.cells #[.int .i64 d.op, .int .i64 d.i, .int .i64 d.torn, .int .i64 d.n, .slice ba d.bs.length bc, .slice ka d.ks.length kc] 35)).cell? ⟨wr.heap.size, 1, none⟩ = some (.int .i64 d.i) := World.cell?_alloc_at _ _ _ _ rfl
          have k2 : (wr.alloc (.cells #[.int .i64 d.op, .int .i64 d.i, .int .i64 d.torn, .int .i64 d.n, .slice ba d.bs.length bc, .slice ka d.ks.length kc] 35)).cell? ⟨wr.heap.size, 2, none⟩ = some (.int .i64 d.torn) := World.cell?_alloc_at _ _ _ _ rfl
          have k3 : (wr.alloc (.cells #[.int .i64 d.op, .int .i64 d.i, .int .i64 d.torn, .int .i64 d.n, .slice ba d.bs.length bc, .slice ka d.ks.length kc] 35)).cell? ⟨wr.heap.size, 3, none⟩ = some (.int .i64 d.n) := World.cell?_alloc_at _ _ _ _ rfl
          have k4 : (wr.alloc (.cells #[.int .i64 d.op, .int .i64 d.i, .int .i64 d.torn, .int .i64 d.n, .slice ba d.bs.length bc, .slice ka d.ks.length kc] 35)).cell? ⟨wr.heap.size, 4, none⟩ = some (.slice ba d.bs.length bc) := World.cell?_alloc_at _ _ _ _ rfl
          have k5 : (wr.alloc (.cells #[.int .i64 d.op, .int .i64 d.i, .int .i64 d.torn, .int .i64 d.n, .slice ba d.bs.length bc, .slice ka d.ks.length kc] 35)).cell? ⟨wr.heap.size, 5, none⟩ = some (.slice ka d.ks.length kc) := World.cell?_alloc_at _ _ _ _ rfl
          have uA : Upd (fun _ => False) wr (wr.alloc (.cells #[.int .i64 d.op, .int .i64 d.i, .int .i64 d.torn, .int .i64 d.n, .slice ba d.bs.length bc, .slice ka d.ks.length kc] 35)) := (Upd.refl _ _).alloc _
          have hkA : wr.heap.size < (wr.alloc (.cells #[.int .i64 d.op, .int .i64 d.i, .int .i64 d.torn, .int .i64 d.n, .slice ba d.bs.length bc, .slice ka d.ks.length kc] 35)).heap.size := by simp
          generalize wr.alloc (.cells #[.int .i64 d.op, .int .i64 d.i, .int .i64 d.torn, .int .i64 d.n, .slice ba d.bs.length bc, .slice ka d.ks.length kc] 35) = wA at k0 k1 k2 k3 k4 k5 uA hkA ⊢
          generalize wr.heap.size = kA at k0 k1 k2 k3 k4 k5 hkA ⊢
          have HBA := Lib.hid (HB.out.old uA)
          have HUA := Lib.hid (HU.out.trans uA)
          have hzA := HUA.out.size
          clear uA z0 z1 z2 z3 z4 z5
          have hcp : ∃ (Mid : Nat → World → Prop), Calls Try.prog 13 #[.pointer (some ⟨b, 0, none⟩)] wA (fun e w1 => ∃ b', e = .returned (.pointer (some ⟨b', 0, none⟩)) ∧ Mid b' w1) ∧
              ∀ b' w1, Mid b' w1 → Calls Try.prog 14 #[.pointer (some ⟨x, 0, none⟩)] w1 (fun e w2 => ∃ x', e = .returned (.pointer (some ⟨x', 0, none⟩)) ∧ PairAt (fun k => wA.heap.size ≤ k ∧ k < w2.heap.size) w2 b' x' N ∧ Upd (fun _ => False) wA w2) := by
            obtain ⟨lo, hi, _, kk2, _⟩ := HBA.out.x
            exact copy_two kk2
          obtain ⟨Mid, hc1, hc2⟩ := hcp
          have HC1 := Lib.hid hc1; clear hc1
          have HC2 := Lib.hid hc2; clear hc2
          refine HC1.out.mono ?_
          rintro e w3 ⟨b2, rfl, hm⟩
          have HM := Lib.hid hm; clear hm
          go_wp2_with fail
          refine (HC2.out _ _ HM.out).mono ?_
          rintro e w4 ⟨x2, rfl, hpa2, hu4⟩
          have HB4 := Lib.hid (both_copy HBA.out hzA hpa2 hu4)
          have HU4 := Lib.hid (HUA.out.trans hu4)
          have j0 := (hu4.cell (p := ⟨kA, 0, none⟩) hkA (fun h => h)).trans k0
          have j1 := (hu4.cell (p := ⟨kA, 1, none⟩) hkA (fun h => h)).trans k1
          have j2 := (hu4.cell (p := ⟨kA, 2, none⟩) hkA (fun h => h)).trans k2
          have j3 := (hu4.cell (p := ⟨kA, 3, none⟩) hkA (fun h => h)).trans k3
          have j4 := (hu4.cell (p := ⟨kA, 4, none⟩) hkA (fun h => h)).trans k4
          have j5 := (hu4.cell (p := ⟨kA, 5, none⟩) hkA (fun h => h)).trans k5
          clear k0 k1 k2 k3 k4 k5 hpa2 hu4 HC1 HC2 HM
          have HDO : Hid (Calls Try.prog 8 #[.pointer (some ⟨b2, 0, none⟩), .pointer (some ⟨x2, 0, none⟩), .agg #[.int .i64 d.op, .int .i64 d.i, .int .i64 d.torn, .int .i64 d.n, .slice ba d.bs.length bc, .slice ka d.ks.length kc]] w4 (DidP w b2 x2 b x N)) := Lib.hid (does_both HB4.out HU4.out _ _ _ _ _ _ _ _ HBV.out hbl HKV.out)
          go_wp2_with fail
          refine HDO.out.mono ?_
          rintro e w5 ⟨rfl, hb5, hu5⟩
          have HB5 := Lib.hid hb5; clear hb5
          have HU5 := Lib.hid hu5; clear hu5
          go_wp2_with fail
          go_roundw
          case rel => exact ⟨q + 1, _, _, _, _, rfl, rfl, rfl, rfl, by go_num, hlt, HB5.out, HU5.out⟩
          case measure => simp [intOf]; omega
        · have q5 : ((q7 : Int) == 5) = false := beq_eq_false_iff_ne.2 (by omega)
          go_wp2_with fail
          have k0 : (wr.alloc (.cells #[.int .i64 d.op, .int .i64 d.i, .int .i64 d.torn, .int .i64 d.n, .slice ba d.bs.length bc, .slice ka d.ks.length kc] 35)).cell? ⟨wr.heap.size, 0, none⟩ = some (.int .i64 d.op) := World.cell?_alloc_at _ _ _ _ rfl
          have k1 : (wr.alloc (.cells #[.int .i64 d.op, .int .i64 d.i, .int .i64 d.torn, .int .i64 d.n, .slice ba d.bs.length bc, .slice ka d.ks.length kc] 35)).cell? ⟨wr.heap.size, 1, none⟩ = some (.int .i64 d.i) := World.cell?_alloc_at _ _ _ _ rfl
          have k2 : (wr.alloc (.cells #[.int .i64 d.op, .int .i64 d.i, .int .i64 d.torn, .int .i64 d.n, .slice ba d.bs.length bc, .slice ka d.ks.length kc] 35)).cell? ⟨wr.heap.size, 2, none⟩ = some (.int .i64 d.torn) := World.cell?_alloc_at _ _ _ _ rfl
          have k3 : (wr.alloc (.cells #[.int .i64 d.op, .int .i64 d.i, .int .i64 d.torn, .int .i64 d.n, .slice ba d.bs.length bc, .slice ka d.ks.length kc] 35)).cell? ⟨wr.heap.size, 3, none⟩ = some (.int .i64 d.n) := World.cell?_alloc_at _ _ _ _ rfl
          have k4 : (wr.alloc (.cells #[.int .i64 d.op, .int .i64 d.i, .int .i64 d.torn, .int .i64 d.n, .slice ba d.bs.length bc, .slice ka d.ks.length kc] 35)).cell? ⟨wr.heap.size, 4, none⟩ = some (.slice ba d.bs.length bc) := World.cell?_alloc_at _ _ _ _ rfl
          have k5 : (wr.alloc (.cells #[.int .i64 d.op, .int .i64 d.i, .int .i64 d.torn, .int .i64 d.n, .slice ba d.bs.length bc, .slice ka d.ks.length kc] 35)).cell? ⟨wr.heap.size, 5, none⟩ = some (.slice ka d.ks.length kc) := World.cell?_alloc_at _ _ _ _ rfl
          have uA : Upd (fun _ => False) wr (wr.alloc (.cells #[.int .i64 d.op, .int .i64 d.i, .int .i64 d.torn, .int .i64 d.n, .slice ba d.bs.length bc, .slice ka d.ks.length kc] 35)) := (Upd.refl _ _).alloc _
          have hkA : wr.heap.size < (wr.alloc (.cells #[.int .i64 d.op, .int .i64 d.i, .int .i64 d.torn, .int .i64 d.n, .slice ba d.bs.length bc, .slice ka d.ks.length kc] 35)).heap.size := by simp
          generalize wr.alloc (.cells #[.int .i64 d.op, .int .i64 d.i, .int .i64 d.torn, .int .i64 d.n, .slice ba d.bs.length bc, .slice ka d.ks.length kc] 35) = wA at k0 k1 k2 k3 k4 k5 uA hkA ⊢
          generalize wr.heap.size = kA at k0 k1 k2 k3 k4 k5 hkA ⊢
          have HBA := Lib.hid (HB.out.old uA)
          have HUA := Lib.hid (HU.out.trans uA)
          have hzA := HUA.out.size
          clear uA z0 z1 z2 z3 z4 z5
          have HDO : Hid (Calls Try.prog 8 #[.pointer (some ⟨b, 0, none⟩), .pointer (some ⟨x, 0, none⟩), .agg #[.int .i64 d.op, .int .i64 d.i, .int .i64 d.torn, .int .i64 d.n, .slice ba d.bs.length bc, .slice ka d.ks.length kc]] wA (DidP w b x b' x' N)) := Lib.hid (does_both HBA.out HUA.out _ _ _ _ _ _ _ _ HBV.out hbl HKV.out)
          refine HDO.out.mono ?_
          rintro e w5 ⟨rfl, hb5, hu5⟩
          have HB5 := Lib.hid hb5; clear hb5
          have HU5 := Lib.hid hu5; clear hu5
          go_wp2_with fail
          go_roundw
          case rel => exact ⟨q + 1, _, _, _, _, rfl, rfl, rfl, rfl, by go_num, hlt, HB5.out, HU5.out⟩
          case measure => simp [intOf]; omega
      · obtain ⟨lo, hi, k1, k2, k3⟩ := HB.out.x
        have K2 := Lib.hid k2; clear k2
        have K3 := Lib.hid k3; clear k3
        go_wp2_with fail
        refine (same_any K2.out).mono ?_
        rintro e w5 ⟨rfl, hu5⟩
        have HU5 := Lib.hid hu5; clear hu5
        go_wp2_with fail
        refine (same_any (K3.out.old HU5.out)).mono ?_
        rintro e w6 ⟨rfl, hu6⟩
        go_wp2_with fail
        go_ret
        exact ⟨rfl, (HU.out.trans HU5.out).trans hu6⟩
  · have HNW := Lib.hid (fun W => new_bad n W hn)
    have HRN := Lib.hid (fun W => rnew_bad n W hn)
    clear hn
    go_enter Try.func4, Try.ntmps4
    go_wp2_with fail
    refine (HNW.out _).mono ?_
    rintro e w1 ⟨rfl, rfl⟩
    go_wp2_with fail
    refine (HRN.out _).mono ?_
    rintro e w2 ⟨rfl, rfl⟩
    go_wp2_with fail
    go_ret
    exact ⟨rfl, Upd.refl _ _⟩
end Go.Proofs.Ytcmhcibkpmbnoaa
