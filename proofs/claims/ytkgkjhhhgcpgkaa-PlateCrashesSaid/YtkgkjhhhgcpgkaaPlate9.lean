/-
  written: the walk.
-/
import Derived.Test.YtkgkjhhhgcpgkaaPlate8
namespace Go.Proofs.Ytkgkjhhhgcpgkaa
open Go Go.RowKit Go.MapKept Go.ChangeMaps

set_option maxRecDepth 100000 in
set_option maxHeartbeats 4000000 in
theorem written_any (w : World) (v : Value) (ds : List DoP) (hv : DosP w v ds) : Calls Try.prog 10 #[v] w (WrittenPost w) := by
  have hdl : ds.length ≤ 9223372036854775807 := by
    rcases hv with ⟨rfl, _⟩ | ⟨_, _, _, _, h, _⟩
    · simp
    · exact h
  obtain ⟨va, vc, rfl⟩ : ∃ a c, v = .slice a ds.length c := by
    rcases hv with ⟨rfl, a, c, h⟩ | ⟨b, o, c, h, _⟩
    · exact ⟨a, c, h⟩
    · exact ⟨_, _, h⟩
  have HV := Lib.hid hv; clear hv
  go_enter Try.func10, Try.ntmps10
  go_wp2_with fail
  refine (new_any 6 w (by omega) (by omega)).mono ?_
  rintro e w1 ⟨b, ab, cm, rfl, hp, l1, l2, l3, hu1⟩
  have hlen : (List.replicate 6 zeros).length = 6 := List.length_replicate
  generalize List.replicate 6 zeros = D0 at hp hlen
  have HP1 := Lib.hid hp; clear hp
  have HU1 := Lib.hid hu1; clear hu1
  go_wp2_with fail
  refine (image_any _ b ab cm D0 _ HP1.out).mono ?_
  rintro e w2 ⟨wasv, hw, rfl, hsw, hhw, hu2⟩
  have hsw' := hsw
  obtain ⟨wc, _, hwv, _, _, _⟩ := hsw'
  rw [hlen] at hwv
  subst hwv
  have HSW := Lib.hid hsw; clear hsw
  have HP2 := Lib.hid (HP1.out.old hu2)
  have HU2 := Lib.hid (HU1.out.trans hu2)
  have hz2 := hu2.size
  clear hu2
  go_wp2_with fail
  refine (image_any _ b ab cm D0 _ HP2.out).mono ?_
  rintro e w3 ⟨nowv, hn, rfl, hsn, hhn, hu3⟩
  have hsn' := hsn
  obtain ⟨nc, _, hnv, _, _, _⟩ := hsn'
  rw [hlen] at hnv
  subst hnv
  have hst : WrI w b ab cm hn hw D0 (fun _ => none) D0 (.slice (some ⟨hw, 0, none⟩) 6 wc) (.slice (some ⟨hn, 0, none⟩) 6 nc) w3 := by
    have k1 := HP1.out.lt
    have k2 := HSW.out.lt
    refine ⟨HP2.out.old hu3, hlen, hsn, hlen, fun i hi => rfl, HSW.out.old hu3, by omega, ?_, HU2.out.trans hu3, ?_⟩
    · have k3 := HU2.out.size
      omega
    · have k4 := HU1.out.size
      omega
  have HST := Lib.hid hst; clear hst
  clear HSW HP1 HP2 HU1 HU2 hsn hu3 hhn hhw hz2 l1 l2 l3 hlen
  go_wp2_with fail
  go_loopw [7, 28] (fun wasv i wr => (∃ a c, wasv = .slice a 6 c) ∧ WrEx w b ab cm hn (.slice (some ⟨hn, 0, none⟩) 6 nc) ds.length wasv i wr) (fun _ i _ => ds.length - (intOf i).toNat)
  case atStart => exact ⟨⟨_, _, rfl⟩, 0, hw, D0, _, D0, Nat.zero_le _, rfl, HST.out⟩
  case round =>
    obtain ⟨⟨wa, wcc, rfl⟩, k, hw', D, C, N, hk, rfl, hI⟩ := hrel
    have HI := Lib.hid hI; clear hI
    clear HST
    by_cases hlt : k < ds.length
    · obtain ⟨vb, vo, hva, hel⟩ : ∃ vb vo, va = some ⟨vb, vo, none⟩ ∧ ∃ bv ka kn kc, BytV w bv (ds.getD k default).bytes ∧ w.cell? ⟨vb, vo + k * 6, none⟩ = some (.int .i64 (ds.getD k default).op) ∧ w.cell? ⟨vb, vo + k * 6 + 1, none⟩ = some (.int .i64 (ds.getD k default).i) ∧ w.cell? ⟨vb, vo + k * 6 + 2, none⟩ = some (.int .i64 (ds.getD k default).torn) ∧
          w.cell? ⟨vb, vo + k * 6 + 3, none⟩ = some (.int .i64 (ds.getD k default).n) ∧ w.cell? ⟨vb, vo + k * 6 + 4, none⟩ = some bv ∧ w.cell? ⟨vb, vo + k * 6 + 5, none⟩ = some (.slice ka kn kc) := by
        rcases HV.out with ⟨rfl, _⟩ | ⟨vb, vo, c, h, _, hel⟩
        · simp at hlt
        · cases h; exact ⟨vb, vo, rfl, hel k hlt⟩
      subst hva
      generalize ds.getD k default = d at hel
      obtain ⟨bv, ka, kn, kc, hbv, e0, e1, e2, e3, e4, e5⟩ := hel
      obtain ⟨ba, bc, rfl⟩ := hbv.shape
      have hvb : vb < w.heap.size := by have := World.block_lt_of_cell? _ _ e0; simpa using this
      have up : ∀ o, wr.cell? ⟨vb, o, none⟩ = w.cell? ⟨vb, o, none⟩ := fun o => HI.out.up.cell (p := ⟨vb, o, none⟩) hvb (fun h => h)
      rw [← up] at e0 e1 e2 e3 e4 e5
      clear up
      obtain ⟨q, hq, hq6⟩ := un6_nat d.i
      have s6 := un6_is d.i
      rw [hq] at s6
      clear hq
      obtain ⟨w4, hmk, hs4, hu4, hz4⟩ := make_sec (wr.alloc (.cells #[.int .i64 d.op, .int .i64 d.i, .int .i64 d.torn, .int .i64 d.n, .slice ba d.bytes.length bc, .slice ka kn kc] 43))
      have HBV := Lib.hid ((hbv.old HI.out.up).old (((Upd.refl (fun _ => False) wr).alloc _).trans hu4)); clear hbv
      generalize zeros = Z at hs4
      have hc4 : ∀ j, w4.cell? ⟨wr.heap.size, j, none⟩ = (#[Value.int .i64 d.op, .int .i64 d.i, .int .i64 d.torn, .int .i64 d.n, .slice ba d.bytes.length bc, .slice ka kn kc])[j]? := fun j => by
        rw [hu4.cell (p := ⟨wr.heap.size, j, none⟩) (by simp) (fun h => h), World.cell?_alloc_at _ _ _ _ rfl]
      have hd4 := hc4 4
      have hd0 := hc4 0
      simp only [List.getElem?_toArray, List.getElem?_cons_succ, List.getElem?_cons_zero] at hd4 hd0
      clear hc4
      simp only [World.size_alloc] at hmk hs4 hz4
      obtain ⟨w5, cn, l5, hcp, hs5, hu5⟩ := copy_sec hs4 HBV.out
      have HS5 := Lib.hid hs5; clear hs5
      have hU : Upd (fun _ => False) wr w5 := (((Upd.refl (fun _ => False) wr).alloc _).trans hu4).trans' hu5 (fun i hi e => by omega)
      have hd5 := (hu5.cell (p := ⟨wr.heap.size, 0, none⟩) (by rw [hz4]; simp; omega) (by simp)).trans hd0
      have HI5 := Lib.hid (HI.out.old hU); clear hU
      clear hu4 hu5 hs4
      go_wp2_with fail
      refine (write_any q _ b ab cm D C _ l5 HI5.out.p (by rw [HI5.out.six]; exact hq6) HS5.out).mono ?_
      rintro e w6 ⟨rfl, hp6, hu6⟩
      have HP6 := Lib.hid hp6; clear hp6
      have hF6 : ∀ k, k = cm → NotB w5 k := fun k e => by rw [e]; exact HI5.out.p.cmNotB
      obtain ⟨ov, a1, _, a3⟩ := (HI5.out.now.upd hu6 HI5.out.ne.2.2.1 hF6).cellAt (i := q) (by rw [HI5.out.nlen]; exact hq6)
      have HI6 := Lib.hid (HI5.out.put hq6 HS5.out HP6.out hu6)
      have hcmw : wr.heap.size ≠ cm := by have := HI.out.p.lt; omega
      have hhw : wr.heap.size ≠ hn := by have := HI.out.now.lt; omega
      have hd6 := (hu6.cell (p := ⟨wr.heap.size, 0, none⟩) (by have := World.block_lt_of_cell? _ _ hd5; exact this) hcmw).trans hd5
      clear hu6 HP6 HS5 e0 e1 e2 e3 e4 e5 hd0 hd4 hd5 hmk hcp hF6
      cases hop : (d.op.tmod 4 == 0) with
      | false =>
        go_wp2_with fail
        go_roundw
        case rel => exact ⟨⟨_, _, rfl⟩, k + 1, hw', D, _, _, hlt, by go_num, HI6.out⟩
        case measure => simp [intOf]; omega
      | true =>
        go_wp2_with fail
        refine (sync_any _ b ab cm D _ HI6.out.p).mono ?_
        rintro e w7 ⟨rfl, hp7, hu7⟩
        have HP7 := Lib.hid hp7; clear hp7
        have hF7 : ∀ k, k = ab ∨ k = cm → NotB _ k := fun k e => by
          rcases e with rfl | rfl
          · exact HI6.out.p.abNotB
          · exact HI6.out.p.cmNotB
        have HN7 := Lib.hid (HI6.out.now.upd hu7 (fun e => by have := HI6.out.ne; rcases e with e | e <;> omega) hF7); clear hF7
        have hnl : (N.set q l5).length = 6 := HI6.out.nlen
        have HU7 := Lib.hid hu7; clear hu7
        clear a1 a3 hd6
        go_wp2_with fail
        refine (texts_any _ hn _ (N.set q l5) HN7.out (by omega) (by omega)).mono ?_
        rintro e w8 ⟨vt, ht, rfl, hst8, hh8, hu8⟩
        have hst8' := hst8
        obtain ⟨tc, _, htv, _, _, _⟩ := hst8'
        rw [hnl] at htv
        subst htv
        have HI8 := Lib.hid (HI6.out.sync HP7.out HU7.out hst8 hh8 hu8); clear hst8 hh8 hu8
        go_wp2_with fail
        go_roundw
        case rel => exact ⟨⟨_, _, rfl⟩, k + 1, ht, _, _, _, hlt, by go_num, HI8.out⟩
        case measure => simp [intOf]; omega
    · go_wp2_with fail
      go_ret3
      exact ⟨b, ab, cm, hn, hw', D, C, N, _, _, rfl, HI.out⟩
end Go.Proofs.Ytkgkjhhhgcpgkaa
