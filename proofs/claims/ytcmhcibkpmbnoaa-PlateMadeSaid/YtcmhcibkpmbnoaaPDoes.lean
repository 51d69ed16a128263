/-
  does: a call on both.
-/
import Derived.Test.YtcmhcibkpmbnoaaPTwo2
set_option linter.unusedVariables false
namespace Go.Proofs.Ytcmhcibkpmbnoaa
open Go Go.RowKit Go.MapKept Go.ChangeMaps

def un7 (x : Int) : Nat := (IntKind.u64.wrap x % 7).toNat
theorem un7_is (x : Int) : wrap64 ((IntKind.u64.wrap x).tmod 7) = un7 x := by
  have h : 0 ≤ IntKind.u64.wrap x := by rw [IntKind.wrap_u64]; omega
  unfold un7
  rw [Int.tmod_eq_emod_of_nonneg h]
  unfold wrap64; omega
theorem un7_lt (x : Int) : un7 x < 7 := by unfold un7; omega
/-- What a call on both leaves. -/
def DoesP (G : Nat → Prop) (w : World) (b x N : Nat) (e : Ending) (w' : World) : Prop :=
  e = .returned (.bool true) ∧ AfterP G w b x N w'
theorem PairAt.bound {G : Nat → Prop} {w : World} {b x N : Nat} (h : PairAt G w b x N) : PairAt (fun k => G k ∧ k < w.heap.size) w b x N := by
  cases h with
  | live ab cm hb hw hd B C h g =>
    obtain ⟨⟨l1, l2, l3, l4, l5, l6, l7⟩, _⟩ := h.facts
    obtain ⟨g1, g2, g3, g4, g5, g6, g7⟩ := g
    exact .live ab cm hb hw hd B C h ⟨⟨g1, l1⟩, ⟨g2, l2⟩, ⟨g3, l3⟩, ⟨g4, l4⟩, ⟨g5, l5⟩, ⟨g6, l6⟩, ⟨g7, l7⟩⟩
  | dead h g gm gr =>
    refine .dead h ⟨⟨g.1, h.p.lt⟩, ⟨g.2, tag_lt h.r.tag⟩⟩ (fun m e => ⟨gm m e, ?_⟩) (fun m e k o n c e2 => ⟨gr m e k o n c e2, ?_⟩)
    · rcases h.p.c1 with h1 | ⟨m', h1, h2⟩
      · rw [h1] at e; cases e
      · rw [h1] at e; cases e
        exact im_lt (by rw [h2]; rfl)
    · obtain ⟨g', d, cur, c1, k2, _⟩ := h.r.c1
      rw [c1] at e
      subst e2
      cases e
      exact (Array.getElem?_eq_some_iff.1 k2).1
theorem AfterP.wide {G G' : Nat → Prop} {w w' : World} {b x N : Nat} (h : AfterP G w b x N w') (hG : ∀ k, G k → G' k) : AfterP G' w b x N w' := by
  obtain ⟨h1, F, h2, h3⟩ := h
  exact ⟨h1.mono (fun k e => e.imp (hG k) id), F, h2, fun k e => ⟨hG k (h3 k e).1, (h3 k e).2⟩⟩
set_option maxRecDepth 100000 in
set_option maxHeartbeats 8000000 in
theorem does_any (G : Nat → Prop) (w : World) (b x N : Nat) (op i torn n : Int) (bv kv : Value) (bs ks : List Int) (h : PairAt G w b x N) (hb : BytV w bv bs) (hbl : bs.length ≤ 140737488355328) (hk : Ints w kv ks)
    (hbG : ∀ k o n c, bv = .slice (some ⟨k, o, none⟩) n c → 0 < n → ¬ G k) (hkG : ∀ k o n c, kv = .slice (some ⟨k, o, none⟩) n c → 0 < n → ¬ G k) :
    Calls Try.prog 8 #[.pointer (some ⟨b, 0, none⟩), .pointer (some ⟨x, 0, none⟩), .agg #[.int .i64 op, .int .i64 i, .int .i64 torn, .int .i64 n, bv, kv]] w (DoesP G w b x N) := by
  obtain ⟨ba, bc, rfl⟩ := hb.shape
  obtain ⟨ka, kc, rfl⟩ := hk.shape
  have s7 := un7_is op
  have l7 := un7_lt op
  generalize un7 op = q7 at s7 l7
  have HP := Lib.hid h; clear h
  have HB := Lib.hid hb; clear hb
  have HK := Lib.hid hk; clear hk
  have HBG := Lib.hid hbG; clear hbG
  have HKG := Lib.hid hkG; clear hkG
  have HCL : Hid (∀ W, Upd (fun _ => False) w W → Calls Try.prog 16 #[.slice ba bs.length bc] W (CloneB W bs)) := Lib.hid fun W u => clone_byts W _ bs (HB.out.old u) hbl
  go_enter Try.func8, Try.ntmps8
  go_wp2_with fail
  have z0 : (w.alloc (.cells #[.int .i64 op, .int .i64 i, .int .i64 torn, .int .i64 n, .slice ba bs.length bc, .slice ka ks.length kc] 35)).cell? ⟨w.heap.size, 0, none⟩ = some (.int .i64 op) := World.cell?_alloc_at _ _ _ _ rfl
  have z1 : (w.alloc (.cells #[.int .i64 op, .int .i64 i, .int .i64 torn, .int .i64 n, .slice ba bs.length bc, .slice ka ks.length kc] 35)).cell? ⟨w.heap.size, 1, none⟩ = some (.int .i64 i) := World.cell?_alloc_at _ _ _ _ rfl
  have z2 : (w.alloc (.cells #[.int .i64 op, .int .i64 i, .int .i64 torn, .int .i64 n, .slice ba bs.length bc, .slice ka ks.length kc] 35)).cell? ⟨w.heap.size, 2, none⟩ = some (.int .i64 torn) := World.cell?_alloc_at _ _ _ _ rfl
  have z3 : (w.alloc (.cells #[.int .i64 op, .int .i64 i, .int .i64 torn, .int .i64 n, .slice ba bs.length bc, .slice ka ks.length kc] 35)).cell? ⟨w.heap.size, 3, none⟩ = some (.int .i64 n) := World.cell?_alloc_at _ _ _ _ rfl
  have z4 : (w.alloc (.cells #[.int .i64 op, .int .i64 i, .int .i64 torn, .int .i64 n, .slice ba bs.length bc, .slice ka ks.length kc] 35)).cell? ⟨w.heap.size, 4, none⟩ = some (.slice ba bs.length bc) := World.cell?_alloc_at _ _ _ _ rfl
  have z5 : (w.alloc (.cells #[.int .i64 op, .int .i64 i, .int .i64 torn, .int .i64 n, .slice ba bs.length bc, .slice ka ks.length kc] 35)).cell? ⟨w.heap.size, 5, none⟩ = some (.slice ka ks.length kc) := World.cell?_alloc_at _ _ _ _ rfl
  have zt : ∃ cur, (w.alloc (.cells #[.int .i64 op, .int .i64 i, .int .i64 torn, .int .i64 n, .slice ba bs.length bc, .slice ka ks.length kc] 35)).heap[w.heap.size]? = some (.cells cur 35 (0, 0)) := ⟨_, (MapKept.heap_alloc w _).1⟩
  have uA : Upd (fun _ => False) w (w.alloc (.cells #[.int .i64 op, .int .i64 i, .int .i64 torn, .int .i64 n, .slice ba bs.length bc, .slice ka ks.length kc] 35)) := (Upd.refl _ _).alloc _
  have hkA : w.heap.size < (w.alloc (.cells #[.int .i64 op, .int .i64 i, .int .i64 torn, .int .i64 n, .slice ba bs.length bc, .slice ka ks.length kc] 35)).heap.size := by simp
  generalize w.alloc (.cells #[.int .i64 op, .int .i64 i, .int .i64 torn, .int .i64 n, .slice ba bs.length bc, .slice ka ks.length kc] 35) = wA at z0 z1 z2 z3 z4 z5 zt uA hkA ⊢
  have UA := Lib.hid uA
  have UAS := Lib.hid uA.size
  clear uA
  obtain ⟨kb, hkb⟩ : ∃ kb, kb = w.heap.size := ⟨_, rfl⟩
  rw [← hkb] at z0 z1 z2 z3 z4 z5 zt hkA ⊢
  have HKBB := Lib.hid hkb; clear hkb
  go_cut [7, 8] (fun gv kv2 wc => ∃ a1 c1 a2 c2, gv = .slice a1 bs.length c1 ∧ kv2 = .slice a2 ks.length c2 ∧ Own w.heap.size wc gv bs ∧ IOwn wA.heap.size wc kv2 ks ∧ Upd (fun _ => False) wA wc)
  case first =>
    go_region_held3 (fun w' => w'.cell? ⟨kb, 4, none⟩ = some (.slice ba bs.length bc) ∧ w'.cell? ⟨kb, 5, none⟩ = some (.slice ka ks.length kc))
      (first | exact ⟨z4, z5⟩ | exact ⟨(Upd.cell (F := fun _ => False) (p := ⟨kb, 4, none⟩) (by repeat (first | exact Upd.refl _ _ | exact U2.out | exact U1.out | apply Upd.drew | apply Upd.alloc)) hkA (fun h => h)).trans z4, (Upd.cell (F := fun _ => False) (p := ⟨kb, 5, none⟩) (by repeat (first | exact Upd.refl _ _ | exact U2.out | exact U1.out | apply Upd.drew | apply Upd.alloc)) hkA (fun h => h)).trans z5⟩)
      (first
        | ((go_at_call 16; (with_reducible refine (HCL.out _ (Upd.trans UA.out (by repeat (first | exact Upd.refl _ _ | exact U2.out | exact U1.out | apply Upd.drew | apply Upd.alloc)))).mono ?_); rintro e w1 ⟨⟨v1, rfl, ho1⟩, hu1⟩; obtain ⟨a1, m1, c1, rfl, hm1⟩ : ∃ a m c, v1 = .slice a m c ∧ m = bs.length := (by obtain ⟨a, c, e⟩ := ho1.shape; exact ⟨a, _, c, e, rfl⟩); have HO1 := Lib.hid (ho1.lower (B' := w.heap.size) (Nat.le_trans UAS.out (Upd.size (F := fun _ => False) (by repeat (first | exact Upd.refl _ _ | exact U2.out | exact U1.out | apply Upd.drew | apply Upd.alloc))))); have U1 : Hid (Upd (fun _ => False) wA w1) := Lib.hid (Upd.trans (by repeat (first | exact Upd.refl _ _ | exact U2.out | exact U1.out | apply Upd.drew | apply Upd.alloc)) hu1); have HU1 := Lib.hid hu1; clear ho1 hu1))
        | ((refine step_append_ints (by rfl) _ _ (by rfl) wA.heap.size _ _ ks (by rfl) (by first | exact (World.ownsRow_made _ (base := wA.heap.size) (e := 3) (size := 1) #[] 0 (Upd.size (F := fun _ => False) (by repeat (first | exact Upd.refl _ _ | exact U2.out | exact U1.out | apply Upd.drew | apply Upd.alloc))) (Nat.zero_le _) (by simp)) | exact owns_upd (owns_upd (World.ownsRow_made _ (base := wA.heap.size) (e := 3) (size := 1) #[] 0 (Upd.size (F := fun _ => False) (by repeat (first | exact Upd.refl _ _ | exact U2.out | exact U1.out | apply Upd.drew | apply Upd.alloc))) (Nat.zero_le _) (by simp)) ((Upd.refl (fun _ => False) _).drew) (fun _ _ h => h)) HU1.out (fun _ _ h => h) | exact owns_upd (World.ownsRow_made _ (base := wA.heap.size) (e := 3) (size := 1) #[] 0 (Upd.size (F := fun _ => False) (by repeat (first | exact Upd.refl _ _ | exact U2.out | exact U1.out | apply Upd.drew | apply Upd.alloc))) (Nat.zero_le _) (by simp)) HU1.out (fun _ _ h => h)) (by rfl) (HK.out.old (Upd.trans UA.out (by repeat (first | exact Upd.refl _ _ | exact U2.out | exact U1.out | apply Upd.drew | apply Upd.alloc)))) (Upd.size (F := fun _ => False) (by repeat (first | exact Upd.refl _ _ | exact U2.out | exact U1.out | apply Upd.drew | apply Upd.alloc))) ?_; intro v2 w2 ho2 hu2 htg2; obtain ⟨a2, m2, c2, rfl, hm2⟩ : ∃ a m c, v2 = .slice a m c ∧ m = ks.length := (by obtain ⟨a, c, e⟩ := ho2.shape; exact ⟨a, _, c, e, rfl⟩); obtain ⟨hgg2, hgt2⟩ := htg2 _ rfl; have HO2 := Lib.hid ho2; have hu2' := hu2.mono (G := fun k => k = _) (fun k _ e => by cases e; rfl); have HO12 := Lib.hid (own_past (HO1.out.old (by repeat (first | exact Upd.refl _ _ | apply Upd.drew | apply Upd.alloc))) hgt2 hu2'); have U2 : Hid (Upd (fun _ => False) wA w2) := Lib.hid (Upd.trans' (by repeat (first | exact Upd.refl _ _ | exact U1.out | apply Upd.drew | apply Upd.alloc)) hu2' (fun i hi e => by have hz1 := U1.out.size; omega)); clear hu2' hgt2 htg2; clear ho2 hu2)))
    all_goals
      go_wp2_with fail
      go_meet
      case rel =>
        subst hm1
        subst hm2
        exact ⟨a1, c1, a2, c2, rfl, rfl, HO12.out, HO2.out, U2.out⟩
  case rest =>
    obtain ⟨a1, c1, a2, c2, rfl, rfl, ho1, ho2, hu2⟩ := hcut
    have HO1 := Lib.hid ho1; clear ho1
    have HO2 := Lib.hid ho2; clear ho2
    have U2 := Lib.hid hu2; clear hu2
    have zz2 := U2.out.size
    have U02 := Lib.hid (UA.out.trans U2.out)
    have HPc := Lib.hid (HP.out.bound.old U02.out)
    have f0 := (U2.out.cell (p := ⟨kb, 0, none⟩) hkA (fun h => h)).trans z0
    have f1 := (U2.out.cell (p := ⟨kb, 1, none⟩) hkA (fun h => h)).trans z1
    have f2 := (U2.out.cell (p := ⟨kb, 2, none⟩) hkA (fun h => h)).trans z2
    have f3 := (U2.out.cell (p := ⟨kb, 3, none⟩) hkA (fun h => h)).trans z3
    have f4 := (U2.out.cell (p := ⟨kb, 4, none⟩) hkA (fun h => h)).trans z4
    have f5 := (U2.out.cell (p := ⟨kb, 5, none⟩) hkA (fun h => h)).trans z5
    clear z0 z1 z2 z3 z4 z5
    have hkw : kb < wc.heap.size := by omega
    have HGK : Hid (∀ k, Blk (.slice a1 bs.length c1) k → k ≠ kb) := Lib.hid fun k hk => by
      obtain ⟨o', n', c', e', hn'⟩ := hk
      rcases HO1.out.2 with ⟨e2, _⟩ | ⟨g', cap, cur, e2, _, hh, _⟩
      · rw [e'] at e2; cases e2
      · rw [e'] at e2; cases e2
        exact tag_ne ⟨cur, hh⟩ (tag_upd zt U2.out (fun h => h)) (by decide)
    have HKI : Hid (Ints wc (.slice a2 ks.length c2) ks) := Lib.hid (Ints.of_owns (by have := HK.out.2; omega) HO2.out)
    have HCK : Hid (∀ W (F : Nat → Prop), Upd F wc.drew W → (∀ k, F k → k < w.heap.size) → wc.cell? ⟨kb, 2, none⟩ = some (.int .i64 torn) → wc.cell? ⟨kb, 3, none⟩ = some (.int .i64 n) → wc.cell? ⟨kb, 5, none⟩ = some (.slice ka ks.length kc) → W.cell? ⟨kb, 2, none⟩ = some (.int .i64 torn) ∧ W.cell? ⟨kb, 3, none⟩ = some (.int .i64 n) ∧ W.cell? ⟨kb, 5, none⟩ = some (.slice ka ks.length kc)) := Lib.hid fun W F hu hF e2 e3 e5 => by
      have hk : ¬ F kb := fun e => by have := hF _ e; have := HKBB.out; omega
      exact ⟨(hu.cell (p := ⟨kb, 2, none⟩) hkw hk).trans e2, (hu.cell (p := ⟨kb, 3, none⟩) hkw hk).trans e3, (hu.cell (p := ⟨kb, 5, none⟩) hkw hk).trans e5⟩
    clear zt
    obtain rfl | rfl | rfl | rfl | rfl | rfl | rfl : q7 = 0 ∨ q7 = 1 ∨ q7 = 2 ∨ q7 = 3 ∨ q7 = 4 ∨ q7 = 5 ∨ q7 = 6 := by omega
    · have hcd : Upd (fun _ => False) wc wc.drew := (Upd.refl _ _).drew
      obtain ⟨er, Mid, Fin, h1, h2, h3, h4, h5⟩ := write_two (w0 := wc.drew) (G := fun k => G k ∧ k < w.heap.size) HP.out.bound (U02.out.trans hcd) i (.slice a1 bs.length c1) (.slice ba bs.length bc) bs (HO1.out.old hcd).byt ((HB.out.old U02.out).old hcd) hbl (fun k hk => blk_own (HO1.out.old hcd) hk) (fun k hk hg => by obtain ⟨o', n', c', e', hn'⟩ := hk; exact HBG.out k o' n' c' e' hn' hg.1)
      have H1 := Lib.hid h1; clear h1
      have H2 := Lib.hid h2; clear h2
      have H3 := Lib.hid h3; clear h3
      have H4 := Lib.hid h4; clear h4
      have H5 := Lib.hid h5; clear h5
      have HAB : Hid (∀ W (F : Nat → Prop), Upd F wc.drew W → (∀ k, F k → k < w.heap.size) → AnyB W (.slice a1 bs.length c1) bs.length) := Lib.hid fun W F u hF => anyb_of ((HO1.out.old hcd).upd u (fun k hk e => by have := hF k e; omega)) hbl
      go_wp2_with fail
      go_region_held3 (fun w' => w'.cell? ⟨kb, 1, none⟩ = some (.int .i64 i) ∧ w'.cell? ⟨kb, 4, none⟩ = some (.slice ba bs.length bc))
        (first | exact ⟨f1, f4⟩ | exact ⟨hm1c.1, hm1c.2⟩ | exact ⟨hm2c.1, hm2c.2⟩)
        (first
          | ((go_at_call 21; (with_reducible refine H1.out.mono ?_); rintro e w1 ⟨rfl, hm⟩; have HM := Lib.hid hm; have hm1c : w1.cell? ⟨kb, 1, none⟩ = some (.int .i64 i) ∧ w1.cell? ⟨kb, 4, none⟩ = some (.slice ba bs.length bc) := (by obtain ⟨F1, hF1, hF2⟩ := H2.out _ hm; exact ⟨(hF1.cell (p := ⟨kb, 1, none⟩) (by show kb < wc.drew.heap.size; exact hkw) (fun e => by have := (hF2 kb e).2; have := HKBB.out; omega)).trans f1, (hF1.cell (p := ⟨kb, 4, none⟩) (by show kb < wc.drew.heap.size; exact hkw) (fun e => by have := (hF2 kb e).2; have := HKBB.out; omega)).trans f4⟩); clear hm))
          | ((go_at_call 22; (with_reducible refine (H3.out _ HM.out).mono ?_); rintro e w2 ⟨rfl, hf⟩; have HFI := Lib.hid hf; have hm2c : w2.cell? ⟨kb, 1, none⟩ = some (.int .i64 i) ∧ w2.cell? ⟨kb, 4, none⟩ = some (.slice ba bs.length bc) := (by obtain ⟨_, F1, hF1, hF2⟩ := H4.out _ hf; exact ⟨(hF1.cell (p := ⟨kb, 1, none⟩) (by show kb < wc.drew.heap.size; exact hkw) (fun e => by have := (hF2 kb e).2.1; have := HKBB.out; omega)).trans f1, (hF1.cell (p := ⟨kb, 4, none⟩) (by show kb < wc.drew.heap.size; exact hkw) (fun e => by have := (hF2 kb e).2.1; have := HKBB.out; omega)).trans f4⟩); clear hf)))
      all_goals
        obtain ⟨hz2, F2, hF2, hF2n⟩ := H4.out _ HFI.out
        have hAB := HAB.out _ F2 hF2 (fun k e => (hF2n k e).2.1)
        have hkw2 : kb < w2.heap.size := Nat.lt_of_lt_of_le hkw hz2
        have hnk : ∀ k, Blk (.slice a1 bs.length c1) k → k < w2.heap.size ∧ k ≠ kb := fun k hk => ⟨Nat.lt_of_lt_of_le (blk_own HO1.out hk).2 hz2, HGK.out k hk⟩
        have HAB2 := Lib.hid hAB; clear hAB
        have HNK := Lib.hid hnk; clear hnk
        have f1' := hm2c.1
        clear hm2c hm1c f0 f1 f2 f3 f4 f5 hF2 hF2n
        go_wp2_with fail
        refine (spoil1 _ w2.heap.size 1 (.slice a1 bs.length c1) bs.length (HAB2.out.old ((Upd.refl _ _).alloc _)) (by simp [go_sem]) (fun k hk => by have := (HNK.out k hk).1; omega)).mono ?_
        rintro e w3 hsp
        obtain rfl := hsp.e
        have u23 : Upd (fun k => Blk (.slice a1 bs.length c1) k) w2 w3 := ((Upd.refl _ _).alloc _).trans hsp.u
        have fz1 := (u23.cell (p := ⟨kb, 1, none⟩) hkw2 (fun e => (HNK.out kb e).2 rfl)).trans f1'
        have HA := Lib.hid (H5.out _ _ HFI.out u23)
        clear hsp u23 f1'
        obtain ⟨lr, er2, hR1, hR2⟩ := read_two HA.out.1 i
        have HR1 := Lib.hid hR1; clear hR1
        have HR2 := Lib.hid hR2; clear hR2
        go_wp2_with fail
        refine (HR1.out _ (Upd.refl _ _)).mono ?_
        rintro e wr1 ⟨v1, rfl, hb1, hu1⟩
        obtain ⟨ra1, rc1, rfl⟩ := hb1.shape
        have fz1' := (hu1.cell (p := ⟨kb, 1, none⟩) (World.block_lt_of_cell? _ _ fz1) (fun h => h)).trans fz1
        have HB1 := Lib.hid hb1; clear hb1
        have HV1 := Lib.hid hu1; clear hu1
        clear fz1
        go_wp2_with fail
        refine (HR2.out _ HV1.out).mono ?_
        rintro e wr2 ⟨v2, rfl, hb2, hu2⟩
        obtain ⟨ra2, rc2, rfl⟩ := hb2.shape
        have HB1' := Lib.hid (HB1.out.old hu2)
        have HB2 := Lib.hid hb2; clear hb2
        have HV2 := Lib.hid (HV1.out.trans hu2); clear hu2
        clear fz1'
        go_wp2_with fail
        refine (equal_same _ _ _ lr HB1'.out HB2.out).mono ?_
        rintro e w' ⟨rfl, rfl⟩
        go_wp2_with fail
        refine (same_any (HA.out.1.old HV2.out)).mono ?_
        rintro e w7 ⟨rfl, hu7⟩
        have HV7 := Lib.hid (HV2.out.trans hu7); clear hu7
        go_wp2_with fail
        go_ret
        exact ⟨rfl, (HA.out.old HV7.out).wide (fun k h => h.1)⟩
    · have hcd : Upd (fun _ => False) wc wc.drew := (Upd.refl _ _).drew
      obtain ⟨er, Mid, Fin, h1, h2, h3, h4, h5⟩ := write_two (w0 := wc.drew) (G := fun k => G k ∧ k < w.heap.size) HP.out.bound (U02.out.trans hcd) i (.slice a1 bs.length c1) (.slice ba bs.length bc) bs (HO1.out.old hcd).byt ((HB.out.old U02.out).old hcd) hbl (fun k hk => blk_own (HO1.out.old hcd) hk) (fun k hk hg => by obtain ⟨o', n', c', e', hn'⟩ := hk; exact HBG.out k o' n' c' e' hn' hg.1)
      have H1 := Lib.hid h1; clear h1
      have H2 := Lib.hid h2; clear h2
      have H3 := Lib.hid h3; clear h3
      have H4 := Lib.hid h4; clear h4
      have H5 := Lib.hid h5; clear h5
      have HAB : Hid (∀ W (F : Nat → Prop), Upd F wc.drew W → (∀ k, F k → k < w.heap.size) → AnyB W (.slice a1 bs.length c1) bs.length) := Lib.hid fun W F u hF => anyb_of ((HO1.out.old hcd).upd u (fun k hk e => by have := hF k e; omega)) hbl
      go_wp2_with fail
      go_region_held3 (fun w' => w'.cell? ⟨kb, 1, none⟩ = some (.int .i64 i) ∧ w'.cell? ⟨kb, 4, none⟩ = some (.slice ba bs.length bc))
        (first | exact ⟨f1, f4⟩ | exact ⟨hm1c.1, hm1c.2⟩ | exact ⟨hm2c.1, hm2c.2⟩)
        (first
          | ((go_at_call 21; (with_reducible refine H1.out.mono ?_); rintro e w1 ⟨rfl, hm⟩; have HM := Lib.hid hm; have hm1c : w1.cell? ⟨kb, 1, none⟩ = some (.int .i64 i) ∧ w1.cell? ⟨kb, 4, none⟩ = some (.slice ba bs.length bc) := (by obtain ⟨F1, hF1, hF2⟩ := H2.out _ hm; exact ⟨(hF1.cell (p := ⟨kb, 1, none⟩) (by show kb < wc.drew.heap.size; exact hkw) (fun e => by have := (hF2 kb e).2; have := HKBB.out; omega)).trans f1, (hF1.cell (p := ⟨kb, 4, none⟩) (by show kb < wc.drew.heap.size; exact hkw) (fun e => by have := (hF2 kb e).2; have := HKBB.out; omega)).trans f4⟩); clear hm))
          | ((go_at_call 22; (with_reducible refine (H3.out _ HM.out).mono ?_); rintro e w2 ⟨rfl, hf⟩; have HFI := Lib.hid hf; have hm2c : w2.cell? ⟨kb, 1, none⟩ = some (.int .i64 i) ∧ w2.cell? ⟨kb, 4, none⟩ = some (.slice ba bs.length bc) := (by obtain ⟨_, F1, hF1, hF2⟩ := H4.out _ hf; exact ⟨(hF1.cell (p := ⟨kb, 1, none⟩) (by show kb < wc.drew.heap.size; exact hkw) (fun e => by have := (hF2 kb e).2.1; have := HKBB.out; omega)).trans f1, (hF1.cell (p := ⟨kb, 4, none⟩) (by show kb < wc.drew.heap.size; exact hkw) (fun e => by have := (hF2 kb e).2.1; have := HKBB.out; omega)).trans f4⟩); clear hf)))
      all_goals
        obtain ⟨hz2, F2, hF2, hF2n⟩ := H4.out _ HFI.out
        have hAB := HAB.out _ F2 hF2 (fun k e => (hF2n k e).2.1)
        have hkw2 : kb < w2.heap.size := Nat.lt_of_lt_of_le hkw hz2
        have hnk : ∀ k, Blk (.slice a1 bs.length c1) k → k < w2.heap.size ∧ k ≠ kb := fun k hk => ⟨Nat.lt_of_lt_of_le (blk_own HO1.out hk).2 hz2, HGK.out k hk⟩
        have HAB2 := Lib.hid hAB; clear hAB
        have HNK := Lib.hid hnk; clear hnk
        have f1' := hm2c.1
        clear hm2c hm1c f0 f1 f2 f3 f4 f5 hF2 hF2n
        go_wp2_with fail
        refine (spoil1 _ w2.heap.size 1 (.slice a1 bs.length c1) bs.length (HAB2.out.old ((Upd.refl _ _).alloc _)) (by simp [go_sem]) (fun k hk => by have := (HNK.out k hk).1; omega)).mono ?_
        rintro e w3 hsp
        obtain rfl := hsp.e
        have u23 : Upd (fun k => Blk (.slice a1 bs.length c1) k) w2 w3 := ((Upd.refl _ _).alloc _).trans hsp.u
        have fz1 := (u23.cell (p := ⟨kb, 1, none⟩) hkw2 (fun e => (HNK.out kb e).2 rfl)).trans f1'
        have HA := Lib.hid (H5.out _ _ HFI.out u23)
        clear hsp u23 f1'
        obtain ⟨lr, er2, hR1, hR2⟩ := read_two HA.out.1 i
        have HR1 := Lib.hid hR1; clear hR1
        have HR2 := Lib.hid hR2; clear hR2
        go_wp2_with fail
        refine (HR1.out _ (Upd.refl _ _)).mono ?_
        rintro e wr1 ⟨v1, rfl, hb1, hu1⟩
        obtain ⟨ra1, rc1, rfl⟩ := hb1.shape
        have fz1' := (hu1.cell (p := ⟨kb, 1, none⟩) (World.block_lt_of_cell? _ _ fz1) (fun h => h)).trans fz1
        have HB1 := Lib.hid hb1; clear hb1
        have HV1 := Lib.hid hu1; clear hu1
        clear fz1
        go_wp2_with fail
        refine (HR2.out _ HV1.out).mono ?_
        rintro e wr2 ⟨v2, rfl, hb2, hu2⟩
        obtain ⟨ra2, rc2, rfl⟩ := hb2.shape
        have HB1' := Lib.hid (HB1.out.old hu2)
        have HB2 := Lib.hid hb2; clear hb2
        have HV2 := Lib.hid (HV1.out.trans hu2); clear hu2
        clear fz1'
        go_wp2_with fail
        refine (equal_same _ _ _ lr HB1'.out HB2.out).mono ?_
        rintro e w' ⟨rfl, rfl⟩
        go_wp2_with fail
        refine (same_any (HA.out.1.old HV2.out)).mono ?_
        rintro e w7 ⟨rfl, hu7⟩
        have HV7 := Lib.hid (HV2.out.trans hu7); clear hu7
        go_wp2_with fail
        go_ret
        exact ⟨rfl, (HA.out.old HV7.out).wide (fun k h => h.1)⟩
    · have hcd : Upd (fun _ => False) wc wc.drew := (Upd.refl _ _).drew
      obtain ⟨er, Mid, Fin, h1, h2, h3, h4, h5⟩ := write_two (w0 := wc.drew) (G := fun k => G k ∧ k < w.heap.size) HP.out.bound (U02.out.trans hcd) i (.slice a1 bs.length c1) (.slice ba bs.length bc) bs (HO1.out.old hcd).byt ((HB.out.old U02.out).old hcd) hbl (fun k hk => blk_own (HO1.out.old hcd) hk) (fun k hk hg => by obtain ⟨o', n', c', e', hn'⟩ := hk; exact HBG.out k o' n' c' e' hn' hg.1)
      have H1 := Lib.hid h1; clear h1
      have H2 := Lib.hid h2; clear h2
      have H3 := Lib.hid h3; clear h3
      have H4 := Lib.hid h4; clear h4
      have H5 := Lib.hid h5; clear h5
      have HAB : Hid (∀ W (F : Nat → Prop), Upd F wc.drew W → (∀ k, F k → k < w.heap.size) → AnyB W (.slice a1 bs.length c1) bs.length) := Lib.hid fun W F u hF => anyb_of ((HO1.out.old hcd).upd u (fun k hk e => by have := hF k e; omega)) hbl
      go_wp2_with fail
      go_region_held3 (fun w' => w'.cell? ⟨kb, 1, none⟩ = some (.int .i64 i) ∧ w'.cell? ⟨kb, 4, none⟩ = some (.slice ba bs.length bc))
        (first | exact ⟨f1, f4⟩ | exact ⟨hm1c.1, hm1c.2⟩ | exact ⟨hm2c.1, hm2c.2⟩)
        (first
          | ((go_at_call 21; (with_reducible refine H1.out.mono ?_); rintro e w1 ⟨rfl, hm⟩; have HM := Lib.hid hm; have hm1c : w1.cell? ⟨kb, 1, none⟩ = some (.int .i64 i) ∧ w1.cell? ⟨kb, 4, none⟩ = some (.slice ba bs.length bc) := (by obtain ⟨F1, hF1, hF2⟩ := H2.out _ hm; exact ⟨(hF1.cell (p := ⟨kb, 1, none⟩) (by show kb < wc.drew.heap.size; exact hkw) (fun e => by have := (hF2 kb e).2; have := HKBB.out; omega)).trans f1, (hF1.cell (p := ⟨kb, 4, none⟩) (by show kb < wc.drew.heap.size; exact hkw) (fun e => by have := (hF2 kb e).2; have := HKBB.out; omega)).trans f4⟩); clear hm))
          | ((go_at_call 22; (with_reducible refine (H3.out _ HM.out).mono ?_); rintro e w2 ⟨rfl, hf⟩; have HFI := Lib.hid hf; have hm2c : w2.cell? ⟨kb, 1, none⟩ = some (.int .i64 i) ∧ w2.cell? ⟨kb, 4, none⟩ = some (.slice ba bs.length bc) := (by obtain ⟨_, F1, hF1, hF2⟩ := H4.out _ hf; exact ⟨(hF1.cell (p := ⟨kb, 1, none⟩) (by show kb < wc.drew.heap.size; exact hkw) (fun e => by have := (hF2 kb e).2.1; have := HKBB.out; omega)).trans f1, (hF1.cell (p := ⟨kb, 4, none⟩) (by show kb < wc.drew.heap.size; exact hkw) (fun e => by have := (hF2 kb e).2.1; have := HKBB.out; omega)).trans f4⟩); clear hf)))
      all_goals
        obtain ⟨hz2, F2, hF2, hF2n⟩ := H4.out _ HFI.out
        have hAB := HAB.out _ F2 hF2 (fun k e => (hF2n k e).2.1)
        have hkw2 : kb < w2.heap.size := Nat.lt_of_lt_of_le hkw hz2
        have hnk : ∀ k, Blk (.slice a1 bs.length c1) k → k < w2.heap.size ∧ k ≠ kb := fun k hk => ⟨Nat.lt_of_lt_of_le (blk_own HO1.out hk).2 hz2, HGK.out k hk⟩
        have HAB2 := Lib.hid hAB; clear hAB
        have HNK := Lib.hid hnk; clear hnk
        have f1' := hm2c.1
        clear hm2c hm1c f0 f1 f2 f3 f4 f5 hF2 hF2n
        go_wp2_with fail
        refine (spoil1 _ w2.heap.size 1 (.slice a1 bs.length c1) bs.length (HAB2.out.old ((Upd.refl _ _).alloc _)) (by simp [go_sem]) (fun k hk => by have := (HNK.out k hk).1; omega)).mono ?_
        rintro e w3 hsp
        obtain rfl := hsp.e
        have u23 : Upd (fun k => Blk (.slice a1 bs.length c1) k) w2 w3 := ((Upd.refl _ _).alloc _).trans hsp.u
        have fz1 := (u23.cell (p := ⟨kb, 1, none⟩) hkw2 (fun e => (HNK.out kb e).2 rfl)).trans f1'
        have HA := Lib.hid (H5.out _ _ HFI.out u23)
        clear hsp u23 f1'
        obtain ⟨lr, er2, hR1, hR2⟩ := read_two HA.out.1 i
        have HR1 := Lib.hid hR1; clear hR1
        have HR2 := Lib.hid hR2; clear hR2
        go_wp2_with fail
        refine (HR1.out _ (Upd.refl _ _)).mono ?_
        rintro e wr1 ⟨v1, rfl, hb1, hu1⟩
        obtain ⟨ra1, rc1, rfl⟩ := hb1.shape
        have fz1' := (hu1.cell (p := ⟨kb, 1, none⟩) (World.block_lt_of_cell? _ _ fz1) (fun h => h)).trans fz1
        have HB1 := Lib.hid hb1; clear hb1
        have HV1 := Lib.hid hu1; clear hu1
        clear fz1
        go_wp2_with fail
        refine (HR2.out _ HV1.out).mono ?_
        rintro e wr2 ⟨v2, rfl, hb2, hu2⟩
        obtain ⟨ra2, rc2, rfl⟩ := hb2.shape
        have HB1' := Lib.hid (HB1.out.old hu2)
        have HB2 := Lib.hid hb2; clear hb2
        have HV2 := Lib.hid (HV1.out.trans hu2); clear hu2
        clear fz1'
        go_wp2_with fail
        refine (equal_same _ _ _ lr HB1'.out HB2.out).mono ?_
        rintro e w' ⟨rfl, rfl⟩
        go_wp2_with fail
        refine (same_any (HA.out.1.old HV2.out)).mono ?_
        rintro e w7 ⟨rfl, hu7⟩
        have HV7 := Lib.hid (HV2.out.trans hu7); clear hu7
        go_wp2_with fail
        go_ret
        exact ⟨rfl, (HA.out.old HV7.out).wide (fun k h => h.1)⟩
    · obtain ⟨er, Mid, h1, h2, h3⟩ := sync_two HPc.out
      have H1 := Lib.hid h1; clear h1 h2
      have H3 := Lib.hid h3; clear h3
      go_wp2_with fail
      refine H1.out.mono ?_
      rintro e w1 ⟨rfl, hm⟩
      have HM := Lib.hid hm; clear hm
      go_wp2_with fail
      refine (H3.out _ HM.out).mono ?_
      rintro e w2 ⟨rfl, ha⟩
      have fz1 : w2.cell? ⟨kb, 1, none⟩ = some (.int .i64 i) := by
        obtain ⟨_, F, hF, hFn⟩ := ha
        exact (hF.cell (p := ⟨kb, 1, none⟩) (by first | exact hkw | (show kb < _; simpa using hkw)) (fun e => by have := (hFn kb e).1.2; have := HKBB.out; omega)).trans f1
      have HA := Lib.hid (AfterP.lift U02.out ha)
      clear ha f0 f1 f2 f3 f4 f5
      obtain ⟨lr, er2, hR1, hR2⟩ := read_two HA.out.1 i
      have HR1 := Lib.hid hR1; clear hR1
      have HR2 := Lib.hid hR2; clear hR2
      go_wp2_with fail
      refine (HR1.out _ (Upd.refl _ _)).mono ?_
      rintro e wr1 ⟨v1, rfl, hb1, hu1⟩
      obtain ⟨ra1, rc1, rfl⟩ := hb1.shape
      have fz1' := (hu1.cell (p := ⟨kb, 1, none⟩) (World.block_lt_of_cell? _ _ fz1) (fun h => h)).trans fz1
      have HB1 := Lib.hid hb1; clear hb1
      have HV1 := Lib.hid hu1; clear hu1
      clear fz1
      go_wp2_with fail
      refine (HR2.out _ HV1.out).mono ?_
      rintro e wr2 ⟨v2, rfl, hb2, hu2⟩
      obtain ⟨ra2, rc2, rfl⟩ := hb2.shape
      have HB1' := Lib.hid (HB1.out.old hu2)
      have HB2 := Lib.hid hb2; clear hb2
      have HV2 := Lib.hid (HV1.out.trans hu2); clear hu2
      clear fz1'
      go_wp2_with fail
      refine (equal_same _ _ _ lr HB1'.out HB2.out).mono ?_
      rintro e w' ⟨rfl, rfl⟩
      go_wp2_with fail
      refine (same_any (HA.out.1.old HV2.out)).mono ?_
      rintro e w7 ⟨rfl, hu7⟩
      have HV7 := Lib.hid (HV2.out.trans hu7); clear hu7
      go_wp2_with fail
      go_ret
      exact ⟨rfl, (HA.out.old HV7.out).wide (fun k h => h.1)⟩
    · have hcd : Upd (fun _ => False) wc wc.drew := (Upd.refl _ _).drew
      obtain ⟨er, Mid, h1, h2, h3⟩ := crash_two (HPc.out.old hcd) (.slice a2 ks.length c2) (.slice ka ks.length kc) ks torn n (HKI.out.old hcd) ((HK.out.old U02.out).old hcd) (fun k o m c e => .inr (fun hg => by have := HO2.out.ge k (by rw [e]; rfl); have := hg.2; have := UAS.out; omega)) (fun h0 k o m c e hg => HKG.out k o m c e (by cases e; omega) hg.1)
      have H1 := Lib.hid h1; clear h1
      have H2 := Lib.hid h2; clear h2
      have H3 := Lib.hid h3; clear h3
      go_wp2_with fail
      go_region_held3 (fun w' => w'.cell? ⟨kb, 2, none⟩ = some (.int .i64 torn) ∧ w'.cell? ⟨kb, 3, none⟩ = some (.int .i64 n) ∧ w'.cell? ⟨kb, 5, none⟩ = some (.slice ka ks.length kc))
        (first | exact ⟨f2, f3, f5⟩ | exact hm1c | exact hm2c)
        (first
          | ((go_at_call 26; (with_reducible refine H1.out.mono ?_); rintro e w1 ⟨rfl, hm⟩; have HM := Lib.hid hm; have hm1c : w1.cell? ⟨kb, 2, none⟩ = some (.int .i64 torn) ∧ w1.cell? ⟨kb, 3, none⟩ = some (.int .i64 n) ∧ w1.cell? ⟨kb, 5, none⟩ = some (.slice ka ks.length kc) := (by obtain ⟨F1, hF1, hF2⟩ := H2.out _ hm; exact HCK.out w1 F1 hF1 (fun k e => (hF2 k e).2) f2 f3 f5); clear hm))
          | ((go_at_call 27; (with_reducible refine (H3.out _ HM.out).mono ?_); rintro e w2 ⟨rfl, ha⟩; have hm2c : w2.cell? ⟨kb, 2, none⟩ = some (.int .i64 torn) ∧ w2.cell? ⟨kb, 3, none⟩ = some (.int .i64 n) ∧ w2.cell? ⟨kb, 5, none⟩ = some (.slice ka ks.length kc) := (by obtain ⟨_, F, hF, hFn⟩ := ha; exact HCK.out w2 F hF (fun k e => (hFn k e).1.2) f2 f3 f5); have HAA := Lib.hid ha; clear ha)))
      all_goals
        have ha := HAA.out
        clear hm1c hm2c
        have fz1 : w2.cell? ⟨kb, 1, none⟩ = some (.int .i64 i) := by
          obtain ⟨_, F, hF, hFn⟩ := ha
          exact (hF.cell (p := ⟨kb, 1, none⟩) (by first | exact hkw | (show kb < _; simpa using hkw)) (fun e => by have := (hFn kb e).1.2; have := HKBB.out; omega)).trans f1
        have HA := Lib.hid (AfterP.lift (U02.out.trans hcd) ha)
        clear ha f0 f1 f2 f3 f4 f5
        obtain ⟨lr, er2, hR1, hR2⟩ := read_two HA.out.1 i
        have HR1 := Lib.hid hR1; clear hR1
        have HR2 := Lib.hid hR2; clear hR2
        go_wp2_with fail
        refine (HR1.out _ (Upd.refl _ _)).mono ?_
        rintro e wr1 ⟨v1, rfl, hb1, hu1⟩
        obtain ⟨ra1, rc1, rfl⟩ := hb1.shape
        have fz1' := (hu1.cell (p := ⟨kb, 1, none⟩) (World.block_lt_of_cell? _ _ fz1) (fun h => h)).trans fz1
        have HB1 := Lib.hid hb1; clear hb1
        have HV1 := Lib.hid hu1; clear hu1
        clear fz1
        go_wp2_with fail
        refine (HR2.out _ HV1.out).mono ?_
        rintro e wr2 ⟨v2, rfl, hb2, hu2⟩
        obtain ⟨ra2, rc2, rfl⟩ := hb2.shape
        have HB1' := Lib.hid (HB1.out.old hu2)
        have HB2 := Lib.hid hb2; clear hb2
        have HV2 := Lib.hid (HV1.out.trans hu2); clear hu2
        clear fz1'
        go_wp2_with fail
        refine (equal_same _ _ _ lr HB1'.out HB2.out).mono ?_
        rintro e w' ⟨rfl, rfl⟩
        go_wp2_with fail
        refine (same_any (HA.out.1.old HV2.out)).mono ?_
        rintro e w7 ⟨rfl, hu7⟩
        have HV7 := Lib.hid (HV2.out.trans hu7); clear hu7
        go_wp2_with fail
        go_ret
        exact ⟨rfl, (HA.out.old HV7.out).wide (fun k h => h.1)⟩
    · have fz1 := f1
      have HA := Lib.hid (AfterP.same (G := fun k => G k ∧ k < w.heap.size) HP.out.bound U02.out)
      obtain ⟨lr, er2, hR1, hR2⟩ := read_two HA.out.1 i
      have HR1 := Lib.hid hR1; clear hR1
      have HR2 := Lib.hid hR2; clear hR2
      go_wp2_with fail
      refine (HR1.out _ (Upd.refl _ _)).mono ?_
      rintro e wr1 ⟨v1, rfl, hb1, hu1⟩
      obtain ⟨ra1, rc1, rfl⟩ := hb1.shape
      have fz1' := (hu1.cell (p := ⟨kb, 1, none⟩) (World.block_lt_of_cell? _ _ fz1) (fun h => h)).trans fz1
      have HB1 := Lib.hid hb1; clear hb1
      have HV1 := Lib.hid hu1; clear hu1
      clear fz1
      go_wp2_with fail
      refine (HR2.out _ HV1.out).mono ?_
      rintro e wr2 ⟨v2, rfl, hb2, hu2⟩
      obtain ⟨ra2, rc2, rfl⟩ := hb2.shape
      have HB1' := Lib.hid (HB1.out.old hu2)
      have HB2 := Lib.hid hb2; clear hb2
      have HV2 := Lib.hid (HV1.out.trans hu2); clear hu2
      clear fz1'
      go_wp2_with fail
      refine (equal_same _ _ _ lr HB1'.out HB2.out).mono ?_
      rintro e w' ⟨rfl, rfl⟩
      go_wp2_with fail
      refine (same_any (HA.out.1.old HV2.out)).mono ?_
      rintro e w7 ⟨rfl, hu7⟩
      have HV7 := Lib.hid (HV2.out.trans hu7); clear hu7
      go_wp2_with fail
      go_ret
      exact ⟨rfl, (HA.out.old HV7.out).wide (fun k h => h.1)⟩
    · by_cases h7 : torn = 7
      · subst h7
        obtain ⟨er, Mid, h1, h2, h3⟩ := fail_two HPc.out
        have H1 := Lib.hid h1; clear h1 h2
        have H3 := Lib.hid h3; clear h3
        go_wp2_with fail
        refine H1.out.mono ?_
        rintro e w1 ⟨rfl, hm⟩
        have HM := Lib.hid hm; clear hm
        go_wp2_with fail
        refine (H3.out _ HM.out).mono ?_
        rintro e w2 ⟨rfl, ha⟩
        have fz1 : w2.cell? ⟨kb, 1, none⟩ = some (.int .i64 i) := by
          obtain ⟨_, F, hF, hFn⟩ := ha
          exact (hF.cell (p := ⟨kb, 1, none⟩) (by first | exact hkw | (show kb < _; simpa using hkw)) (fun e => by have := (hFn kb e).1.2; have := HKBB.out; omega)).trans f1
        have HA := Lib.hid (AfterP.lift U02.out ha)
        clear ha f0 f1 f2 f3 f4 f5
        obtain ⟨lr, er2, hR1, hR2⟩ := read_two HA.out.1 i
        have HR1 := Lib.hid hR1; clear hR1
        have HR2 := Lib.hid hR2; clear hR2
        go_wp2_with fail
        refine (HR1.out _ (Upd.refl _ _)).mono ?_
        rintro e wr1 ⟨v1, rfl, hb1, hu1⟩
        obtain ⟨ra1, rc1, rfl⟩ := hb1.shape
        have fz1' := (hu1.cell (p := ⟨kb, 1, none⟩) (World.block_lt_of_cell? _ _ fz1) (fun h => h)).trans fz1
        have HB1 := Lib.hid hb1; clear hb1
        have HV1 := Lib.hid hu1; clear hu1
        clear fz1
        go_wp2_with fail
        refine (HR2.out _ HV1.out).mono ?_
        rintro e wr2 ⟨v2, rfl, hb2, hu2⟩
        obtain ⟨ra2, rc2, rfl⟩ := hb2.shape
        have HB1' := Lib.hid (HB1.out.old hu2)
        have HB2 := Lib.hid hb2; clear hb2
        have HV2 := Lib.hid (HV1.out.trans hu2); clear hu2
        clear fz1'
        go_wp2_with fail
        refine (equal_same _ _ _ lr HB1'.out HB2.out).mono ?_
        rintro e w' ⟨rfl, rfl⟩
        go_wp2_with fail
        refine (same_any (HA.out.1.old HV2.out)).mono ?_
        rintro e w7 ⟨rfl, hu7⟩
        have HV7 := Lib.hid (HV2.out.trans hu7); clear hu7
        go_wp2_with fail
        go_ret
        exact ⟨rfl, (HA.out.old HV7.out).wide (fun k h => h.1)⟩
      · have q7n : (torn != 7) = true := bne_iff_ne.2 h7
        have fz1 := f1
        have HA := Lib.hid (AfterP.same (G := fun k => G k ∧ k < w.heap.size) HP.out.bound U02.out)
        obtain ⟨lr, er2, hR1, hR2⟩ := read_two HA.out.1 i
        have HR1 := Lib.hid hR1; clear hR1
        have HR2 := Lib.hid hR2; clear hR2
        go_wp2_with fail
        refine (HR1.out _ (Upd.refl _ _)).mono ?_
        rintro e wr1 ⟨v1, rfl, hb1, hu1⟩
        obtain ⟨ra1, rc1, rfl⟩ := hb1.shape
        have fz1' := (hu1.cell (p := ⟨kb, 1, none⟩) (World.block_lt_of_cell? _ _ fz1) (fun h => h)).trans fz1
        have HB1 := Lib.hid hb1; clear hb1
        have HV1 := Lib.hid hu1; clear hu1
        clear fz1
        go_wp2_with fail
        refine (HR2.out _ HV1.out).mono ?_
        rintro e wr2 ⟨v2, rfl, hb2, hu2⟩
        obtain ⟨ra2, rc2, rfl⟩ := hb2.shape
        have HB1' := Lib.hid (HB1.out.old hu2)
        have HB2 := Lib.hid hb2; clear hb2
        have HV2 := Lib.hid (HV1.out.trans hu2); clear hu2
        clear fz1'
        go_wp2_with fail
        refine (equal_same _ _ _ lr HB1'.out HB2.out).mono ?_
        rintro e w' ⟨rfl, rfl⟩
        go_wp2_with fail
        refine (same_any (HA.out.1.old HV2.out)).mono ?_
        rintro e w7 ⟨rfl, hu7⟩
        have HV7 := Lib.hid (HV2.out.trans hu7); clear hu7
        go_wp2_with fail
        go_ret
        exact ⟨rfl, (HA.out.old HV7.out).wide (fun k h => h.1)⟩
end Go.Proofs.Ytcmhcibkpmbnoaa
