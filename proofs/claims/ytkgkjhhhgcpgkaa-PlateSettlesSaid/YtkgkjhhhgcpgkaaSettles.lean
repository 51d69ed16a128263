/-
  PlateSettles: the walk.
-/
import Derived.Test.YtkgkjhhhgcpgkaaPlateCopy
import Derived.Test.YtkgkjhhhgcpgkaaDirty
import Derived.Test.YtkgkjhhhgcpgkaaCrash
namespace Go.Proofs.Ytkgkjhhhgcpgkaa
open Go Go.RowKit Go.MapKept Go.ChangeMaps

theorem PlateAt.bNotB {w : World} {b ab cm : Nat} {D : List (List Int)} {C : Int → Option (List Int)} (h : PlateAt w b ab cm D C) : ∀ k, k = b ∨ k = ab → NotB w k := fun k e => by
  rcases e with rfl | rfl
  · intro cur' fr e'
    obtain ⟨cur, ht⟩ := h.tag
    rw [ht] at e'; cases e'
  · exact h.abNotB
theorem keep_all {C : Int → Option (List Int)} {K : List Int} (h : ∀ i, i ∈ K ↔ C i ≠ none) : keep C K = C := by
  funext i
  unfold keep
  by_cases e : i ∈ K
  · rw [if_pos e]
  · rw [if_neg e]
    cases hC : C i with
    | none => rfl
    | some l => exact absurd ((h i).2 (by rw [hC]; exact fun e => by cases e)) e
theorem keep_nil {C : Int → Option (List Int)} : keep C [] = fun _ => none := by
  funext i; unfold keep; simp
theorem view_none (D : List (List Int)) (i : Nat) : view D (fun _ => none) i = D.getD i [] := rfl
/-- The image of a plate whose cache is empty, and what it reads as. -/
theorem Secs.of_view {w : World} {v : Value} {h : Nat} {D N : List (List Int)} {C : Int → Option (List Int)} (H : Secs w v h (viewL D C)) (hD : D.length = 6) (hN : N.length = 6) (his : ∀ i, i < 6 → N.getD i [] = view D C i) : Secs w v h N :=
  H.congr (by rw [viewL_length, hD, hN]) (fun i hi => by rw [viewL_length, hD] at hi; rw [viewL_get (by rw [hD]; exact hi)]; exact his i hi)
set_option maxRecDepth 100000 in
set_option maxHeartbeats 8000000 in
theorem settles_walk (w : World) (v : Value) (ds : List DoP) (hv : DosP w v ds) : Calls Try.prog 6 #[v] w (BoolPost w true) := by
  obtain ⟨va, vc, rfl⟩ : ∃ a c, v = .slice a ds.length c := by
    rcases hv with ⟨rfl, a, c, h⟩ | ⟨b, o, c, h, _⟩
    · exact ⟨a, c, h⟩
    · exact ⟨_, _, h⟩
  have HV := Lib.hid hv; clear hv
  go_enter Try.func6, Try.ntmps6
  go_wp2_with fail
  refine (written_any _ _ ds HV.out).mono ?_
  rintro e w1 ⟨b, ab, cm, hn, hw, D, C, N, wasv, nowv, rfl, hI⟩
  obtain ⟨nc, rfl⟩ := hI.now.shape6 hI.nlen
  obtain ⟨wc, rfl⟩ := hI.was.shape6 hI.six
  have HI := Lib.hid hI; clear hI
  go_wp2_with fail
  refine (copy_any _ b ab cm D C HI.out.p).mono ?_
  rintro e w2 ⟨b2, ab2, cm2, rfl, hp2, l1, l2, l3, hu2⟩
  have HP2 := Lib.hid hp2; clear hp2
  have HU2 := Lib.hid hu2; clear hu2
  go_wp2_with fail
  refine (copy_any _ b ab cm D C (HI.out.p.old HU2.out)).mono ?_
  rintro e w3 ⟨b3, ab3, cm3, rfl, hp3, m1, m2, m3, hu3⟩
  have HP3 := Lib.hid hp3; clear hp3
  have HA3 := Lib.hid (HP2.out.old hu3)
  have HU3 := Lib.hid (HU2.out.trans hu3); clear hu3
  have hlt2 := HP2.out.lt
  go_wp2_with fail
  refine (dirty_any _ b2 ab2 cm2 D C HA3.out).mono ?_
  rintro e w4 ⟨kv, ks, rfl, hk4, hkf, hkl, hks, hu4⟩
  have HA4 := Lib.hid (HA3.out.old hu4)
  have HB4 := Lib.hid (HP3.out.old hu4)
  have HU4 := Lib.hid (HU3.out.trans hu4); clear hu4
  have hneg : C (-1) = none := by
    cases hC : C (-1) with
    | none => rfl
    | some l => have := HA4.out.keys (-1) l hC; omega
  have hlt3 := HA3.out.lt
  obtain ⟨ka, kc, rfl⟩ := hk4.shape
  have HK4 := Lib.hid hk4; clear hk4
  go_wp2_with fail
  refine (crash_plain _ b2 ab2 cm2 D C _ ks (-1) 0 HA4.out HK4.out hkl (fun kb o c k e => by have := hkf kb o k c e; omega) hneg).mono ?_
  rintro e w5 ⟨rfl, cm2', ha5, _, hu5⟩
  rw [keep_all hks] at ha5
  have HA5 := Lib.hid ha5; clear ha5
  have HB5 := Lib.hid (HB4.out.upd hu5 (fun e => by rcases e with e | e <;> omega) (fun e => by rcases e with e | e <;> omega) (fun e => by rcases e with e | e <;> omega) HA4.out.bNotB)
  have HU5 := Lib.hid (HU4.out.trans' hu5 (fun i hi e => by rcases e with e | e <;> omega)); clear hu5 hkf hks hkl HK4
  go_wp2_with fail
  refine (image_any _ b2 ab2 cm2' _ _ HA5.out).mono ?_
  rintro e w6 ⟨av, ha, rfl, hsa, hha, hu6⟩
  have hsa := hsa.of_view HI.out.six HI.out.nlen HI.out.is
  obtain ⟨ac, rfl⟩ := hsa.shape6 HI.out.nlen
  have HSA := Lib.hid hsa; clear hsa
  have HB6 := Lib.hid (HB5.out.old hu6)
  have HU6 := Lib.hid (HU5.out.trans hu6); clear hu6 hha
  go_wp2_with fail
  refine (sameTexts _ ha hn _ _ N HSA.out (HI.out.now.old HU6.out) (by rw [HI.out.nlen]; omega)).mono ?_
  rintro e w7 ⟨rfl, hu7⟩
  have HB7 := Lib.hid (HB6.out.old hu7)
  have HU7 := Lib.hid (HU6.out.trans hu7); clear hu7
  go_wp2_with fail
  refine (crash_plain _ b3 ab3 cm3 D C _ [] (-1) 0 HB7.out (Ints.nil _) (by simp) (fun kb o c k e => by cases e) hneg).mono ?_
  rintro e w8 ⟨rfl, cm3', hb8, _, hu8⟩
  rw [keep_nil] at hb8
  have HB8 := Lib.hid hb8; clear hb8
  have HU8 := Lib.hid (HU7.out.trans' hu8 (fun i hi e => by have := HU2.out.size; rcases e with e | e <;> omega)); clear hu8
  go_wp2_with fail
  refine (image_any _ b3 ab3 cm3' _ _ HB8.out).mono ?_
  rintro e w9 ⟨bv, hb, rfl, hsb, hhb, hu9⟩
  have hsb := hsb.of_view HI.out.six HI.out.six (fun i hi => (view_none D i).symm)
  obtain ⟨bc, rfl⟩ := hsb.shape6 HI.out.six
  have HSB := Lib.hid hsb; clear hsb
  have HU9 := Lib.hid (HU8.out.trans hu9); clear hu9 hhb
  go_wp2_with fail
  refine (sameTexts _ hb hw _ _ D HSB.out (HI.out.was.old HU9.out) (by rw [HI.out.six]; omega)).mono ?_
  rintro e w10 ⟨rfl, hu10⟩
  have HU10 := Lib.hid (HU9.out.trans hu10); clear hu10
  go_wp2_with fail
  have HP10 := Lib.hid (HI.out.p.old HU10.out)
  refine (sync_any _ b ab cm D C HP10.out).mono ?_
  rintro e w11 ⟨rfl, hp11, hu11⟩
  have HP11 := Lib.hid hp11; clear hp11
  have hne := HI.out.ne
  have hlo := HI.out.lo
  have HN11 := Lib.hid ((HI.out.now.old HU10.out).upd hu11 (fun e => by rcases e with e | e <;> omega) (fun k e => by
    rcases e with rfl | rfl
    · exact HP10.out.abNotB
    · exact HP10.out.cmNotB))
  have HU11 := Lib.hid ((HI.out.up.trans HU10.out).trans' hu11 (fun i hi e => by rcases e with e | e <;> omega)); clear hu11
  go_wp2_with fail
  refine (image_any _ b ab cm _ _ HP11.out).mono ?_
  rintro e w12 ⟨cv, hc, rfl, hsc, hhc, hu12⟩
  have hsc := hsc.of_view HI.out.six HI.out.nlen HI.out.is
  obtain ⟨cc, rfl⟩ := hsc.shape6 HI.out.nlen
  have HSC := Lib.hid hsc; clear hsc
  go_wp2_with fail
  refine (sameTexts _ hc hn _ _ N HSC.out (HN11.out.old hu12) (by rw [HI.out.nlen]; omega)).mono ?_
  rintro e w13 ⟨rfl, hu13⟩
  have HU13 := Lib.hid ((HU11.out.trans hu12).trans hu13); clear hu12 hu13
  go_wp2_with fail
  go_ret
  exact ⟨rfl, HU13.out⟩
end Go.Proofs.Ytkgkjhhhgcpgkaa
