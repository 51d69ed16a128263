/-
  The document's Spare; PlaceTells: the walk.
-/
import Derived.Test.YtjocoaaeboapcaaPlace9
namespace Go.Proofs.Ytjocoaaeboapcaa
open Go Go.RowKit Go.MapKept Go.ChangeMaps Heap

def freeB (U : List Int) (m : Int) (k : Nat) : Bool := decide (m ∉ U.take k)
theorem freeB_succ {U : List Int} {m : Int} {k : Nat} (hk : k < U.length) : freeB U m (k + 1) = (freeB U m k && (at0 U k != m)) := by
  have e : U.take (k + 1) = U.take k ++ [at0 U k] := by
    rw [List.take_succ_eq_append_getElem hk]; unfold at0; rw [List.getD_eq_getElem?_getD, List.getElem?_eq_getElem hk]; rfl
  unfold freeB
  rw [e]
  rw [Bool.eq_iff_iff]
  simp only [decide_eq_true_eq, Bool.and_eq_true, bne_iff_ne, ne_eq, List.mem_append, List.mem_singleton, not_or]
  exact ⟨fun ⟨a, b⟩ => ⟨a, fun e => b e.symm⟩, fun ⟨a, b⟩ => ⟨a, fun e => b e.symm⟩⟩
theorem take_snoc0 {l : List Int} {q : Nat} (hq : q < l.length) : l.take (q + 1) = l.take q ++ [at0 l q] := by
  rw [List.take_succ_eq_append_getElem hq]; unfold at0; rw [List.getD_eq_getElem?_getD, List.getElem?_eq_getElem hq]; rfl
theorem split_at {l : List Int} {q : Nat} (hq : q < l.length) : l = l.take q ++ at0 l q :: l.drop (q + 1) := by
  have h := List.take_append_drop q l
  rw [List.drop_eq_getElem_cons hq] at h
  unfold at0; rw [List.getD_eq_getElem?_getD, List.getElem?_eq_getElem hq]
  exact h.symm
set_option maxRecDepth 100000 in
set_option maxHeartbeats 4000000 in
theorem refspare_any (w : World) (v u : Value) (L U : List Int) (seed : Int) (hv : Ints w v L) (hu : Ints w u U) : Calls Try.prog 11 #[v, u, .int .i64 seed] w (SpareP w (spareR L U seed)) := by
  have hol := ord_length L seed
  have hUl : U.length ≤ 17592186044416 := by have := hu.2; omega
  have HV := Lib.hid hv
  obtain ⟨va, vc, rfl⟩ := hv.shape
  have HU := Lib.hid hu
  obtain ⟨ua, uc, rfl⟩ := hu.shape
  clear hv hu
  go_enter Try.func11, Try.ntmps11
  go_wp2_with fail
  refine (turned_any w _ L seed HV.out).mono ?_
  rintro e w1 ⟨tv, rfl, h1, u1⟩
  have hi := h1.ints (by omega)
  clear h1
  have hR : spareR L U seed = (ord L seed).find? (fun x => decide (x ∉ U)) := rfl
  have HR := Lib.hid hR; clear hR
  generalize ord L seed = od at hol hi HR
  obtain ⟨ta, tc, rfl⟩ := hi.shape
  have HI := Lib.hid hi; clear hi
  have HU1 := Lib.hid (HU.out.old u1)
  have U1 := Lib.hid u1; clear u1
  go_wp2_with fail
  go_loopw [17] (fun i wr => ∃ q : Nat, q ≤ od.length ∧ i = .int .i64 q ∧ wr = w1 ∧ Hid (∀ x ∈ od.take q, x ∈ U)) (fun i _ => od.length - (intOf i).toNat)
  case atStart => exact ⟨0, Nat.zero_le _, rfl, rfl, Lib.hid (fun x hx => by simp at hx)⟩
  case round =>
    obtain ⟨q, hq, rfl, rfl, hin⟩ := hrel
    obtain ⟨wo, rfl⟩ : ∃ wo : World, wo = wr := ⟨_, rfl⟩
    by_cases hlt : q < od.length
    · obtain ⟨b, o, rfl, hcell⟩ := HI.out.cellAt hlt
      have HTK := Lib.hid (take_snoc0 hlt)
      have HSP := Lib.hid (split_at hlt)
      generalize at0 od q = m at hcell HTK HSP
      go_wp2_with fail
      go_loopw [10, 23] (fun f j wr' => ∃ k : Nat, k ≤ U.length ∧ j = .int .i64 k ∧ wr' = wo ∧ f = .bool (freeB U m k)) (fun _ j _ => U.length - (intOf j).toNat)
      case atStart => exact ⟨0, Nat.zero_le _, rfl, rfl, by unfold freeB; simp⟩
      case round =>
        obtain ⟨k, hk, rfl, rfl, rfl⟩ := hrel
        by_cases hkl : k < U.length
        · obtain ⟨b2, o2, rfl, hcell2⟩ := HU1.out.cellAt hkl
          have hs := freeB_succ (m := m) hkl
          generalize at0 U k = x at hcell2 hs
          have HS := Lib.hid hs; clear hs
          cases hf : freeB U m k with
          | false =>
            rw [hf] at HS
            have HF := Lib.hid hf; clear hf
            go_wp2_with fail
            go_roundw
            case rel => exact ⟨k + 1, hkl, by go_num, by first | rfl | trivial, by rw [HS.out]; rfl⟩
            case measure => simp [intOf]; omega
          | true =>
            rw [hf] at HS
            have HF := Lib.hid hf; clear hf
            by_cases hx : x = m
            · subst hx
              go_wp2_with fail
              go_roundw
              case rel => exact ⟨k + 1, hkl, by go_num, by first | rfl | trivial, by rw [HS.out]; simp⟩
              case measure => simp [intOf]; omega
            · go_wp2_with fail
              go_roundw
              case rel => exact ⟨k + 1, hkl, by go_num, by first | rfl | trivial, by rw [HS.out]; simp [hx]⟩
              case measure => simp [intOf]; omega
        · obtain rfl : k = U.length := by omega
          by_cases hm : m ∈ U
          · have hf : freeB U m U.length = false := by unfold freeB; rw [List.take_length]; simp [hm]
            have hin' : ∀ x ∈ od.take (q + 1), x ∈ U := fun x hx => by
              rw [HTK.out] at hx
              rcases List.mem_append.1 hx with h | h
              · exact hin.out x h
              · rw [List.mem_singleton.1 h]; exact hm
            have HIN := Lib.hid hin'; clear hin' hm
            rw [hf]
            clear hf
            go_wp2_with fail
            go_roundw
            case rel => exact ⟨q + 1, hlt, by go_num, by first | rfl | trivial, HIN⟩
            case measure => simp [intOf]; omega
          · have hf : freeB U m U.length = true := by unfold freeB; rw [List.take_length]; simp [hm]
            have hr : spareR L U seed = some m := by rw [HR.out, HSP.out]; exact find_some hm hin.out
            have HRR := Lib.hid hr; clear hr hm
            rw [hf]
            clear hf
            go_wp2_with fail
            go_ret2
            exact ⟨by rw [HRR.out]; rfl, U1.out⟩
    · obtain rfl : q = od.length := by omega
      have hr : spareR L U seed = none := by rw [HR.out]; exact find_none (fun x hx => hin.out x (by rw [List.take_length]; exact hx))
      have HRR := Lib.hid hr; clear hr hin
      go_wp2_with fail
      go_ret2
      exact ⟨by rw [HRR.out]; rfl, U1.out⟩
set_option maxRecDepth 100000 in
set_option maxHeartbeats 4000000 in
theorem tells_walk (w : World) (v u : Value) (L U : List Int) (seed n : Int) (hv : Ints w v L) (hu : Ints w u U) : Calls Try.prog 4 #[v, u, .int .i64 seed, .int .i64 n] w (BoolPost w true) := by
  obtain ⟨va, vc, rfl⟩ := hv.shape
  obtain ⟨ua, uc, rfl⟩ := hu.shape
  have hL : L.length ≤ 17592186044416 := by have := hv.2; omega
  have HV := Lib.hid hv; clear hv
  have HU := Lib.hid hu; clear hu
  have hcl : (chooseL L seed n).length ≤ 16 := by
    unfold chooseL
    split
    · rw [List.length_take]; have := ord_length L seed; omega
    · simp
  go_enter Try.func4, Try.ntmps4
  go_wp2_with fail
  refine (clone_own _ _ L HV.out).mono ?_
  rintro e w1 ⟨v1, rfl, ho1, hu1⟩
  have hi1 := ho1.ints hL
  obtain ⟨ga, gc, rfl⟩ := hi1.shape
  have HG := Lib.hid hi1; clear hi1 ho1
  have U1 := Lib.hid hu1; clear hu1
  go_wp2_with fail
  refine (choose_any _ _ L seed n HG.out).mono ?_
  rintro e w2 ⟨v2, rfl, ho2, hu2⟩
  have hi2 := ho2.ints (by omega)
  clear ho2
  have hrc : ∀ (W : World) (h : Ints W (.slice va L.length vc) L), Calls Try.prog 9 #[.slice va L.length vc, .int .i64 seed, .int .i64 n] W (fun e w' => ∃ v', e = .returned (.tuple #[v', .int .i64 (chooseE L seed n)]) ∧ Ints w' v' (chooseL L seed n) ∧ Upd (fun _ => False) W w') := fun W h => refchoose_any W _ L seed n h
  generalize chooseE L seed n = E at hrc ⊢
  generalize chooseL L seed n = l at hrc hi2 hcl
  have HRC := Lib.hid hrc; clear hrc
  obtain ⟨la, lc, rfl⟩ := hi2.shape
  have HL2 := Lib.hid hi2; clear hi2
  have HG2 := Lib.hid (HG.out.old hu2)
  have U2 := Lib.hid (U1.out.trans hu2); clear hu2
  go_wp2_with fail
  refine (HRC.out _ (HV.out.old U2.out)).mono ?_
  rintro e w3 ⟨v3, rfl, hi3, hu3⟩
  obtain ⟨ma, mc, rfl⟩ := hi3.shape
  have HM3 := Lib.hid hi3; clear hi3
  have HL3 := Lib.hid (HL2.out.old hu3)
  have HG3 := Lib.hid (HG2.out.old hu3)
  have U3 := Lib.hid (U2.out.trans hu3); clear hu3
  have hs1 := spare_any w3 _ _ L U seed HG3.out (HU.out.old U3.out)
  have hs2 := fun (W : World) (h : Ints W (.slice va L.length vc) L) (h' : Ints W (.slice ua U.length uc) U) => refspare_any W _ _ L U seed h h'
  generalize spareR L U seed = r at hs1 hs2
  have HS1 := Lib.hid hs1; clear hs1
  have HS2 := Lib.hid hs2; clear hs2
  go_wp2_with fail
  refine HS1.out.mono ?_
  rintro e w4 ⟨rfl, hu4⟩
  have HU4 := Lib.hid hu4; clear hu4
  go_wp2_with fail
  refine (HS2.out _ (HV.out.old (U3.out.trans HU4.out)) (HU.out.old (U3.out.trans HU4.out))).mono ?_
  rintro e w5 ⟨rfl, hu5⟩
  have HU5 := Lib.hid (HU4.out.trans hu5); clear hu5
  go_wp2_with fail
  refine (equal_any _ _ _ l l (HL3.out.old HU5.out) (HM3.out.old HU5.out)).mono ?_
  rintro e w6 ⟨rfl, m6, rfl⟩
  rw [decide_eq_true rfl]
  have HU6 := Lib.hid (HU5.out.drewN m6)
  go_wp2_with fail
  refine (equal_any _ _ _ L L (HG3.out.old HU6.out) (HV.out.old (U3.out.trans HU6.out))).mono ?_
  rintro e w7 ⟨rfl, m7, rfl⟩
  rw [decide_eq_true rfl]
  have HU7 := Lib.hid (HU6.out.drewN m7)
  go_wp2_with fail
  refine (awake_any _).mono ?_
  rintro e w9 ⟨rfl, hu9⟩
  have HU9 := Lib.hid ((U3.out.trans (HU5.out.drewN (m6 + m7))).trans hu9); clear hu9
  go_wp2_with fail
  go_ret
  exact ⟨rfl, HU9.out⟩
end Go.Proofs.Ytjocoaaeboapcaa
