/-
  PlaceApart: the walk; awake.
-/
import Derived.Test.YtjocoaaeboapcaaPlace6
namespace Go.Proofs.Ytjocoaaeboapcaa
open Go Go.RowKit Go.MapKept Go.ChangeMaps Heap

def BoolPost (w : World) (r : Bool) (e : Ending) (w' : World) : Prop := e = .returned (.bool r) ∧ Upd (fun _ => False) w w'
theorem Ints.take {w : World} {a : Option Addr} {n c q : Nat} {l : List Int} (h : Ints w (.slice a n c) l) (hq : q ≤ n) : Ints w (.slice a q c) (l.take q) := by
  rcases h.cells with ⟨rfl, a', c', e, hac⟩ | ⟨b, o, cap, e, hl, hc⟩
  · cases e
    obtain rfl : q = 0 := by omega
    exact ⟨.inl ⟨by simp, _, _, rfl, hac⟩, by simp⟩
  · cases e
    have hlen : (l.take q).length = q := by rw [List.length_take]; omega
    have := Ints.mk (w := w) (b := b) (o := o) (cap := c) (l := l.take q) (by omega) (by have := h.2; omega) (fun j hj => by
      rw [hc j (by omega)]
      congr 2
      rw [List.getD_eq_getElem?_getD, List.getD_eq_getElem?_getD, List.getElem?_take_of_lt (by omega)])
    rw [hlen] at this
    exact this
theorem Ints.cellAt {w : World} {a : Option Addr} {n c q : Nat} {l : List Int} (h : Ints w (.slice a n c) l) (hq : q < l.length) : ∃ b o, a = some ⟨b, o, none⟩ ∧ w.cell? ⟨b, o + q, none⟩ = some (.int .i64 (at0 l q)) := by
  rcases h.cells with ⟨rfl, _⟩ | ⟨b, o, cap, e, hl, hc⟩
  · exact absurd hq (Nat.not_lt_zero _)
  · cases e
    exact ⟨b, o, rfl, hc q hq⟩
def un16 (x : Int) : Int := IntKind.u64.wrap x % 16
theorem un16_is (x : Int) : wrap64 ((IntKind.u64.wrap x).tmod 16) = un16 x := by
  have h : 0 ≤ IntKind.u64.wrap x := by rw [IntKind.wrap_u64]; omega
  unfold un16
  rw [Int.tmod_eq_emod_of_nonneg h]
  unfold wrap64; omega
theorem un16_nat (x : Int) : ∃ q : Nat, un16 x = (q : Int) ∧ q < 16 := by
  have h : 0 ≤ IntKind.u64.wrap x := by rw [IntKind.wrap_u64]; omega
  have : 0 ≤ un16 x ∧ un16 x < 16 := by unfold un16; omega
  exact ⟨(un16 x).toNat, by omega, by omega⟩
theorem awakeE : chooseE [0, 2, 5] 4 2 = 0 := by decide +kernel
theorem awakeL : chooseL [0, 2, 5] 4 2 = [2, 5] := by decide +kernel
theorem awake_any (w : World) : Calls Try.prog 13 #[] w (BoolPost w true) := by
  have h1 : Ints (w.alloc (.cells #[.int .i64 0, .int .i64 2, .int .i64 5] 3)) (.slice (some ⟨w.heap.size, 0, none⟩) 3 3) [0, 2, 5] :=
    Ints.mk (b := w.heap.size) (o := 0) (cap := 3) (l := [0, 2, 5]) (by simp) (by simp) (fun j hj => by
      have hj3 : j < 3 := hj
      obtain rfl | rfl | rfl : j = 0 ∨ j = 1 ∨ j = 2 := by omega
      · simp [go_sem]
      · simp [go_sem]
      · simp [go_sem])
  have hc := choose_any _ _ _ 4 2 h1
  have HC := Lib.hid hc; clear hc h1
  go_enter Try.func13, Try.ntmps13
  go_wp2_with fail
  refine HC.out.mono ?_
  rintro e w1 ⟨v, rfl, ho, hu⟩
  rw [awakeE]
  rw [awakeL] at ho
  obtain ⟨ra, rm, rc, rfl⟩ := ho.shape3
  have HO := Lib.hid ho; clear ho
  have HU := Lib.hid hu; clear hu
  go_wp2_with fail
  refine (equal_any _ _ _ [2, 5] [2, 5] ((HO.out.old ((Upd.refl _ _).alloc _)).ints (by simp)) (Ints.mk (b := w1.heap.size) (o := 0) (cap := 2) (l := [2, 5]) (by simp) (by simp) (fun j hj => by
      have hj3 : j < 2 := hj
      obtain rfl | rfl : j = 0 ∨ j = 1 := by omega
      · simp [go_sem]
      · simp [go_sem]))).mono ?_
  rintro e w2 ⟨rfl, m, rfl⟩
  go_wp2_with fail
  go_ret
  exact ⟨by simp, (((Upd.refl _ _).alloc _).trans HU.out).alloc _ |>.drewN _⟩
/-- What is known of what Choose hands back. -/
structure Chosen (L : List Int) (N : Nat) (E : Int) (l : List Int) : Prop where
  mem : ∀ x ∈ l, x ∈ L ∧ 0 ≤ x ∧ x < 16
  nodup : l.Nodup
  few : l.length ≤ 16
  is : (E = 140 ∧ l = []) ∨ (E = 0 ∧ l.length = N)
theorem mem_ord {L : List Int} {seed x : Int} : x ∈ ord L seed ↔ x ∈ L ∧ 0 ≤ x ∧ x < 16 := by rw [(ord_perm L seed).mem_iff, mem_mems]
theorem ord_nodup (L : List Int) (seed : Int) : (ord L seed).Nodup := by
  refine (ord_perm L seed).nodup_iff.2 ?_
  exact (mems_sorted L).imp (fun h e => by omega)
theorem chosen_is (L : List Int) (seed : Int) (N : Nat) (h1 : 1 ≤ N) (h16 : N ≤ 16) : Chosen L N (chooseE L seed N) (chooseL L seed N) := by
  have hE : chooseE L seed N = if ((ord L seed).length : Int) < N then 140 else 0 := by unfold chooseE; rw [if_neg (by omega)]
  unfold chooseL
  by_cases h : ((ord L seed).length : Int) < N
  · rw [hE, if_pos h, if_neg (by omega)]
    exact ⟨fun x hx => (by cases hx), List.nodup_nil, by simp, .inl ⟨rfl, rfl⟩⟩
  · rw [hE, if_neg h, if_pos rfl]
    refine ⟨fun x hx => mem_ord.1 (List.mem_of_mem_take hx), (ord_nodup L seed).sublist (List.take_sublist _ _), ?_, .inr ⟨rfl, ?_⟩⟩
    · rw [List.length_take]; have := ord_length L seed; omega
    · rw [List.length_take, Int.toNat_natCast]; omega
theorem not_before {l : List Int} (h : l.Nodup) {q : Nat} (hq : q < l.length) : at0 l q ∉ l.take q := fun hm => by
  obtain ⟨i, hi, he⟩ := List.mem_iff_getElem.1 hm
  rw [List.length_take] at hi
  rw [List.getElem_take] at he
  unfold at0 at he
  rw [List.getD_eq_getElem?_getD, List.getElem?_eq_getElem hq] at he
  exact List.pairwise_iff_getElem.1 h i q (by omega) hq (by omega) he
theorem spare_is {L U : List Int} {seed x : Int} (h : spareR L U seed = some x) : x ∈ L ∧ x ∉ U := by
  have h1 := List.find?_some h
  have h2 := List.mem_of_find?_eq_some h
  exact ⟨(mem_ord.1 h2).1, by simpa using h1⟩
theorem choose_at (w : World) (v : Value) (L : List Int) (seed x : Int) (N : Nat) (hx : x = N) (hv : Ints w v L) (h1 : 1 ≤ N) (h16 : N ≤ 16) :
    Calls Try.prog 7 #[v, .int .i64 seed, .int .i64 x] w (fun e w' => ∃ v' E l, e = .returned (.tuple #[v', .int .i64 E]) ∧ Chosen L N E l ∧ l = chooseL L seed N ∧ IOwn w.heap.size w' v' l ∧ Upd (fun _ => False) w w') := by
  subst hx
  refine (choose_any w v L seed N hv).mono ?_
  rintro e w' ⟨v', rfl, ho, hu⟩
  exact ⟨v', _, _, rfl, chosen_is L seed N h1 h16, rfl, ho, hu⟩
set_option maxRecDepth 100000 in
set_option maxHeartbeats 4000000 in
theorem apart_walk (w : World) (v u : Value) (L U : List Int) (seed n : Int) (hv : Ints w v L) (hu : Ints w u U) : Calls Try.prog 5 #[v, u, .int .i64 seed, .int .i64 n] w (BoolPost w true) := by
  obtain ⟨q0, hq0, hq16⟩ := un16_nat n
  have s16 := un16_is n
  rw [hq0] at s16
  clear hq0
  obtain ⟨va, vc, rfl⟩ := hv.shape
  obtain ⟨ua, uc, rfl⟩ := hu.shape
  have HV := Lib.hid hv; clear hv
  have HU := Lib.hid hu; clear hu
  go_enter Try.func5, Try.ntmps5
  go_wp2_with fail
  refine (choose_at _ _ L seed _ (q0 + 1) (by omega) HV.out (by omega) (by omega)).mono ?_
  rintro e w1 ⟨cv, E, l, rfl, hch, hle, ho, hu1⟩
  clear hle
  have hi1 := ho.ints (by have := hch.few; omega)
  obtain ⟨ca, cc, rfl⟩ := hi1.shape
  have HI := Lib.hid hi1; clear hi1 ho
  have HCH := Lib.hid hch
  have hfew := hch.few
  clear hch
  have HV1 := Lib.hid (HV.out.old hu1)
  have HU1 := Lib.hid (HU.out.old hu1)
  have HUP := Lib.hid hu1; clear hu1
  go_wp2_with fail
  go_loopw [29] (fun i wr => ∃ q : Nat, q ≤ l.length ∧ i = .int .i64 q ∧ wr = w1) (fun i _ => l.length - (intOf i).toNat)
  case atStart => exact ⟨0, Nat.zero_le _, rfl, rfl⟩
  case round =>
    obtain ⟨q, hq, rfl, rfl⟩ := hrel
    by_cases hlt : q < l.length
    · obtain ⟨b, o, rfl, hcell⟩ := HI.out.cellAt hlt
      obtain ⟨hm1, hm2, hm3⟩ := HCH.out.mem _ (at0_mem hlt)
      have hnb := not_before HCH.out.nodup hlt
      have hit := HI.out.take (q := q) hq
      have hc1 := contains_any wr _ L (at0 l q) HV1.out
      have hc2 := contains_any wr _ (l.take q) (at0 l q) hit
      rw [decide_eq_true hm1] at hc1
      rw [decide_eq_false hnb] at hc2
      clear hit hnb hm1
      generalize at0 l q = m at hcell hm2 hm3 hc1 hc2
      have HC1 := Lib.hid hc1; clear hc1
      have HC2 := Lib.hid hc2; clear hc2
      have i1 : (0 : Int) ≤ (q : Int) := by omega
      have i2 : (q : Int) ≤ (cc : Int) := by
        rcases HI.out.cells with ⟨e, _⟩ | ⟨b', o', cap, e, hl, _⟩
        · rw [e] at hlt; exact absurd hlt (Nat.not_lt_zero _)
        · cases e; omega
      go_wp2_with fail
      refine HC1.out.mono ?_
      rintro e w2 ⟨rfl, rfl⟩
      go_wp2_with fail
      refine HC2.out.mono ?_
      rintro e w2 ⟨rfl, rfl⟩
      go_wp2_with fail
      go_roundw
      case rel => exact ⟨q + 1, hlt, by go_num, by first | rfl | trivial⟩
      case measure => simp [intOf]; omega
    · obtain rfl : q = l.length := by omega
      have hr := fun x => spare_is (L := L) (U := U) (seed := seed) (x := x)
      have hsp := spare_any wr _ _ L U seed HV1.out HU1.out
      generalize spareR L U seed = r at hr hsp
      have HSP := Lib.hid hsp; clear hsp
      have HR := Lib.hid hr; clear hr
      rcases HCH.out.is with ⟨rfl, rfl⟩ | ⟨rfl, hlN⟩
      all_goals
        cases r with
        | none =>
          go_wp2_with fail
          refine HSP.out.mono ?_
          rintro e w2 ⟨rfl, hu2⟩
          have HU2 := Lib.hid (HUP.out.trans hu2); clear hu2
          unfold spareX spareE
          go_wp2_with fail
          refine (awake_any _).mono ?_
          rintro e w3 ⟨rfl, hu3⟩
          have HU3 := Lib.hid (HU2.out.trans hu3); clear hu3
          go_wp2_with fail
          go_ret
          exact ⟨rfl, HU3.out⟩
        | some x =>
          obtain ⟨hx1, hx2⟩ := HR.out x rfl
          go_wp2_with fail
          refine HSP.out.mono ?_
          rintro e w2 ⟨rfl, hu2⟩
          have hc1 := contains_any w2 _ L x (HV1.out.old hu2)
          have hc2 := contains_any w2 _ U x (HU1.out.old hu2)
          rw [decide_eq_true hx1] at hc1
          rw [decide_eq_false hx2] at hc2
          have HC1 := Lib.hid hc1; clear hc1
          have HC2 := Lib.hid hc2; clear hc2
          clear hx1 hx2
          have HU2 := Lib.hid (HUP.out.trans hu2); clear hu2
          unfold spareX spareE
          go_wp2_with fail
          refine HC1.out.mono ?_
          rintro e w3 ⟨rfl, rfl⟩
          go_wp2_with fail
          refine HC2.out.mono ?_
          rintro e w3 ⟨rfl, rfl⟩
          go_wp2_with fail
          refine (awake_any _).mono ?_
          rintro e w3 ⟨rfl, hu3⟩
          have HU3 := Lib.hid (HU2.out.trans hu3); clear hu3
          go_wp2_with fail
          go_ret
          exact ⟨rfl, HU3.out⟩
end Go.Proofs.Ytjocoaaeboapcaa
