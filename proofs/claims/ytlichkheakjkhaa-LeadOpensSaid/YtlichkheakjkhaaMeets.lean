/-
  LeadMeets: two majorities of the same voters have one in common. The walk.
-/
import Derived.Test.YtlichkheakjkhaaLead8
import Derived.Test.YtlichkheakjkhaaLead6
import Derived.Deep.DeepCutAuto
import Derived.Deep.CutBlock
import Derived.Deep.DeepMust
namespace Go.Proofs.Ytlichkheakjkhaa
open Go Go.RowKit

theorem Ints.take {w : World} {a : Option Addr} {c : Nat} {l : List Int} (n : Nat) (h : Ints w (.slice a l.length c) l) : Ints w (.slice a (l.take n).length c) (l.take n) := by
  have hb := h.2
  have hl : (l.take n).length ≤ l.length := by rw [List.length_take]; omega
  rcases h.cells with ⟨rfl, a', c', hv, hn⟩ | ⟨b, o, c', hv, hc, hi⟩
  · simp only [List.take_nil]
    cases hv
    exact ⟨.inl ⟨rfl, _, _, rfl, hn⟩, by simp⟩
  · cases hv
    refine Ints.mk (by omega) (by omega) fun j hj => ?_
    rw [hi j (by omega), List.getD_eq_getElem?_getD, List.getD_eq_getElem?_getD, List.getElem?_take_of_lt (by rw [List.length_take] at hj; omega)]
/-- The nodes ahead of k whose bit is set. -/
def bitU (x : Int) (k : Nat) : Bool := bits BinOp.and IntKind.u64 (x / 2 ^ k) 1 == 1
def accU (x : Int) (k : Nat) (n : Int) : Bool := decide (0 ≤ n ∧ n < k) && bitU x n.toNat
theorem accU_none (x : Int) (k : Nat) : accU x k k = false := by unfold accU; rw [decide_eq_false (by omega)]; rfl
theorem accU_skip {x : Int} {k : Nat} (h : bitU x k = false) (n : Int) : accU x (k + 1) n = accU x k n := by
  unfold accU
  by_cases e : n = k
  · subst e
    rw [decide_eq_false (show ¬ (0 ≤ (k : Int) ∧ (k : Int) < k) by omega), Int.toNat_natCast, h]
    simp
  · have : (0 ≤ n ∧ n < ((k + 1 : Nat) : Int)) ↔ (0 ≤ n ∧ n < (k : Int)) := by omega
    simp only [this]
theorem accU_hear {x : Int} {k : Nat} (h : bitU x k = true) (n : Int) : accU x (k + 1) n = (decide (n = k) || accU x k n) := by
  unfold accU
  by_cases e : n = k
  · subst e
    rw [decide_eq_true (show (0 ≤ (k : Int) ∧ (k : Int) < ((k + 1 : Nat) : Int)) by omega), Int.toNat_natCast, h]
    simp
  · have : (0 ≤ n ∧ n < ((k + 1 : Nat) : Int)) ↔ (0 ≤ n ∧ n < (k : Int)) := by omega
    simp only [this, e]
    simp
structure MeetI (w : World) (b m1 m2 m3 b' m1' m2' m3' : Nat) (x y : Int) (k k' : Nat) (P Q BP BQ : List (Int × Value)) (wr : World) : Prop where
  t : TryAt wr b m1 m2 m3 1 1 P BP []
  tb : Bound wr BP (fun _ => none)
  u : TryAt wr b' m1' m2' m3' 2 1 Q BQ []
  ub : Bound wr BQ (fun _ => none)
  p : ∀ n, aget P n = if accU x k n then some (.bool true) else none
  q : ∀ n, aget Q n = if accU y k' n then some (.bool true) else none
  up : Upd (fun _ => False) w wr
/-- What stays over the whole call. -/
structure MeetLo (w : World) (b m1 m2 m3 b' m1' m2' m3' : Nat) : Prop where
  lo : w.heap.size ≤ m1 ∧ w.heap.size ≤ m2 ∧ w.heap.size ≤ m1' ∧ w.heap.size ≤ m2'
  sep : ∃ s, b < s ∧ m1 < s ∧ m2 < s ∧ m3 < s ∧ s ≤ b' ∧ s ≤ m1' ∧ s ≤ m2' ∧ s ≤ m3'
theorem MeetI.skipX {w wr : World} {b m1 m2 m3 b' m1' m2' m3' : Nat} {x y : Int} {k k' : Nat} {P Q BP BQ : List (Int × Value)} (h : MeetI w b m1 m2 m3 b' m1' m2' m3' x y k k' P Q BP BQ wr) (hb : bitU x k = false) : MeetI w b m1 m2 m3 b' m1' m2' m3' x y (k + 1) k' P Q BP BQ wr :=
  ⟨h.t, h.tb, h.u, h.ub, fun n => by rw [accU_skip hb]; exact h.p n, h.q, h.up⟩
theorem MeetI.skipY {w wr : World} {b m1 m2 m3 b' m1' m2' m3' : Nat} {x y : Int} {k k' : Nat} {P Q BP BQ : List (Int × Value)} (h : MeetI w b m1 m2 m3 b' m1' m2' m3' x y k k' P Q BP BQ wr) (hb : bitU y k' = false) : MeetI w b m1 m2 m3 b' m1' m2' m3' x y k (k' + 1) P Q BP BQ wr :=
  ⟨h.t, h.tb, h.u, h.ub, h.p, fun n => by rw [accU_skip hb]; exact h.q n, h.up⟩
theorem MeetI.hearX {w wr w' : World} {b m1 m2 m3 b' m1' m2' m3' : Nat} {x y : Int} {k k' : Nat} {P Q BP BQ B' : List (Int × Value)} (h : MeetI w b m1 m2 m3 b' m1' m2' m3' x y k k' P Q BP BQ wr) (hb : bitU x k = true) (hl : MeetLo w b m1 m2 m3 b' m1' m2' m3')
    (ht : TryAt w' b m1 m2 m3 1 1 (aput P (k : Int) (.bool true)) B' []) (hB : Bound w' B' (fun _ => none)) (hu : Upd (fun i => i = m1 ∨ i = m2) wr w') : MeetI w b m1 m2 m3 b' m1' m2' m3' x y (k + 1) k' (aput P (k : Int) (.bool true)) Q B' BQ w' := by
  obtain ⟨s, s1, s2, s3, s4, s5, s6, s7, s8⟩ := hl.sep
  have hlo := hl.lo
  refine ⟨ht, hB, h.u.upd hu (by omega) (by omega) (by omega) (by omega), h.ub.upd hu ?_, fun n => ?_, h.q, h.up.trans' hu (fun i hi e => by omega)⟩
  · rintro i (rfl | rfl)
    · rw [h.t.i1]; rfl
    · rw [h.t.i2]; rfl
  · rw [aget_aput, h.p, accU_hear hb]
    by_cases e : n = k <;> simp [e]
theorem MeetI.hearY {w wr w' : World} {b m1 m2 m3 b' m1' m2' m3' : Nat} {x y : Int} {k k' : Nat} {P Q BP BQ B' : List (Int × Value)} (h : MeetI w b m1 m2 m3 b' m1' m2' m3' x y k k' P Q BP BQ wr) (hb : bitU y k' = true) (hl : MeetLo w b m1 m2 m3 b' m1' m2' m3')
    (ht : TryAt w' b' m1' m2' m3' 2 1 (aput Q (k' : Int) (.bool true)) B' []) (hB : Bound w' B' (fun _ => none)) (hu : Upd (fun i => i = m1' ∨ i = m2') wr w') : MeetI w b m1 m2 m3 b' m1' m2' m3' x y k (k' + 1) P (aput Q (k' : Int) (.bool true)) BP B' w' := by
  obtain ⟨s, s1, s2, s3, s4, s5, s6, s7, s8⟩ := hl.sep
  have hlo := hl.lo
  refine ⟨h.t.upd hu (by omega) (by omega) (by omega) (by omega), h.tb.upd hu ?_, ht, hB, h.p, fun n => ?_, h.up.trans' hu (fun i hi e => by omega)⟩
  · rintro i (rfl | rfl)
    · rw [h.u.i1]; rfl
    · rw [h.u.i2]; rfl
  · rw [aget_aput, h.q, accU_hear hb]
    by_cases e : n = k' <;> simp [e]
def MeetEx (w : World) (b m1 m2 m3 b' m1' m2' m3' : Nat) (x y : Int) (i : Value) (wr : World) : Prop :=
  ∃ (k : Nat) (P Q BP BQ : List (Int × Value)), k ≤ 16 ∧ i = .int .i64 k ∧ MeetI w b m1 m2 m3 b' m1' m2' m3' x y k k P Q BP BQ wr

theorem votes_nil (w : World) : Votes w (.slice none 0 0) [] := .inl ⟨rfl, _, _, rfl, fun _ => rfl⟩
def HeardPost (w : World) (b m1 m2 m3 : Nat) (ballot frm : Int) (P O : List (Int × Value)) (node : Int) (e : Ending) (w' : World) : Prop :=
  e = .returned (.int .i64 0) ∧ ∃ B', TryAt w' b m1 m2 m3 ballot frm (aput P node (.bool true)) B' O ∧ Bound w' B' (fun _ => none) ∧ Upd (fun k => k = m1 ∨ k = m2) w w'
theorem promise_nil (node : Int) (w : World) (b m1 m2 m3 : Nat) (ballot frm : Int) (P B O : List (Int × Value)) (hb : 1 ≤ ballot) (h : TryAt w b m1 m2 m3 ballot frm P B O) (hB : Bound w B (fun _ => none)) (h0 : 0 ≤ node) (h1 : node < 16) (hp : aget P node = none) :
    Calls Try.prog 10 #[.pointer (some ⟨b, 0, none⟩), .int .i64 node, .slice none 0 0] w (HeardPost w b m1 m2 m3 ballot frm P O node) :=
  promise_new node w b m1 m2 m3 ballot frm P B O (fun _ => none) (.slice none 0 0) [] hb h hB (votes_nil w) h0 h1 hp
theorem sorted_of {l : List Int} (h : l.Pairwise (fun a b => decide (a ≤ b) = true)) : sorted l = l := List.mergeSort_of_pairwise h
theorem maj_one : majB (fun n => decide (n = 0)) [0] = true := by decide +kernel
theorem maj_two : majB (fun n => decide (n = 0)) [0, 1] = false := by
  unfold majB dist
  rw [sorted_of (by decide)]
  decide +kernel
theorem one_heard (n : Int) : aget (aput ([] : List (Int × Value)) 0 (.bool true)) n = if decide (n = 0) then some (.bool true) else none := by
  rw [aget_aput]
  by_cases e : n = 0 <;> simp [e, aget]
theorem maj_no : majB (fun n => decide (n = 0)) [] = false := by decide +kernel
/-- What comes of two majorities: one in common. -/
theorem two_meet (A B : Int → Bool) : ∀ (l : List Int), (l.filter A).length + (l.filter B).length > l.length → ∃ n ∈ l, A n = true ∧ B n = true
  | [], h => absurd h (Nat.not_lt_zero _)
  | n :: r, h => by
    by_cases hc : A n = true ∧ B n = true
    · exact ⟨n, .head _, hc⟩
    · have : (r.filter A).length + (r.filter B).length > r.length := by
        rw [List.filter_cons, List.filter_cons] at h
        cases hA : A n <;> cases hB : B n <;> simp [hA, hB] at h hc <;> omega
      obtain ⟨m, h1, h2⟩ := two_meet A B r this
      exact ⟨m, .tail _ h1, h2⟩
theorem mem_compact {n : Int} {l : List Int} (h : n ∈ Lib.compact l) : n ∈ l := by
  unfold Lib.compact Lib.compactUpTo at h
  obtain ⟨i, hi, rfl⟩ := List.mem_map.1 h
  have hi' : i < l.length := by
    have := (List.mem_filter.1 hi).1
    simpa using this
  rw [List.getElem!_toArray, List.getElem!_eq_getElem?_getD, List.getElem?_eq_getElem hi']
  exact List.getElem_mem hi'
theorem mem_dist {n : Int} {l : List Int} (h : n ∈ dist l) : n ∈ l := (List.mergeSort_perm _ _).mem_iff.1 (mem_compact h)
theorem majs_meet {A B : Int → Bool} {l : List Int} (hA : majB A l = true) (hB : majB B l = true) : ∃ n ∈ l, A n = true ∧ B n = true := by
  unfold majB at hA hB
  rw [decide_eq_true_eq] at hA hB
  obtain ⟨n, h1, h2⟩ := two_meet A B (dist l) (by omega)
  exact ⟨n, mem_dist h1, h2⟩

def LoopN (w2 : World) (x y : Int) (l : List Int) (i : Value) (wr : World) : Prop :=
  ∃ k : Nat, k ≤ l.length ∧ i = .int .i64 k ∧ (∀ n ∈ l.take k, ¬ (accU x 16 n = true ∧ accU y 16 n = true)) ∧ Upd (fun _ => False) w2 wr
theorem loopN_step {x y : Int} {l : List Int} {k : Nat} (hk : k < l.length) (h : ∀ n ∈ l.take k, ¬ (accU x 16 n = true ∧ accU y 16 n = true)) (hn : ¬ (accU x 16 (l.getD k 0) = true ∧ accU y 16 (l.getD k 0) = true)) :
    ∀ n ∈ l.take (k + 1), ¬ (accU x 16 n = true ∧ accU y 16 n = true) := by
  rw [List.take_succ_eq_append_getElem hk]
  rw [List.getD_eq_getElem?_getD, List.getElem?_eq_getElem hk] at hn
  intro n hm
  rcases List.mem_append.1 hm with hm | hm
  · exact h n hm
  · simp only [List.mem_singleton] at hm
    subst hm
    exact hn
set_option maxHeartbeats 8000000 in
set_option maxRecDepth 100000 in
theorem meets_walk (w : World) (va : Option Addr) (vc : Nat) (l : List Int) (x y : Int) (hv : Ints w (.slice va l.length vc) l) :
    Calls Try.prog 5 #[.slice va l.length vc, .int .u64 x, .int .u64 y] w (BoolPost w true) := by
  have hl0 : (min (l.length : Int) 20).toNat = (l.take 20).length := by rw [List.length_take]; omega
  have HL := Lib.hid hl0; clear hl0
  have hcap : l.length ≤ vc := by
    rcases hv.cells with ⟨rfl, _⟩ | ⟨b, o, c, e, hc, _⟩
    · exact Nat.zero_le _
    · cases e; exact hc
  have hv' := hv.take 20
  have HV := Lib.hid hv'; clear hv' hv
  go_enter Try.func5, Try.ntmps5
  go_wp2_with fail
  rw [HL.out]
  generalize l.take 20 = l' at *
  clear HL
  refine (new_any 1 1 _ rfl).mono ?_
  rintro e w1 ⟨b, m1, m2, m3, rfl, hT, l0, l1, l2, l3, hu⟩
  have HT := Lib.hid hT; clear hT
  have HU := Lib.hid hu; clear hu
  go_wp2_with fail
  refine (new_any 2 1 _ rfl).mono ?_
  rintro e w2 ⟨b', m1', m2', m3', rfl, hT', l0', l1', l2', l3', hu'⟩
  have HT1 := Lib.hid (HT.out.old hu')
  have HT' := Lib.hid hT'; clear hT'
  have HU' := Lib.hid hu'; clear hu'
  have HLO : Hid (MeetLo w b m1 m2 m3 b' m1' m2' m3') := by
    have h1 := HT.out.lts
    have h2 := HU.out.size
    exact Lib.hid ⟨by omega, w1.heap.size, by omega⟩
  go_wp2_with fail
  have hst : MeetI w b m1 m2 m3 b' m1' m2' m3' x y 0 0 [] [] [] [] w2 :=
    ⟨HT1.out, fun _ => rfl, HT'.out, fun _ => rfl, fun n => by unfold accU; rw [decide_eq_false (by omega)]; rfl, fun n => by unfold accU; rw [decide_eq_false (by omega)]; rfl, HU.out.trans HU'.out⟩
  have HST := Lib.hid hst; clear hst
  clear HT HT1 HT' HU HU' l0 l1 l2 l3 l0' l1' l2' l3'
  go_loopw [35] (fun i wr => MeetEx w b m1 m2 m3 b' m1' m2' m3' x y i wr) (fun i _ => 16 - (intOf i).toNat)
  case atStart => exact ⟨0, _, _, _, _, by omega, rfl, HST.out⟩
  case round =>
    obtain ⟨k, P, Q, BP, BQ, hk, rfl, hI⟩ := hrel
    have HI := Lib.hid hI; clear hI
    by_cases hlt : k < 16
    · have hp := HI.out.p k
      rw [accU_none, if_neg (by simp)] at hp
      have hq := HI.out.q k
      rw [accU_none, if_neg (by simp)] at hq
      have HP := Lib.hid hp; clear hp
      have HQ := Lib.hid hq; clear hq
      cases hbx : (bits BinOp.and IntKind.u64 (x / 2 ^ k) 1 == 1) <;> cases hby : (bits BinOp.and IntKind.u64 (y / 2 ^ k) 1 == 1)
      · go_wp2_with fail
        go_roundw
        case rel => exact ⟨k + 1, _, _, _, _, hlt, by go_num, (HI.out.skipX hbx).skipY hby⟩
        case measure => simp [intOf]; omega
      · go_wp2_with fail
        refine (promise_nil k _ b' m1' m2' m3' 2 1 Q BQ [] (by omega) HI.out.u HI.out.ub (by omega) (by omega) HQ.out).mono ?_
        rintro e w' ⟨rfl, B', ht', hb', hu'⟩
        have HI2 := Lib.hid ((HI.out.skipX hbx).hearY hby HLO.out ht' hb' hu')
        clear ht' hb' hu'
        go_wp2_with fail
        go_roundw
        case rel => exact ⟨k + 1, _, _, _, _, hlt, by go_num, HI2.out⟩
        case measure => simp [intOf]; omega
      · go_wp2_with fail
        refine (promise_nil k _ b m1 m2 m3 1 1 P BP [] (by omega) HI.out.t HI.out.tb (by omega) (by omega) HP.out).mono ?_
        rintro e w' ⟨rfl, B', ht', hb', hu'⟩
        have HI2 := Lib.hid ((HI.out.hearX hbx HLO.out ht' hb' hu').skipY hby)
        clear ht' hb' hu'
        go_wp2_with fail
        go_roundw
        case rel => exact ⟨k + 1, _, _, _, _, hlt, by go_num, HI2.out⟩
        case measure => simp [intOf]; omega
      · go_wp2_with fail
        refine (promise_nil k _ b m1 m2 m3 1 1 P BP [] (by omega) HI.out.t HI.out.tb (by omega) (by omega) HP.out).mono ?_
        rintro e w' ⟨rfl, B', ht', hb', hu'⟩
        have HI2 := Lib.hid (HI.out.hearX hbx HLO.out ht' hb' hu')
        clear ht' hb' hu'
        go_wp2_with fail
        refine (promise_nil k _ b' m1' m2' m3' 2 1 Q BQ [] (by omega) HI2.out.u HI2.out.ub (by omega) (by omega) HQ.out).mono ?_
        rintro e w' ⟨rfl, B'', ht', hb', hu'⟩
        have HI3 := Lib.hid (HI2.out.hearY hby HLO.out ht' hb' hu')
        clear ht' hb' hu'
        go_wp2_with fail
        go_roundw
        case rel => exact ⟨k + 1, _, _, _, _, hlt, by go_num, HI3.out⟩
        case measure => simp [intOf]; omega
    · obtain rfl : k = 16 := by omega
      go_wp2_with fail
      refine (leads_any _ b m1 m2 m3 1 1 P BP [] (accU x 16) _ l' (by omega) HI.out.t HI.out.p (HV.out.old HI.out.up)).mono ?_
      rintro e wa ⟨rfl, hua⟩
      have HUA := Lib.hid hua; clear hua
      cases hA : majB (accU x 16) l'
      · go_wp2_with fail
        --{T
        refine (new_any 3 1 _ rfl).mono ?_
        rintro e w3 ⟨b3, n1, n2, n3, rfl, hT, l0, l1, l2, l3, hu⟩
        have HT := Lib.hid hT; clear hT
        have HU := Lib.hid hu; clear hu
        go_wp2_with fail
        refine (promise_nil 0 _ b3 n1 n2 n3 3 1 [] [] [] (by omega) HT.out (fun _ => rfl) (by omega) (by omega) rfl).mono ?_
        rintro e w4 ⟨rfl, B', ht', hb', hu'⟩
        have HT4 := Lib.hid ht'; clear ht' hb'
        have HU4 := Lib.hid hu'; clear hu'
        go_wp2_with fail
        refine (leads_any _ b3 n1 n2 n3 3 1 _ B' [] (fun n => decide (n = 0)) _ [0] (by omega) (HT4.out.old (((Upd.refl _ _).alloc _))) one_heard (Ints.mk (by simp) (by simp) (fun j hj => by match j, hj with | 0, _ => simp [go_sem]))).mono ?_
        rintro e w5 ⟨rfl, hu5⟩
        have HU5 := Lib.hid (((Upd.refl _ _).alloc _).trans hu5); clear hu5
        rw [maj_one]
        go_wp2_with fail
        refine (leads_any _ b3 n1 n2 n3 3 1 _ B' [] (fun n => decide (n = 0)) _ [0, 1] (by omega) (HT4.out.old (HU5.out.alloc _)) one_heard (Ints.mk (by simp) (by simp) (fun j hj => by match j, hj with | 0, _ => simp [go_sem] | 1, _ => simp [go_sem]))).mono ?_
        rintro e w6 ⟨rfl, hu6⟩
        have HU6 := Lib.hid ((HU5.out.alloc _).trans hu6); clear hu6
        rw [maj_two]
        go_wp2_with fail
        refine (leads_any _ b3 n1 n2 n3 3 1 _ B' [] (fun n => decide (n = 0)) _ [] (by omega) (HT4.out.old HU6.out) one_heard (Ints.nil _)).mono ?_
        rintro e w7 ⟨rfl, hu7⟩
        have HU7 := Lib.hid (HU6.out.trans hu7); clear hu7
        rw [maj_no]
        go_wp2_with fail
        go_ret
        have hs := HUA.out.size
        have hs' := HI.out.up.size
        exact ⟨rfl, (((HI.out.up.trans HUA.out).trans HU.out).trans' HU4.out (fun i hi e => by omega)).trans HU7.out⟩
        --}T
      · go_wp2_with fail
        refine (leads_any _ b' m1' m2' m3' 2 1 Q BQ [] (accU y 16) _ l' (by omega) (HI.out.u.old HUA.out) HI.out.q (HV.out.old (HI.out.up.trans HUA.out))).mono ?_
        rintro e wb ⟨rfl, hub⟩
        have HUB := Lib.hid hub; clear hub
        cases hB : majB (accU y 16) l'
        · go_wp2_with fail
          --{S
          refine (new_any 3 1 _ rfl).mono ?_
          rintro e w3 ⟨b3, n1, n2, n3, rfl, hT, l0, l1, l2, l3, hu⟩
          have HT := Lib.hid hT; clear hT
          have HU := Lib.hid hu; clear hu
          go_wp2_with fail
          refine (promise_nil 0 _ b3 n1 n2 n3 3 1 [] [] [] (by omega) HT.out (fun _ => rfl) (by omega) (by omega) rfl).mono ?_
          rintro e w4 ⟨rfl, B', ht', hb', hu'⟩
          have HT4 := Lib.hid ht'; clear ht' hb'
          have HU4 := Lib.hid hu'; clear hu'
          go_wp2_with fail
          refine (leads_any _ b3 n1 n2 n3 3 1 _ B' [] (fun n => decide (n = 0)) _ [0] (by omega) (HT4.out.old (((Upd.refl _ _).alloc _))) one_heard (Ints.mk (by simp) (by simp) (fun j hj => by match j, hj with | 0, _ => simp [go_sem]))).mono ?_
          rintro e w5 ⟨rfl, hu5⟩
          have HU5 := Lib.hid (((Upd.refl _ _).alloc _).trans hu5); clear hu5
          rw [maj_one]
          go_wp2_with fail
          refine (leads_any _ b3 n1 n2 n3 3 1 _ B' [] (fun n => decide (n = 0)) _ [0, 1] (by omega) (HT4.out.old (HU5.out.alloc _)) one_heard (Ints.mk (by simp) (by simp) (fun j hj => by match j, hj with | 0, _ => simp [go_sem] | 1, _ => simp [go_sem]))).mono ?_
          rintro e w6 ⟨rfl, hu6⟩
          have HU6 := Lib.hid ((HU5.out.alloc _).trans hu6); clear hu6
          rw [maj_two]
          go_wp2_with fail
          refine (leads_any _ b3 n1 n2 n3 3 1 _ B' [] (fun n => decide (n = 0)) _ [] (by omega) (HT4.out.old HU6.out) one_heard (Ints.nil _)).mono ?_
          rintro e w7 ⟨rfl, hu7⟩
          have HU7 := Lib.hid (HU6.out.trans hu7); clear hu7
          rw [maj_no]
          go_wp2_with fail
          go_ret
          have hs := HUA.out.size
          have hs' := HI.out.up.size
          have hs2 := HUB.out.size
          exact ⟨rfl, ((((HI.out.up.trans HUA.out).trans HUB.out).trans HU.out).trans' HU4.out (fun i hi e => by omega)).trans HU7.out⟩
          --}S
        · have hno := majs_meet hA hB
          have HNO := Lib.hid hno; clear hno
          have HUW := Lib.hid ((HI.out.up.trans HUA.out).trans HUB.out)
          have hV2 := HV.out.old HUW.out
          have HV2 := Lib.hid hV2; clear hV2
          have hlb := HV2.out.2
          clear HUA HI HST HLO hA hB
          go_wp2_with fail
          go_loopw [94] (fun i wr => LoopN wb x y l' i wr) (fun i _ => l'.length - (intOf i).toNat)
          case atStart => exact ⟨0, Nat.zero_le _, rfl, by simp, Upd.refl _ _⟩
          case round =>
            obtain ⟨k, hk, rfl, hno, hu⟩ := hrel
            have HU := Lib.hid hu; clear hu
            have HN := Lib.hid hno; clear hno
            by_cases hlt : k < l'.length
            · obtain ⟨bb, o, hva, hcell⟩ : ∃ bb o, va = some ⟨bb, o, none⟩ ∧ wr.cell? ⟨bb, o + k, none⟩ = some (.int .i64 (l'.getD k 0)) := by
                rcases (HV2.out.old HU.out).cells with ⟨e, _⟩ | ⟨bb, o, c, e, _, hc⟩
                · rw [e] at hlt; exact absurd hlt (Nat.not_lt_zero _)
                · cases e; exact ⟨bb, o, rfl, hc k hlt⟩
              subst hva
              have hstep := loopN_step hlt HN.out
              generalize l'.getD k 0 = n at hcell hstep
              have HSTEP := Lib.hid hstep; clear hstep
              by_cases hn : 0 ≤ n ∧ n < 16
              · obtain ⟨hn0, hn1⟩ := hn
                obtain ⟨q, rfl⟩ : ∃ q : Nat, n = q := ⟨n.toNat, by omega⟩
                cases hbx : (bits BinOp.and IntKind.u64 (x / 2 ^ q) 1 == 1) <;> cases hby : (bits BinOp.and IntKind.u64 (y / 2 ^ q) 1 == 1)
                all_goals go_wp2_with fail
                all_goals first
                | (go_ret; exact ⟨rfl, HUW.out.trans HU.out⟩)
                | (go_roundw
                   case rel => exact ⟨k + 1, hlt, by go_num, HSTEP.out (by simp [accU, bitU, hbx, hby]), HU.out⟩
                   case measure => simp [intOf]; omega)
              · go_wp2_with fail
                all_goals
                  go_roundw
                  case rel => exact ⟨k + 1, hlt, by go_num, HSTEP.out (by simp [accU, hn]), HU.out⟩
                  case measure => simp [intOf]; omega
            · obtain rfl : k = l'.length := by omega
              obtain ⟨n, h1, h2⟩ := HNO.out
              exact absurd h2 (HN.out n (by rw [List.take_length]; exact h1))
end Go.Proofs.Ytlichkheakjkhaa
