/-
  LeadOpens: what is proposed is what was proposed first in each slot. The walk.
-/
import Derived.Test.YtlichkheakjkhaaOpensL
import Derived.Test.YtlichkheakjkhaaSh3
namespace Go.Proofs.Ytlichkheakjkhaa
open Go Go.RowKit

theorem sorted_pairwise (l : List Int) : (sorted l).Pairwise (fun a b => a ≤ b) := by
  have := List.pairwise_mergeSort (le := fun x y : Int => decide (x ≤ y)) (fun a b c h1 h2 => by simp only [decide_eq_true_eq] at *; omega) (fun a b => by simp only [Bool.or_eq_true, decide_eq_true_eq]; omega) l
  exact this.imp (fun h => by simpa using h)
theorem isSorted_any (w : World) (v : Value) (l : List Int) (hv : Ints w v l) (hl : l.Pairwise (fun a b => a ≤ b)) : Calls Try.prog 17 #[v] w (BoolPost w true) := by
  have hb := hv.2
  rcases hv.cells with ⟨rfl, a, c, rfl, _⟩ | ⟨b, o, c, rfl, _, hi⟩
  · refine (AnyO.slices_IsSorted_int_none Try.isSortedA a c w).mono ?_
    rintro e w' ⟨rfl, rfl⟩
    exact ⟨rfl, Upd.refl _ _⟩
  · have := AnyO.slices_IsSorted_int Try.isSortedA b o c l.toArray w (fun i h => by
      have h' : i < l.length := by simpa using h
      rw [hi i h', List.getElem!_toArray, List.getElem!_eq_getElem?_getD, List.getD_eq_getElem?_getD]; rfl) (by simp; omega)
    have h2 : Lib.downOK (fun x y => decide (x < y)) l.toArray (l.toArray.size - 1) = true := by
      rw [Lib.downOK_iff]
      intro i h
      have h0 : i + 1 < l.length := by simp at h; omega
      rw [List.getElem!_toArray, List.getElem!_toArray, List.getElem!_eq_getElem?_getD, List.getElem!_eq_getElem?_getD, List.getElem?_eq_getElem h0, List.getElem?_eq_getElem (by omega : i < l.length)]
      have := List.pairwise_iff_getElem.1 hl i (i + 1) (by omega) h0 (by omega)
      simp only [Option.getD_some, decide_eq_false_iff_not]
      omega
    rw [h2] at this
    refine this.mono ?_
    rintro e w' ⟨rfl, q, rfl⟩
    exact ⟨rfl, (Upd.refl _ _).drewN q⟩
theorem len_int {w : World} {b : Nat} {l : List (Int × Value)} (h : w.im b = some l) : (Builtin.len_ #[27] 3 #[.map (some b)]).run Try.prog w = .ok (.int .i64 l.length) w := by
  obtain ⟨es, c, h1, h2⟩ := im_heap h
  rw [run_len_map _ _ _ _ es c (by kernel_rfl) h1, h2]
  rfl
theorem mem_sorted {n : Int} {l : List Int} : n ∈ sorted l ↔ n ∈ l := (List.mergeSort_perm _ _).mem_iff
theorem OpenI.wf {w wr : World} {b m1 m2 m3 mw k frm : Nat} {O Wt : List (Int × Value)} {blk : Int → Nat × Nat} {g : Int → Option PropD} (h : OpenI w b m1 m2 m3 mw k frm O Wt blk g wr) : ∀ p ∈ O, (Lit.int .i64 p.1).wf = true := by
  intro p hp
  have := h.rng p hp
  simp [Lit.wf, IntKind.min, IntKind.max, IntKind.signed, IntKind.bits]
  omega
theorem OpenI.small {w wr : World} {b m1 m2 m3 mw k frm : Nat} {O Wt : List (Int × Value)} {blk : Int → Nat × Nat} {g : Int → Option PropD} (h : OpenI w b m1 m2 m3 mw k frm O Wt blk g wr) : Go.Proofs.Ytlichkheakjkhaa.small O := by
  intro p hp
  have := h.rng p hp
  omega
theorem OpenI.at {w wr : World} {b m1 m2 m3 mw k frm : Nat} {O Wt : List (Int × Value)} {blk : Int → Nat × Nat} {g : Int → Option PropD} (h : OpenI w b m1 m2 m3 mw k frm O Wt blk g wr) {x : Int} (hx : x ∈ sorted (O.map (·.1))) : ∃ p, g x = some p ∧ aget Wt x = some (.int .i64 p.cmd.id) := by
  obtain ⟨p, hp, rfl⟩ := List.mem_map.1 (mem_sorted.1 hx)
  cases hg : g p.1 with
  | some q => exact ⟨q, rfl, by rw [h.has, hg]; rfl⟩
  | none =>
    have h1 := h.pr.no hg
    have h2 : (aget O p.1).isSome = true := by rw [← ahas_aget]; exact List.any_eq_true.2 ⟨p, hp, by simp⟩
    rw [h1] at h2; cases h2
theorem ints_cell {w : World} {a : Option Addr} {n c j : Nat} {l : List Int} (h : Ints w (.slice a n c) l) (hn : l.length = n) (hj : j < n) : ∃ bb o, a = some ⟨bb, o, none⟩ ∧ w.cell? ⟨bb, o + j, none⟩ = some (.int .i64 (l.getD j 0)) := by
  subst hn
  rcases h.cells with ⟨e, _⟩ | ⟨bb, o, c, e, _, hc⟩
  · rw [e] at hj; exact absurd hj (Nat.not_lt_zero _)
  · cases e; exact ⟨bb, o, rfl, hc j hj⟩
theorem getD_mem {n j : Nat} {l : List Int} (hn : l.length = n) (hj : j < n) : l.getD j 0 ∈ l := by
  subst hn
  rw [List.getD_eq_getElem?_getD, List.getElem?_eq_getElem hj]
  exact List.getElem_mem hj
def LoopO (w3 : World) (len : Nat) (i : Value) (wr : World) : Prop := ∃ j : Nat, j ≤ len ∧ i = .int .i64 j ∧ Upd (fun _ => False) w3 wr
set_option maxHeartbeats 800000 in
set_option maxRecDepth 100000 in
theorem opens_walk (w : World) (x : Int) (v : Value) (ds : List DoD) (hv : Dos w v ds) : Calls Try.prog 4 #[.int .i64 x, v] w (BoolPost w true) := by
  have hmm := @run_makeMap Try.prog
  have lv := look_int
  obtain ⟨frm, hf1, hf2, hf3⟩ := un4_nat x
  have s4 := un4_is x
  obtain ⟨va, vc, rfl⟩ : ∃ a c, v = .slice a ds.length c := by
    rcases hv with ⟨rfl, a, c, h, _⟩ | ⟨b, o, c, h, _⟩
    · exact ⟨_, _, h⟩
    · exact ⟨_, _, h⟩
  have HV := Lib.hid hv; clear hv
  go_enter Try.func4, Try.ntmps4
  go_wp2_with fail
  simp only [s4, hf1]
  clear s4 hf1
  refine (new_any 5 frm _ (by simp [wrongIn, wrongB]; omega)).mono ?_
  rintro e w1 ⟨b, m1, m2, m3, rfl, hT, l0, l1, l2, l3, hu⟩
  have HT := Lib.hid hT; clear hT
  have HU := Lib.hid hu; clear hu
  go_upto_block 0 with (fail)
  have HLO : Hid (OpenLo w b m1 m2 m3 w1.heap.size) := by
    have h1 := HT.out.lts
    have h2 := HU.out.size
    exact Lib.hid ⟨by omega, by omega⟩
  have hst : OpenI w b m1 m2 m3 w1.heap.size 0 frm [] [] (fun _ => (0, 0)) (fun _ => none) (w1.alloc (.map #[] 0)) :=
    ⟨HT.out.old ((Upd.refl _ _).alloc _), props_nil _ _ _ _ _, by simp [go_sem], fun _ => rfl, rfl, (fun p hp => nomatch hp), Nat.le_refl _, (fun _ h => absurd rfl h), HU.out.alloc _⟩
  have HST := Lib.hid hst; clear hst
  clear HT HU l0 l1 l2 l3
  obtain ⟨mw, hmwd⟩ : ∃ mw, w1.heap.size = mw := ⟨_, rfl⟩
  obtain ⟨w2, hw2⟩ : ∃ w2, w1.alloc (.map #[] 0) = w2 := ⟨_, rfl⟩
  rw [hmwd] at HLO HST
  rw [hw2] at HST
  rw [hmwd, hw2]
  clear hmwd hw2 hmm
  go_cut [] (fun wc => OpenAll w b m1 m2 m3 mw frm wc)
  case first =>
    rename_i hJ hK2
    refine secL w w2 va vc ds b m1 m2 m3 mw frm _ _ _ _ _ _ _ _ _ _ _ _ _ _ _ _ _ _ _ _ _ _ _ _ _ _ _ _ _ _ _ _ _ _ _ _ _ _ _ _ _ _ _ _ _ _ _ _ _ _ _ _ _ _ _ _ _ _ _ _ _ _ _ _ _ _ _ _ _ _ _ _ _ _ _ _ _ _ _ _ _ _ _ _ _ _ _ _ _ _ _ _ _ _ _ _ _ _ _ _ _ _ _ _ _ _ _ _ _ _ _ _ _ _ _ _ _ _ _ _ _ _ _ _ _ _ _ _ _ _ _ _ _ _ _ HV ?_ HLO hf2 hf3 HST ?_
    · rcases HV.out with ⟨rfl, _⟩ | ⟨_, _, c, _, h, h', _⟩
      · simp
      · exact Nat.le_trans h h'
    · intros
      refine hK2 _ _ (hJ _ _ ?_)
      (repeat apply Exists.intro)
      exact ⟨by assumption, rfl⟩
  case rest =>
    obtain ⟨O, Wt, blk, g, hI⟩ := hcut
    have HI := Lib.hid hI; clear hI
    clear HST
    go_wp2_with fail
    refine (open_any _ b m1 m2 m3 5 frm [] [] O (by omega) HI.out.t HI.out.wf (by have := HI.out.len; omega)).mono ?_
    rintro e w3 ⟨vo, rfl, hvo, hu3⟩
    obtain ⟨oa, oc, rfl⟩ := hvo.shape
    have hno := hvo.2
    have HI3 := Lib.hid (HI.out.old hu3); clear hu3
    have HVO := Lib.hid hvo; clear hvo
    have hsl : (sorted (O.map (·.1))).length = O.length := by rw [sorted_length, List.length_map]
    rw [hsl] at HVO hno ⊢
    have HSL := Lib.hid hsl; clear hsl
    go_wp2_with fail
    go_loopw [94] (fun i wr => LoopO w3 O.length i wr) (fun i _ => O.length - (intOf i).toNat)
    case atStart => exact ⟨0, Nat.zero_le _, rfl, Upd.refl _ _⟩
    case round =>
      obtain ⟨j, hj, rfl, hu⟩ := hrel
      have HI4 := Lib.hid (HI3.out.old hu)
      have hm4 := HI4.out.m
      by_cases hlt : j < O.length
      · --{P
        obtain ⟨bb, o, hva, hcell⟩ := ints_cell (HVO.out.old hu) HSL.out hlt
        subst hva
        have HU := Lib.hid hu; clear hu
        obtain ⟨p, hp, hwant⟩ := HI4.out.at (getD_mem HSL.out hlt)
        generalize (sorted (O.map (·.1))).getD j 0 = y at hcell hp hwant
        have HWANT := Lib.hid hwant; clear hwant
        go_wp2_with fail
        refine (proposed_some y _ b m1 m2 m3 5 frm [] [] O blk g p (by omega) HI4.out.t HI4.out.pr hp).mono ?_
        rintro e w5 ⟨nv, rfl, hn, hf, hu5⟩
        obtain ⟨na, nc, rfl⟩ := hn.shape
        clear hn hf
        have hm5 := (hu5.im (im_lt (w := wr) (b := mw) (by rw [hm4]; rfl)) (fun h => h)).trans hm4
        have hw5 := HWANT.out
        have HU5 := Lib.hid (HU.out.trans hu5); clear hu5
        simp only [CmdD.cells]
        clear hm4
        go_wp2_with fail
        go_roundw
        case rel => exact ⟨j + 1, hlt, by go_num, HU5.out.alloc _⟩
        case measure => simp [intOf]; omega
        --}P
      · have HU := Lib.hid hu; clear hu
        clear hm4
        have hkl : Wt.length = O.length := by
          have := congrArg List.length HI3.out.keys
          simpa using this
        have HKL := Lib.hid hkl; clear hkl
        go_wp2_with fail
        refine (open_any _ b m1 m2 m3 5 frm [] [] O (by omega) HI4.out.t HI4.out.wf (by have := HI4.out.len; omega)).mono ?_
        rintro e w6 ⟨vo6, rfl, hvo6, hu6⟩
        obtain ⟨oa6, oc6, rfl⟩ := hvo6.shape
        clear hvo6
        have HI6 := Lib.hid (HI4.out.old hu6); clear hu6
        have hl6 := len_int HI6.out.m
        rw [HKL.out] at hl6
        rw [HSL.out]
        go_wp2_with fail
        refine (next_any _ b m1 m2 m3 5 frm [] [] O (by omega) HI6.out.t (by omega) (by omega) (by intro p hp; cases hp) HI6.out.small).mono ?_
        rintro e w7 ⟨last, ⟨hmx, _⟩, rfl, hu7⟩
        have hnx : (frm : Int) ≤ min last 9223372036854775806 + 1 := by omega
        generalize min last 9223372036854775806 + 1 = n at hnx
        clear hmx hl6
        have HI7 := Lib.hid (HI6.out.old hu7); clear hu7
        go_wp2_with fail
        refine (open_any _ b m1 m2 m3 5 frm [] [] O (by omega) HI7.out.t HI7.out.wf (by have := HI7.out.len; omega)).mono ?_
        rintro e w8 ⟨vo8, rfl, hvo8, hu8⟩
        have HI8 := Lib.hid (HI7.out.old hu8); clear hu8
        have HVO8 := Lib.hid hvo8
        obtain ⟨oa8, oc8, rfl⟩ := hvo8.shape
        clear hvo8
        rw [HSL.out] at HVO8 ⊢
        go_wp2_with fail
        refine (isSorted_any _ _ _ HVO8.out (sorted_pairwise _)).mono ?_
        rintro e w9 ⟨rfl, hu9⟩
        have HI9 := Lib.hid (HI8.out.old hu9); clear hu9
        go_wp2_with fail
        go_ret
        exact ⟨rfl, HI9.out.up⟩
end Go.Proofs.Ytlichkheakjkhaa
