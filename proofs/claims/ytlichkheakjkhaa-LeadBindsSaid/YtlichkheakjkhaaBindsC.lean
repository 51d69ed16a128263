/-
  LeadBinds: the votes are heard.
-/
import Derived.Test.YtlichkheakjkhaaBindsBase
namespace Go.Proofs.Ytlichkheakjkhaa
open Go Go.RowKit
def ifAt (n : Nat) : Code → Option Code
  | .cond (.tmp m) a b => if m = n then some (.cond (.tmp m) a b) else match ifAt n a with
    | some c => some c
    | none => ifAt n b
  | .seq a b => match ifAt n a with
    | some c => some c
    | none => ifAt n b
  | .block _ c => ifAt n c
  | .loop c => ifAt n c
  | .scope c => ifAt n c
  | _ => none
noncomputable def codeC : Code := (Try.f3.body.bind (ifAt 93)).getD .skip

set_option maxHeartbeats 8000000 in
set_option maxRecDepth 100000 in
theorem secC (w wo wc : World) (ds : List DoD) (d : DoD) (b m1 m2 m3 mb k : Nat) (f : Int → Option VoteD) (P B S : List (Int × Value)) (c0 c1 c2 c3 c4 c6 c7 c8 c9 c10 c11 c12 c13 c14 c15 c16 c17 c18 c19 c20 c21 c22 c23 c24 c25 c26 c27 c28 c29 c30 c31 c32 c33 c34 c35 c36 c37 c38 c39 c40 c41 c42 c43 c44 c45 c46 c47 c48 c49 c50 c51 c52 c53 c54 c55 c56 c57 c58 c59 c60 c61 c62 c63 c64 c65 c66 c67 c68 c69 c70 c71 c72 c73 c74 c75 c76 c77 c78 c79 c80 c81 c82 c83 c84 c85 c86 c87 c88 c89 c90 c91 c92 c93 c94 c95 c96 c97 c98 c99 c100 c101 c102 c103 c104 c105 c106 c107 c108 c109 c110 c111 c112 c113 c114 c115 c116 c117 c118 c119 c120 c121 c122 c123 c124 c125 c126 c127 c128 c129 c130 c131 c132 c133 c134 c135 c136 c137 c138 c139 c140 c141 c142 c143 c144 c145 c146 c147 c148 c149 c150 c151 c152 c153 c154 c155 c156 c157 : Value) (K : Act → World → Prop) (Q : Exit → Act → World → Prop)
    (hLo : Lo w b m1 m2 m3 mb) (HD : Hid d.Wf) (HI : Hid (Inv w ds b m1 m2 m3 mb k f P B S wo)) (HP : Hid (CutP w wo ds b m1 m2 m3 mb k d f S c8 c93 wc))
    (hK : ∀ (u15 u16 u17 u93 u94 u95 u96 u97 u98 u99 u100 u101 u102 u103 u104 u105 u106 u107 u108 u109 u110 u111 u112 u113 u114 u115 u116 u117 u118 u119 u120 : Value) (w' : World), CutC w ds b m1 m2 m3 mb k w' → K ⟨#[c0, c1, c2, c3, c4, .map (some mb), c6, c7, c8, c9, c10, c11, c12, c13, c14, u15, u16, u17, c18, c19, c20, c21, c22, c23, c24, c25, c26, c27, c28, c29, c30, c31, c32, c33, c34, c35, c36, c37, c38, c39, c40, c41, c42, c43, c44, c45, c46, c47, c48, c49, c50, c51, c52, c53, c54, c55, c56, c57, c58, c59, c60, c61, c62, c63, c64, c65, c66, c67, c68, c69, c70, c71, c72, c73, c74, c75, c76, c77, c78, c79, c80, c81, c82, c83, c84, c85, c86, c87, c88, c89, c90, c91, c92, u93, u94, u95, u96, u97, u98, u99, u100, u101, u102, u103, u104, u105, u106, u107, u108, u109, u110, u111, u112, u113, u114, u115, u116, u117, u118, u119, u120, c121, c122, c123, c124, c125, c126, c127, c128, c129, c130, c131, c132, c133, c134, c135, c136, c137, c138, c139, c140, c141, c142, c143, c144, c145, c146, c147, c148, c149, c150, c151, c152, c153, c154, c155, c156, c157], []⟩ w') :
    Code.wp Try.prog codeC (Exit.then K Q) ⟨#[c0, c1, c2, c3, c4, .map (some mb), c6, c7, c8, c9, c10, c11, c12, c13, c14, c15, c16, c17, c18, c19, c20, c21, c22, c23, c24, c25, c26, c27, c28, c29, c30, c31, c32, c33, c34, c35, c36, c37, c38, c39, c40, c41, c42, c43, c44, c45, c46, c47, c48, c49, c50, c51, c52, c53, c54, c55, c56, c57, c58, c59, c60, c61, c62, c63, c64, c65, c66, c67, c68, c69, c70, c71, c72, c73, c74, c75, c76, c77, c78, c79, c80, c81, c82, c83, c84, c85, c86, c87, c88, c89, c90, c91, c92, c93, c94, c95, c96, c97, c98, c99, c100, c101, c102, c103, c104, c105, c106, c107, c108, c109, c110, c111, c112, c113, c114, c115, c116, c117, c118, c119, c120, c121, c122, c123, c124, c125, c126, c127, c128, c129, c130, c131, c132, c133, c134, c135, c136, c137, c138, c139, c140, c141, c142, c143, c144, c145, c146, c147, c148, c149, c150, c151, c152, c153, c154, c155, c156, c157], []⟩ wc := by
  conv => arg 2; whnf
  obtain ⟨rfl, hP⟩ := HP.out
  clear HP
  have HP := Lib.hid hP; clear hP
  obtain ⟨P', B', hT', hB', hS', hpr', hV', hU'⟩ := HP.out
  have HT' := Lib.hid hT'; clear hT'
  have HB' := Lib.hid hB'; clear hB'
  have HPR' := Lib.hid hpr'; clear hpr'
  have HV' := Lib.hid hV'; clear hV'
  have HU' := Lib.hid hU'; clear hU'
  have HS' := Lib.hid hS'
  clear HP
  cases hnb : newB (ds.take k) d
  · have HNB := Lib.hid hnb; clear hnb
    go_wp2_with fail
    have hb := HB'.out
    rw [HNB.out] at hb
    exact ⟨f, P', B', S, HT'.out, hb, HS'.out, HPR'.out, HI.out.rel, HI.out.small, HU'.out⟩
  · have HNB := Lib.hid hnb; clear hnb
    obtain ⟨ua, uc, hu8⟩ := HV'.out.shape
    have lv := look_int
    have pv := put_int
    rw [List.length_map] at hu8
    subst hu8
    go_wp2_with fail
    go_loopw [96] (fun i wr => LoopC wc d f mb i wr) (fun i _ => d.votes.length - (intOf i).toNat)
    case atStart => exact ⟨0, S, Nat.zero_le _, rfl, hS', HI.out.rel, Upd.refl _ _⟩
    case round =>
      obtain ⟨q, Sq, hq, rfl, hSq, hRq, huq⟩ := hrel
      clear hS'
      have HUQ := Lib.hid huq; clear huq
      have HRQ := Lib.hid hRq; clear hRq
      have hvl : d.votes.length ≤ 1099511627776 := by have := HD.out.len; unfold reachBytes at this; omega
      by_cases hql : q < d.votes.length
      · obtain ⟨vb2, vo2, vc2, hv2, _, hel2⟩ : ∃ b o c, Value.slice ua d.votes.length uc = .slice (some ⟨b, o, none⟩) d.votes.length c ∧ (d.votes.map turned).length ≤ 9223372036854775807 ∧ ∀ i, i < (d.votes.map turned).length → ∃ nv, Ints wc nv ((d.votes.map turned).getD i default).cmd.nodes ∧ ∀ j, j < 14 → wc.cell? ⟨b, o + i * 14 + j, none⟩ = (((d.votes.map turned).getD i default).cells nv)[j]? := by
          rcases HV'.out with ⟨h, _⟩ | h
          · rw [List.map_eq_nil_iff] at h; rw [h] at hql; simp at hql
          · obtain ⟨b', o', c', h1, h2, h3⟩ := h
            exact ⟨b', o', c', by rw [h1, List.length_map], h2, h3⟩
        cases hv2
        obtain ⟨nv2, hn2, hc2⟩ := hel2 q (by simpa using hql)
        have hts : turned (d.votes.getD q default) = (d.votes.map turned).getD q default := by
          rw [List.getD_eq_getElem?_getD, List.getD_eq_getElem?_getD, List.getElem?_map, List.getElem?_eq_getElem hql]; rfl
        generalize hx : (d.votes.map turned).getD q default = x at hn2 hc2 hts
        have hx1 : 1 ≤ x.slot ∧ x.slot ≤ 4 ∧ x.cmd.id = x.ballot := by
          rw [← hts]; have := un4_bd (d.votes.getD q default).slot; exact ⟨by show 1 ≤ 1 + un4 _; omega, by show 1 + un4 _ ≤ 4; omega, rfl⟩
        have HX := Lib.hid hx; clear hx hts
        obtain ⟨na2, nc2, rfl⟩ := hn2.shape
        clear hn2 hel2
        have hvb2 : vb2 < wc.heap.size := by have := World.block_lt_of_cell? _ _ (hc2 0 (by omega)); simpa using this
        have hvi2 : wc.im vb2 = none := cell_im (hc2 0 (by omega))
        obtain ⟨e0, e1, e2, e3, e4, e5, e6, e7, e8, e9, e10, e11, e12, e13⟩ := vote_cells (w := wr) (fun j hj => (HUQ.out.cell (p := ⟨vb2, vo2 + q * 14 + j, none⟩) hvb2 (by
          intro e
          have e' : vb2 = mb := e
          rw [e', HS'.out] at hvi2; cases hvi2)).trans (hc2 j hj))
        clear hc2 hvi2
        have hid := hx1.2.2
        have HID := Lib.hid hid; clear hid
        have hx2 := hx1.1
        have hx3 := hx1.2.1
        clear hx1
        have hRs := HRQ.out x.slot
        cases hfq : ((d.votes.map turned).take q).foldl (hear 1) f x.slot with
        | none =>
          rw [hfq] at hRs
          simp only [] at hRs
          have HY := Lib.hid (hear_yes (f := ((d.votes.map turned).take q).foldl (hear 1) f) (d := x) hx2 (Or.inl hfq))
          clear hfq
          go_wp2_with fail
          go_roundw
          case rel => exact loopC_put hql HX.out hSq HRQ.out HUQ.out ((Upd.refl _ _).alloc _) HY.out HID.out rfl
          case measure => simp [intOf]; omega
        | some y =>
          rw [hfq] at hRs
          obtain ⟨hRs, _⟩ := hRs
          by_cases hgt : y.ballot < x.ballot
          · have HY := Lib.hid (hear_yes (f := ((d.votes.map turned).take q).foldl (hear 1) f) (d := x) hx2 (Or.inr ⟨y, hfq, hgt⟩))
            clear hfq
            go_wp2_with fail
            go_roundw
            case rel => exact loopC_put hql HX.out hSq HRQ.out HUQ.out ((Upd.refl _ _).alloc _) HY.out HID.out rfl
            case measure => simp [intOf]; omega
          · have HY := Lib.hid (hear_no (frm := 1) (f := ((d.votes.map turned).take q).foldl (hear 1) f) (d := x) (fun h => by rcases h.2 with h | ⟨z, h, h'⟩; rw [hfq] at h; cases h; rw [hfq] at h; cases h; exact hgt h'))
            clear hfq
            go_wp2_with fail
            go_roundw
            case rel => exact loopC_skip hql HX.out hSq HRQ.out HUQ.out ((Upd.refl _ _).alloc _) HY.out
            case measure => simp [intOf]; omega
      · go_wp2_with fail
        obtain rfl : q = d.votes.length := by omega
        have hR := HRQ.out
        rw [show d.votes.length = (d.votes.map turned).length by simp, List.take_length] at hR
        have hb := HB'.out
        rw [HNB.out] at hb
        refine ⟨_, P', B', Sq, HT'.out.upd HUQ.out (fun e => ?_) (fun e => hLo.nb.1 e.symm) (fun e => hLo.nb.2.1 e.symm) (fun e => hLo.nb.2.2 e.symm), hb.upd HUQ.out (fun b hb => by rw [hb, HS'.out]; rfl), hSq, HPR'.out, hR, ?_, HU'.out.trans' HUQ.out (fun i hi e => by have := hLo.lo.2.2.2.2; omega)⟩
        · have := cell_im HT'.out.c0
          simp only [] at this
          rw [e, HS'.out] at this; cases this
        · exact hear_small _ _ HI.out.small (fun v hv => by
            obtain ⟨u, _, rfl⟩ := List.mem_map.1 hv
            have := un4_bd u.slot
            exact ⟨by show 1 ≤ 1 + un4 _; omega, by show 1 + un4 _ ≤ 4; omega⟩)
end Go.Proofs.Ytlichkheakjkhaa
