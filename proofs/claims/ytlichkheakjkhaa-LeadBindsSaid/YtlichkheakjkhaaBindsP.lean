/-
  LeadBinds: the promise.
-/
import Derived.Test.YtlichkheakjkhaaBindsBase
namespace Go.Proofs.Ytlichkheakjkhaa
open Go Go.RowKit
def regionAt (n : Nat) : Code → Option Code
  | .region m o r => if m = n then some (.region m o r) else none
  | .seq a b => match regionAt n a with
    | some c => some c
    | none => regionAt n b
  | .block _ c => regionAt n c
  | .loop c => regionAt n c
  | .scope c => regionAt n c
  | .cond _ a b => match regionAt n a with
    | some c => some c
    | none => regionAt n b
  | _ => none
noncomputable def codeP : Code := (Try.f3.body.bind (regionAt 24)).getD .skip

set_option maxHeartbeats 8000000 in
set_option maxRecDepth 100000 in
theorem secP (w wo wc : World) (ds : List DoD) (d : DoD) (b m1 m2 m3 mb k : Nat) (f : Int → Option VoteD) (P B S : List (Int × Value)) (c0 c1 c2 c4 c5 c6 c8 c9 c10 c11 c12 c13 c14 c15 c16 c17 c18 c19 c20 c21 c22 c23 c24 c25 c26 c27 c28 c29 c30 c31 c32 c33 c34 c35 c36 c37 c38 c39 c40 c41 c42 c43 c44 c45 c46 c47 c48 c49 c50 c51 c52 c53 c54 c55 c56 c57 c58 c59 c60 c61 c62 c63 c64 c65 c66 c67 c68 c69 c70 c71 c72 c73 c74 c75 c76 c77 c78 c79 c80 c81 c82 c83 c84 c85 c86 c87 c88 c89 c90 c91 c92 c93 c94 c95 c96 c97 c98 c99 c100 c101 c102 c103 c104 c105 c106 c107 c108 c109 c110 c111 c112 c113 c114 c115 c116 c117 c118 c119 c120 c121 c122 c123 c124 c125 c126 c127 c128 c129 c130 c131 c132 c133 c134 c135 c136 c137 c138 c139 c140 c141 c142 c143 c144 c145 c146 c147 c148 c149 c150 c151 c152 c153 c154 c155 c156 c157 : Value) (K : Act → World → Prop) (Q : Exit → Act → World → Prop)
    (hLo : Lo w b m1 m2 m3 mb) (hlt : k < ds.length) (hsl : Hid (ds.getD k default = d)) (HI : Hid (Inv w ds b m1 m2 m3 mb k f P B S wo)) (HB : Hid (CutB wo d (ds.take k) c11 c8 wc))
    (hK : ∀ (u11 u85 u86 u87 u88 u89 u90 u91 u92 u93 : Value) (w' : World), CutP w wo ds b m1 m2 m3 mb k d f S c8 u93 w' → K ⟨#[c0, c1, c2, .pointer (some ⟨b, 0, none⟩), c4, c5, c6, .pointer (some ⟨wo.heap.size, 0, none⟩), c8, c9, c10, u11, c12, c13, c14, c15, c16, c17, c18, c19, c20, c21, c22, c23, c24, c25, c26, c27, c28, c29, c30, c31, c32, c33, c34, c35, c36, c37, c38, c39, c40, c41, c42, c43, c44, c45, c46, c47, c48, c49, c50, c51, c52, c53, c54, c55, c56, c57, c58, c59, c60, c61, c62, c63, c64, c65, c66, c67, c68, c69, c70, c71, c72, c73, c74, c75, c76, c77, c78, c79, c80, c81, c82, c83, c84, u85, u86, u87, u88, u89, u90, u91, u92, u93, c94, c95, c96, c97, c98, c99, c100, c101, c102, c103, c104, c105, c106, c107, c108, c109, c110, c111, c112, c113, c114, c115, c116, c117, c118, c119, c120, c121, c122, c123, c124, c125, c126, c127, c128, c129, c130, c131, c132, c133, c134, c135, c136, c137, c138, c139, c140, c141, c142, c143, c144, c145, c146, c147, c148, c149, c150, c151, c152, c153, c154, c155, c156, c157], []⟩ w') :
    Code.wp Try.prog codeP (Exit.then K Q) ⟨#[c0, c1, c2, .pointer (some ⟨b, 0, none⟩), c4, c5, c6, .pointer (some ⟨wo.heap.size, 0, none⟩), c8, c9, c10, c11, c12, c13, c14, c15, c16, c17, c18, c19, c20, c21, c22, c23, c24, c25, c26, c27, c28, c29, c30, c31, c32, c33, c34, c35, c36, c37, c38, c39, c40, c41, c42, c43, c44, c45, c46, c47, c48, c49, c50, c51, c52, c53, c54, c55, c56, c57, c58, c59, c60, c61, c62, c63, c64, c65, c66, c67, c68, c69, c70, c71, c72, c73, c74, c75, c76, c77, c78, c79, c80, c81, c82, c83, c84, c85, c86, c87, c88, c89, c90, c91, c92, c93, c94, c95, c96, c97, c98, c99, c100, c101, c102, c103, c104, c105, c106, c107, c108, c109, c110, c111, c112, c113, c114, c115, c116, c117, c118, c119, c120, c121, c122, c123, c124, c125, c126, c127, c128, c129, c130, c131, c132, c133, c134, c135, c136, c137, c138, c139, c140, c141, c142, c143, c144, c145, c146, c147, c148, c149, c150, c151, c152, c153, c154, c155, c156, c157], []⟩ wc := by
  conv => arg 2; whnf
  obtain ⟨hA, rfl⟩ := HB.out
  have HA := Lib.hid hA; clear hA
  clear HB
  have uc := HI.out.up.trans HA.out.2.1
  have hTc := HI.out.try_.old HA.out.2.1
  have hBc := HI.out.bound.upd HA.out.2.1 (fun _ h => h.elim)
  have hSc := (HA.out.2.1.im (im_lt (w := wo) (b := mb) (by rw [HI.out.best]; rfl)) (fun h => h)).trans HI.out.best
  have hVc := votes_of_owns HA.out.1
  have cn := HA.out.2.2.2
  have hpr := HI.out.prom
  have HUC := Lib.hid uc; clear uc
  have HTC := Lib.hid hTc; clear hTc
  have HBC := Lib.hid hBc; clear hBc
  have HSC := Lib.hid hSc; clear hSc
  have HVC := Lib.hid hVc; clear hVc
  have HPR := Lib.hid hpr; clear hpr
  cases hnb : newB (ds.take k) d
  · by_cases hok : 0 ≤ d.node ∧ d.node < 16
    · obtain ⟨hf, hpt⟩ := newB_not hnb hok.1 hok.2
      have hag : aget P d.node = some (.bool true) := by rw [HPR.out, hpt]; rfl
      rw [hf]
      have HNB := Lib.hid hnb; clear hnb
      have HPT := Lib.hid hpt; clear hpt
      clear hf
      go_wp2_with (go_at_call 10; refine (promise_again d.node wc b m1 m2 m3 9 1 P B [] c8 (by omega) HTC.out hok.1 hok.2 hag).mono ?_; rintro e w' ⟨rfl, rfl⟩)
      refine ⟨by rw [HNB.out], P, B, HTC.out, by rw [HNB.out]; exact HBC.out, HSC.out, fun n => ?_, HVC.out, HUC.out⟩
      rw [HPR.out, promB_step hlt hsl.out]
      have := HPT.out
      by_cases e : d.node = n
      · subst e; rw [this]; rfl
      · simp [e]
    · have hbad : d.node < 0 ∨ 16 ≤ d.node := by omega
      have HNB := Lib.hid hnb; clear hnb
      generalize hbb : ((ds.take k).all fun x => decide (x.node ≠ d.node)) = bb
      clear hbb
      go_wp2_with (go_at_call 10; refine (promise_bad d.node wc b m1 m2 m3 9 1 P B [] c8 (by omega) HTC.out hbad).mono ?_; rintro e w' ⟨rfl, rfl⟩)
      refine ⟨by rw [HNB.out], P, B, HTC.out, by rw [HNB.out]; exact HBC.out, HSC.out, fun n => ?_, HVC.out, HUC.out⟩
      rw [HPR.out, promB_step hlt hsl.out]
      by_cases e : d.node = n
      · subst e
        have : decide (0 ≤ d.node ∧ d.node < 16) = false := by simpa using hok
        rw [this]; simp
      · simp [e]
  · obtain ⟨h0, h1, hf, hpt⟩ := newB_prom hnb
    have hag : aget P d.node = none := by rw [HPR.out, hpt]; rfl
    rw [hf]
    have HNB := Lib.hid hnb; clear hnb
    have HPT := Lib.hid hpt; clear hpt
    clear hf
    go_wp2_with (go_at_call 10; refine (promise_new d.node wc b m1 m2 m3 9 1 P B [] f c8 (d.votes.map turned) (by omega) HTC.out HBC.out HVC.out h0 h1 hag).mono ?_; rintro e w' ⟨rfl, B', hT', hB', hU'⟩)
    obtain ⟨l0', l1', l2', l3'⟩ := HTC.out.lts
    refine ⟨by rw [HNB.out], _, B', hT', by rw [HNB.out]; exact hB', ?_, fun n => ?_, ?_, HUC.out.trans' hU' ?_⟩
    · rw [hU'.im (im_lt (w := wc) (b := mb) (by rw [HSC.out]; rfl)) (by rintro (e | e); exact hLo.nb.1 e; exact hLo.nb.2.1 e)]; exact HSC.out
    · rw [aget_aput, promB_step hlt hsl.out]
      by_cases e : d.node = n
      · subst e; simp [h0, h1]
      · rw [if_neg (fun h => e h.symm), HPR.out]; simp [e]
    · exact HVC.out.upd hU' (fun b hb => by rcases hb with rfl | rfl; rw [HTC.out.i1]; rfl; rw [HTC.out.i2]; rfl)
    · rintro i hi (e | e)
      · have := hLo.lo.2.1; omega
      · have := hLo.lo.2.2.1; omega
end Go.Proofs.Ytlichkheakjkhaa
