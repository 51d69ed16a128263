/-
  LeadBinds: whether the node promised before.
-/
import Derived.Test.YtlichkheakjkhaaBindsBase
namespace Go.Proofs.Ytlichkheakjkhaa
open Go Go.RowKit
noncomputable def codeB : Code := (Try.f3.body.bind (blockAt 4)).getD .skip

set_option maxHeartbeats 8000000 in
set_option maxRecDepth 100000 in
theorem secB (w wo wc : World) (ds : List DoD) (d : DoD) (vb vo vc k : Nat) (c0 c1 c2 c3 c4 c5 c6 c8 c9 c10 c12 c13 c14 c15 c16 c17 c18 c19 c20 c21 c22 c23 c24 c25 c26 c27 c28 c29 c30 c31 c32 c33 c34 c35 c36 c37 c38 c39 c40 c41 c42 c43 c44 c45 c46 c47 c48 c49 c50 c51 c52 c53 c54 c55 c56 c57 c58 c59 c60 c61 c62 c63 c64 c65 c66 c67 c68 c69 c73 c74 c75 c76 c77 c78 c79 c80 c81 c82 c83 c84 c85 c86 c87 c88 c89 c90 c91 c92 c93 c94 c95 c96 c97 c98 c99 c100 c101 c102 c103 c104 c105 c106 c107 c108 c109 c110 c111 c112 c113 c114 c115 c116 c117 c118 c119 c120 c121 c122 c123 c124 c125 c126 c127 c128 c129 c130 c131 c132 c133 c134 c135 c136 c137 c138 c139 c140 c141 c142 c143 c144 c145 c146 c147 c148 c149 c150 c151 c152 c153 c154 c155 c156 c157 : Value) (K : Act → World → Prop) (Q : Exit → Act → World → Prop)
    (HE : Hid (∀ i, i < ds.length → ∃ nv vv, Ints w nv (ds.getD i default).cmd.nodes ∧ Votes w vv (ds.getD i default).votes ∧ ∀ j, j < 16 → w.cell? ⟨vb, vo + i * 16 + j, none⟩ = ((ds.getD i default).cells nv vv)[j]?))
    (hlen : ds.length ≤ vc) (hcap : vc ≤ 9223372036854775807) (hvb : vb < w.heap.size) (hlt : k < ds.length) (HUP : Hid (Upd (fun _ => False) w wo)) (HA : Hid (CutA wo d c8 wc))
    (hK : ∀ (u11 u13 u72 u73 u74 u75 u76 u77 u78 u79 u80 u81 u82 u83 u84 : Value) (w' : World), CutB wo d (ds.take k) u11 c8 w' → K ⟨#[c0, c1, c2, c3, c4, c5, c6, .pointer (some ⟨wo.heap.size, 0, none⟩), c8, c9, c10, u11, c12, u13, c14, c15, c16, c17, c18, c19, c20, c21, c22, c23, c24, c25, c26, c27, c28, c29, c30, c31, c32, c33, c34, c35, c36, c37, c38, c39, c40, c41, c42, c43, c44, c45, c46, c47, c48, c49, c50, c51, c52, c53, c54, c55, c56, c57, c58, c59, c60, c61, c62, c63, c64, c65, c66, c67, c68, c69, .slice (some ⟨vb, vo, none⟩) k vc, .int .i64 k, u72, u73, u74, u75, u76, u77, u78, u79, u80, u81, u82, u83, u84, c85, c86, c87, c88, c89, c90, c91, c92, c93, c94, c95, c96, c97, c98, c99, c100, c101, c102, c103, c104, c105, c106, c107, c108, c109, c110, c111, c112, c113, c114, c115, c116, c117, c118, c119, c120, c121, c122, c123, c124, c125, c126, c127, c128, c129, c130, c131, c132, c133, c134, c135, c136, c137, c138, c139, c140, c141, c142, c143, c144, c145, c146, c147, c148, c149, c150, c151, c152, c153, c154, c155, c156, c157], []⟩ w') :
    Code.wp Try.prog codeB (Exit.then K Q) ⟨#[c0, c1, c2, c3, c4, c5, c6, .pointer (some ⟨wo.heap.size, 0, none⟩), c8, c9, c10, .bool true, c12, c13, c14, c15, c16, c17, c18, c19, c20, c21, c22, c23, c24, c25, c26, c27, c28, c29, c30, c31, c32, c33, c34, c35, c36, c37, c38, c39, c40, c41, c42, c43, c44, c45, c46, c47, c48, c49, c50, c51, c52, c53, c54, c55, c56, c57, c58, c59, c60, c61, c62, c63, c64, c65, c66, c67, c68, c69, .slice (some ⟨vb, vo, none⟩) k vc, .int .i64 k, .int .i64 0, c73, c74, c75, c76, c77, c78, c79, c80, c81, c82, c83, c84, c85, c86, c87, c88, c89, c90, c91, c92, c93, c94, c95, c96, c97, c98, c99, c100, c101, c102, c103, c104, c105, c106, c107, c108, c109, c110, c111, c112, c113, c114, c115, c116, c117, c118, c119, c120, c121, c122, c123, c124, c125, c126, c127, c128, c129, c130, c131, c132, c133, c134, c135, c136, c137, c138, c139, c140, c141, c142, c143, c144, c145, c146, c147, c148, c149, c150, c151, c152, c153, c154, c155, c156, c157], []⟩ wc := by
  conv => arg 2; whnf
  go_wp2_with fail
  go_loopw [11, 72] (fun fr i wr => LoopB wc ds d k fr i wr) (fun _ i _ => k - (intOf i).toNat)
  case atStart => exact ⟨0, Nat.zero_le _, rfl, rfl, Upd.refl _ _⟩
  case round =>
    obtain ⟨q, hq, rfl, rfl, huq⟩ := hrel
    have HUQ := Lib.hid huq; clear huq
    by_cases hql : q < k
    · obtain ⟨nv2, vv2, hn2, hvv2, hc2⟩ := HE.out q (by omega)
      generalize hx : ds.getD q default = x at hn2 hvv2 hc2
      have HX := Lib.hid hx; clear hx
      obtain ⟨na2, nc2, rfl⟩ := hn2.shape
      obtain ⟨va2, vc2, rfl⟩ := hvv2.shape
      clear hn2 hvv2
      have uall : Upd (fun _ => False) w wr := (HUP.out.trans HA.out.2.1).trans HUQ.out
      obtain ⟨e0, e1, e2, e3, e4, e5, e6, e7, e8, e9, e10, e11, e12, e13, e14, e15⟩ := do_cells (w := wr) (fun j hj => (uall.cell (p := ⟨vb, vo + q * 16 + j, none⟩) hvb (fun h => h)).trans (hc2 j hj))
      have cn := (HUQ.out.cell (p := ⟨wo.heap.size, 1, none⟩) HA.out.2.2.1 (fun h => h)).trans HA.out.2.2.2
      have lwr : wo.heap.size < wr.heap.size := by have := HUQ.out.size; have := HA.out.2.2.1; omega
      clear hc2 uall
      generalize hbb : ((ds.take q).all fun x => decide (x.node ≠ d.node)) = bb
      have HBB := Lib.hid hbb; clear hbb
      cases bb
      all_goals
        go_wp2_with fail
        go_roundw
        case rel => exact loopB_step hql hlt HX.out HBB.out HUQ.out ((Upd.refl _ _).alloc _) _ (by first | rfl | simp)
        case measure => simp [intOf]; omega
    · go_wp2_with fail
      obtain rfl : q = k := by omega
      exact ⟨⟨owns_upd HA.out.1 HUQ.out (fun _ _ _ _ h => h), HA.out.2.1.trans HUQ.out, by have := HUQ.out.size; have := HA.out.2.2.1; omega,
        (HUQ.out.cell (p := ⟨wo.heap.size, 1, none⟩) HA.out.2.2.1 (fun h => h)).trans HA.out.2.2.2⟩, rfl⟩
end Go.Proofs.Ytlichkheakjkhaa
