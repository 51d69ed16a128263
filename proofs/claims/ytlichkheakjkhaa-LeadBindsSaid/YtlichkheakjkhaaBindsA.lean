/-
  LeadBinds: the votes are turned.
-/
import Derived.Test.YtlichkheakjkhaaBindsBase
namespace Go.Proofs.Ytlichkheakjkhaa
open Go Go.RowKit
noncomputable def codeA : Code := (Try.f3.body.bind (blockAt 2)).getD .skip

set_option maxHeartbeats 8000000 in
set_option maxRecDepth 100000 in
theorem secA (w wo : World) (d : DoD) (va : Option Addr) (vc' : Nat) (cs : Array Value) (c0 c1 c2 c3 c4 c5 c6 c9 c10 c11 c12 c13 c14 c15 c16 c17 c18 c19 c20 c21 c22 c23 c24 c25 c26 c27 c28 c29 c30 c31 c32 c33 c34 c35 c36 c37 c38 c39 c43 c44 c45 c46 c47 c48 c49 c50 c51 c52 c53 c54 c55 c56 c57 c58 c59 c60 c61 c62 c63 c64 c65 c66 c67 c68 c69 c70 c71 c72 c73 c74 c75 c76 c77 c78 c79 c80 c81 c82 c83 c84 c85 c86 c87 c88 c89 c90 c91 c92 c93 c94 c95 c96 c97 c98 c99 c100 c101 c102 c103 c104 c105 c106 c107 c108 c109 c110 c111 c112 c113 c114 c115 c116 c117 c118 c119 c120 c121 c122 c123 c124 c125 c126 c127 c128 c129 c130 c131 c132 c133 c134 c135 c136 c137 c138 c139 c140 c141 c142 c143 c144 c145 c146 c147 c148 c149 c150 c151 c152 c153 c154 c155 c156 c157 : Value) (K : Act → World → Prop) (Q : Exit → Act → World → Prop)
    (HV : Hid (Votes w (.slice va d.votes.length vc') d.votes)) (HD : Hid d.Wf) (HUP : Hid (Upd (fun _ => False) w wo)) (h1 : cs[1]? = some (.int .i64 d.node)) 
    (hK : ∀ (u8 u10 u42 u43 u44 u45 u46 u47 u48 u49 u50 u51 u52 u53 u54 u55 u56 u57 u58 u59 u60 u61 u62 u63 u64 u65 u66 u67 : Value) (w' : World), CutA wo d u8 w' → K ⟨#[c0, c1, c2, c3, c4, c5, c6, .pointer (some ⟨wo.heap.size, 0, none⟩), u8, c9, u10, c11, c12, c13, c14, c15, c16, c17, c18, c19, c20, c21, c22, c23, c24, c25, c26, c27, c28, c29, c30, c31, c32, c33, c34, c35, c36, c37, c38, c39, .slice va d.votes.length vc', .int .i64 d.votes.length, u42, u43, u44, u45, u46, u47, u48, u49, u50, u51, u52, u53, u54, u55, u56, u57, u58, u59, u60, u61, u62, u63, u64, u65, u66, u67, c68, c69, c70, c71, c72, c73, c74, c75, c76, c77, c78, c79, c80, c81, c82, c83, c84, c85, c86, c87, c88, c89, c90, c91, c92, c93, c94, c95, c96, c97, c98, c99, c100, c101, c102, c103, c104, c105, c106, c107, c108, c109, c110, c111, c112, c113, c114, c115, c116, c117, c118, c119, c120, c121, c122, c123, c124, c125, c126, c127, c128, c129, c130, c131, c132, c133, c134, c135, c136, c137, c138, c139, c140, c141, c142, c143, c144, c145, c146, c147, c148, c149, c150, c151, c152, c153, c154, c155, c156, c157], []⟩ w') :
    Code.wp Try.prog codeA (Exit.then K Q) ⟨#[c0, c1, c2, c3, c4, c5, c6, .pointer (some ⟨wo.heap.size, 0, none⟩), .slice none 0 0, c9, c10, c11, c12, c13, c14, c15, c16, c17, c18, c19, c20, c21, c22, c23, c24, c25, c26, c27, c28, c29, c30, c31, c32, c33, c34, c35, c36, c37, c38, c39, .slice va d.votes.length vc', .int .i64 d.votes.length, .int .i64 0, c43, c44, c45, c46, c47, c48, c49, c50, c51, c52, c53, c54, c55, c56, c57, c58, c59, c60, c61, c62, c63, c64, c65, c66, c67, c68, c69, c70, c71, c72, c73, c74, c75, c76, c77, c78, c79, c80, c81, c82, c83, c84, c85, c86, c87, c88, c89, c90, c91, c92, c93, c94, c95, c96, c97, c98, c99, c100, c101, c102, c103, c104, c105, c106, c107, c108, c109, c110, c111, c112, c113, c114, c115, c116, c117, c118, c119, c120, c121, c122, c123, c124, c125, c126, c127, c128, c129, c130, c131, c132, c133, c134, c135, c136, c137, c138, c139, c140, c141, c142, c143, c144, c145, c146, c147, c148, c149, c150, c151, c152, c153, c154, c155, c156, c157], []⟩ (wo.alloc (.cells cs 36)) := by
  conv => arg 2; whnf
  go_wp2_with fail
  go_loopw [8, 42] (fun v i wr => LoopA wo d v i wr) (fun _ i _ => d.votes.length - (intOf i).toNat)
  case atStart =>
    exact ⟨0, Nat.zero_le _, rfl, ⟨rfl, .inl ⟨rfl, rfl⟩⟩, (Upd.refl _ _).alloc _, by simp, by rw [World.cell?_alloc_at _ _ _ _ (by simp)]; exact h1⟩
  case round =>
    obtain ⟨q, hq, rfl, hown, huq, hsz, hcn⟩ := hrel
    have HOWN := Lib.hid hown; clear hown
    have HUQ := Lib.hid huq; clear huq
    have HCN := Lib.hid hcn; clear hcn
    by_cases hql : q < d.votes.length
    · obtain ⟨vb2, vo2, vc2, hv2, _, hel2⟩ : ∃ b o c, Value.slice va d.votes.length vc' = .slice (some ⟨b, o, none⟩) d.votes.length c ∧ d.votes.length ≤ 9223372036854775807 ∧ ∀ i, i < d.votes.length → ∃ nv, Ints w nv (d.votes.getD i default).cmd.nodes ∧ ∀ j, j < 14 → w.cell? ⟨b, o + i * 14 + j, none⟩ = ((d.votes.getD i default).cells nv)[j]? := by
        rcases HV.out with ⟨h, _⟩ | h
        · rw [h] at hql; simp at hql
        · exact h
      cases hv2
      obtain ⟨nv2, hn2, hc2⟩ := hel2 q hql
      generalize hx : d.votes.getD q default = x at hn2 hc2
      have HX := Lib.hid hx; clear hx
      obtain ⟨na2, nc2, rfl⟩ := hn2.shape
      clear hn2 hel2
      have hvb2 : vb2 < w.heap.size := by have := World.block_lt_of_cell? _ _ (hc2 0 (by omega)); simpa using this
      obtain ⟨e0, e1, e2, e3, e4, e5, e6, e7, e8, e9, e10, e11, e12, e13⟩ := vote_cells (w := wr) (fun j hj => ((HUP.out.trans HUQ.out).cell (p := ⟨vb2, vo2 + q * 14 + j, none⟩) hvb2 (fun h => h)).trans (hc2 j hj))
      clear hc2
      obtain ⟨i0, hi, hz0, hz1, hz2⟩ := info_parts info_vote
      have HI0 := Lib.hid hi; clear hi
      have HZ0 := Lib.hid hz0; clear hz0
      have HZ1 := Lib.hid hz1; clear hz1
      have HZ2 := Lib.hid hz2; clear hz2
      have s4 := un4_is x.slot
      have s4' := un4_add x.slot
      have s8 := un8_is x.ballot
      go_wp2_with (at_builtin; go_must (refine wpList_append_own _ rfl _ _ 34 rfl (wo.heap.size + 1) 38 i0 _ 14 136 Try.underlying34 HI0.out HZ0.out HZ1.out HZ2.out rfl (by decide) _ q (flatV (d.votes.take q)) rfl ?hown ⟨wr.heap.size + 1, 0, none⟩ 1 1 ((turned x).cells (.slice none 0 0)).toList rfl rfl ?hcell ?hone ?hlen ?hbytes ?hbase ?_))
      case hown => exact owns_upd HOWN.out (((Upd.refl (fun _ => False) _).alloc _).alloc _) (fun _ _ _ _ h => h)
      case hcell =>
        intro j u hu
        rw [Addr.add_lit]
        simp only [VoteD.cells, turned] at hu
        rw [World.cell?_alloc_at _ _ _ _ (by simp)]
        simpa using hu
      case hone => simp [VoteD.cells, turned, Value.oneCell']
      case hlen => unfold maxLen; have := HD.out.len; unfold reachBytes at this; omega
      case hbytes => have := HD.out.len; unfold reachBytes at this; omega
      case hbase => simp; omega
      intro v' w' hown' hg _
      have HG := Lib.hid hg; clear hg
      have HO' := Lib.hid hown'; clear hown'
      go_wp2_with fail
      go_roundw
      case rel => exact loopA_step hql HX.out HOWN.out HO'.out HG.out (((Upd.refl _ _).alloc _).alloc _) HUQ.out hsz HCN.out
      case measure => simp [intOf]; omega
    · go_wp2_with fail
      obtain rfl : q = d.votes.length := by omega
      have ho := HOWN.out
      rw [List.take_length] at ho
      exact ⟨ho, HUQ.out, hsz, HCN.out⟩
end Go.Proofs.Ytlichkheakjkhaa
