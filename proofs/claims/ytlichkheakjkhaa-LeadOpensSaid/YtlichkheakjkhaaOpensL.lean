/-
  LeadOpens: the loop that proposes.
-/
import Derived.Test.YtlichkheakjkhaaOpensBase
import Derived.Deep.DeepCutAuto
import Derived.Deep.CutBlock
import Derived.Deep.DeepMust
namespace Go.Proofs.Ytlichkheakjkhaa
open Go Go.RowKit
noncomputable def codeL : Code := (Try.f4.body.bind (blockAt 0)).getD .skip

set_option maxHeartbeats 8000000 in
set_option maxRecDepth 100000 in
theorem secL (w wc : World) (va : Option Addr) (vc : Nat) (ds : List DoD) (b m1 m2 m3 mw frm : Nat) (c2 c3 c4 c6 c8 c9 c10 c11 c12 c13 c14 c15 c16 c17 c18 c19 c20 c21 c22 c23 c24 c25 c26 c27 c28 c29 c30 c31 c32 c36 c37 c38 c39 c40 c41 c42 c43 c44 c45 c46 c47 c48 c49 c50 c51 c52 c53 c54 c55 c56 c57 c58 c59 c60 c61 c62 c63 c64 c65 c66 c67 c68 c69 c70 c71 c72 c73 c74 c75 c76 c77 c78 c79 c80 c81 c82 c83 c84 c85 c86 c87 c88 c89 c90 c91 c92 c93 c94 c95 c96 c97 c98 c99 c100 c101 c102 c103 c104 c105 c106 c107 c108 c109 c110 c111 c112 c113 c114 c115 c116 c117 c118 c119 c120 c121 c122 c123 c124 c125 c126 c127 c128 c129 c130 c131 c132 c133 c134 c135 c136 c137 c138 c139 : Value) (K : Act → World → Prop) (Q : Exit → Act → World → Prop)
    (HV : Hid (Dos w (.slice va ds.length vc) ds)) (hdl : ds.length ≤ 9223372036854775807) (HL : Hid (OpenLo w b m1 m2 m3 mw)) (hf1 : 1 ≤ frm) (hf2 : frm ≤ 4) (HI0 : Hid (OpenI w b m1 m2 m3 mw 0 frm [] [] (fun _ => (0, 0)) (fun _ => none) wc))
    (hK : ∀ (u4 u8 u9 u10 u11 u12 u13 u35 u36 u37 u38 u39 u40 u41 u42 u43 u44 u45 u46 u47 u48 u49 u50 u51 u52 u53 u54 u55 u56 u57 u58 u59 u60 u61 u62 u63 u64 u65 u66 u67 u68 u69 u70 u71 u72 u73 u74 u75 u76 u77 u78 u79 u80 u81 u82 u83 u84 u85 u86 u87 u88 u89 u90 : Value) (w' : World), OpenAll w b m1 m2 m3 mw frm w' → K ⟨#[.int .i64 frm, .slice va ds.length vc, c2, c3, u4, .pointer (some ⟨b, 0, none⟩), c6, .map (some mw), u8, u9, u10, u11, u12, u13, c14, c15, c16, c17, c18, c19, c20, c21, c22, c23, c24, c25, c26, c27, c28, c29, c30, c31, c32, .slice va ds.length vc, .int .i64 ds.length, u35, u36, u37, u38, u39, u40, u41, u42, u43, u44, u45, u46, u47, u48, u49, u50, u51, u52, u53, u54, u55, u56, u57, u58, u59, u60, u61, u62, u63, u64, u65, u66, u67, u68, u69, u70, u71, u72, u73, u74, u75, u76, u77, u78, u79, u80, u81, u82, u83, u84, u85, u86, u87, u88, u89, u90, c91, c92, c93, c94, c95, c96, c97, c98, c99, c100, c101, c102, c103, c104, c105, c106, c107, c108, c109, c110, c111, c112, c113, c114, c115, c116, c117, c118, c119, c120, c121, c122, c123, c124, c125, c126, c127, c128, c129, c130, c131, c132, c133, c134, c135, c136, c137, c138, c139], []⟩ w') :
    Code.wp Try.prog codeL (Exit.then K Q) ⟨#[.int .i64 frm, .slice va ds.length vc, c2, c3, c4, .pointer (some ⟨b, 0, none⟩), c6, .map (some mw), c8, c9, c10, c11, c12, c13, c14, c15, c16, c17, c18, c19, c20, c21, c22, c23, c24, c25, c26, c27, c28, c29, c30, c31, c32, .slice va ds.length vc, .int .i64 ds.length, .int .i64 0, c36, c37, c38, c39, c40, c41, c42, c43, c44, c45, c46, c47, c48, c49, c50, c51, c52, c53, c54, c55, c56, c57, c58, c59, c60, c61, c62, c63, c64, c65, c66, c67, c68, c69, c70, c71, c72, c73, c74, c75, c76, c77, c78, c79, c80, c81, c82, c83, c84, c85, c86, c87, c88, c89, c90, c91, c92, c93, c94, c95, c96, c97, c98, c99, c100, c101, c102, c103, c104, c105, c106, c107, c108, c109, c110, c111, c112, c113, c114, c115, c116, c117, c118, c119, c120, c121, c122, c123, c124, c125, c126, c127, c128, c129, c130, c131, c132, c133, c134, c135, c136, c137, c138, c139], []⟩ wc := by
  conv => arg 2; whnf
  have lv := look_int
  have pv' := put_int
  go_wp2_with fail
  go_loopw [35] (fun i wr => OpenEx w b m1 m2 m3 mw frm ds.length i wr) (fun i _ => ds.length - (intOf i).toNat)
  case atStart => exact ⟨0, _, _, _, _, by omega, Nat.zero_le _, rfl, HI0.out⟩
  case round =>
    obtain ⟨k, O, Wt, blk, g, hk1, hk2, rfl, hI⟩ := hrel
    have HI := Lib.hid hI; clear hI
    by_cases hlt : k < ds.length
    · obtain ⟨vb, vo, hva, hel⟩ : ∃ vb vo, va = some ⟨vb, vo, none⟩ ∧ ∃ nv vv, Ints w nv (ds.getD k default).cmd.nodes ∧ (∃ a n c, vv = .slice a n c) ∧ ∀ j, j < 16 → w.cell? ⟨vb, vo + k * 16 + j, none⟩ = ((ds.getD k default).cells nv vv)[j]? := by
        rcases HV.out with ⟨rfl, _⟩ | ⟨vb, vo, c, h, _, _, hel⟩
        · simp at hlt
        · cases h
          obtain ⟨nv, vv, h1, h2, h3⟩ := hel k hlt
          exact ⟨vb, vo, rfl, nv, vv, h1, by obtain ⟨a, c, h⟩ := h2.shape; exact ⟨_, _, _, h⟩, h3⟩
      subst hva
      obtain ⟨nv, vv, hnv, ⟨xa, xn, xc, rfl⟩, hc⟩ := hel
      generalize ds.getD k default = d at hnv hc
      obtain ⟨na, nc, rfl⟩ := hnv.shape
      have HN := Lib.hid (hnv.old HI.out.up); clear hnv
      have hvb : vb < w.heap.size := by have := World.block_lt_of_cell? _ _ (hc 0 (by omega)); simpa using this
      obtain ⟨d0, d1, d2, d3, d4, d5, d6, d7, d8, d9, d10, d11, d12, d13, d14, d15⟩ := do_cells (w := wr) (fun j hj => (HI.out.up.cell (p := ⟨vb, vo + k * 16 + j, none⟩) hvb (fun h => h)).trans (hc j hj))
      clear hc
      by_cases h20 : 20 < k
      · go_wp2_with fail
        exact (HI.out.old ((Upd.refl _ _).alloc _)).all hk1
      · obtain ⟨q, hq, hq7⟩ := un8_nat d.slot
        have s8 := un8_is d.slot
        rw [hq] at s8
        clear hq
        have hasq := HI.out.has q
        have hI1 := HI.out.old ((Upd.refl _ _).alloc (.cells (d.cells (.slice na d.cmd.nodes.length nc) (.slice xa xn xc)) 36))
        have hid1 : (wr.alloc (.cells (d.cells (.slice na d.cmd.nodes.length nc) (.slice xa xn xc)) 36)).cell? ⟨wr.heap.size, 3, none⟩ = some (.int .i64 d.cmd.id) := by
          rw [World.cell?_alloc_at _ _ _ _ rfl]; rfl
        have hsz1 : wr.heap.size < (wr.alloc (.cells (d.cells (.slice na d.cmd.nodes.length nc) (.slice xa xn xc)) 36)).heap.size := by simp
        have HN1 := Lib.hid (HN.out.old ((Upd.refl (fun _ => False) wr).alloc (.cells (d.cells (.slice na d.cmd.nodes.length nc) (.slice xa xn xc)) 36)))
        simp only [DoD.cells] at hI1 hid1 hsz1 HN1
        have HI1 := Lib.hid hI1; clear hI1
        have HID1 := Lib.hid hid1; clear hid1
        have HSZ := Lib.hid hsz1; clear hsz1
        have HASQ := Lib.hid hasq; clear hasq
        go_wp2_with fail
        clear d0 d1 d2 d3 d4 d5 d6 d7 d8 d9 d10 d11 d12 d13 d14 d15
        by_cases hqf : q < frm
        · --{A
          refine (propose_low q _ b m1 m2 m3 5 frm [] [] O d.cmd (.slice na d.cmd.nodes.length nc) (by omega) HI1.out.t (by omega)).mono ?_
          rintro e w2 ⟨rfl, hu2⟩
          have HI2 := Lib.hid (HI1.out.old hu2); clear hu2
          have hm2 := HI2.out.m
          go_wp2_with fail
          go_roundw
          case rel => exact ⟨k + 1, _, _, _, _, by omega, hlt, by go_num, HI2.out.more⟩
          case measure => simp [intOf]; omega
          --}A
        · cases hg : g q with
          | none =>
            --{B
            have has2 : aget Wt q = none := by rw [HASQ.out, hg]; rfl
            refine (propose_props q _ b m1 m2 m3 5 frm [] [] O blk g d.cmd (.slice na d.cmd.nodes.length nc) (by omega) HI1.out.t (by omega) (by simp [wrongB]; omega) HN1.out HI1.out.pr hg).mono ?_
            rintro e w2 ⟨rfl, pv, blk', hT2, hP2, ⟨hlb, hbb⟩, hu2⟩
            have hm2 := (hu2.im (im_lt (w := _) (b := mw) (by rw [HI1.out.m]; rfl)) (by have := HL.out.ne.2.2.2; exact this)).trans HI1.out.m
            have hid2 := (hu2.cell (p := ⟨wr.heap.size, 3, none⟩) HSZ.out (by have := HI.out.t.lts.2.2.2; show ¬ wr.heap.size = m3; omega)).trans HID1.out
            have HIN := Lib.hid (HI1.out.new HL.out hg (by omega) (by omega) hT2 hP2 hlb hbb hu2)
            clear hT2 hP2 hlb hbb hu2
            go_wp2_with fail
            go_roundw
            case rel => exact ⟨k + 1, _, _, _, _, by omega, hlt, by go_num, HIN.out⟩
            case measure => simp [intOf]; omega
            --}B
          | some p =>
            --{C
            have has2 : aget Wt q = some (.int .i64 p.cmd.id) := by rw [HASQ.out, hg]; rfl
            refine (propose_there q _ b m1 m2 m3 5 frm [] [] O blk g p d.cmd (.slice na d.cmd.nodes.length nc) (by omega) HI1.out.t (by omega) (by simp [wrongB]; omega) HI1.out.pr hg).mono ?_
            rintro e w2 ⟨rfl, hu2⟩
            have hid2 := (hu2.cell (p := ⟨wr.heap.size, 3, none⟩) HSZ.out (fun h => h)).trans HID1.out
            have HI2 := Lib.hid (HI1.out.old hu2); clear hu2
            have hm2 := HI2.out.m
            by_cases hpe : p.cmd.id = d.cmd.id
            all_goals
              unfold thereR
              first | rw [if_pos hpe] | rw [if_neg hpe]
              go_wp2_with fail
              go_roundw
              case rel => exact ⟨k + 1, _, _, _, _, by omega, hlt, by go_num, HI2.out.more⟩
              case measure => simp [intOf]; omega
            --}C
    · go_wp2_with fail
      exact HI.out.all hk1
end Go.Proofs.Ytlichkheakjkhaa
