/-
  LeadBinds: what is bound is what the law's own map says.
-/
import Derived.Test.YtlichkheakjkhaaBindsBase
namespace Go.Proofs.Ytlichkheakjkhaa
open Go Go.RowKit
noncomputable def codeD : Code := (Try.f3.body.bind (blockAt 8)).getD .skip

set_option maxHeartbeats 8000000 in
set_option maxRecDepth 100000 in
theorem secD (w wc : World) (ds : List DoD) (b m1 m2 m3 mb k : Nat) (c0 c1 c2 c4 c6 c7 c8 c9 c10 c11 c12 c13 c14 c15 c16 c17 c19 c20 c21 c22 c23 c24 c25 c26 c27 c28 c29 c30 c31 c32 c33 c34 c35 c36 c37 c38 c39 c40 c41 c42 c43 c44 c45 c46 c47 c48 c49 c50 c51 c52 c53 c54 c55 c56 c57 c58 c59 c60 c61 c62 c63 c64 c65 c66 c67 c68 c69 c70 c71 c72 c73 c74 c75 c76 c77 c78 c79 c80 c81 c82 c83 c84 c85 c86 c87 c88 c89 c90 c91 c92 c93 c94 c95 c96 c97 c98 c99 c100 c101 c102 c103 c104 c105 c106 c107 c108 c109 c110 c111 c112 c113 c114 c115 c116 c117 c118 c119 c120 c121 c122 c123 c124 c125 c126 c127 c128 c129 c130 c131 c132 c133 c134 c135 c136 c137 c138 c139 c140 c141 c142 c143 c144 c145 c146 c147 c148 c149 c150 c151 c152 c153 c154 c155 c156 c157 : Value) (Q : Exit → Act → World → Prop)
    (hcut : CutC w ds b m1 m2 m3 mb k wc)
    (hK : ∀ (u2 u18 u19 u20 u21 u22 u121 u122 u123 u124 u125 u126 u127 u128 u129 u130 u131 u132 u133 u134 u135 u136 u137 u138 u139 u140 u141 u142 u143 u144 u145 u146 u147 u148 : Value) (w' : World), CutC w ds b m1 m2 m3 mb k w' → Q .normal ⟨#[c0, c1, u2, .pointer (some ⟨b, 0, none⟩), c4, .map (some mb), c6, c7, c8, c9, c10, c11, c12, c13, c14, c15, c16, c17, u18, u19, u20, u21, u22, c23, c24, c25, c26, c27, c28, c29, c30, c31, c32, c33, c34, c35, c36, c37, c38, c39, c40, c41, c42, c43, c44, c45, c46, c47, c48, c49, c50, c51, c52, c53, c54, c55, c56, c57, c58, c59, c60, c61, c62, c63, c64, c65, c66, c67, c68, c69, c70, c71, c72, c73, c74, c75, c76, c77, c78, c79, c80, c81, c82, c83, c84, c85, c86, c87, c88, c89, c90, c91, c92, c93, c94, c95, c96, c97, c98, c99, c100, c101, c102, c103, c104, c105, c106, c107, c108, c109, c110, c111, c112, c113, c114, c115, c116, c117, c118, c119, c120, u121, u122, u123, u124, u125, u126, u127, u128, u129, u130, u131, u132, u133, u134, u135, u136, u137, u138, u139, u140, u141, u142, u143, u144, u145, u146, u147, u148, c149, c150, c151, c152, c153, c154, c155, c156, c157], []⟩ w') :
    Code.wp Try.prog codeD Q ⟨#[c0, c1, c2, .pointer (some ⟨b, 0, none⟩), c4, .map (some mb), c6, c7, c8, c9, c10, c11, c12, c13, c14, c15, c16, c17, .int .i64 1, c19, c20, c21, c22, c23, c24, c25, c26, c27, c28, c29, c30, c31, c32, c33, c34, c35, c36, c37, c38, c39, c40, c41, c42, c43, c44, c45, c46, c47, c48, c49, c50, c51, c52, c53, c54, c55, c56, c57, c58, c59, c60, c61, c62, c63, c64, c65, c66, c67, c68, c69, c70, c71, c72, c73, c74, c75, c76, c77, c78, c79, c80, c81, c82, c83, c84, c85, c86, c87, c88, c89, c90, c91, c92, c93, c94, c95, c96, c97, c98, c99, c100, c101, c102, c103, c104, c105, c106, c107, c108, c109, c110, c111, c112, c113, c114, c115, c116, c117, c118, c119, c120, c121, c122, c123, c124, c125, c126, c127, c128, c129, c130, c131, c132, c133, c134, c135, c136, c137, c138, c139, c140, c141, c142, c143, c144, c145, c146, c147, c148, c149, c150, c151, c152, c153, c154, c155, c156, c157], []⟩ wc := by
  conv => arg 2; whnf
  obtain ⟨f', P', B', S', hI⟩ := hcut
  have HI' := Lib.hid hI; clear hI
  have lv := look_int
  have hmb := im_lt (w := wc) (b := mb) (by rw [HI'.out.best]; rfl)
  go_wp2_with fail
  go_loopw [18] (fun i wr => ∃ s : Nat, s ≤ 5 ∧ i = .int .i64 s ∧ Upd (fun _ => False) wc wr) (fun i _ => 5 - (intOf i).toNat)
  case atStart => exact ⟨1, by omega, rfl, Upd.refl _ _⟩
  case round =>
    obtain ⟨s, hs5, rfl, hus⟩ := hrel
    have hS := (hus.im hmb (fun h => h)).trans HI'.out.best
    have HUS := Lib.hid hus; clear hus
    have hRs := HI'.out.rel s
    by_cases hsl : s < 5
    · cases hfs : f' s with
      | none =>
        rw [hfs] at hRs
        simp only [] at hRs
        go_wp2_with fail
        refine (bound_any s wr b m1 m2 m3 9 1 P' B' [] f' (by omega) (HI'.out.try_.old HUS.out) (HI'.out.bound.upd HUS.out (fun _ h => h.elim))).mono ?_
        rintro e w' ⟨nv', rfl, hn', hf', hu'⟩
        obtain ⟨na', nc', rfl⟩ := hn'.shape
        have hS' := (hu'.im (im_lt (w := wr) (b := mb) (by rw [hS]; rfl)) (fun h => h)).trans hS
        have HU' := Lib.hid hu'; clear hu'
        clear hn' hf' hS
        rw [hfs]
        simp only [CmdD.cells, Option.isSome_none, Option.getD_none]
        go_wp2_with fail
        go_roundw
        case rel => exact ⟨s + 1, by omega, by go_num, (HUS.out.trans HU'.out).alloc _⟩
        case measure => simp [intOf]; omega
      | some y =>
        rw [hfs] at hRs
        obtain ⟨hRs, hid⟩ := hRs
        go_wp2_with fail
        refine (bound_any s wr b m1 m2 m3 9 1 P' B' [] f' (by omega) (HI'.out.try_.old HUS.out) (HI'.out.bound.upd HUS.out (fun _ h => h.elim))).mono ?_
        rintro e w' ⟨nv', rfl, hn', hf', hu'⟩
        obtain ⟨na', nc', rfl⟩ := hn'.shape
        have hS' := (hu'.im (im_lt (w := wr) (b := mb) (by rw [hS]; rfl)) (fun h => h)).trans hS
        have HU' := Lib.hid hu'; clear hu'
        clear hn' hf' hS
        rw [hfs]
        simp only [CmdD.cells, Option.isSome_some, Option.getD_some]
        rw [hid]
        have HID := Lib.hid hid; clear hid
        go_wp2_with fail
        go_roundw
        case rel => exact ⟨s + 1, by omega, by go_num, (HUS.out.trans HU'.out).alloc _⟩
        case measure => simp [intOf]; omega
    · go_wp2_with fail
      exact ⟨f', P', B', S', HI'.out.old HUS.out⟩
end Go.Proofs.Ytlichkheakjkhaa
