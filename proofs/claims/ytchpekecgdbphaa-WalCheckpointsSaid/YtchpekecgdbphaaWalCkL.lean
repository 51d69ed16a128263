/-
  Checkpoint: the records are appended.
-/
import Derived.Test.YtchpekecgdbphaaWalCk0
set_option linter.unusedVariables false
namespace Go.Proofs.Ytchpekecgdbphaa
open Go Go.RowKit Go.MapKept Go.ChangeMaps

noncomputable def codeK : Code := .loop (((Try.f20.body.map loopsOf).getD []).getD 1 .skip)
/-- All are appended. -/
structure CutK (w : World) (wb b ab cm size place : Nat) (n l f : Int) (recs L : List (List Int)) (k : Nat) (w' : World) : Prop where
  st : LogSt w' wb b ab cm size place n l f (recs ++ L) k
  up : Upd (fun x => x = cm ∨ x = wb) w w'
set_option maxRecDepth 100000 in
set_option maxHeartbeats 8000000 in
theorem secK (wA : World) (wb b ab cm size place : Nat) (n l f : Int) (recs L : List (List Int)) (k : Nat) (va : Option Addr) (vc : Nat) (c1 c2 c3 c4 c5 c6 c7 c8 c9 c10 c11 c12 c13 c14 c15 c16 c17 c18 c19 c20 c21 c22 c23 c24 c25 c26 c27 c28 c29 c30 c31 c32 c33 c34 c35 c36 c37 c38 c39 c40 c41 c42 c43 c44 c45 c46 c47 c48 c49 c50 c51 c52 c53 c54 c55 c56 c57 c58 c59 c60 c61 c62 c63 c64 c65 c66 c67 c68 c69 c70 c71 c72 c73 c74 c75 c76 c77 c78 c79 c80 c81 c82 c83 c84 c88 c89 c90 c91 c92 c93 c94 c95 c96 c97 c98 c99 c100 c101 c102 c103 c104 c105 c106 c107 c108 c109 c110 c111 c112 c113 c114 c115 c116 c117 c118 c119 c120 : Value) (R : Act → World → Prop)
    (hst : LogSt wA wb b ab cm size place n l f recs k) (hL : Feed (fun x => x = ab ∨ x = cm ∨ x = wb) wA (.slice va L.length vc) L) (hmay : MayAll L) (hroom : usedB recs + usedB L ≤ size) (hnum : f + recs.length - 1 < 1152921504606846976 - L.length)
    (hK : ∀ (u4 u10 u11 u12 u88 u89 u90 u91 u92 u93 u94 u95 u96 u97 u98 u99 u100 : Value) (w' : World), CutK wA wb b ab cm size place n l f recs L k w' → R ⟨#[.pointer (some ⟨wb, 0, none⟩), c1, c2, c3, u4, c5, c6, c7, c8, c9, u10, u11, u12, c13, c14, c15, c16, c17, c18, c19, c20, c21, c22, c23, c24, c25, c26, c27, c28, c29, c30, c31, c32, c33, c34, c35, c36, c37, c38, c39, c40, c41, c42, c43, c44, c45, c46, c47, c48, c49, c50, c51, c52, c53, c54, c55, c56, c57, c58, c59, c60, c61, c62, c63, c64, c65, c66, c67, c68, c69, c70, c71, c72, c73, c74, c75, c76, c77, c78, c79, c80, c81, c82, c83, c84, .slice va L.length vc, .int .i64 (L.length : Nat), .int .i64 (L.length : Nat), u88, u89, u90, u91, u92, u93, u94, u95, u96, u97, u98, u99, u100, c101, c102, c103, c104, c105, c106, c107, c108, c109, c110, c111, c112, c113, c114, c115, c116, c117, c118, c119, c120], []⟩ w') :
    Code.wp Try.prog codeK (Only 2 R) ⟨#[.pointer (some ⟨wb, 0, none⟩), c1, c2, c3, c4, c5, c6, c7, c8, c9, c10, c11, c12, c13, c14, c15, c16, c17, c18, c19, c20, c21, c22, c23, c24, c25, c26, c27, c28, c29, c30, c31, c32, c33, c34, c35, c36, c37, c38, c39, c40, c41, c42, c43, c44, c45, c46, c47, c48, c49, c50, c51, c52, c53, c54, c55, c56, c57, c58, c59, c60, c61, c62, c63, c64, c65, c66, c67, c68, c69, c70, c71, c72, c73, c74, c75, c76, c77, c78, c79, c80, c81, c82, c83, c84, .slice va L.length vc, .int .i64 (L.length : Nat), .int .i64 0, c88, c89, c90, c91, c92, c93, c94, c95, c96, c97, c98, c99, c100, c101, c102, c103, c104, c105, c106, c107, c108, c109, c110, c111, c112, c113, c114, c115, c116, c117, c118, c119, c120], []⟩ wA := by
  conv => arg 2; whnf
  conv => arg 2; arg 1; whnf
  have hfew := hL.few
  have HSA := Lib.hid hst; clear hst
  have HLA := Lib.hid hL; clear hL
  have HMAY := Lib.hid hmay; clear hmay
  have HK := Lib.hid hK; clear hK
  have hmono := fun q (hq : q ≤ L.length) => usedB_take_le L q
  go_wp2_with fail
  go_loopw [87] (fun i wr => ∃ q : Nat, q ≤ L.length ∧ i = .int .i64 q ∧ LogSt wr wb b ab cm size place n l f (recs ++ L.take q) k ∧ Upd (fun x => x = cm ∨ x = wb) wA wr) (fun i _ => L.length - (intOf i).toNat)
  case atStart => exact ⟨0, Nat.zero_le _, rfl, by rw [List.take_zero, List.append_nil]; exact HSA.out, Upd.refl _ _⟩
  case round =>
    obtain ⟨q, hq, rfl, hst, hu⟩ := hrel
    have HSR := Lib.hid hst; clear hst
    have HUR := Lib.hid hu; clear hu
    by_cases hlt : q < L.length
    · obtain ⟨h2, o, c, ka, sc, e1, e2, e4, e5, e6, e7, e8, e9⟩ := (HLA.out.upd HUR.out (fun i h => Or.inr h)).at_ q hlt
      cases e1
      obtain ⟨m1, m2⟩ := HMAY.out q hlt
      have hus := usedB_take_next hlt
      have hmo := hmono (q + 1) hlt
      have HAP := Lib.hid (app_sure _ _ HSR.out e4 e5 (fun a n c e => by cases e; exact e7) (fun k' o' n' c' e => by cases e; have := e9 m1 _ rfl; exact ⟨fun h => this (Or.inr (Or.inl h)), fun h => this (Or.inr (Or.inr h))⟩) m1 m2 (by rw [usedB_append]; omega) (by rw [List.length_append, List.length_take]; omega))
      have HTK : Hid (recs ++ L.take q ++ [L.getD q []] = recs ++ L.take (q + 1)) := Lib.hid (by rw [List.take_succ_eq_append_getElem hlt, List.append_assoc, List.getD_eq_getElem?_getD, List.getElem?_eq_getElem hlt, Option.getD_some])
      clear e4 e5 e6 e7 e9
      generalize L.getD q [] = r at e2 hus m1 m2 HAP HTK
      go_wp2_with (go_at_call 9; refine HAP.out.mono ?_; rintro e w3 ⟨hu3, rfl, hs3⟩)
      go_roundw
      case rel => exact ⟨q + 1, hlt, by go_num, by rw [← HTK.out]; exact hs3, HUR.out.trans hu3⟩
      case measure => simp [intOf]; omega
    · obtain rfl : q = L.length := by omega
      rw [List.take_length] at HSR
      go_wp2_with fail
      exact ⟨rfl, HK.out _ _ _ _ _ _ _ _ _ _ _ _ _ _ _ _ _ wr ⟨HSR.out, HUR.out⟩⟩
theorem secKQ (wA : World) (wb b ab cm size place : Nat) (n l f : Int) (recs L : List (List Int)) (k : Nat) (va : Option Addr) (vc : Nat) (c1 c2 c3 c4 c5 c6 c7 c8 c9 c10 c11 c12 c13 c14 c15 c16 c17 c18 c19 c20 c21 c22 c23 c24 c25 c26 c27 c28 c29 c30 c31 c32 c33 c34 c35 c36 c37 c38 c39 c40 c41 c42 c43 c44 c45 c46 c47 c48 c49 c50 c51 c52 c53 c54 c55 c56 c57 c58 c59 c60 c61 c62 c63 c64 c65 c66 c67 c68 c69 c70 c71 c72 c73 c74 c75 c76 c77 c78 c79 c80 c81 c82 c83 c84 c88 c89 c90 c91 c92 c93 c94 c95 c96 c97 c98 c99 c100 c101 c102 c103 c104 c105 c106 c107 c108 c109 c110 c111 c112 c113 c114 c115 c116 c117 c118 c119 c120 : Value) (Q : Exit → Act → World → Prop)
    (hst : LogSt wA wb b ab cm size place n l f recs k) (hL : Feed (fun x => x = ab ∨ x = cm ∨ x = wb) wA (.slice va L.length vc) L) (hmay : MayAll L) (hroom : usedB recs + usedB L ≤ size) (hnum : f + recs.length - 1 < 1152921504606846976 - L.length)
    (hK : ∀ (u4 u10 u11 u12 u88 u89 u90 u91 u92 u93 u94 u95 u96 u97 u98 u99 u100 : Value) (w' : World), CutK wA wb b ab cm size place n l f recs L k w' → Q (.exit 2) ⟨#[.pointer (some ⟨wb, 0, none⟩), c1, c2, c3, u4, c5, c6, c7, c8, c9, u10, u11, u12, c13, c14, c15, c16, c17, c18, c19, c20, c21, c22, c23, c24, c25, c26, c27, c28, c29, c30, c31, c32, c33, c34, c35, c36, c37, c38, c39, c40, c41, c42, c43, c44, c45, c46, c47, c48, c49, c50, c51, c52, c53, c54, c55, c56, c57, c58, c59, c60, c61, c62, c63, c64, c65, c66, c67, c68, c69, c70, c71, c72, c73, c74, c75, c76, c77, c78, c79, c80, c81, c82, c83, c84, .slice va L.length vc, .int .i64 (L.length : Nat), .int .i64 (L.length : Nat), u88, u89, u90, u91, u92, u93, u94, u95, u96, u97, u98, u99, u100, c101, c102, c103, c104, c105, c106, c107, c108, c109, c110, c111, c112, c113, c114, c115, c116, c117, c118, c119, c120], []⟩ w') :
    Code.wp Try.prog codeK Q ⟨#[.pointer (some ⟨wb, 0, none⟩), c1, c2, c3, c4, c5, c6, c7, c8, c9, c10, c11, c12, c13, c14, c15, c16, c17, c18, c19, c20, c21, c22, c23, c24, c25, c26, c27, c28, c29, c30, c31, c32, c33, c34, c35, c36, c37, c38, c39, c40, c41, c42, c43, c44, c45, c46, c47, c48, c49, c50, c51, c52, c53, c54, c55, c56, c57, c58, c59, c60, c61, c62, c63, c64, c65, c66, c67, c68, c69, c70, c71, c72, c73, c74, c75, c76, c77, c78, c79, c80, c81, c82, c83, c84, .slice va L.length vc, .int .i64 (L.length : Nat), .int .i64 0, c88, c89, c90, c91, c92, c93, c94, c95, c96, c97, c98, c99, c100, c101, c102, c103, c104, c105, c106, c107, c108, c109, c110, c111, c112, c113, c114, c115, c116, c117, c118, c119, c120], []⟩ wA := by
  refine wp_mono (secK wA wb b ab cm size place n l f recs L k va vc c1 c2 c3 c4 c5 c6 c7 c8 c9 c10 c11 c12 c13 c14 c15 c16 c17 c18 c19 c20 c21 c22 c23 c24 c25 c26 c27 c28 c29 c30 c31 c32 c33 c34 c35 c36 c37 c38 c39 c40 c41 c42 c43 c44 c45 c46 c47 c48 c49 c50 c51 c52 c53 c54 c55 c56 c57 c58 c59 c60 c61 c62 c63 c64 c65 c66 c67 c68 c69 c70 c71 c72 c73 c74 c75 c76 c77 c78 c79 c80 c81 c82 c83 c84 c88 c89 c90 c91 c92 c93 c94 c95 c96 c97 c98 c99 c100 c101 c102 c103 c104 c105 c106 c107 c108 c109 c110 c111 c112 c113 c114 c115 c116 c117 c118 c119 c120 (fun a w => Q (.exit 2) a w) hst hL hmay hroom hnum hK) ?_
  intro e a w h
  cases e with
  | exit m => obtain ⟨rfl, h2⟩ := h; exact h2
  | _ => exact h.elim
end Go.Proofs.Ytchpekecgdbphaa
