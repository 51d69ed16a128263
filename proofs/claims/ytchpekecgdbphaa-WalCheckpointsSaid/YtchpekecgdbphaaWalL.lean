/-
  Open: the records.
-/
import Derived.Test.YtchpekecgdbphaaWalRC
import Derived.StillTailTactics
set_option linter.unusedVariables false
namespace Go.Proofs.Ytchpekecgdbphaa
open Go Go.RowKit Go.MapKept Go.ChangeMaps

/-- The best of the first q heads. -/
structure Best (V : Nat → List Int) (size : Int) (q : Nat) (n l p f : Int) : Prop where
  is : (n = 0 ∧ l = 0 ∧ p = 0 ∧ f = 0) ∨ ∃ s, s < q ∧ IsHead (V s) s size n l p f
  most : ∀ s, s < q → ∀ n' l' p' f', IsHead (V s) s size n' l' p' f' → n' ≤ n
section
variable {V : Nat → List Int} {size n l p f : Int} {q : Nat}
theorem Best.zero : Best V size 0 0 0 0 0 := ⟨.inl ⟨rfl, rfl, rfl, rfl⟩, fun s h => absurd h (Nat.not_lt_zero _)⟩
theorem Best.keep (h : Best V size q n l p f) (hk : ∀ n' l' p' f', IsHead (V q) q size n' l' p' f' → n' ≤ n) : Best V size (q + 1) n l p f := by
  refine ⟨h.is.imp id (fun ⟨s, h1, h2⟩ => ⟨s, by omega, h2⟩), fun s hs n' l' p' f' hh => ?_⟩
  by_cases e : s = q
  · subst e; exact hk _ _ _ _ hh
  · exact h.most s (by omega) _ _ _ _ hh
theorem Best.turn {n' l' p' f' : Int} (h : Best V size q n l p f) (hh : IsHead (V q) q size n' l' p' f') (hgt : n < n') : Best V size (q + 1) n' l' p' f' := by
  refine ⟨.inr ⟨q, by omega, hh⟩, fun s hs n'' l'' p'' f'' h2 => ?_⟩
  by_cases e : s = q
  · subst e; rw [(hh.uniq h2).1]; exact Int.le_refl _
  · have := h.most s (by omega) _ _ _ _ h2; omega
theorem Best.none (h : Best V size q 0 l p f) {s : Nat} (hs : s < q) (n' l' p' f' : Int) : ¬ IsHead (V s) s size n' l' p' f' := fun hh => by
  have := h.most s hs _ _ _ _ hh
  have := hh.n1
  omega
theorem Best.bound (h : Best V size q n l p f) (hs : 0 ≤ size) : 0 ≤ n ∧ n ≤ 1152921504606846976 ∧ 0 ≤ l ∧ l ≤ 1152921504606846976 ∧ 0 ≤ p ∧ p ≤ size ∧ 0 ≤ f ∧ f ≤ 1152921504606846976 := by
  rcases h.is with ⟨rfl, rfl, rfl, rfl⟩ | ⟨s, _, hh⟩
  · omega
  · have := hh.n1; have := hh.n2; have := hh.l1; have := hh.l2; have := hh.p1; have := hh.p2; have := hh.f1; have := hh.f2
    omega
theorem Best.got (h : Best V size 2 n l p f) (hn : n ≠ 0) : IsHead (V (n % 2).toNat) (n % 2) size n l p f := by
  rcases h.is with ⟨rfl, _⟩ | ⟨s, hs, hh⟩
  · exact absurd rfl hn
  · have := hh.par
    have e : (n % 2).toNat = s := by omega
    rw [e, this]; exact hh
end
theorem Own.updB {F : Nat → Prop} {B : Nat} {w w' : World} {v : Value} {l : List Int} (h : Own B w v l) (u : Upd F w w') (hF : ∀ k, F k → B ≤ k → NotB w k) : Own B w' v l := by
  obtain ⟨h1, h2⟩ := h
  refine ⟨h1, h2.imp id ?_⟩
  rintro ⟨g, cap, cur, hv, hg, hh, r⟩
  have hlt : g < w.heap.size := (Array.getElem?_eq_some_iff.1 hh).1
  exact ⟨g, cap, cur, hv, hg, (u.block g hlt (fun hf => hF g hf hg cur (0, 0) hh)).trans hh, r⟩
/-- Texts of bytes in memory of their own, no older than B. -/
structure Lists (B : Nat) (w : World) (v : Value) (L : List (List Int)) : Prop where
  row : ∃ xs, w.ownsRow B 28 1 v L.length xs ∧ xs.length = L.length ∧ ∀ i, i < L.length → ∃ sv, xs[i]? = some sv ∧ Own B w sv (L.getD i [])
theorem Lists.nil (B : Nat) (w : World) : Lists B w (.slice none 0 0) [] := ⟨[], ⟨rfl, .inl ⟨rfl, rfl⟩⟩, rfl, fun i hi => absurd hi (Nat.not_lt_zero _)⟩
theorem Lists.upd {F : Nat → Prop} {B : Nat} {w w' : World} {v : Value} {L : List (List Int)} (h : Lists B w v L) (u : Upd F w w') (hF : ∀ k, B ≤ k → ¬ F k) : Lists B w' v L := by
  obtain ⟨xs, h1, h2, h3⟩ := h.row
  refine ⟨xs, owns_upd h1 u hF, h2, fun i hi => ?_⟩
  obtain ⟨sv, k1, k2⟩ := h3 i hi
  exact ⟨sv, k1, k2.upd u hF⟩
theorem Lists.old {B : Nat} {w w' : World} {v : Value} {L : List (List Int)} (h : Lists B w v L) (u : Upd (fun _ => False) w w') : Lists B w' v L := h.upd u (fun _ _ h => h)
theorem Lists.shape {B : Nat} {w : World} {v : Value} {L : List (List Int)} (h : Lists B w v L) : ∃ a c, v = .slice a L.length c := by
  obtain ⟨xs, h1, h2, _⟩ := h.row
  obtain ⟨_, ⟨rfl, h0⟩ | ⟨g, cap, cur, rfl, _⟩⟩ := h1
  · rw [h0]; exact ⟨_, _, rfl⟩
  · exact ⟨_, _, rfl⟩
/-- One more text is appended. -/
theorem wpList_append_text {ops : Array Oper} {rest : List Oper} {o : Oper} {a : Act} {Q : Exit → Act → World → Prop} {w : World} (hgd : o.guard = none) (s x : Operand)
    (ho : o.op = .call { callee := .builtin .append, args := #[s, x], argTypes := #[22, 22] })
    (B : Nat) (v nv : Value) (L : List (List Int)) (r : List Int) (b c : Nat) (hs : a.eval s = v) (hown : Lists B w v L) (hx : a.eval x = .slice (some ⟨b, 0, none⟩) 1 c) (hb : w.cell? ⟨b, 0, none⟩ = some nv) (h1 : nv.oneCell' = true) (hr : Own B w nv r) (hlen : L.length ≤ 1099511627776) (hB : B ≤ w.heap.size)
    (h : ∀ v' w', Lists B w' v' (L ++ [r]) → Upd (fun k => some k = v.ownBlock) w w' → wpList Try.prog ops Q rest (a.put o.dst v') w') : wpList Try.prog ops Q (o :: rest) a w := by
  obtain ⟨i0, hi, hz0, hz1, hz2⟩ := info_parts info_sl
  obtain ⟨xs, k1, k2, k3⟩ := hown.row
  have hnb := owns_notB k1
  refine wpList_append_own _ hgd s x 22 ho B 28 i0 _ 1 24 Try.underlying22 hi hz0 hz1 hz2 rfl (by decide) v L.length xs hs k1 ⟨b, 0, none⟩ 1 c [nv] hx rfl ?_ (by intro u hu; simp only [List.mem_cons, List.not_mem_nil, or_false] at hu; rw [hu]; exact h1) (by unfold maxLen; omega) (by omega) hB ?_
  · intro j u hu
    cases j with
    | zero => cases hu; rw [Addr.add_lit]; exact hb
    | succ j => cases hu
  · intro v' w' g1 g2 _
    have u2 := Upd.of_grown g2
    refine h v' w' ⟨xs ++ [nv], by rw [List.length_append]; exact g1, by simp [k2], fun i hi => ?_⟩ u2
    by_cases e : i = L.length
    · subst e
      refine ⟨nv, by rw [List.getElem?_append_right (by omega), k2]; simp, ?_⟩
      rw [List.getD_eq_getElem?_getD, List.getElem?_append_right (Nat.le_refl _), Nat.sub_self]
      exact hr.updB u2 (fun k hk _ => hnb k hk)
    · have hi' : i < L.length := by simp at hi; omega
      obtain ⟨sv, m1, m2⟩ := k3 i hi'
      refine ⟨sv, by rw [List.getElem?_append_left (by omega)]; exact m1, ?_⟩
      rw [List.getD_eq_getElem?_getD, List.getElem?_append_left hi', ← List.getD_eq_getElem?_getD]
      exact m2.updB u2 (fun k hk _ => hnb k hk)
theorem slice_some_nil (g o n c : Nat) (w : World) : (binOp BinOp.eql 28 (.slice (some ⟨g, o, none⟩) n c) (.slice none 0 0)).run Try.prog w = .ok (.bool false) w := by
  kernel_rfl
theorem slice_nil_nil (w : World) : (binOp BinOp.eql 28 (.slice none 0 0) (.slice none 0 0)).run Try.prog w = .ok (.bool true) w := by
  kernel_rfl
def slen : Value → Nat
  | .slice _ n _ => n
  | _ => 0
theorem slen_slice (a : Option Addr) (n c : Nat) : slen (.slice a n c) = n := rfl
def Only (k : Nat) (R : Act → World → Prop) : Exit → Act → World → Prop
  | .exit m, a, w => m = k ∧ R a w
  | _, _, _ => False
def loopsOf : Code → List Code
  | .loop c => [c]
  | .seq a b => loopsOf a ++ loopsOf b
  | .block _ c => loopsOf c
  | .scope c => loopsOf c
  | .cond _ a b => loopsOf a ++ loopsOf b
  | _ => []
noncomputable def codeL : Code := .loop (((Try.f15.body.map loopsOf).getD []).getD 1 .skip)
/-- The records are read. -/
structure CutL (w : World) (wb b ab cm size place : Nat) (n l f : Int) (D : List (List Int)) (L : List (List Int)) (v : Value) (wr : World) : Prop where
  li : Lists w.heap.size wr v L
  wal : WalAt wr wb b size n l place f (f + L.length) (usedB L : Nat)
  rs : IsRecs (fun i => D.getD i []) size place f L
  max : ∀ r, ¬ IsRec (fun i => D.getD i []) size place (f + L.length) (usedB L) r
  bytes : ∀ r, r ∈ L → IsB r
  up : Upd (fun k => k = wb) w wr
set_option maxRecDepth 100000 in
set_option maxHeartbeats 8000000 in
theorem secL (ws : World) (wb b ab cm size place : Nat) (n l f : Int) (D : List (List Int)) (c0 c1 c2 c3 c4 c6 c7 c8 c9 c10 c12 c13 c14 c15 c16 c17 c18 c19 c20 c21 c22 c23 c24 c25 c26 c27 c28 c29 c30 c31 c32 c33 c34 c35 c36 c37 c38 c39 c40 c41 c42 c43 c44 c45 c46 c47 c48 c49 c50 c51 c52 c53 c54 c55 c56 c57 c58 c59 c60 c61 c62 c63 c64 c65 c66 c67 c68 c69 c70 c71 c72 c73 c74 c75 c76 c77 c78 c79 c80 c81 c82 c83 c84 c85 c86 c87 c88 c89 c90 c91 c92 c93 c94 c95 c96 c97 c98 c99 c100 c101 c102 c103 c104 c105 c106 c107 c108 c109 c110 c111 c112 c113 c114 c115 c116 c117 c118 c119 c120 c121 c122 c123 c124 c125 c126 c127 c128 c129 c130 c131 c132 c133 c134 c135 c136 c137 c138 c139 c140 c141 c142 c143 c144 c145 c146 c147 c148 c149 c150 c151 c152 c153 c154 c155 c156 c157 c158 c159 c160 c161 c162 c163 c164 c165 c166 c167 c168 c169 c170 c171 c172 c173 c174 c175 c176 c177 c178 : Value) (R : Act → World → Prop)
    (hws : WalAt ws wb b size n l place f f 0) (hps : PlateAt ws b ab cm D (fun _ => none)) (hd : D.length = size + 2) (h4 : 4 ≤ size) (hpl : place < size) (hf0 : 1 ≤ f) (hf1 : f < 1152921504606846976 - size)
    (hB : ∀ i, i < D.length → IsB (D.getD i [])) (hlt : ab < wb ∧ cm < wb ∧ b < wb)
    (hK : ∀ (L : List (List Int)) (v : Value) (u2 u3 u4 u12 u13 u113 u114 u115 u116 u117 u118 u119 u120 u121 u122 u123 u124 u125 u126 u127 u128 u129 u130 u131 u132 u133 u134 u135 u136 u137 u138 u139 u140 u141 u142 u143 u144 u145 u146 : Value) (w' : World), CutL ws wb b ab cm size place n l f D L v w' → R ⟨#[c0, c1, u2, u3, u4, .pointer (some ⟨wb, 0, none⟩), c6, c7, c8, c9, c10, v, u12, u13, c14, c15, c16, c17, c18, c19, c20, c21, c22, c23, c24, c25, c26, c27, c28, c29, c30, c31, c32, c33, c34, c35, c36, c37, c38, c39, c40, c41, c42, c43, c44, c45, c46, c47, c48, c49, c50, c51, c52, c53, c54, c55, c56, c57, c58, c59, c60, c61, c62, c63, c64, c65, c66, c67, c68, c69, c70, c71, c72, c73, c74, c75, c76, c77, c78, c79, c80, c81, c82, c83, c84, c85, c86, c87, c88, c89, c90, c91, c92, c93, c94, c95, c96, c97, c98, c99, c100, c101, c102, c103, c104, c105, c106, c107, c108, c109, c110, c111, c112, u113, u114, u115, u116, u117, u118, u119, u120, u121, u122, u123, u124, u125, u126, u127, u128, u129, u130, u131, u132, u133, u134, u135, u136, u137, u138, u139, u140, u141, u142, u143, u144, u145, u146, c147, c148, c149, c150, c151, c152, c153, c154, c155, c156, c157, c158, c159, c160, c161, c162, c163, c164, c165, c166, c167, c168, c169, c170, c171, c172, c173, c174, c175, c176, c177, c178], []⟩ w') :
    Code.wp Try.prog codeL (Only 2 R) ⟨#[c0, c1, c2, c3, c4, .pointer (some ⟨wb, 0, none⟩), c6, c7, c8, c9, c10, .slice none 0 0, c12, c13, c14, c15, c16, c17, c18, c19, c20, c21, c22, c23, c24, c25, c26, c27, c28, c29, c30, c31, c32, c33, c34, c35, c36, c37, c38, c39, c40, c41, c42, c43, c44, c45, c46, c47, c48, c49, c50, c51, c52, c53, c54, c55, c56, c57, c58, c59, c60, c61, c62, c63, c64, c65, c66, c67, c68, c69, c70, c71, c72, c73, c74, c75, c76, c77, c78, c79, c80, c81, c82, c83, c84, c85, c86, c87, c88, c89, c90, c91, c92, c93, c94, c95, c96, c97, c98, c99, c100, c101, c102, c103, c104, c105, c106, c107, c108, c109, c110, c111, c112, c113, c114, c115, c116, c117, c118, c119, c120, c121, c122, c123, c124, c125, c126, c127, c128, c129, c130, c131, c132, c133, c134, c135, c136, c137, c138, c139, c140, c141, c142, c143, c144, c145, c146, c147, c148, c149, c150, c151, c152, c153, c154, c155, c156, c157, c158, c159, c160, c161, c162, c163, c164, c165, c166, c167, c168, c169, c170, c171, c172, c173, c174, c175, c176, c177, c178], []⟩ ws := by
  conv => arg 2; whnf
  conv => arg 2; arg 1; whnf
  have hsz : size ≤ 8190 := by have := hps.few; omega
  have HWS := Lib.hid hws; clear hws
  have HPS := Lib.hid hps; clear hps
  have HD := Lib.hid hd; clear hd
  have HB := Lib.hid hB; clear hB
  have HK := Lib.hid hK; clear hK
  go_wp2_with fail
  go_loopw [11] (fun v wr => ∃ L, Lists ws.heap.size wr v L ∧ WalAt wr wb b size n l place f (f + L.length) (usedB L : Nat) ∧ IsRecs (fun i => D.getD i []) size place f L ∧ (∀ r, r ∈ L → IsB r) ∧ Upd (fun k => k = wb) ws wr) (fun v _ => size + 1 - slen v)
  case atStart => exact ⟨[], Lists.nil _ _, by simpa [usedB] using HWS.out, IsRecs.nil, (fun r h => by cases h), Upd.refl _ _⟩
  case round =>
    obtain ⟨L, hL, hw, hrs, hBL, hu⟩ := hrel
    have hmany := hrs.many
    have hroom := hrs.room
    obtain ⟨va, vc, rfl⟩ := hL.shape
    have HL := Lib.hid hL; clear hL
    have HWL := Lib.hid hw; clear hw
    have HRS := Lib.hid hrs; clear hrs
    have HBL := Lib.hid hBL; clear hBL
    have HUL := Lib.hid hu; clear hu
    have HPL := Lib.hid (HPS.out.upd HUL.out (by omega) (by omega) (by omega) (fun k e => by rw [e]; exact HWS.out.notB))
    have e7 := HWL.out.c7
    go_wp2_with fail
    refine (record_any _ wb b ab cm size place (usedB L) n l f (f + L.length) (usedB L : Nat) D _ HWL.out HPL.out HD.out (by omega) hsz hpl hroom HB.out).mono ?_
    rintro e w1 ⟨hu1, hrec | ⟨hno, rfl⟩⟩
    · obtain ⟨r, v, hr, hBr, rfl, ho⟩ := hrec
      have hpos := hr.pos
      have hrl := hr.few
      have hnd := hr.need.2
      have hrm := hr.room
      have HR := Lib.hid hr; clear hr
      have ho' : Own ws.heap.size w1 v r := ho.lower HUL.out.size
      obtain ⟨g, cap, rfl⟩ : ∃ g cap, v = .slice (some ⟨g, 0, none⟩) r.length cap := by
        rcases ho'.2 with ⟨_, h0⟩ | ⟨g, cap, cur, hv, _⟩
        · omega
        · exact ⟨g, cap, hv⟩
      have HO := Lib.hid ho'; clear ho' ho
      have U1 := Lib.hid hu1; clear hu1
      have HL1 := Lib.hid (HL.out.old U1.out)
      have hcmp := slice_some_nil g 0 r.length cap
      have hw1s : ws.heap.size ≤ w1.heap.size := by have := HUL.out.size; have := U1.out.size; omega
      go_wp2_with (at_builtin; go_must (refine wpList_append_text rfl _ _ rfl ws.heap.size _ (.slice (some ⟨g, 0, none⟩) r.length cap) L r w1.heap.size 1 rfl (HL1.out.old ((Upd.refl _ _).alloc _)) rfl (by rw [World.cell?_alloc_at _ _ _ _ rfl]; rfl) rfl (HO.out.old ((Upd.refl _ _).alloc _)) (by omega) (by simp; omega) ?_))
      intro v2 w2 hl2 hu2
      obtain ⟨va2, vc2, rfl⟩ := hl2.shape
      have hF : ∀ k, some k = Value.ownBlock (.slice va L.length vc) → k ≠ wb := fun k e e2 => by
        obtain ⟨xs, x1, _⟩ := HL1.out.row
        have := (World.ownsRow.lt x1 k e.symm).1
        have := HWS.out.lt
        omega
      have U2 : Hid (Upd (fun k => some k = Value.ownBlock (.slice va L.length vc)) w1 w2) := Lib.hid (((Upd.refl _ _).alloc _).trans hu2)
      have HL2 := Lib.hid hl2; clear hl2 hu2
      have HO2 := Lib.hid (HO.out.updB U2.out (fun k e _ => by obtain ⟨xs, x1, _⟩ := HL1.out.row; exact owns_notB x1 k e))
      have HWL2 := Lib.hid ((HWL.out.old U1.out).upd U2.out (fun e => hF _ e rfl))
      have U12 : Hid (Upd (fun k => k = wb) wr wr → True) := Lib.hid (fun _ => trivial)
      clear U12
      go_wp2_with fail
      refine wp_region_still_tail 9 (by kernel_rfl) (by kernel_rfl) ?_
      simp only [List.take_succ_cons, List.take_zero, List.drop_succ_cons, List.drop_zero]
      obtain ⟨w3, hw3⟩ : ∃ w3, w3 = w2.drew := ⟨_, rfl⟩
      have hud : Upd (fun _ => False) w2 w3 := by rw [hw3]; exact (Upd.refl _ _).drew
      change wpStill _ _ w2.drew (fun a' => wpList _ _ _ _ a' w2.drew) _ _
      rw [← hw3]
      clear hw3
      have HWL3 := Lib.hid (HWL2.out.old hud)
      have HL3 := Lib.hid (HL2.out.old hud)
      have HO3 := Lib.hid (HO2.out.old hud)
      have HUD := Lib.hid hud; clear hud
      have hneed : Calls Try.prog 24 #[.slice (some ⟨g, 0, none⟩) r.length cap] w3 (fun e w'' => e = .returned (.int .i64 (needB r : Nat)) ∧ w'' = w3) :=
        (need_any w3 _ r (HO3.out.byt) (by omega)).mono (fun e w'' h => ⟨h.1, h.2.symm⟩)
      have HNE := Lib.hid hneed; clear hneed
      have e7 := HWL3.out.c7
      have e6 := HWL3.out.c6
      have ef := HWL3.out.frozen
      repeat still_step
      still_call HNE.out
      repeat still_step
      refine wpStill_nil ?_
      go_wp2_with fail
      go_roundw
      case rel =>
        have hup : Upd (fun k => k = wb) ws w3 := ((HUL.out.trans (U1.out.mono (fun _ _ h => h.elim))).trans' U2.out (fun i hi e => by
          obtain ⟨xs, x1, _⟩ := HL1.out.row
          have := (World.ownsRow.lt x1 i e.symm).1
          omega)).trans (HUD.out.mono (fun _ _ h => h.elim))
        refine ⟨L ++ [r], ?_, ?_, HRS.out.snoc HR.out, fun x hx => ?_, (hup.setCell (p := ⟨wb, 7, none⟩) (Or.inl rfl) _).setCell (p := ⟨wb, 6, none⟩) (Or.inl rfl) _⟩
        · have h := HL3.out.upd (((Upd.refl (fun k => k = wb) w3).setCell (p := ⟨wb, 7, none⟩) (Or.inl rfl) (.int .i64 ((usedB L : Int) + needB r))).setCell (p := ⟨wb, 6, none⟩) (Or.inl rfl) (.int .i64 (f + L.length + 1))) (fun k hk e => by have := HWS.out.lt; omega)
          simpa using h
        · have h := (HWL3.out.setUsed ((usedB L : Int) + needB r)).setNext (f + L.length + 1)
          rw [usedB_snoc, List.length_append]
          have e1 : f + ((L.length + [r].length : Nat) : Int) = f + L.length + 1 := by simp; omega
          rw [e1, Int.natCast_add]
          exact h
        · rcases List.mem_append.1 hx with h | h
          · exact HBL.out x h
          · simp only [List.mem_cons, List.not_mem_nil, or_false] at h
            rw [h]; exact hBr
      case measure => simp [slen_slice]; omega
    · have U1 := Lib.hid hu1; clear hu1
      have hcmp := slice_nil_nil
      have HNO := Lib.hid hno; clear hno
      go_wp2_with fail
      exact ⟨rfl, HK.out L _ _ _ _ _ _ _ _ _ _ _ _ _ _ _ _ _ _ _ _ _ _ _ _ _ _ _ _ _ _ _ _ _ _ _ _ _ _ _ _ w1 ⟨HL.out.old U1.out, HWL.out.old U1.out, HRS.out, HNO.out, HBL.out, HUL.out.trans (U1.out.mono (fun _ _ h => h.elim))⟩⟩
theorem secQ (ws : World) (wb b ab cm size place : Nat) (n l f : Int) (D : List (List Int)) (c0 c1 c2 c3 c4 c6 c7 c8 c9 c10 c12 c13 c14 c15 c16 c17 c18 c19 c20 c21 c22 c23 c24 c25 c26 c27 c28 c29 c30 c31 c32 c33 c34 c35 c36 c37 c38 c39 c40 c41 c42 c43 c44 c45 c46 c47 c48 c49 c50 c51 c52 c53 c54 c55 c56 c57 c58 c59 c60 c61 c62 c63 c64 c65 c66 c67 c68 c69 c70 c71 c72 c73 c74 c75 c76 c77 c78 c79 c80 c81 c82 c83 c84 c85 c86 c87 c88 c89 c90 c91 c92 c93 c94 c95 c96 c97 c98 c99 c100 c101 c102 c103 c104 c105 c106 c107 c108 c109 c110 c111 c112 c113 c114 c115 c116 c117 c118 c119 c120 c121 c122 c123 c124 c125 c126 c127 c128 c129 c130 c131 c132 c133 c134 c135 c136 c137 c138 c139 c140 c141 c142 c143 c144 c145 c146 c147 c148 c149 c150 c151 c152 c153 c154 c155 c156 c157 c158 c159 c160 c161 c162 c163 c164 c165 c166 c167 c168 c169 c170 c171 c172 c173 c174 c175 c176 c177 c178 : Value) (Q : Exit → Act → World → Prop)
    (hws : WalAt ws wb b size n l place f f 0) (hps : PlateAt ws b ab cm D (fun _ => none)) (hd : D.length = size + 2) (h4 : 4 ≤ size) (hpl : place < size) (hf0 : 1 ≤ f) (hf1 : f < 1152921504606846976 - size)
    (hB : ∀ i, i < D.length → IsB (D.getD i [])) (hlt : ab < wb ∧ cm < wb ∧ b < wb)
    (hK : ∀ (L : List (List Int)) (v : Value) (u2 u3 u4 u12 u13 u113 u114 u115 u116 u117 u118 u119 u120 u121 u122 u123 u124 u125 u126 u127 u128 u129 u130 u131 u132 u133 u134 u135 u136 u137 u138 u139 u140 u141 u142 u143 u144 u145 u146 : Value) (w' : World), CutL ws wb b ab cm size place n l f D L v w' → Q (.exit 2) ⟨#[c0, c1, u2, u3, u4, .pointer (some ⟨wb, 0, none⟩), c6, c7, c8, c9, c10, v, u12, u13, c14, c15, c16, c17, c18, c19, c20, c21, c22, c23, c24, c25, c26, c27, c28, c29, c30, c31, c32, c33, c34, c35, c36, c37, c38, c39, c40, c41, c42, c43, c44, c45, c46, c47, c48, c49, c50, c51, c52, c53, c54, c55, c56, c57, c58, c59, c60, c61, c62, c63, c64, c65, c66, c67, c68, c69, c70, c71, c72, c73, c74, c75, c76, c77, c78, c79, c80, c81, c82, c83, c84, c85, c86, c87, c88, c89, c90, c91, c92, c93, c94, c95, c96, c97, c98, c99, c100, c101, c102, c103, c104, c105, c106, c107, c108, c109, c110, c111, c112, u113, u114, u115, u116, u117, u118, u119, u120, u121, u122, u123, u124, u125, u126, u127, u128, u129, u130, u131, u132, u133, u134, u135, u136, u137, u138, u139, u140, u141, u142, u143, u144, u145, u146, c147, c148, c149, c150, c151, c152, c153, c154, c155, c156, c157, c158, c159, c160, c161, c162, c163, c164, c165, c166, c167, c168, c169, c170, c171, c172, c173, c174, c175, c176, c177, c178], []⟩ w') :
    Code.wp Try.prog codeL Q ⟨#[c0, c1, c2, c3, c4, .pointer (some ⟨wb, 0, none⟩), c6, c7, c8, c9, c10, .slice none 0 0, c12, c13, c14, c15, c16, c17, c18, c19, c20, c21, c22, c23, c24, c25, c26, c27, c28, c29, c30, c31, c32, c33, c34, c35, c36, c37, c38, c39, c40, c41, c42, c43, c44, c45, c46, c47, c48, c49, c50, c51, c52, c53, c54, c55, c56, c57, c58, c59, c60, c61, c62, c63, c64, c65, c66, c67, c68, c69, c70, c71, c72, c73, c74, c75, c76, c77, c78, c79, c80, c81, c82, c83, c84, c85, c86, c87, c88, c89, c90, c91, c92, c93, c94, c95, c96, c97, c98, c99, c100, c101, c102, c103, c104, c105, c106, c107, c108, c109, c110, c111, c112, c113, c114, c115, c116, c117, c118, c119, c120, c121, c122, c123, c124, c125, c126, c127, c128, c129, c130, c131, c132, c133, c134, c135, c136, c137, c138, c139, c140, c141, c142, c143, c144, c145, c146, c147, c148, c149, c150, c151, c152, c153, c154, c155, c156, c157, c158, c159, c160, c161, c162, c163, c164, c165, c166, c167, c168, c169, c170, c171, c172, c173, c174, c175, c176, c177, c178], []⟩ ws := by
  refine wp_mono (secL ws wb b ab cm size place n l f D c0 c1 c2 c3 c4 c6 c7 c8 c9 c10 c12 c13 c14 c15 c16 c17 c18 c19 c20 c21 c22 c23 c24 c25 c26 c27 c28 c29 c30 c31 c32 c33 c34 c35 c36 c37 c38 c39 c40 c41 c42 c43 c44 c45 c46 c47 c48 c49 c50 c51 c52 c53 c54 c55 c56 c57 c58 c59 c60 c61 c62 c63 c64 c65 c66 c67 c68 c69 c70 c71 c72 c73 c74 c75 c76 c77 c78 c79 c80 c81 c82 c83 c84 c85 c86 c87 c88 c89 c90 c91 c92 c93 c94 c95 c96 c97 c98 c99 c100 c101 c102 c103 c104 c105 c106 c107 c108 c109 c110 c111 c112 c113 c114 c115 c116 c117 c118 c119 c120 c121 c122 c123 c124 c125 c126 c127 c128 c129 c130 c131 c132 c133 c134 c135 c136 c137 c138 c139 c140 c141 c142 c143 c144 c145 c146 c147 c148 c149 c150 c151 c152 c153 c154 c155 c156 c157 c158 c159 c160 c161 c162 c163 c164 c165 c166 c167 c168 c169 c170 c171 c172 c173 c174 c175 c176 c177 c178 (fun a w => Q (.exit 2) a w) hws hps hd h4 hpl hf0 hf1 hB hlt hK) ?_
  intro e a w h
  cases e with
  | exit m => obtain ⟨rfl, h2⟩ := h; exact h2
  | _ => exact h.elim
end Go.Proofs.Ytchpekecgdbphaa
