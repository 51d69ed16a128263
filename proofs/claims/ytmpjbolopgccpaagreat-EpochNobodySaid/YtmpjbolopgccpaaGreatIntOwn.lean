/-
  Slices of ints that a call makes itself, and appends to.
-/
import Derived.Test.YtmpjbolopgccpaaGreatLib2
import Derived.Test.YtmpjbolopgccpaaGreatProg
import Derived.Laws.AppendOwn
import Derived.Deep.AppendSrc
import Derived.Deep.Upon
import Derived.Laws.OwnMore
import Derived.Deep.RegionLaw
import Derived.Shelf.Abstract
set_option linter.unusedVariables false
namespace Go.Proofs.YtmpjbolopgccpaaGreat
open Go Go.RowKit

theorem info_int : (Tryz.prog.info? 3).map (fun i => (i.zero, i.size, i.bytes)) = some (some (.int .i64 0), 1, 8) := by kernel_rfl
theorem ownsRow_upd {F : Nat → Prop} {w w' : World} {base : Nat} {e : TypeId} {k : Nat} {v : Value} {n : Nat} {xs : List Value} (h : w.ownsRow base e k v n xs) (u : Upd F w w') (hF : ∀ b, base ≤ b → b < w.heap.size → ¬ F b) : w'.ownsRow base e k v n xs := by
  obtain ⟨h1, h2⟩ := h
  refine ⟨h1, h2.imp id ?_⟩
  rintro ⟨g, cap, cur, hv, hg, hh, r⟩
  have hlt := (Array.getElem?_eq_some_iff.1 hh).1
  exact ⟨g, cap, cur, hv, hg, (u.block g hlt (hF g hg hlt)).trans hh, r⟩
/-- Ints of its own, so far. -/
def IOwn (B : Nat) (w : World) (v : Value) (l : List Int) : Prop := w.ownsRow B 3 1 v l.length (l.map (Value.int .i64))
theorem IOwn.nil (B : Nat) (w : World) : IOwn B w (.slice none 0 0) [] := ⟨rfl, .inl ⟨rfl, rfl⟩⟩
theorem IOwn.shape {B : Nat} {w : World} {v : Value} {l : List Int} (h : IOwn B w v l) : ∃ a c, v = .slice a l.length c := by
  rcases h.2 with ⟨rfl, h0⟩ | ⟨g, cap, cur, rfl, _⟩
  · rw [h0]; exact ⟨_, _, rfl⟩
  · exact ⟨_, _, rfl⟩
theorem IOwn.shape3 {B : Nat} {w : World} {v : Value} {l : List Int} (h : IOwn B w v l) : ∃ a m c, v = .slice a m c := by
  obtain ⟨a, c, e⟩ := h.shape
  exact ⟨a, _, c, e⟩
theorem IOwn.upd {F : Nat → Prop} {B : Nat} {w w' : World} {v : Value} {l : List Int} (h : IOwn B w v l) (u : Upd F w w') (hF : ∀ b, B ≤ b → b < w.heap.size → ¬ F b) : IOwn B w' v l := ownsRow_upd h u hF
theorem IOwn.old {B : Nat} {w w' : World} {v : Value} {l : List Int} (h : IOwn B w v l) (u : Upd (fun _ => False) w w') : IOwn B w' v l := h.upd u (fun _ _ _ h => h)
theorem IOwn.ints {B : Nat} {w : World} {v : Value} {l : List Int} (h : IOwn B w v l) (hl : l.length ≤ 17592186044416) : Ints w v l := Ints.of_owns (by omega) h
theorem IOwn.ge {B : Nat} {w : World} {v : Value} {l : List Int} (h : IOwn B w v l) : ∀ k, some k = v.ownBlock → B ≤ k := by
  intro k hk
  rcases h.2 with ⟨rfl, _⟩ | ⟨g, cap, cur, rfl, hg, _⟩
  · cases hk
  · cases hk; exact hg
theorem IOwn.lower {B B' : Nat} {w : World} {v : Value} {l : List Int} (h : IOwn B w v l) (hb : B' ≤ B) : IOwn B' w v l := by
  obtain ⟨h1, ⟨h2, h3⟩ | ⟨g, cap, cur, hv, hg, h4⟩⟩ := h
  · exact ⟨h1, .inl ⟨h2, h3⟩⟩
  · exact ⟨h1, .inr ⟨g, cap, cur, hv, Nat.le_trans hb hg, h4⟩⟩
theorem IOwn.fresh {B : Nat} {w : World} {v : Value} {l : List Int} (h : IOwn B w v l) : Fresh B v := by
  intro kb o k c e
  exact h.ge kb (by rw [e]; rfl)
theorem grown_upd {w w' : World} {r : Option Nat} (h : w.grownBy w' r) : Upd (fun b => some b = r) w w' := ⟨h.os, h.tape, h.output, h.size, fun k hk hF => h.block k hk hF⟩
/-- Behind an append the slice that was appended to reads as it did. -/
theorem append_keeps (w : World) (B ty : Nat) (v : Value) (l m : List Int) (hown : IOwn B w v l) (k o' c : Nat) (hc : ∀ j, j < m.length → w.cell? ⟨k, o' + j, none⟩ = some (.int .i64 (m.getD j 0))) (hlen : l.length + m.length ≤ 1099511627776) (v' : Value) (w' : World)
    (hr : (Builtin.append_ #[25, 25] ty #[v, .slice (some ⟨k, o', none⟩) m.length c]).run Tryz.prog w = .ok v' w') : IOwn B w' v l := by
  obtain ⟨i0, hi, hz0, hz1, hz2⟩ := info_parts info_int
  have hnews : ∀ j u, (m.map (Value.int .i64))[j]? = some u → w.cell? ((⟨k, o', none⟩ : Addr).add j) = some u := by
    intro j u hu
    rw [List.getElem?_map] at hu
    cases hq : m[j]? with
    | none => rw [hq] at hu; cases hu
    | some y =>
      rw [hq] at hu
      cases hu
      have hj : j < m.length := (List.getElem?_eq_some_iff.1 hq).1
      rw [Addr.add_lit, hc j hj, List.getD_eq_getElem?_getD, hq]
      rfl
  have hone : ∀ u ∈ m.map (Value.int .i64), u.oneCell' = true := by
    intro u hu
    obtain ⟨y, _, rfl⟩ := List.mem_map.1 hu
    rfl
  have hsz : i0.size = 1 := hz1
  rcases hown.2 with ⟨rfl, hx⟩ | ⟨g, cap, cur, rfl, hbg, hg, hnc, hcm, hcs, htake⟩
  · exact ⟨hown.1, .inl ⟨rfl, hx⟩⟩
  · by_cases hroom : l.length + m.length ≤ cap
    · have h2 := run_append_room (P := Tryz.prog) w 25 ty 3 i0 Tryz.underlying25 hi g l.length cap cur hg ⟨k, o', none⟩ m.length c (m.map (Value.int .i64)) (by rw [hsz]; simp) hnews hone hroom (by rw [hsz]; simp; omega)
      rw [hr] at h2
      obtain ⟨rfl, rfl⟩ : v' = _ ∧ w' = _ := by injection h2 with a b; exact ⟨a, b⟩
      refine ⟨hown.1, .inr ⟨g, cap, _, rfl, hbg, setRow_heap w g cur _ 3 _ hg, hnc, hcm, ?_, ?_⟩⟩
      · simp only [List.size_toArray, List.length_append, List.length_take, List.length_drop, Array.length_toList, List.length_map, hsz]
        omega
      · rw [List.append_assoc, List.take_append_of_le_length (by simp only [List.length_take, Array.length_toList, hsz, Nat.mul_one, List.length_map] at *; omega), hsz, List.take_take, Nat.min_self]
        exact htake
    · have holds : ∀ j u, (l.map (Value.int .i64))[j]? = some u → w.cell? ((⟨g, 0, none⟩ : Addr).add j) = some u := World.ownsRow.cells hown (g := g) rfl
      have h2 := run_append_grow (P := Tryz.prog) w 25 ty 3 i0 _ Tryz.underlying25 hi hz0 ⟨g, 0, none⟩ l.length cap (l.map (Value.int .i64)) (by rw [hsz]; simp) holds ⟨k, o', none⟩ m.length c (m.map (Value.int .i64)) (by rw [hsz]; simp) hnews (by omega) (by omega) (growslice_fits (by omega) (by rw [show i0.bytes = 8 from hz2]; omega))
      rw [hr] at h2
      obtain ⟨rfl, rfl⟩ : v' = _ ∧ w' = _ := by injection h2 with a b; exact ⟨a, b⟩
      exact ownsRow_upd hown (((Upd.refl (fun _ => False) w).drew).alloc _) (fun _ _ _ h => h)
/-- append of ints, at the operation. -/
theorem wp_append_ints {o : Oper} {a : Act} {K : Act → World → Prop} {Q : Exit → Act → World → Prop} {w : World} (s x : Operand)
    (ho : o.op = .call { callee := .builtin .append, args := #[s, x], argTypes := #[25, 25] })
    (B : Nat) (v sv : Value) (l m : List Int) (hs : a.eval s = v) (hown : IOwn B w v l) (hx : a.eval x = sv) (hb : Ints w sv m) (hlen : l.length + m.length ≤ 1099511627776) (hB : B ≤ w.heap.size)
    (h : ∀ v' w', IOwn B w' v' (l ++ m) ∧ IOwn B w' v l → Upd (fun k => some k = v.ownBlock) w w' → K (a.put o.dst v') w') : Oper.wp Tryz.prog o a w K Q := by
  obtain ⟨i0, hi, hz0, hz1, hz2⟩ := info_parts info_int
  rcases hb.cells with ⟨rfl, ad, c, rfl, _⟩ | ⟨k, o', c, rfl, _, hc⟩
  · have hrun : ∀ ty, (Builtin.append_ #[25, 25] ty #[v, .slice ad 0 c]).run Tryz.prog w = .ok v w := by
      intro ty
      have hsrc : Src Tryz.prog i0.size 25 (.slice ad 0 c) 0 [] w := by
        cases ad with
        | none => exact Src.ofNil w Tryz.underlying25 c
        | some ad => exact Src.ofSlice w Tryz.underlying25 ad 0 c [] (by simp) (by simp) (by simp)
      rcases hown.2 with ⟨rfl, _⟩ | ⟨g, cap, cur, rfl, _, _, hle, _⟩
      · exact run_append_nothing w _ _ ty _ i0 Tryz.underlying25 hi none 0 0 (Nat.le_refl _) _ hsrc
      · exact run_append_nothing w _ _ ty _ i0 Tryz.underlying25 hi _ _ _ hle _ hsrc
    unfold Oper.wp execOp
    simp only [ho, resolve, invoke, builtin, Sem.run_bind, Sem.run_pure, Result.andThen_ok, List.map_toArray, List.map_cons, List.map_nil, hs, hx, hrun]
    exact h v w ⟨by simpa using hown, hown⟩ (Upd.refl _ _)
  · have hnews : ∀ j u, (m.map (Value.int .i64))[j]? = some u → w.cell? ((⟨k, o', none⟩ : Addr).add j) = some u := by
      intro j u hu
      rw [List.getElem?_map] at hu
      cases hq : m[j]? with
      | none => rw [hq] at hu; cases hu
      | some y =>
        rw [hq] at hu
        cases hu
        have hj : j < m.length := (List.getElem?_eq_some_iff.1 hq).1
        rw [Addr.add_lit, hc j hj, List.getD_eq_getElem?_getD, hq]
        rfl
    have hone : ∀ u ∈ m.map (Value.int .i64), u.oneCell' = true := by
      intro u hu
      obtain ⟨y, _, rfl⟩ := List.mem_map.1 hu
      rfl
    obtain ⟨v', w', hr, h1, h2, _⟩ := run_append_own (P := Tryz.prog) w B 25 o.type 3 i0 _ 1 8 Tryz.underlying25 hi hz0 hz1 hz2 rfl (by decide) v l.length (l.map (Value.int .i64)) hown ⟨k, o', none⟩ m.length c (m.map (Value.int .i64)) (by simp) hnews hone (by unfold maxLen; omega) (by omega) hB
    have hk := append_keeps w B o.type v l m hown k o' c hc hlen v' w' hr
    unfold Oper.wp execOp
    simp only [ho, resolve, invoke, builtin, Sem.run_bind, Sem.run_pure, Result.andThen_ok, List.map_toArray, List.map_cons, List.map_nil, hs, hx, hr]
    refine h v' w' ⟨?_, hk⟩ (grown_upd h2)
    unfold IOwn
    rw [List.length_append, List.map_append]
    exact h1
/-- The same, of the list. -/
theorem wpList_append_ints2 {ops : Array Oper} {rest : List Oper} {o : Oper} {a : Act} {Q : Exit → Act → World → Prop} {w : World} (hgd : o.guard = none) (s x : Operand)
    (ho : o.op = .call { callee := .builtin .append, args := #[s, x], argTypes := #[25, 25] })
    (B : Nat) (v sv : Value) (l m : List Int) (hs : a.eval s = v) (hown : IOwn B w v l) (hx : a.eval x = sv) (hb : Ints w sv m) (hlen : l.length + m.length ≤ 1099511627776) (hB : B ≤ w.heap.size)
    (h : ∀ v' w', IOwn B w' v' (l ++ m) ∧ IOwn B w' v l → Upd (fun k => some k = v.ownBlock) w w' → wpList Tryz.prog ops Q rest (a.put o.dst v') w') : wpList Tryz.prog ops Q (o :: rest) a w :=
  wpList_plain hgd fun _ hK => wp_append_ints s x ho B v sv l m hs hown hx hb hlen hB fun v' w' h1 h2 => hK _ _ (h v' w' h1 h2)
theorem wpList_append_ints {ops : Array Oper} {rest : List Oper} {o : Oper} {a : Act} {Q : Exit → Act → World → Prop} {w : World} (hgd : o.guard = none) (s x : Operand)
    (ho : o.op = .call { callee := .builtin .append, args := #[s, x], argTypes := #[25, 25] })
    (B : Nat) (v sv : Value) (l m : List Int) (hs : a.eval s = v) (hown : IOwn B w v l) (hx : a.eval x = sv) (hb : Ints w sv m) (hlen : l.length + m.length ≤ 1099511627776) (hB : B ≤ w.heap.size)
    (h : ∀ v' w', IOwn B w' v' (l ++ m) → Upd (fun k => some k = v.ownBlock) w w' → wpList Tryz.prog ops Q rest (a.put o.dst v') w') : wpList Tryz.prog ops Q (o :: rest) a w :=
  wpList_plain hgd fun _ hK => wp_append_ints s x ho B v sv l m hs hown hx hb hlen hB fun v' w' h1 h2 => hK _ _ (h v' w' h1.1 h2)
theorem step_append_ints {ops : Array Oper} {o : Oper} {a : Act} {K : Act → World → Prop} {Q : Exit → Act → World → Prop} {E : Prop} {w : World} (hgd : o.guard = none) (s x : Operand)
    (ho : o.op = .call { callee := .builtin .append, args := #[s, x], argTypes := #[25, 25] })
    (B : Nat) (v sv : Value) (l m : List Int) (hs : a.eval s = v) (hown : IOwn B w v l) (hx : a.eval x = sv) (hb : Ints w sv m) (hlen : l.length + m.length ≤ 1099511627776) (hB : B ≤ w.heap.size)
    (h : ∀ v' w', IOwn B w' v' (l ++ m) → Upd (fun k => some k = v.ownBlock) w w' → K (a.put o.dst v') w') : if Region.wanted o (yielded ops a.tmps) = true then Oper.wp Tryz.prog o a w K Q else E := by
  have hw : Region.wanted o (yielded ops a.tmps) = true := by simp [Region.wanted, hgd]
  rw [if_pos hw]
  exact wp_append_ints s x ho B v sv l m hs hown hx hb hlen hB (fun v' w' h1 h2 => h v' w' h1.1 h2)
theorem ints_one (w : World) (x : Int) (b c : Nat) (hc : 1 ≤ c) (h : w.cell? ⟨b, 0, none⟩ = some (.int .i64 x)) : Ints w (.slice (some ⟨b, 0, none⟩) 1 c) [x] :=
  Ints.mk (b := b) (o := 0) (cap := c) (l := [x]) hc (by simp) (fun j hj => by
    have : j = 0 := by simp at hj; omega
    subst this; exact h)
/-- A call of one argument, at such a step. -/
theorem step_call1 {P : Program} {ops : Array Oper} {o : Oper} {a : Act} {K : Act → World → Prop} {Q : Exit → Act → World → Prop} {E : Prop} {w : World} (hgd : o.guard = none) (f : FuncId) (s : Operand) (ts : Array TypeId)
    (ho : o.op = .call { callee := .value (.func f), args := #[s], argTypes := ts }) (he : ∀ args w, (callFunc f args).run P w = .ok (.enter f args) w) (v : Value) (hs : a.eval s = v) (Post : Ending → World → Prop) (hc : Calls P f #[v] w Post)
    (h : ∀ e w', Post e w' → ∃ v', e = .returned v' ∧ K (a.put o.dst v') w') : if Region.wanted o (yielded ops a.tmps) = true then Oper.wp P o a w K Q else E := by
  have hw : Region.wanted o (yielded ops a.tmps) = true := by simp [Region.wanted, hgd]
  rw [if_pos hw]
  have e1 : (execOp a.eval o).run P w = .ok (.enter f #[v]) w := by
    unfold execOp
    simp [ho, resolve, Deferred.ofValue, invoke, hs, he, show a.eval (Operand.func f) = Value.func (.func f) #[] #[] from rfl]
  unfold Oper.wp
  rw [e1, Oper.upon_enter]
  refine hc.mono ?_
  intro e w' hp
  obtain ⟨v', rfl, hk⟩ := h e w' hp
  exact hk
end Go.Proofs.YtmpjbolopgccpaaGreat
