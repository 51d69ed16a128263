/-
  An append of bytes at a step of a region that draws its order; slices of a sector.
-/
import Derived.Test.YtcmhcibkpmbnoaaRPlate4
import Derived.Deep.RegionLaw
import Derived.BigRegion
set_option linter.unusedVariables false
namespace Go.Proofs.Ytcmhcibkpmbnoaa
open Go Go.RowKit Go.MapKept Go.ChangeMaps

/-- Bytes are appended, at a step of a region that draws its order. -/
theorem step_append_byt {ops : Array Oper} {o : Oper} {a : Act} {K : Act → World → Prop} {Q : Exit → Act → World → Prop} {E : Prop} {w : World} (hgd : o.guard = none) (s x : Operand)
    (ho : o.op = .call { callee := .builtin .append, args := #[s, x], argTypes := #[32, 32] })
    (B : Nat) (v sv : Value) (l m : List Int) (hs : a.eval s = v) (hown : Own B w v l) (hx : a.eval x = sv) (hb : BytV w sv m) (hlen : l.length + m.length ≤ 1099511627776) (hB : B ≤ w.heap.size)
    (h : ∀ v' w', Own B w' v' (l ++ m) → Upd (fun k => B ≤ k) w w' → K (a.put o.dst v') w') : if Region.wanted o (yielded ops a.tmps) = true then Oper.wp Try.prog o a w K Q else E := by
  have hw : Region.wanted o (yielded ops a.tmps) = true := by simp [Region.wanted, hgd]
  rw [if_pos hw]
  obtain ⟨i0, hi, hz0, hz1, hz2⟩ := info_parts info_u8
  rcases hb with ⟨rfl, ad, c, rfl⟩ | ⟨k, o', c, rfl, hc⟩
  · have hrun : ∀ ty, (Builtin.append_ #[32, 32] ty #[v, .slice ad 0 c]).run Try.prog w = .ok v w := by
      intro ty
      have hsrc : Src Try.prog i0.size 32 (.slice ad 0 c) 0 [] w := by
        cases ad with
        | none => exact Src.ofNil w Try.underlying32 c
        | some ad => exact Src.ofSlice w Try.underlying32 ad 0 c [] (by simp) (by simp) (by simp)
      rcases hown.2 with ⟨rfl, _⟩ | ⟨g, cap, cur, rfl, _, _, hle, _⟩
      · exact run_append_nothing w _ _ ty _ i0 Try.underlying32 hi none 0 0 (Nat.le_refl _) _ hsrc
      · exact run_append_nothing w _ _ ty _ i0 Try.underlying32 hi _ _ _ hle _ hsrc
    unfold Oper.wp execOp
    simp only [ho, resolve, invoke, builtin, Sem.run_bind, Sem.run_pure, Result.andThen_ok, List.map_toArray, List.map_cons, List.map_nil, hs, hx, hrun]
    exact h v w (by simpa using hown) (Upd.refl _ _)
  · refine wp_append_own _ s x 32 ho B 5 i0 _ 1 1 Try.underlying32 hi hz0 hz1 hz2 rfl (by decide) v l.length (l.map (Value.int .u8)) hs hown ⟨k, o', none⟩ m.length c (m.map (Value.int .u8)) hx (by simp) ?_ ?_ (by unfold maxLen; omega) (by omega) hB ?_
    · intro j u hu
      rw [List.getElem?_map] at hu
      cases hq : m[j]? with
      | none => rw [hq] at hu; cases hu
      | some y =>
        rw [hq] at hu
        cases hu
        have hj : j < m.length := (List.getElem?_eq_some_iff.1 hq).1
        rw [Addr.add_lit, hc j hj, List.getD_eq_getElem?_getD, hq]
        rfl
    · intro u hu
      obtain ⟨y, _, rfl⟩ := List.mem_map.1 hu
      rfl
    · intro v' w' h1 h2 _
      refine h v' w' ?_ ((Upd.of_grown h2).mono (fun k _ e => hown.ge k e))
      unfold Own
      rw [List.length_append, List.map_append]
      exact h1
end Go.Proofs.Ytcmhcibkpmbnoaa
