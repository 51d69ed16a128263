/-
  What comes in is cloned: bytes; ints, at a step of a region that draws its order.
-/
import Derived.Test.YtcmhcibkpmbnoaaPPair3
set_option linter.unusedVariables false
namespace Go.Proofs.Ytcmhcibkpmbnoaa
open Go Go.RowKit Go.MapKept Go.ChangeMaps

structure CloneB (w : World) (r : List Int) (e : Ending) (w' : World) : Prop where
  x : ∃ v, e = .returned v ∧ Own w.heap.size w' v r
  up : Upd (fun _ => False) w w'
theorem clone_byts (w : World) (v : Value) (r : List Int) (h : BytV w v r) (hl : r.length ≤ 140737488355328) : Calls Try.prog 16 #[v] w (CloneB w r) := by
  have key : ∀ (a : Addr) (c : Nat), v = .slice (some a) r.length c → (∀ i, i < r.length → w.cell? (a.add i) = some (.int .u8 (r.getD i 0))) → Calls Try.prog 16 #[v] w (CloneB w r) := by
    intro a c hv hc
    subst hv
    refine (Try.bytes_Clone_at a r.length c r w rfl hl hc).mono ?_
    rintro e w' ⟨v', rfl, ho, _, hb⟩
    exact ⟨⟨v', rfl, ho⟩, Upd.of_below hb⟩
  rcases h with ⟨rfl, a, c, rfl⟩ | ⟨k, o, c, hv, hc⟩
  · cases a with
    | none =>
      refine (Try.bytes_Clone_nil 0 c w).mono ?_
      rintro e w' ⟨rfl, rfl⟩
      exact ⟨⟨_, rfl, Own.nil _ _⟩, Upd.refl _ _⟩
    | some a => exact key a c rfl (fun i hi => absurd hi (Nat.not_lt_zero _))
  · exact key ⟨k, o, none⟩ c hv (fun i hi => by rw [Addr.add_lit]; exact hc i hi)
/-- Bytes of its own are left by what changes ints. -/
theorem own_past {B g : Nat} {w w' : World} {v : Value} {l : List Int} (h : Own B w v l) (hg : ∃ cur, w.heap[g]? = some (.cells cur 3 (0, 0))) (u : Upd (fun k => k = g) w w') : Own B w' v l := by
  obtain ⟨h1, h2⟩ := h
  refine ⟨h1, h2.imp id ?_⟩
  rintro ⟨k, cap, cur, hv, hk, hh, r⟩
  have hlt : k < w.heap.size := (Array.getElem?_eq_some_iff.1 hh).1
  exact ⟨k, cap, cur, hv, hk, (u.block k hlt (tag_ne ⟨cur, hh⟩ hg (by decide))).trans hh, r⟩
/-- Ints are appended to none, at a step of a region that draws its order. -/
theorem step_append_ints {ops : Array Oper} {o : Oper} {a : Act} {K : Act → World → Prop} {Q : Exit → Act → World → Prop} {E : Prop} {w : World} (hgd : o.guard = none) (s x : Operand)
    (ho : o.op = .call { callee := .builtin .append, args := #[s, x], argTypes := #[33, 33] })
    (B : Nat) (v sv : Value) (m : List Int) (hs : a.eval s = v) (hown : IOwn B w v []) (hx : a.eval x = sv) (hb : Ints w sv m) (hB : B ≤ w.heap.size)
    (h : ∀ v' w', IOwn B w' v' m → Upd (fun k => some k = v.ownBlock) w w' → (∀ g, some g = v.ownBlock → B ≤ g ∧ ∃ cur, w.heap[g]? = some (.cells cur 3 (0, 0))) → K (a.put o.dst v') w') : if Region.wanted o (yielded ops a.tmps) = true then Oper.wp Try.prog o a w K Q else E := by
  have hw : Region.wanted o (yielded ops a.tmps) = true := by simp [Region.wanted, hgd]
  rw [if_pos hw]
  have hfew := hb.2
  obtain ⟨i0, hi, hz0, hz1, hz2⟩ := info_parts info_int
  have htag : ∀ g, some g = v.ownBlock → B ≤ g ∧ ∃ cur, w.heap[g]? = some (.cells cur 3 (0, 0)) := by
    intro g hg
    rcases hown.2 with ⟨rfl, _⟩ | ⟨g', cap, cur, rfl, hg', hh, _⟩
    · cases hg
    · cases hg; exact ⟨hg', cur, hh⟩
  rcases hb.cells with ⟨rfl, ad, c, rfl, hnc⟩ | ⟨k, o', c, rfl, hlc, hc⟩
  · have hrun : ∀ ty, (Builtin.append_ #[33, 33] ty #[v, .slice ad 0 c]).run Try.prog w = .ok v w := by
      intro ty
      have hsrc : Src Try.prog i0.size 33 (.slice ad 0 c) 0 [] w := by
        cases ad with
        | none => exact Src.ofNil w Try.underlying33 c
        | some ad => exact Src.ofSlice w Try.underlying33 ad 0 c [] (by simp) (by simp) (by simp)
      rcases hown.2 with ⟨rfl, _⟩ | ⟨g, cap, cur, rfl, _, _, hle, _⟩
      · exact run_append_nothing w _ _ ty _ i0 Try.underlying33 hi none 0 0 (Nat.le_refl _) _ hsrc
      · exact run_append_nothing w _ _ ty _ i0 Try.underlying33 hi _ _ _ hle _ hsrc
    unfold Oper.wp execOp
    simp only [ho, resolve, invoke, builtin, Sem.run_bind, Sem.run_pure, Result.andThen_ok, List.map_toArray, List.map_cons, List.map_nil, hs, hx, hrun]
    exact h v w hown (Upd.refl _ _) htag
  · refine wp_append_own _ s x 33 ho B 3 i0 _ 1 8 Try.underlying33 hi hz0 hz1 hz2 rfl (by decide) v 0 [] hs hown ⟨k, o', none⟩ m.length c (m.map encI) hx (by simp) ?_ ?_ (by unfold maxLen; omega) (by omega) hB ?_
    · intro j u hu
      rw [List.getElem?_map] at hu
      cases hq : m[j]? with
      | none => rw [hq] at hu; cases hu
      | some y =>
        rw [hq] at hu
        cases hu
        have hj : j < m.length := (List.getElem?_eq_some_iff.1 hq).1
        rw [Addr.add_lit, hc j hj, List.getD_eq_getElem?_getD, hq]
        rfl
    · intro u hu
      obtain ⟨y, _, rfl⟩ := List.mem_map.1 hu
      rfl
    · intro v' w' h1 h2 _
      refine h v' w' ?_ (Upd.of_grown h2) htag
      unfold IOwn
      simpa using h1
end Go.Proofs.Ytcmhcibkpmbnoaa
