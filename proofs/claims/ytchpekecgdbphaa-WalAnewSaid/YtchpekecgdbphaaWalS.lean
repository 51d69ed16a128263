/-
  The sector of a place; a record at a place.
-/
import Derived.Test.YtchpekecgdbphaaWalP2
namespace Go.Proofs.Ytchpekecgdbphaa
open Go Go.RowKit Go.MapKept Go.ChangeMaps

/-- The same; what may have changed is its own block alone. -/
theorem wpList_append_byt2 {ops : Array Oper} {rest : List Oper} {o : Oper} {a : Act} {Q : Exit → Act → World → Prop} {w : World} (hgd : o.guard = none) (s x : Operand)
    (ho : o.op = .call { callee := .builtin .append, args := #[s, x], argTypes := #[28, 28] })
    (B : Nat) (v sv : Value) (l m : List Int) (hs : a.eval s = v) (hown : Own B w v l) (hx : a.eval x = sv) (hb : BytV w sv m) (hlen : l.length + m.length ≤ 1099511627776) (hB : B ≤ w.heap.size)
    (h : ∀ v' w', Own B w' v' (l ++ m) → Upd (fun k => some k = v.ownBlock) w w' → wpList Try.prog ops Q rest (a.put o.dst v') w') : wpList Try.prog ops Q (o :: rest) a w := by
  obtain ⟨i0, hi, hz0, hz1, hz2⟩ := info_parts info_u8
  rcases hb with ⟨rfl, ad, c, rfl⟩ | ⟨k, o', c, rfl, hc⟩
  · have hrun : ∀ ty, (Builtin.append_ #[28, 28] ty #[v, .slice ad 0 c]).run Try.prog w = .ok v w := by
      intro ty
      have hsrc : Src Try.prog i0.size 28 (.slice ad 0 c) 0 [] w := by
        cases ad with
        | none => exact Src.ofNil w Try.underlying28 c
        | some ad => exact Src.ofSlice w Try.underlying28 ad 0 c [] (by simp) (by simp) (by simp)
      rcases hown.2 with ⟨rfl, _⟩ | ⟨g, cap, cur, rfl, _, _, hle, _⟩
      · exact run_append_nothing w _ _ ty _ i0 Try.underlying28 hi none 0 0 (Nat.le_refl _) _ hsrc
      · exact run_append_nothing w _ _ ty _ i0 Try.underlying28 hi _ _ _ hle _ hsrc
    refine wpList_plain hgd fun K hK => ?_
    unfold Oper.wp execOp
    simp only [ho, resolve, invoke, builtin, Sem.run_bind, Sem.run_pure, Result.andThen_ok, List.map_toArray, List.map_cons, List.map_nil, hs, hx, hrun]
    exact hK _ _ (h v w (by simpa using hown) (Upd.refl _ _))
  · refine wpList_append_own _ hgd s x 28 ho B 5 i0 _ 1 1 Try.underlying28 hi hz0 hz1 hz2 rfl (by decide) v l.length (l.map (Value.int .u8)) hs hown ⟨k, o', none⟩ m.length c (m.map (Value.int .u8)) hx (by simp) ?_ ?_ (by unfold maxLen; omega) (by omega) hB ?_
    · intro j u hu
      rw [Addr.add_lit]
      have hj : j < m.length := by
        have := (List.getElem?_eq_some_iff.1 hu).1
        simpa using this
      have h1 := hc j hj
      rw [List.getElem?_map, List.getElem?_eq_getElem hj] at hu
      rw [h1, ← hu, List.getD_eq_getElem?_getD, List.getElem?_eq_getElem hj]
      rfl
    · intro u hu
      obtain ⟨_, _, rfl⟩ := List.mem_map.1 hu
      rfl
    · intro v' w' h1 h2 _
      refine h v' w' ?_ (Upd.of_grown h2)
      unfold Own
      rw [List.length_append, List.map_append]
      exact h1
theorem Own.lt {B : Nat} {w : World} {v : Value} {l : List Int} (h : Own B w v l) : ∀ k, some k = v.ownBlock → k < w.heap.size := fun k e => (World.ownsRow.lt h k e.symm).2

def Drew (w : World) (v : Value) (e : Ending) (w' : World) : Prop := e = .returned v ∧ w' = w.drew
theorem sector_any (i : Nat) (w : World) (wb b : Nat) (size place : Nat) (n l f next used : Int) (hw : WalAt w wb b size n l place f next used) (h0 : 0 < size) (h1 : size ≤ 8190) (h2 : place < size) (h3 : i ≤ 8190) :
    Calls Try.prog 26 #[.pointer (some ⟨wb, 0, none⟩), .int .i64 i] w (Drew w (.int .i64 (atS size place i : Nat))) := by
  have c1 := hw.c1
  have c4 := hw.c4
  have HW := Lib.hid hw; clear hw
  have hz : (size : Int) ≠ 0 := by omega
  have hm0 : (0 : Int) ≤ ((place : Int) + i) % (size : Int) := Int.emod_nonneg _ hz
  have hm1 : ((place : Int) + i) % (size : Int) < size := Int.emod_lt_of_pos _ (by omega)
  have he : ((atS size place i : Nat) : Int) = 2 + ((place : Int) + i) % (size : Int) := by unfold atS; rw [← Int.natCast_add, Int.natCast_add 2]; rfl
  rw [he]
  clear he
  go_enter Try.func26, Try.ntmps26
  go_wp2_with fail
  go_region
  all_goals
    go_wp2_with fail
    go_ret
    exact ⟨rfl, rfl⟩
theorem need_any (w : World) (v : Value) (r : List Int) (hb : BytV w v r) (hl : r.length ≤ 1099511627776) : Calls Try.prog 24 #[v] w (Same w (.int .i64 (needB r : Nat))) := by
  obtain ⟨a, c, rfl⟩ := hb.shape
  clear hb
  have he : ((needB r : Nat) : Int) = ((r.length : Int) + 40 - 1) / 40 := by unfold needB; omega
  rw [he]
  clear he
  go_enter Try.func24, Try.ntmps24
  go_wp2_with fail
  go_ret
  exact ⟨rfl, rfl⟩
end Go.Proofs.Ytchpekecgdbphaa
