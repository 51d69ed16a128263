/-
  Bytes appended, compared; texts that are read, compared.
-/
import Derived.Test.YtcmhcibkpmbnoaaConc
set_option linter.unusedVariables false
namespace Go.Proofs.Ytcmhcibkpmbnoaa
open Go Go.RowKit Go.MapKept Go.ChangeMaps

/-- The same; what may have changed is its own block alone. -/
theorem wpList_append_byt2 {ops : Array Oper} {rest : List Oper} {o : Oper} {a : Act} {Q : Exit → Act → World → Prop} {w : World} (hgd : o.guard = none) (s x : Operand)
    (ho : o.op = .call { callee := .builtin .append, args := #[s, x], argTypes := #[32, 32] })
    (B : Nat) (v sv : Value) (l m : List Int) (hs : a.eval s = v) (hown : Own B w v l) (hx : a.eval x = sv) (hb : BytV w sv m) (hlen : l.length + m.length ≤ 1099511627776) (hB : B ≤ w.heap.size)
    (h : ∀ v' w', Own B w' v' (l ++ m) → Upd (fun k => some k = v.ownBlock) w w' → wpList Try.prog ops Q rest (a.put o.dst v') w') : wpList Try.prog ops Q (o :: rest) a w := by
  obtain ⟨i0, hi, hz0, hz1, hz2⟩ := info_parts info_u8
  rcases hb with ⟨rfl, ad, c, rfl⟩ | ⟨k, o', c, rfl, hc⟩
  · have hrun : ∀ ty, (Builtin.append_ #[32, 32] ty #[v, .slice ad 0 c]).run Try.prog w = .ok v w := by
      intro ty
      have hsrc : Src Try.prog i0.size 32 (.slice ad 0 c) 0 [] w := by
        cases ad with
        | none => exact Src.ofNil w Try.underlying32 c
        | some ad => exact Src.ofSlice w Try.underlying32 ad 0 c [] (by simp) (by simp) (by simp)
      rcases hown.2 with ⟨rfl, _⟩ | ⟨g, cap, cur, rfl, _, _, hle, _⟩
      · exact run_append_nothing w _ _ ty _ i0 Try.underlying32 hi none 0 0 (Nat.le_refl _) _ hsrc
      · exact run_append_nothing w _ _ ty _ i0 Try.underlying32 hi _ _ _ hle _ hsrc
    refine wpList_plain hgd fun K hK => ?_
    unfold Oper.wp execOp
    simp only [ho, resolve, invoke, builtin, Sem.run_bind, Sem.run_pure, Result.andThen_ok, List.map_toArray, List.map_cons, List.map_nil, hs, hx, hrun]
    exact hK _ _ (h v w (by simpa using hown) (Upd.refl _ _))
  · refine wpList_append_own _ hgd s x 32 ho B 5 i0 _ 1 1 Try.underlying32 hi hz0 hz1 hz2 rfl (by decide) v l.length (l.map (Value.int .u8)) hs hown ⟨k, o', none⟩ m.length c (m.map (Value.int .u8)) hx (by simp) ?_ ?_ (by unfold maxLen; omega) (by omega) hB ?_
    · intro j u hu
      rw [Addr.add_lit]
      have hj : j < m.length := by
        have := (List.getElem?_eq_some_iff.1 hu).1
        simpa using this
      have h1 := hc j hj
      rw [List.getElem?_map, List.getElem?_eq_getElem hj] at hu
      rw [h1, ← hu, List.getD_eq_getElem?_getD, List.getElem?_eq_getElem hj]
      rfl
    · intro u hu
      obtain ⟨_, _, rfl⟩ := List.mem_map.1 hu
      rfl
    · intro v' w' h1 h2 _
      refine h v' w' ?_ (Upd.of_grown h2)
      unfold Own
      rw [List.length_append, List.map_append]
      exact h1
theorem Own.lt {B : Nat} {w : World} {v : Value} {l : List Int} (h : Own B w v l) : ∀ k, some k = v.ownBlock → k < w.heap.size := fun k e => (World.ownsRow.lt h k e.symm).2

theorem Sec.byt {w : World} {v : Value} {l : List Int} (h : Sec w v l) : BytV w v l := by
  obtain ⟨k, o, c, cur, rfl, hl, _, hc⟩ := h
  exact .inr ⟨k, o, 64 + c, by rw [hl], fun j hj => hc j (by omega)⟩
theorem equal_same (w : World) (v v' : Value) (l : List Int) (h : BytV w v l) (h' : BytV w v' l) : Calls Try.prog 32 #[v, v'] w (Same w (.bool true)) := by
  have key : ∀ {v : Value} {l : List Int}, BytV w v l → ∃ a c, v = .slice a l.length c ∧ Lib.BytesIn w a l.length l := by
    intro v l h
    rcases h with ⟨rfl, a, c, rfl⟩ | ⟨k, o, c, rfl, hc⟩
    · exact ⟨a, c, rfl, fun h => absurd h (Nat.lt_irrefl _)⟩
    · exact ⟨_, c, rfl, fun _ => ⟨k, o, rfl, hc⟩⟩
  obtain ⟨a, c, rfl, h1⟩ := key h
  obtain ⟨a', c', rfl, h2⟩ := key h'
  refine (Try.bytes_Equal_all a a' l.length c l.length c' l l w rfl rfl h1 h2).mono ?_
  rintro e w' ⟨rfl, rfl⟩
  exact ⟨by rw [beq_self_eq_true], rfl⟩
def Only0 (w : World) (v : Value) (e : Ending) (w' : World) : Prop := e = .returned v ∧ Upd (fun _ => False) w w'
/-- A slice of texts. -/
structure Txt (w : World) (v : Value) (L : List (List Int)) : Prop where
  sl : ∃ a c, v = .slice a L.length c
  at_ : ∀ i, i < L.length → ∃ h o c sv, v = .slice (some ⟨h, o, none⟩) L.length c ∧ w.cell? ⟨h, o + i, none⟩ = some sv ∧ BytV w sv (L.getD i [])
theorem Txt.old {w w' : World} {v : Value} {L : List (List Int)} (h : Txt w v L) (u : Upd (fun _ => False) w w') : Txt w' v L := ⟨h.sl, fun i hi => by
  obtain ⟨b, o, c, sv, h1, h2, h3⟩ := h.at_ i hi
  exact ⟨b, o, c, sv, h1, (u.cell (p := ⟨b, o + i, none⟩) (World.block_lt_of_cell? _ _ h2) (fun h => h)).trans h2, h3.old u⟩⟩
theorem Secs.txt {w : World} {v : Value} {h : Nat} {L : List (List Int)} (H : Secs w v h L) : Txt w v L := by
  obtain ⟨c, cur, rfl, _, _, hc⟩ := H
  refine ⟨⟨_, _, rfl⟩, fun i hi => ?_⟩
  obtain ⟨sv, h1, h2⟩ := hc i hi
  exact ⟨h, 0, c, sv, rfl, by rw [Nat.zero_add]; exact h1, h2.byt⟩
set_option maxHeartbeats 1000000 in
theorem equalTexts_eq (w : World) (v v' : Value) (L : List (List Int)) (hs : Txt w v L) (hs' : Txt w v' L) (hf : L.length ≤ 1099511627776) :
    Calls Try.prog 33 #[v, v', .func (.func 32) #[] #[]] w (Only0 w (.bool true)) := by
  obtain ⟨a1, c1, rfl⟩ := hs.sl
  obtain ⟨a2, c2, rfl⟩ := hs'.sl
  have HS := Lib.hid hs; clear hs
  have HS' := Lib.hid hs'; clear hs'
  go_enter Try.func33, Try.ntmps33
  go_wp2_with fail
  go_loopw [17] (fun i wr => ∃ k : Nat, k ≤ L.length ∧ i = .int .i64 k ∧ wr = w) (fun i _ => L.length - (intOf i).toNat)
  case atStart => exact ⟨0, Nat.zero_le _, rfl, rfl⟩
  case round =>
    obtain ⟨k, hk, rfl, rfl⟩ := hrel
    by_cases hlt : k < L.length
    · obtain ⟨h, o, c, sv, e, hc, hsv⟩ := HS.out.at_ k hlt
      cases e
      obtain ⟨h', o', c', sv', e, hc', hsv'⟩ := HS'.out.at_ k hlt
      cases e
      generalize L.getD k [] = r at hsv hsv'
      obtain ⟨sa, sc, rfl⟩ := hsv.shape
      obtain ⟨sa', sc', rfl⟩ := hsv'.shape
      have HE : Hid (Calls Try.prog 32 #[.slice sa r.length sc, .slice sa' r.length sc'] wr (Same wr (.bool true))) := Lib.hid (equal_same wr _ _ r hsv hsv')
      clear hsv hsv'
      go_wp2_with (go_at_call 32; refine HE.out.mono ?_; rintro e w' ⟨rfl, rfl⟩)
      go_roundw
      case rel => exact ⟨k + 1, hlt, by go_num, by trivial⟩
      case measure => simp [intOf]; omega
    · go_wp2_with fail
      go_ret
      exact ⟨rfl, Upd.refl _ _⟩
theorem sameTexts_eq (w : World) (v v' : Value) (L : List (List Int)) (hs : Txt w v L) (hs' : Txt w v' L) (hf : L.length ≤ 1099511627776) :
    Calls Try.prog 9 #[v, v'] w (Only0 w (.bool true)) := by
  obtain ⟨a1, c1, rfl⟩ := hs.sl
  obtain ⟨a2, c2, rfl⟩ := hs'.sl
  have HS := Lib.hid hs; clear hs
  have HS' := Lib.hid hs'; clear hs'
  go_enter Try.func9, Try.ntmps9
  go_wp2_with (go_at_call 33; refine (equalTexts_eq _ _ _ L HS.out HS'.out hf).mono ?_; rintro e w' ⟨rfl, hu⟩)
  go_ret
  exact ⟨rfl, hu⟩
end Go.Proofs.Ytcmhcibkpmbnoaa
