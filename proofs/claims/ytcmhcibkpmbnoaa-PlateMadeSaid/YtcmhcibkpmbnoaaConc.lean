/-
  Bytes of any length; copy into a sector.
  slices.Grow of nil; slices.Concat of pieces of bytes.
-/
import Derived.Test.YtcmhcibkpmbnoaaPlateB
import Derived.Deep.AppendSrc
import Derived.Laws.OwnMore
import Derived.Deep.Upon
set_option linter.unusedVariables false
namespace Go.Proofs.Ytcmhcibkpmbnoaa
open Go Go.RowKit Go.MapKept Go.ChangeMaps

/-- A slice of bytes of any length. -/
def BytV (w : World) (v : Value) (l : List Int) : Prop :=
  (l = [] ∧ ∃ a c, v = .slice a 0 c) ∨ ∃ k o c, v = .slice (some ⟨k, o, none⟩) l.length c ∧ ∀ j, j < l.length → w.cell? ⟨k, o + j, none⟩ = some (.int .u8 (l.getD j 0))
theorem BytV.old {w w' : World} {v : Value} {l : List Int} (h : BytV w v l) (u : Upd (fun _ => False) w w') : BytV w' v l := by
  rcases h with h | ⟨k, o, c, hv, hc⟩
  · exact .inl h
  · refine .inr ⟨k, o, c, hv, fun j hj => ?_⟩
    have := hc j hj
    exact (u.cell (p := ⟨k, o + j, none⟩) (World.block_lt_of_cell? _ _ this) (fun h => h)).trans this
theorem BytV.shape {w : World} {v : Value} {l : List Int} (h : BytV w v l) : ∃ a c, v = .slice a l.length c := by
  rcases h with ⟨rfl, a, c, hv⟩ | ⟨k, o, c, hv, _⟩
  · exact ⟨a, c, hv⟩
  · exact ⟨_, _, hv⟩
/-- Bytes are copied into a sector at a place. -/
theorem copy_at {w : World} {g o : Nat} {l0 l : List Int} {v : Value} (hs : Sec w (.slice (some ⟨g, 0, none⟩) 64 64) l0) (hv : BytV w v l) (hfit : o + l.length ≤ 64) :
    ∃ w', (∀ k, (Builtin.copy_ #[32, 32] 3 #[.slice (some ⟨g, o, none⟩) (64 - o) (64 - o), v]).run Try.prog (w.drewN k) = .ok (.int .i64 l.length) (w'.drewN k)) ∧ Sec w' (.slice (some ⟨g, 0, none⟩) 64 64) (l0.take o ++ l ++ l0.drop (o + l.length)) ∧ Upd (fun k => k = g) w w' := by
  rcases hv with ⟨rfl, a, c, rfl⟩ | ⟨k, o1, c, rfl, hc⟩
  · refine ⟨w, fun k => run_copy_none (P := Try.prog) (w.drewN k) 32 32 3 5 _ _ _ _ 0 c Try.underlying32 (by kernel_rfl) (by show min 0 (64 - o) = 0; omega), ?_, Upd.refl _ _⟩
    simpa using hs
  · obtain ⟨k', o', c', cur, e, hl, hk, hcc⟩ := hs
    obtain ⟨rfl, rfl⟩ : g = k' ∧ 0 = o' := by simp at e; omega
    have hcur : ∀ j, j < 64 → cur[j]? = some (.int .u8 (l0.getD j 0)) := fun j hj => by
      have := hcc j hj
      unfold World.cell? at this
      rw [hk] at this
      simpa using this
    have hsz : 64 ≤ cur.size := by
      have := hcur 63 (by omega)
      have := (Array.getElem?_eq_some_iff.1 this).1
      omega
    have hrun := fun n => run_copy_row (P := Try.prog) (w.drewN n) 32 32 3 5 g o (64 - o) (64 - o) ⟨k, o1, none⟩ l.length c cur 5 (l.map (Value.int .u8)) Try.underlying32 (by kernel_rfl) hk (by show _ = min l.length (64 - o); simp; omega) (by
      intro j u hu
      rw [List.getElem?_map] at hu
      obtain ⟨x, hx, rfl⟩ := Option.map_eq_some_iff.1 hu
      have hj := (List.getElem?_eq_some_iff.1 hx).1
      show w.cell? _ = _
      rw [Addr.add_lit, hc j (by omega), List.getD_eq_getElem?_getD, hx]
      rfl) (by simp; omega) (by
      intro u hu
      obtain ⟨x, _, rfl⟩ := List.mem_map.1 hu
      rfl)
    simp only [List.length_map] at hrun
    refine ⟨w.setRow g (cur.toList.take o ++ l.map (Value.int .u8) ++ cur.toList.drop (o + l.length)).toArray, hrun, ⟨g, 0, 0, _, rfl, by simp; omega, setRow_heap w g cur _ _ _ hk, fun j hj => ?_⟩, ⟨rfl, rfl, rfl, by rw [size_setRow]; exact Nat.le_refl _, fun k _ hk => setRow_other w g k _ hk⟩⟩
    unfold World.cell?
    rw [setRow_heap w g cur _ _ _ hk]
    simp only [Option.isSome_none, Bool.false_eq_true, if_false, Nat.zero_add]
    rw [List.getElem?_toArray, List.getD_eq_getElem?_getD]
    have e1 : (cur.toList.take o).length = o := by simp; omega
    have e2 : (l0.take o).length = o := by simp; omega
    by_cases h1 : j < o
    · rw [List.append_assoc, List.getElem?_append_left (by omega), List.append_assoc, List.getElem?_append_left (by omega), List.getElem?_take_of_lt h1, List.getElem?_take_of_lt h1, Array.getElem?_toList, hcur j hj, List.getD_eq_getElem?_getD]
    · by_cases h2 : j < o + l.length
      · rw [List.append_assoc, List.getElem?_append_right (by omega), List.getElem?_append_left (by simp; omega), List.append_assoc, List.getElem?_append_right (by omega), List.getElem?_append_left (by omega), e1, e2, List.getElem?_map, List.getElem?_eq_getElem (by omega : j - o < l.length)]
        rfl
      · have e3 : (cur.toList.take o ++ l.map (Value.int .u8)).length = o + l.length := by simp; omega
        have e4 : (l0.take o ++ l).length = o + l.length := by simp; omega
        rw [List.getElem?_append_right (by omega), List.getElem?_append_right (by omega), e3, e4, List.getElem?_drop, List.getElem?_drop, show o + l.length + (j - (o + l.length)) = j by omega, Array.getElem?_toList, hcur j hj, List.getD_eq_getElem?_getD]
end Go.Proofs.Ytcmhcibkpmbnoaa
namespace Go.Proofs.Ytcmhcibkpmbnoaa
open Go Go.RowKit Go.MapKept Go.ChangeMaps

/-- Bytes of its own, so far: a row in a block that is no older than B. -/
def Own (B : Nat) (w : World) (v : Value) (l : List Int) : Prop := w.ownsRow B 5 1 v l.length (l.map (Value.int .u8))
theorem Own.nil (B : Nat) (w : World) : Own B w (.slice none 0 0) [] := ⟨rfl, .inl ⟨rfl, rfl⟩⟩
theorem Own.shape {B : Nat} {w : World} {v : Value} {l : List Int} (h : Own B w v l) : ∃ a c, v = .slice a l.length c := by
  rcases h.2 with ⟨rfl, h0⟩ | ⟨g, cap, cur, rfl, _⟩
  · rw [h0]; exact ⟨_, _, rfl⟩
  · exact ⟨_, _, rfl⟩
theorem Own.upd {F : Nat → Prop} {B : Nat} {w w' : World} {v : Value} {l : List Int} (h : Own B w v l) (u : Upd F w w') (hF : ∀ b, B ≤ b → ¬ F b) : Own B w' v l := owns_upd h u hF
theorem Own.old {B : Nat} {w w' : World} {v : Value} {l : List Int} (h : Own B w v l) (u : Upd (fun _ => False) w w') : Own B w' v l := h.upd u (fun _ _ h => h)
theorem Own.lower {B B' : Nat} {w : World} {v : Value} {l : List Int} (h : Own B w v l) (hb : B' ≤ B) : Own B' w v l := by
  obtain ⟨h1, ⟨h2, h3⟩ | ⟨g, cap, cur, hv, hg, h4⟩⟩ := h
  · exact ⟨h1, .inl ⟨h2, h3⟩⟩
  · exact ⟨h1, .inr ⟨g, cap, cur, hv, Nat.le_trans hb hg, h4⟩⟩
theorem Own.byt {B : Nat} {w : World} {v : Value} {l : List Int} (h : Own B w v l) : BytV w v l := by
  obtain ⟨_, ⟨rfl, h0⟩ | ⟨g, cap, cur, rfl, hg, hh, hn, hm, hs, ht⟩⟩ := h
  · exact .inl ⟨List.eq_nil_of_length_eq_zero h0, _, _, rfl⟩
  · refine .inr ⟨g, 0, cap, rfl, fun j hj => ?_⟩
    unfold World.cell?
    rw [hh]
    simp only [Option.isSome_none, Bool.false_eq_true, if_false, Nat.zero_add]
    have h1 : (cur.toList.take (l.length * 1))[j]? = (l.map (Value.int .u8))[j]? := by rw [ht]
    rw [List.getElem?_take_of_lt (by omega), List.getElem?_map, List.getElem?_eq_getElem hj] at h1
    rw [← Array.getElem?_toList, h1, List.getD_eq_getElem?_getD, List.getElem?_eq_getElem hj]
    rfl
theorem Own.ge {B : Nat} {w : World} {v : Value} {l : List Int} (h : Own B w v l) : ∀ k, some k = v.ownBlock → B ≤ k := by
  intro k hk
  rcases h.2 with ⟨rfl, _⟩ | ⟨g, cap, cur, rfl, hg, _⟩
  · cases hk
  · cases hk; exact hg
theorem Own.fresh {B : Nat} {w : World} {v : Value} {l : List Int} (h : Own B w v l) : Fresh B v := by
  intro kb o k c e
  exact h.ge kb (by rw [e]; rfl)
/-- Bytes are appended to bytes of its own. -/
theorem wpList_append_byt {ops : Array Oper} {rest : List Oper} {o : Oper} {a : Act} {Q : Exit → Act → World → Prop} {w : World} (hgd : o.guard = none) (s x : Operand)
    (ho : o.op = .call { callee := .builtin .append, args := #[s, x], argTypes := #[32, 32] })
    (B : Nat) (v sv : Value) (l m : List Int) (hs : a.eval s = v) (hown : Own B w v l) (hx : a.eval x = sv) (hb : BytV w sv m) (hlen : l.length + m.length ≤ 1099511627776) (hB : B ≤ w.heap.size)
    (h : ∀ v' w', Own B w' v' (l ++ m) → Upd (fun k => B ≤ k) w w' → wpList Try.prog ops Q rest (a.put o.dst v') w') : wpList Try.prog ops Q (o :: rest) a w := by
  obtain ⟨i0, hi, hz0, hz1, hz2⟩ := info_parts info_u8
  rcases hb with ⟨rfl, ad, c, rfl⟩ | ⟨k, o', c, rfl, hc⟩
  · have hrun : ∀ ty, (Builtin.append_ #[32, 32] ty #[v, .slice ad 0 c]).run Try.prog w = .ok v w := by
      intro ty
      have hsrc : Src Try.prog i0.size 32 (.slice ad 0 c) 0 [] w := by
        cases ad with
        | none => exact Src.ofNil w Try.underlying32 c
        | some ad => exact Src.ofSlice w Try.underlying32 ad 0 c [] (by simp) (by simp) (by simp)
      rcases hown.2 with ⟨rfl, _⟩ | ⟨g, cap, cur, rfl, _, _, hle, _⟩
      · exact run_append_nothing w _ _ ty _ i0 Try.underlying32 hi none 0 0 (Nat.le_refl _) _ hsrc
      · exact run_append_nothing w _ _ ty _ i0 Try.underlying32 hi _ _ _ hle _ hsrc
    refine wpList_plain hgd fun K hK => ?_
    unfold Oper.wp execOp
    simp only [ho, resolve, invoke, builtin, Sem.run_bind, Sem.run_pure, Result.andThen_ok, List.map_toArray, List.map_cons, List.map_nil, hs, hx, hrun]
    exact hK _ _ (h v w (by simpa using hown) (Upd.refl _ _))
  · refine wpList_append_own _ hgd s x 32 ho B 5 i0 _ 1 1 Try.underlying32 hi hz0 hz1 hz2 rfl (by decide) v l.length (l.map (Value.int .u8)) hs hown ⟨k, o', none⟩ m.length c (m.map (Value.int .u8)) hx (by simp) ?_ ?_ (by unfold maxLen; omega) (by omega) hB ?_
    · intro j u hu
      rw [Addr.add_lit]
      have hj : j < m.length := by
        have := (List.getElem?_eq_some_iff.1 hu).1
        simpa using this
      have h1 := hc j hj
      rw [List.getElem?_map, List.getElem?_eq_getElem hj] at hu
      rw [h1, ← hu, List.getD_eq_getElem?_getD, List.getElem?_eq_getElem hj]
      rfl
    · intro u hu
      obtain ⟨_, _, rfl⟩ := List.mem_map.1 hu
      rfl
    · intro v' w' h1 h2 _
      refine h v' w' ?_ ((Upd.of_grown h2).mono (fun k _ e => hown.ge k e))
      unfold Own
      rw [List.length_append, List.map_append]
      exact h1
def OwnPost (w : World) (l : List Int) (e : Ending) (w' : World) : Prop := ∃ v, e = .returned v ∧ Own w.heap.size w' v l ∧ Upd (fun _ => False) w w'
set_option maxRecDepth 100000 in
theorem grow_any (n : Nat) (hf : n ≤ 1099511627776) (w : World) : Calls Try.prog 50 #[.slice none 0 0, .int .i64 n] w (OwnPost w []) := by
  by_cases hn : n = 0
  · subst hn
    go_enter Try.func50, Try.ntmps50
    go_wp2
    go_ret
    exact ⟨_, rfl, Own.nil _ _, Upd.refl _ _⟩
  · have hge := grownCap_ge w n 0 5
    have hcm := grownCap_le_maxLen w n 0 5 (by unfold maxLen; omega)
    unfold grownCap at hge hcm
    have hb1 : Try.t5.bytes = 1 := by kernel_rfl
    have hnx : Builtin.nextslicecap n 0 = n := by simp [Builtin.nextslicecap]; omega
    have hcm' := hcm
    unfold maxLen at hcm'
    go_enter Try.func50, Try.ntmps50
    go_wp2_with fail
    all_goals (try simp only [hb1, hnx] at *)
    go_ret
    exact ⟨_, rfl, ⟨rfl, .inr ⟨w.heap.size, _, _, rfl, Nat.le_refl _, (MapKept.heap_alloc w _).1, by simp, hcm, by simp [Builtin.zeroCells]; omega, by simp⟩⟩, ((Upd.refl _ _).alloc _).drew⟩
def CatRel (w : World) (ps : List (List Int)) (v i : Value) (wr : World) : Prop := ∃ q : Nat, q ≤ ps.length ∧ i = .int .i64 q ∧ Own w.heap.size wr v (ps.take q).flatten ∧ Upd (fun _ => False) w wr
theorem flat_next {ps : List (List Int)} {q : Nat} (hq : q < ps.length) : (ps.take (q + 1)).flatten = (ps.take q).flatten ++ ps.getD q [] := by
  rw [List.take_succ_eq_append_getElem hq, List.flatten_append, List.getD_eq_getElem?_getD, List.getElem?_eq_getElem hq]
  simp
theorem flat_le {ps : List (List Int)} {q : Nat} : (ps.take q).flatten.length ≤ ps.flatten.length := by
  have : ps.flatten = (ps.take q).flatten ++ (ps.drop q).flatten := by rw [← List.flatten_append, List.take_append_drop]
  rw [this, List.length_append]
  omega
def catLen (ps : List (List Int)) (q : Nat) : Nat := (ps.take q).flatten.length
theorem catLen_next {ps : List (List Int)} {q : Nat} (hq : q < ps.length) : catLen ps (q + 1) = catLen ps q + (ps.getD q []).length := by
  unfold catLen
  rw [flat_next hq, List.length_append]
set_option maxRecDepth 100000 in
set_option maxHeartbeats 1000000 in
theorem concat_any (w : World) (hb hc : Nat) (ps : List (List Int)) (hps : ∀ q, q < ps.length → ∃ sv, w.cell? ⟨hb, q, none⟩ = some sv ∧ BytV w sv (ps.getD q [])) (hn : ps.length ≤ 1099511627776) (ht : ps.flatten.length ≤ 1099511627776) :
    Calls Try.prog 46 #[.slice (some ⟨hb, 0, none⟩) ps.length hc] w (OwnPost w ps.flatten) := by
  have hz : ∀ q, catLen ps q ≤ 1099511627776 := fun q => Nat.le_trans flat_le ht
  clear ht
  have HPS := Lib.hid hps; clear hps
  have HZ := Lib.hid hz; clear hz
  go_enter Try.func46, Try.ntmps46
  go_wp2_with fail
  go_loopw [3, 11] (fun s i wr => ∃ q : Nat, q ≤ ps.length ∧ i = .int .i64 q ∧ s = .int .i64 (catLen ps q) ∧ wr = w) (fun _ i _ => ps.length - (intOf i).toNat)
  case atStart => exact ⟨0, Nat.zero_le _, rfl, rfl, rfl⟩
  case round =>
    obtain ⟨q, hq, rfl, rfl, rfl⟩ := hrel
    by_cases hlt : q < ps.length
    · obtain ⟨sv, hcell, hbv⟩ := HPS.out q hlt
      obtain ⟨sa, sc, rfl⟩ := hbv.shape
      have h2 := catLen_next hlt
      have h3 := HZ.out (q + 1)
      clear hbv
      generalize (ps.getD q []).length = L at h2 hcell
      have HN : ∀ x : Int, x = (catLen ps q : Int) + L → Value.int .i64 x = .int .i64 (catLen ps (q + 1)) := fun x hx => by rw [hx, h2]; simp
      rw [h2] at h3
      clear h2
      generalize catLen ps q = A at h3 HN ⊢
      have HN' := Lib.hid HN; clear HN
      go_wp2_with fail
      go_roundw
      case rel => exact ⟨q + 1, hlt, by go_num, HN'.out _ (by first | rfl | omega), trivial⟩
      case measure => simp [intOf]; omega
    · obtain rfl : q = ps.length := by omega
      have h3 := HZ.out ps.length
      generalize catLen ps ps.length = T at h3 ⊢
      go_wp2_with fail
      refine (grow_any _ h3 _).mono ?_
      rintro e w1 ⟨v1, rfl, ho, hu⟩
      obtain ⟨va, vc, rfl⟩ := ho.shape
      have HO := Lib.hid ho; clear ho
      have HU := Lib.hid hu; clear hu
      go_wp2_with fail
      go_loopw [6, 27] (CatRel wr ps) (fun _ i _ => ps.length - (intOf i).toNat)
      case atStart => exact ⟨0, Nat.zero_le _, rfl, HO.out, HU.out⟩
      case round =>
        obtain ⟨q, hq, rfl, ho, hu⟩ := hrel
        obtain ⟨va, vc, rfl⟩ := ho.shape
        have HO := Lib.hid ho; clear ho
        have HU := Lib.hid hu; clear hu
        by_cases hlt : q < ps.length
        · obtain ⟨sv, hcell, hbv⟩ := HPS.out q hlt
          have hcell' := (HU.out.cell (World.block_lt_of_cell? _ _ hcell) (fun h => h)).trans hcell
          obtain ⟨sa, sc, rfl⟩ := hbv.shape
          have HBV := Lib.hid (hbv.old HU.out); clear hbv hcell
          have h1 := flat_next hlt
          have h2 := catLen_next hlt
          have h3 := HZ.out (q + 1)
          have h4 : (ps.take q).flatten.length + (ps.getD q []).length ≤ 1099511627776 := by unfold catLen at h2 h3; omega
          clear h2 h3
          generalize ps.getD q [] = pq at h1 h4 HBV hcell'
          go_wp2_with (at_builtin; go_must (refine wpList_append_byt rfl _ _ rfl _ _ _ _ _ rfl HO.out rfl HBV.out h4 HU.out.size ?_))
          intro v' w' ho' hu'
          obtain ⟨va', vc', rfl⟩ := ho'.shape
          rw [← h1] at ho'
          have HO' := Lib.hid ho'; clear ho'
          have HU' := Lib.hid (HU.out.trans' hu' (fun i hi e => by omega)); clear hu'
          go_wp2_with fail
          go_roundw
          case rel => rw [← h1]; exact ⟨q + 1, hlt, by go_num, HO'.out, HU'.out⟩
          case measure => simp [intOf]; omega
        · obtain rfl : q = ps.length := by omega
          rw [List.take_length] at HO ⊢
          go_wp2_with fail
          go_ret
          exact ⟨_, rfl, HO.out, HU.out⟩
end Go.Proofs.Ytcmhcibkpmbnoaa
