/-
  The reference's plate that failed: Copy.
-/
import Derived.Test.YtcmhcibkpmbnoaaRPlate9
set_option linter.unusedVariables false
namespace Go.Proofs.Ytcmhcibkpmbnoaa
open Go Go.RowKit Go.MapKept Go.ChangeMaps

/-- Rows of nothing. -/
structure Empt (w : World) (v : Value) (N : Nat) : Prop where
  x : ∃ h c cur, v = .slice (some ⟨h, 0, none⟩) N c ∧ N ≤ c ∧ w.heap[h]? = some (.cells cur 32 (0, 0)) ∧ ∀ i, i < N → ∃ a d, w.cell? ⟨h, i, none⟩ = some (.slice a 0 d)
theorem Empt.upd {F : Nat → Prop} {w w' : World} {v : Value} {N : Nat} (h : Empt w v N) (u : Upd F w w') (hF : ∀ k, F k → ¬ ∃ cur, w.heap[k]? = some (.cells cur 32 (0, 0))) : Empt w' v N := by
  obtain ⟨g, c, cur, e, hl, k2, k3⟩ := h.x
  have lg := (Array.getElem?_eq_some_iff.1 k2).1
  have hg : ¬ F g := fun h => hF g h ⟨cur, k2⟩
  refine ⟨g, c, cur, e, hl, (u.block g lg hg).trans k2, fun i hi => ?_⟩
  obtain ⟨a, d, k4⟩ := k3 i hi
  exact ⟨a, d, (u.cell (p := ⟨g, i, none⟩) lg hg).trans k4⟩
theorem Empt.old {w w' : World} {v : Value} {N : Nat} (h : Empt w v N) (u : Upd (fun _ => False) w w') : Empt w' v N := h.upd u (fun _ h => h.elim)
def EmptPost (w : World) (N : Nat) (e : Ending) (w' : World) : Prop := ∃ v, e = .returned v ∧ Empt w' v N ∧ Upd (fun _ => False) w w' ∧ ∀ k o n c, v = .slice (some ⟨k, o, none⟩) n c → w.heap.size ≤ k
set_option maxHeartbeats 2000000 in
theorem rall_empty (w : World) (v : Value) (N : Nat) (hs : Empt w v N) (hp : 0 < N) (hf : N ≤ 8192) : Calls Try.prog 20 #[v] w (EmptPost w N) := by
  obtain ⟨g, vc, cur, rfl, hl, k2, k3⟩ := hs.x
  have lg := (Array.getElem?_eq_some_iff.1 k2).1
  have K3 := Lib.hid k3; clear k3 k2 hs
  go_enter Try.func20, Try.ntmps20
  go_wp2_with fail
  go_loopw [3, 8] (fun v i wr => ∃ (q : Nat) (xs : List Value), q ≤ N ∧ i = .int .i64 q ∧ xs.length = q ∧ wr.ownsRow w.heap.size 32 1 v q xs ∧ (∀ j, j < q → ∃ a d, xs[j]? = some (.slice a 0 d)) ∧ Upd (fun _ => False) w wr) (fun _ i _ => N - (intOf i).toNat)
  case atStart => exact ⟨0, [], Nat.zero_le _, rfl, rfl, ⟨rfl, .inl ⟨rfl, rfl⟩⟩, fun j hj => absurd hj (Nat.not_lt_zero _), Upd.refl _ _⟩
  case round =>
    obtain ⟨q, xs, hq, rfl, hxl, ho, hsec, hu⟩ := hrel
    have HO := Lib.hid ho; clear ho
    have HSEC := Lib.hid hsec; clear hsec
    have HU := Lib.hid hu; clear hu
    by_cases hlt : q < N
    · obtain ⟨sa, sd, hc0⟩ := K3.out q hlt
      have hc := (HU.out.cell (p := ⟨g, q, none⟩) lg (fun h => h)).trans hc0
      clear hc0
      have HE := Lib.hid (rown_any wr (.slice sa 0 sd) [] (.inl ⟨rfl, _, _, rfl⟩) (by simp))
      obtain ⟨i0, hi, hz0, hz1, hz2⟩ := info_parts info_sl
      have HI0 := Lib.hid hi; clear hi
      have HZ0 := Lib.hid hz0; clear hz0
      have HZ1 := Lib.hid hz1; clear hz1
      have HZ2 := Lib.hid hz2; clear hz2
      go_wp2_with fail
      refine HE.out.mono ?_
      rintro e w1 ⟨nv, rfl, hnv, hu1⟩
      obtain ⟨na, nc, hsh⟩ := hnv.shape
      rw [List.length_nil] at hsh
      subst hsh
      have HU1 := Lib.hid hu1; clear hu1
      clear hnv HE
      go_wp2_with (at_builtin; go_must (refine wpList_append_own _ rfl _ _ 22 rfl w.heap.size 32 i0 _ 1 24 Try.underlying22 HI0.out HZ0.out HZ1.out HZ2.out rfl (by decide) _ q xs rfl ?hown ⟨w1.heap.size, 0, none⟩ 1 1 [.slice na 0 nc] rfl rfl ?hcell ?hone ?hlen ?hbytes ?hbase ?_))
      case hown => exact owns_upd HO.out (HU1.out.alloc _) (fun _ _ h => h)
      case hcell =>
        intro j u hu
        rw [Addr.add_lit]
        rw [World.cell?_alloc_at _ _ _ _ (by simp)]
        simpa using hu
      case hone => simp [Value.oneCell']
      case hlen => unfold maxLen; omega
      case hbytes => omega
      case hbase => have := HU.out.size; have := HU1.out.size; simp; omega
      intro v' w' hown' hg _
      have hlto := HO.out.lt
      have HG : Hid (Upd (fun _ => False) w w') := Lib.hid ((HU.out.trans (HU1.out.alloc _)).trans' (Upd.of_grown hg) (fun i hi e => by have := (hlto i e.symm).1; omega))
      have HO' := Lib.hid hown'; clear hown' hg hlto
      go_wp2_with fail
      go_roundw
      case rel => exact ⟨q + 1, xs ++ [.slice na 0 nc], hlt, by go_num, by simp [hxl], HO'.out, fun j hj => by
        by_cases e : j = q
        · subst e
          exact ⟨na, nc, by rw [List.getElem?_append_right (by omega), hxl]; simp⟩
        · obtain ⟨a, d, k1⟩ := HSEC.out j (by omega)
          exact ⟨a, d, by rw [List.getElem?_append_left (by omega)]; exact k1⟩, HG.out⟩
      case measure => simp [intOf]; omega
    · have hql : q = N := by omega
      subst hql
      have ho := HO.out
      obtain ⟨_, ⟨_, h0⟩ | ⟨g', cap, cur', rfl, hg, hh, hn, hm, hsz, ht⟩⟩ := ho
      · omega
      · have HE : Hid (Empt wr (.slice (some ⟨g', 0, none⟩) q cap) q) := Lib.hid ⟨g', cap, cur', rfl, hn, hh, fun i hi => by
          obtain ⟨a, d, k1⟩ := HSEC.out i hi
          refine ⟨a, d, ?_⟩
          unfold World.cell?
          rw [hh]
          simp only [Option.isSome_none, Bool.false_eq_true, if_false]
          have h1 : (cur'.toList.take (q * 1))[i]? = xs[i]? := by rw [ht]
          rw [List.getElem?_take_of_lt (by omega), k1] at h1
          rw [← Array.getElem?_toList, h1]⟩
        have HGG := Lib.hid hg
        clear ht hsz hm hn hh hg
        go_wp2_with fail
        go_ret
        exact ⟨_, rfl, HE.out, HU.out, fun k o n c e => by cases e; exact HGG.out⟩
/-- Nothing is appended to no marks, at a step of a region that draws its order. -/
theorem step_append_nomarks {ops : Array Oper} {o : Oper} {a : Act} {K : Act → World → Prop} {Q : Exit → Act → World → Prop} {E : Prop} {w : World} (hgd : o.guard = none) (s x : Operand)
    (ho : o.op = .call { callee := .builtin .append, args := #[s, x], argTypes := #[56, 56] })
    (g : Nat) (ad : Option Addr) (c : Nat) (hs : a.eval s = .slice (some ⟨g, 0, none⟩) 0 0) (hx : a.eval x = .slice ad 0 c)
    (hk : K (a.put o.dst (.slice (some ⟨g, 0, none⟩) 0 0)) w) : if Region.wanted o (yielded ops a.tmps) = true then Oper.wp Try.prog o a w K Q else E := by
  have hw : Region.wanted o (yielded ops a.tmps) = true := by simp [Region.wanted, hgd]
  rw [if_pos hw]
  obtain ⟨i0, hi, hz0, hz1, hz2⟩ := info_parts info_bool
  have hrun : ∀ ty, (Builtin.append_ #[56, 56] ty #[.slice (some ⟨g, 0, none⟩) 0 0, .slice ad 0 c]).run Try.prog w = .ok (.slice (some ⟨g, 0, none⟩) 0 0) w := by
    intro ty
    have hsrc : Src Try.prog i0.size 56 (.slice ad 0 c) 0 [] w := by
      cases ad with
      | none => exact Src.ofNil w Try.underlying56 c
      | some ad => exact Src.ofSlice w Try.underlying56 ad 0 c [] (by simp) (by simp) (by simp)
    exact run_append_nothing w _ _ ty _ i0 Try.underlying56 hi _ _ _ (Nat.le_refl _) _ hsrc
  unfold Oper.wp execOp
  simp only [ho, resolve, invoke, builtin, Sem.run_bind, Sem.run_pure, Result.andThen_ok, List.map_toArray, List.map_cons, List.map_nil, hs, hx, hrun]
  exact hk
theorem rdead_made {X : World} {h1 c1 N g : Nat} (he : Empt X (.slice (some ⟨h1, 0, none⟩) N c1) N) (hp : 0 < N) (hf : N ≤ 8192) :
    RDead (X.alloc (.cells #[.slice none 0 0, .slice (some ⟨h1, 0, none⟩) N c1, .slice (some ⟨g, 0, none⟩) 0 0, .bool true] 58)) X.heap.size N := by
  have u : Upd (fun _ => False) X (X.alloc (.cells #[.slice none 0 0, .slice (some ⟨h1, 0, none⟩) N c1, .slice (some ⟨g, 0, none⟩) 0 0, .bool true] 58)) := (Upd.refl _ _).alloc _
  obtain ⟨h, c, cur, e, hl, k2, k3⟩ := (he.old u).x
  cases e
  refine ⟨by simp [go_sem], ⟨h1, c1 - N, cur, ?_, k2, k3⟩, ⟨_, _, by simp [go_sem]; exact ⟨rfl, rfl⟩⟩, by simp [go_sem], ⟨_, (MapKept.heap_alloc X _).1⟩, hp, hf⟩
  rw [show N + (c1 - N) = c1 by omega]
  simp [go_sem]
def RCopyDP (w : World) (N : Nat) (e : Ending) (w' : World) : Prop := ∃ x, e = .returned (.pointer (some ⟨x, 0, none⟩)) ∧ RDead w' x N ∧ w.heap.size ≤ x ∧ (∀ m, w'.cell? ⟨x, 1, none⟩ = some m → ∀ k o n c, m = .slice (some ⟨k, o, none⟩) n c → w.heap.size ≤ k) ∧ Upd (fun _ => False) w w'
set_option maxRecDepth 100000 in
set_option maxHeartbeats 4000000 in
theorem rcopy_dead (w : World) (x N : Nat) (h : RDead w x N) : Calls Try.prog 14 #[.pointer (some ⟨x, 0, none⟩)] w (RCopyDP w N) := by
  have c0 := h.c0
  obtain ⟨hw, d1, cur, c1, k2, k3⟩ := h.c1
  obtain ⟨a2, d2, c2⟩ := h.c2
  have c3 := h.c3
  have hp := h.pos
  have hf := h.few
  have lx := tag_lt h.tag
  have HE : Hid (∀ W, Upd (fun _ => False) w W → Calls Try.prog 20 #[.slice (some ⟨hw, 0, none⟩) N (N + d1)] W (EmptPost W N)) := Lib.hid fun W u => rall_empty W _ N ((Empt.mk ⟨hw, N + d1, cur, rfl, by omega, k2, k3⟩).old u) hp hf
  clear h k2 k3
  go_enter Try.func14, Try.ntmps14
  go_wp2_with fail
  go_region_held3 (fun w' => w'.cell? ⟨x, 0, none⟩ = some (.slice none 0 0) ∧ w'.cell? ⟨x, 1, none⟩ = some (.slice (some ⟨hw, 0, none⟩) N (N + d1)) ∧ w'.cell? ⟨x, 2, none⟩ = some (.slice a2 0 d2) ∧ w'.cell? ⟨x, 3, none⟩ = some (.bool true))
    (first | exact ⟨c0, c1, c2, c3⟩ | exact ⟨(Upd.cell (F := fun _ => False) (p := ⟨x, 0, none⟩) (by repeat (first | exact Upd.refl _ _ | exact U1.out | apply Upd.drew | apply Upd.alloc)) lx (fun h => h)).trans c0, (Upd.cell (F := fun _ => False) (p := ⟨x, 1, none⟩) (by repeat (first | exact Upd.refl _ _ | exact U1.out | apply Upd.drew | apply Upd.alloc)) lx (fun h => h)).trans c1, (Upd.cell (F := fun _ => False) (p := ⟨x, 2, none⟩) (by repeat (first | exact Upd.refl _ _ | exact U1.out | apply Upd.drew | apply Upd.alloc)) lx (fun h => h)).trans c2, (Upd.cell (F := fun _ => False) (p := ⟨x, 3, none⟩) (by repeat (first | exact Upd.refl _ _ | exact U1.out | apply Upd.drew | apply Upd.alloc)) lx (fun h => h)).trans c3⟩)
    (first
      | ((go_at_call 20; (with_reducible refine rall_nil.mono ?_); rintro e w0 ⟨rfl, rfl⟩))
      | ((go_at_call 20; (with_reducible refine (HE.out _ (by repeat (first | exact Upd.refl _ _ | exact U1.out | apply Upd.drew | apply Upd.alloc))).mono ?_); rintro e w1 ⟨v1, rfl, he1, hu1, hge1⟩; obtain ⟨h1, c1', cur1, rfl, _⟩ := id he1.x; have HGE1 : Hid (w.heap.size ≤ h1) := Lib.hid (Nat.le_trans (Upd.size (F := fun _ => False) (by repeat (first | exact Upd.refl _ _ | apply Upd.drew | apply Upd.alloc))) (hge1 h1 0 _ _ rfl)); clear hge1; have HE1 := Lib.hid he1; have U1 : Hid (Upd (fun _ => False) w w1) := Lib.hid (Upd.trans (by repeat (first | exact Upd.refl _ _ | apply Upd.drew | apply Upd.alloc)) hu1); clear he1 hu1))
      | (refine step_append_nomarks (by rfl) _ _ (by rfl) _ _ _ (by rfl) (by rfl) ?_))
  all_goals
    go_wp2_with fail
    have hz := U1.out.size
    first
      | (have hr := rdead_made (g := w1.heap.size) (HE1.out.old ((Upd.refl _ _).alloc (.cells #[] 4))) hp hf
         rw [World.size_alloc] at hr
         go_ret
         exact ⟨_, rfl, hr, by omega, fun m e k o n c e2 => by subst e2; simp [go_sem] at e; have := HGE1.out; omega, (U1.out.alloc _).alloc _⟩)
      | (have hr := rdead_made (g := w.heap.size) HE1.out hp hf
         go_ret
         exact ⟨_, rfl, hr, by omega, fun m e k o n c e2 => by subst e2; simp [go_sem] at e; have := HGE1.out; omega, U1.out.alloc _⟩)
end Go.Proofs.Ytcmhcibkpmbnoaa
