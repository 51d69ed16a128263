/-
  The reference's post: Send.
-/
import Derived.Test.YtfodgohleioflaaRefCopy2
namespace Go.Proofs.Ytfodgohleioflaa
open Go Go.RowKit Go.MapKept Go.ChangeMaps
set_option linter.unusedVariables false

/-- Block k is of messages' memory, and one of G. -/
def InG (G : Nat → Prop) (w : World) (k : Nat) : Prop := Mem 0 w k ∧ G k
theorem InG.upd {F G : Nat → Prop} {w w' : World} {k : Nat} (h : InG G w k) (u : Upd F w w') (hk : ¬ F k) : InG G w' k := ⟨h.1.upd u hk, h.2⟩
/-- The reference's post: its packets in a row of its own. -/
structure RefAt (G : Nat → Prop) (w : World) (x B : Nat) (last : Int) (L : List (Int × MsgD)) (v : Value) (Cs : List (Array Value)) : Prop where
  blk : ∃ cur, w.heap[x]? = some (.cells cur 50 (0, 0))
  c0 : w.cell? ⟨x, 0, none⟩ = some v
  c1 : w.cell? ⟨x, 1, none⟩ = some (.int .i64 last)
  len : Cs.length = L.length
  own : w.ownsRow B 56 25 v L.length (List.zipWith sentC L Cs).flatten
  msg : ∀ i, i < L.length → MsgAt (InG G w) w (Cs.getD i #[]) (L.getD i default).2
theorem RefAt.lt {G : Nat → Prop} {w : World} {x B : Nat} {last : Int} {L : List (Int × MsgD)} {v : Value} {Cs : List (Array Value)} (h : RefAt G w x B last L v Cs) : x < w.heap.size := World.block_lt_of_cell? _ _ h.c0
theorem RefAt.fro {G : Nat → Prop} {w : World} {x B : Nat} {last : Int} {L : List (Int × MsgD)} {v : Value} {Cs : List (Array Value)} (h : RefAt G w x B last L v Cs) (j : Nat) : w.frozen? ⟨x, j, none⟩ = false := by
  obtain ⟨cur, hb⟩ := h.blk
  exact block_frozen hb j
theorem RefAt.notown {G : Nat → Prop} {w : World} {x B : Nat} {last : Int} {L : List (Int × MsgD)} {v : Value} {Cs : List (Array Value)} (h : RefAt G w x B last L v Cs) : ¬ some x = v.ownBlock := by
  intro e
  obtain ⟨cur, hb⟩ := h.blk
  obtain ⟨_, ⟨rfl, _⟩ | ⟨g, cap, cur', rfl, hg, hh, _⟩⟩ := h.own
  · cases e
  · simp only [Value.ownBlock, Option.some.injEq] at e
    subst e
    rw [hb] at hh
    injection hh with hh
    injection hh with _ hh
    exact absurd hh (by decide)
theorem RefAt.upd {F G : Nat → Prop} {w w' : World} {x B : Nat} {last : Int} {L : List (Int × MsgD)} {v : Value} {Cs : List (Array Value)} (h : RefAt G w x B last L v Cs) (u : Upd F w w') (hx : ¬ F x) (hB : ∀ k, some k = v.ownBlock → ¬ F k) (hF : ∀ k, InG G w k → ¬ F k) : RefAt G w' x B last L v Cs := by
  have hlt := h.lt
  obtain ⟨cur, hb⟩ := h.blk
  refine ⟨⟨cur, (u.block x hlt hx).trans hb⟩, (u.cell (p := ⟨x, 0, none⟩) hlt hx).trans h.c0, (u.cell (p := ⟨x, 1, none⟩) hlt hx).trans h.c1, h.len, ?_, fun i hi => ((h.msg i hi).upd u hF).mono (fun k hk => hk.upd u (hF k hk))⟩
  obtain ⟨h1, h2⟩ := h.own
  refine ⟨h1, h2.imp id ?_⟩
  rintro ⟨g, cap, cur', hv, hg, hh, r⟩
  exact ⟨g, cap, cur', hv, hg, (u.block g (Array.getElem?_eq_some_iff.1 hh).1 (hB g (by rw [hv]; rfl))).trans hh, r⟩
theorem RefAt.old {G : Nat → Prop} {w w' : World} {x B : Nat} {last : Int} {L : List (Int × MsgD)} {v : Value} {Cs : List (Array Value)} (h : RefAt G w x B last L v Cs) (u : Upd (fun _ => False) w w') : RefAt G w' x B last L v Cs := h.upd u (fun h => h) (fun _ _ h => h) (fun _ _ h => h)
theorem not_in_own {G : Nat → Prop} {w : World} {base n : Nat} {v : Value} {xs : List Value} (h : w.ownsRow base 56 25 v n xs) {k : Nat} (hk : InG G w k) : ¬ some k = v.ownBlock := not_mem_own h hk.1
theorem not_in_x {G : Nat → Prop} {w : World} {x : Nat} {cur : Array Value} (h : w.heap[x]? = some (.cells cur 50 (0, 0))) {k : Nat} (hk : InG G w k) : ¬ k = x := by
  rintro rfl
  obtain ⟨⟨_, C', ty, fr, h2, h3⟩, _⟩ := hk
  rw [h] at h2
  injection h2 with h2
  injection h2 with _ h2
  subst h2
  rcases h3.1 with h3 | h3 | h3 <;> exact absurd h3 (by decide)
noncomputable def BuildS (parts : Array (Nat × Value)) : Sem Value := Instr.build 56 parts
theorem hide_buildS (parts : Array (Nat × Value)) : Instr.build 56 parts = BuildS parts := rfl
theorem run_buildS (id : Int) (d : MsgD) (nv vv bv : Value) (w : World) : (BuildS #[(0, .int .i64 id), (1, .agg (msgC d nv vv bv))]).run Try.prog w = .ok (.agg (sentC (id, d) (msgC d nv vv bv)).toArray) w :=
  run_build w 56 _ _ (by kernel_rfl)
noncomputable def BuildSs (parts : Array (Nat × Value)) : Sem Value := Instr.buildSlice 45 1 parts
theorem hide_buildSs (parts : Array (Nat × Value)) : Instr.buildSlice 45 1 parts = BuildSs parts := rfl
theorem run_buildSs (p : Int × MsgD) (d : MsgD) (nv vv bv : Value) (w : World) : (BuildSs #[(0, .agg (sentC p (msgC d nv vv bv)).toArray)]).run Try.prog w = .ok (.slice (some ⟨w.heap.size, 0, none⟩) 1 1) (w.alloc (.cells (sentC p (msgC d nv vv bv)).toArray 56)) := by
  obtain ⟨i0, hi, hz0, hz1, hz2⟩ := info_parts info_sent
  exact run_buildSlice w 45 56 1 _ (sentC p (msgC d nv vv bv)).toArray i0 _ Try.underlying45 hi hz0 (by rw [hz1]; decide) (by rw [hz1]; decide) (by rw [hz1]; kernel_rfl)
attribute [local go_sem ↓] hide_load hide_buildS hide_buildSs
attribute [local go_sem] run_buildS run_buildSs
/-- What the reference's Send leaves. -/
def RSendP (w : World) (G : Nat → Prop) (x B : Nat) (last : Int) (L : List (Int × MsgD)) (v : Value) (d : MsgD) (e : Ending) (w' : World) : Prop :=
  e = .returned (.tuple #[.int .i64 (last + 1), .int .i64 0]) ∧ ∃ v' Cs', RefAt (fun k => G k ∨ (w.heap.size ≤ k ∧ k < w'.heap.size)) w' x B (last + 1) (L ++ [(last + 1, d)]) v' Cs' ∧ Upd (fun k => k = x ∨ some k = v.ownBlock) w w'
theorem RefAt.bump {G : Nat → Prop} {w : World} {x B : Nat} {last : Int} {L : List (Int × MsgD)} {v : Value} {Cs : List (Array Value)} (h : RefAt G w x B last L v Cs) (n : Int) : RefAt G (w.setCell ⟨x, 1, none⟩ (.int .i64 n)) x B n L v Cs := by
  obtain ⟨cur, hb⟩ := h.blk
  have u : Upd (fun k => k = x) w (w.setCell ⟨x, 1, none⟩ (.int .i64 n)) := (Upd.refl (fun k => k = x) w).setCell (p := ⟨x, 1, none⟩) (Or.inl rfl) _
  refine ⟨⟨_, block_setCell hb 1 _⟩, ?_, ?_, h.len, ?_, fun i hi => ((h.msg i hi).upd u (fun k hk => not_in_x hb hk)).mono (fun k hk => hk.upd u (not_in_x hb hk))⟩
  · rw [World.cell?_setCell_other _ _ _ _ (fun e => by injection e; omega)]; exact h.c0
  · rw [cell_setCell_self, h.c1]; rfl
  · obtain ⟨h1, h2⟩ := h.own
    refine ⟨h1, h2.imp id ?_⟩
    rintro ⟨g, cap, cur', hv, hg, hh, r⟩
    exact ⟨g, cap, cur', hv, hg, (u.block g (Array.getElem?_eq_some_iff.1 hh).1 (fun e => h.notown (by rw [hv, ← e]; rfl))).trans hh, r⟩
theorem rsend_end {w w1 w5 w6 : World} {G : Nat → Prop} {x B : Nat} {last : Int} {L : List (Int × MsgD)} {v v6 : Value} {Cs : List (Array Value)} {C2 : Array Value} {d : MsgD} {X : Array Value} {ty : TypeId} (h : RefAt G w1 x B (last + 1) L v Cs) (hu1 : Upd (fun k => k = x) w w1)
    (hm : MsgAt (Mem w1.heap.size w5) w5 C2 d) (hu5 : Upd (fun _ => False) w1 w5) (hu6 : Upd (fun k => some k = v.ownBlock) (w5.alloc (.cells X ty)) w6) (ho6 : w6.ownsRow B 56 25 v6 (L.length + 1) ((List.zipWith sentC L Cs).flatten ++ sentC (last + 1, d) C2)) (hss : w.heap.size ≤ w1.heap.size) :
    RSendP w G x B last L v d (.returned (.tuple #[.int .i64 (last + 1), .int .i64 0])) (w6.setCell ⟨x, 0, none⟩ v6) := by
  have hr5 := (h.old hu5).old ((Upd.refl _ _).alloc (.cells X ty))
  have hx6 : (w6.setCell ⟨x, 0, none⟩ v6).heap.size = w6.heap.size := by simp
  have hno := h.notown
  obtain ⟨cur, hb⟩ := hr5.blk
  have hltx := hr5.lt
  have hb6 : w6.heap[x]? = _ := (hu6.block x hltx hno).trans hb
  have ux : Upd (fun k => k = x) w6 (w6.setCell ⟨x, 0, none⟩ v6) := (Upd.refl (fun k => k = x) w6).setCell (p := ⟨x, 0, none⟩) (Or.inl rfl) _
  have hs5 := hu5.size
  have hs6 := hu6.size
  have hsa : (w5.alloc (.cells X ty)).heap.size = w5.heap.size + 1 := by simp
  have hupd := ((hu1.mono (G := fun k => k = x ∨ some k = v.ownBlock) (fun _ _ e => Or.inl e)).trans (((hu5.alloc (.cells X ty)).mono (G := fun k => k = x ∨ some k = v.ownBlock) (fun _ _ h => h.elim)).trans (hu6.mono (G := fun k => k = x ∨ some k = v.ownBlock) (fun _ _ e => Or.inr e)))).trans (ux.mono (G := fun k => k = x ∨ some k = v.ownBlock) (fun _ _ e => Or.inl e))
  refine ⟨rfl, v6, Cs ++ [C2], ⟨⟨_, block_setCell hb6 0 _⟩, ?_, ?_, by simp [h.len], ?_, fun i hi => ?_⟩, hupd⟩
  · rw [cell_setCell_self, hu6.cell (p := ⟨x, 0, none⟩) hltx hno, hr5.c0]; rfl
  · rw [World.cell?_setCell_other _ _ _ _ (fun e => by injection e; omega), hu6.cell (p := ⟨x, 1, none⟩) hltx hno]; exact hr5.c1
  · have e : (List.zipWith sentC (L ++ [(last + 1, d)]) (Cs ++ [C2])).flatten = (List.zipWith sentC L Cs).flatten ++ sentC (last + 1, d) C2 := by
      rw [List.zipWith_append h.len.symm, List.flatten_append]; simp
    rw [e, List.length_append]
    obtain ⟨h1, h2⟩ := ho6
    refine ⟨h1, h2.imp id ?_⟩
    rintro ⟨g, cap, cur', hv, hg, hh, r⟩
    refine ⟨g, cap, cur', hv, hg, (ux.block g (Array.getElem?_eq_some_iff.1 hh).1 (fun e => ?_)).trans hh, r⟩
    subst e
    rw [hb6] at hh
    injection hh with hh
    injection hh with _ hh
    exact absurd hh (by decide)
  · by_cases e : i < L.length
    · rw [List.getD_eq_getElem?_getD, List.getD_eq_getElem?_getD, List.getElem?_append_left (by rw [h.len]; exact e), List.getElem?_append_left e, ← List.getD_eq_getElem?_getD, ← List.getD_eq_getElem?_getD]
      have hm6 := ((hr5.msg i e).upd hu6 (fun k hk => not_in_own hr5.own hk)).mono (T := InG G w6) (fun k hk => hk.upd hu6 (not_in_own hr5.own hk))
      exact (hm6.upd ux (fun k hk => not_in_x hb6 hk)).mono (fun k hk => ⟨(hk.upd ux (not_in_x hb6 hk)).1, Or.inl hk.2⟩)
    · have hi' : i = L.length := by simp at hi; omega
      subst hi'
      rw [List.getD_eq_getElem?_getD, List.getD_eq_getElem?_getD, List.getElem?_append_right (by rw [h.len]; exact Nat.le_refl _), List.getElem?_append_right (Nat.le_refl _), h.len, Nat.sub_self]
      show MsgAt _ _ C2 d
      have hga : Grow w5 (w5.alloc (.cells X ty)) := Grow.old ((Upd.refl _ _).alloc _)
      have hma := (hm.old ((Upd.refl _ _).alloc (.cells X ty)))
      have hm6 := (hma.upd hu6 (fun k hk => not_mem_own hr5.own (hk.grow hga))).mono (T := Mem w1.heap.size w6) (fun k hk => (hk.grow hga).upd hu6 (not_mem_own hr5.own (hk.grow hga)))
      have hnx : ∀ k, Mem w1.heap.size w6 k → ¬ k = x := fun k hk e => by have := hk.1; have := h.lt; omega
      refine (hm6.upd ux hnx).mono (fun k hk => ⟨(hk.upd ux (hnx k hk)).low (Nat.zero_le _), Or.inr ⟨?_, ?_⟩⟩)
      · have := hk.1; omega
      · rw [hx6]; exact hk.lt
set_option maxRecDepth 100000 in
set_option maxHeartbeats 4000000 in
theorem rsend (w : World) (G S : Nat → Prop) (x B : Nat) (last : Int) (L : List (Int × MsgD)) (v : Value) (Cs : List (Array Value)) (C : Array Value) (d : MsgD) (h : RefAt G w x B last L v Cs) (hC : MsgAt S w C d) (hS : ∀ k, S k → ¬ (k = x)) (hL : L.length < 4000) (hl0 : 0 ≤ last) (hl : last < 1000000) (hB : B ≤ w.heap.size) :
    Calls Try.prog 14 #[.pointer (some ⟨x, 0, none⟩), .agg C] w (RSendP w G x B last L v d) := by
  obtain ⟨sa, sc, rfl⟩ := owns_len h.own
  obtain ⟨nv, vv, bv, rfl⟩ := hC.form
  have c0 := h.c0
  have c1 := h.c1
  have f0 := h.fro 0
  have f1 := h.fro 1
  have hlt := h.lt
  have hno := h.notown
  have hr1 := (h.bump (last + 1)).old ((Upd.refl _ _).alloc (.cells (msgC d nv vv bv) 34))
  have hux : Upd (fun k => k = x) w (w.setCell ⟨x, 1, none⟩ (.int .i64 (last + 1))) := (Upd.refl (fun k => k = x) w).setCell (p := ⟨x, 1, none⟩) (Or.inl rfl) _
  have hu1 := hux.alloc (.cells (msgC d nv vv bv) 34)
  have hm1 := (hC.upd hu1 hS)
  have hsz : (w.setCell ⟨x, 1, none⟩ (.int .i64 (last + 1))).heap.size = w.heap.size := by simp
  have hb1 : ((w.setCell ⟨x, 1, none⟩ (.int .i64 (last + 1))).alloc (.cells (msgC d nv vv bv) 34)).heap[w.heap.size]? = some (.cells (msgC d nv vv bv) 34 (0, 0)) := by
    have := (MapKept.heap_alloc (w.setCell ⟨x, 1, none⟩ (.int .i64 (last + 1))) (.cells (msgC d nv vv bv) 34)).1
    rw [hsz] at this; exact this
  have hown0 : ∀ k, some k = (Value.slice sa L.length sc).ownBlock → k < w.heap.size := fun k e => (h.own.lt k e.symm).2
  clear hux hsz h hC
  go_enter Try.func14, Try.ntmps14
  go_upto_region 4 with (fail)
  generalize ((w.setCell ⟨x, 1, none⟩ (.int .i64 (last + 1))).alloc (.cells (msgC d nv vv bv) 34)) = w1 at hr1 hu1 hm1 hb1 ⊢
  clear c0 c1 f0 f1
  have hs1 := hu1.size
  have hlt1 := hr1.lt
  have hss : ∀ w', Upd (fun k => some k = (Value.slice sa L.length sc).ownBlock) w1 w' → w'.cell? ⟨x, 0, none⟩ = some (.slice sa L.length sc) ∧ w'.cell? ⟨x, 1, none⟩ = some (.int .i64 (last + 1)) ∧ (LoadMsg (.pointer (some ⟨w.heap.size, 0, none⟩))).run Try.prog w' = .ok (.agg (msgC d nv vv bv)) w' := fun w' u =>
    ⟨(u.cell (p := ⟨x, 0, none⟩) hlt1 hno).trans hr1.c0, (u.cell (p := ⟨x, 1, none⟩) hlt1 hno).trans hr1.c1, loadMsg_of ((u.block w.heap.size (Array.getElem?_eq_some_iff.1 hb1).1 (fun e => by have := hown0 _ e; omega)).trans hb1) rfl⟩
  have HSS := Lib.hid hss; clear hss
  have s1 := HSS.out w1 (Upd.refl _ _)
  have f01 := hr1.fro 0
  have HR1 := Lib.hid hr1; clear hr1
  have HU1 := Lib.hid hu1; clear hu1
  have HM1 := Lib.hid hm1; clear hm1
  have HO0 := Lib.hid hown0; clear hown0
  clear hb1
  obtain ⟨i1, hi1', hz10, hz11, hz12⟩ := info_parts info_sent
  have HI1' := Lib.hid hi1'; clear hi1'
  have HZ10 := Lib.hid hz10; clear hz10
  have HZ11 := Lib.hid hz11; clear hz11
  have HZ12 := Lib.hid hz12; clear hz12
  have c01 := s1.1
  have c11 := s1.2.1
  have l1 := s1.2.2
  have l1d := (HSS.out w1.drew ((Upd.refl _ _).drew)).2.2
  go_region_law (first
      | (refine step_call1 (by rfl) 13 _ _ (by rfl) (enters_of Try.func13 (by kernel_rfl) rfl) _ (by rfl) _ (copy_msg _ S _ d (by first | exact HM1.out | exact HM1.out.old ((Upd.refl _ _).drew))) ?_; rintro e w5 ⟨C2, rfl, hm5, hu5⟩; refine ⟨_, rfl, ?_⟩; obtain ⟨nv2, vv2, bv2, rfl⟩ := hm5.form; have hu15 : Upd (fun _ => False) w1 w5 := (by first | exact hu5 | exact ((Upd.refl _ _).drew).trans hu5); have HM5 := Lib.hid hm5; have HV5 := Lib.hid hu15; have c05 := (hu15.cell (p := ⟨x, 0, none⟩) hlt1 (fun h => h)).trans c01; have c15 := (hu15.cell (p := ⟨x, 1, none⟩) hlt1 (fun h => h)).trans c11; have hlt5 : x < w5.heap.size := (by have := hu15.size; omega); have HU5 := Lib.hid (hu15.mono (G := fun k => some k = (Value.slice sa L.length sc).ownBlock) (fun _ _ h => h.elim)); clear hm5 hu5 hu15)
      | (refine step_of (by rfl) (wp_append_row _ _ 45 (by rfl) B 56 i1 _ 25 256 Try.underlying45 HI1'.out HZ10.out HZ11.out HZ12.out rfl (by decide) _ L.length _ (by rfl) (owns_upd HR1.out.own (HV5.out.alloc _) (fun _ _ h => h)) ⟨w5.heap.size, 0, none⟩ 1 1 (sentC (last + 1, d) (msgC d nv2 vv2 bv2)) (by rfl) rfl (fun j u hu => by rw [add_lit0, Nat.zero_add, cell_block (MapKept.heap_alloc w5 _).1]; simpa using hu) (sentC_one (p := (last + 1, d)) HM5.out) (by unfold maxLen; omega) (by omega) (by have := HV5.out.size; simp; omega) ?_); intro v6 w6 ho6 hu6; obtain ⟨sa6, sc6, rfl⟩ := owns_len ho6; have hu16 := (HU5.out.alloc (.cells (sentC (last + 1, d) (msgC d nv2 vv2 bv2)).toArray 56)).trans hu6; have c06 := (HSS.out w6 hu16).1; have c16 := (HSS.out w6 hu16).2.1; have f06 := (hu16.frozen (p := ⟨x, 0, none⟩) hlt1 hno).trans f01; have HO6 := Lib.hid ho6; have HV6 := Lib.hid hu6; clear hu16 ho6 hu6))
  all_goals
    go_wp2_with fail
    go_ret2
    exact rsend_end HR1.out HU1.out HM5.out HV5.out HV6.out HO6.out (by omega)
end Go.Proofs.Ytfodgohleioflaa
