/-
  The reference's post: Take, Lose, Twice.
-/
import Derived.Test.YtfodgohleioflaaRefPost2
namespace Go.Proofs.Ytfodgohleioflaa
open Go Go.RowKit Go.MapKept Go.ChangeMaps
set_option linter.unusedVariables false

theorem erase_flatten {k : Nat} : ∀ (rows : List (List Value)) (q : Nat), (∀ r ∈ rows, r.length = k) → q < rows.length → rows.flatten.take (q * k) ++ rows.flatten.drop ((q + 1) * k) = (rows.eraseIdx q).flatten
  | r :: rows, 0, h, _ => by
    have hr := h r (.head _)
    rw [List.eraseIdx_cons_zero, List.flatten_cons, Nat.zero_mul, List.take_zero, List.nil_append, Nat.zero_add, Nat.one_mul, List.drop_left' hr]
  | r :: rows, q + 1, h, hq => by
    have hr := h r (.head _)
    have ih := erase_flatten rows q (fun r' hr' => h r' (.tail _ hr')) (by simpa using hq)
    rw [List.eraseIdx_cons_succ, List.flatten_cons, List.flatten_cons, ← ih]
    have e1 : (q + 1) * k = r.length + q * k := by rw [hr, Nat.succ_mul]; omega
    have e2 : (q + 1 + 1) * k = r.length + (q + 1) * k := by rw [hr, Nat.succ_mul (q + 1)]; omega
    rw [e1, List.take_length_add_append, show (q + 1 + 1) * k = r.length + (q + 1) * k from e2, List.drop_length_add_append, ← List.append_assoc, ← e1]
theorem zip_erase {α β γ : Type} (f : α → β → γ) : ∀ (l : List α) (m : List β) (q : Nat), l.length = m.length → (List.zipWith f l m).eraseIdx q = List.zipWith f (l.eraseIdx q) (m.eraseIdx q)
  | [], [], q, _ => by simp
  | a :: l, b :: m, 0, _ => by simp
  | a :: l, b :: m, q + 1, h => by
    simp only [List.zipWith_cons_cons, List.eraseIdx_cons_succ]
    rw [zip_erase f l m q (by simpa using h)]
theorem owns_low {w : World} {base base' : Nat} {e : TypeId} {k n : Nat} {v : Value} {xs : List Value} (h : w.ownsRow base e k v n xs) (hb : base' ≤ base) : w.ownsRow base' e k v n xs := by
  obtain ⟨h1, h2⟩ := h
  refine ⟨h1, h2.imp id ?_⟩
  rintro ⟨g, cap, cur, hv, hg, r⟩
  exact ⟨g, cap, cur, hv, by omega, r⟩
theorem RefAt.full {G : Nat → Prop} {w : World} {x B : Nat} {last : Int} {L : List (Int × MsgD)} {g cap : Nat} {Cs : List (Array Value)} (h : RefAt G w x B last L (.slice (some ⟨g, 0, none⟩) L.length cap) Cs) : ∀ j u, (List.zipWith sentC L Cs).flatten[j]? = some u → w.cell? ⟨g, j, none⟩ = some u := by
  intro j u hu
  obtain ⟨hl, ⟨e, _⟩ | ⟨g', cap', cur, e, hg, hh, hn, hm, hs, ht⟩⟩ := h.own
  · cases e
  · injection e with e1 _ _
    injection e1 with e1
    injection e1 with e1 _ _
    subst e1
    rw [cell_block hh, ← Array.getElem?_toList]
    rw [← ht, List.getElem?_take] at hu
    split at hu
    · exact hu
    · cases hu
theorem eraseD {α : Type} (l : List α) (q i : Nat) (d : α) : (l.eraseIdx q).getD i d = l.getD (if i < q then i else i + 1) d := by
  rw [List.getD_eq_getElem?_getD, List.getD_eq_getElem?_getD, List.getElem?_eraseIdx]
  split <;> rfl
theorem alloc_up (w2 W : World) (h : W = w2.alloc (.cells #[] 56) ∨ W = w2.drew.alloc (.cells #[] 56) ∨ W = (w2.alloc (.cells #[] 56)).drew) : Upd (fun _ => False) w2 W ∧ W.ownsRow w2.heap.size 56 25 (.slice (some ⟨w2.heap.size, 0, none⟩) 0 0) 0 [] := by
  rcases h with rfl | rfl | rfl
  · exact ⟨(Upd.refl _ _).alloc _, made1 w2 _ 25⟩
  · exact ⟨(Upd.refl _ _).drew.alloc _, made1 w2.drew _ 25⟩
  · exact ⟨((Upd.refl _ _).alloc _).drew, made1 w2 _ 25⟩
theorem take_a1 {ops : Array Oper} {o : Oper} {a : Act} {K : Act → World → Prop} {Q : Exit → Act → World → Prop} {E : Prop} {w2 W : World} (hgd : o.guard = none) (s x : Operand)
    (ho : o.op = .call { callee := .builtin .append, args := #[s, x], argTypes := #[45, 45] }) (g q cap : Nat)
    (hs : a.eval s = .slice (some ⟨w2.heap.size, 0, none⟩) 0 0) (hx : a.eval x = .slice (some ⟨g, 0, none⟩) q cap) (hW : W = w2.alloc (.cells #[] 56) ∨ W = w2.drew.alloc (.cells #[] 56) ∨ W = (w2.alloc (.cells #[] 56)).drew)
    (X1 : List Value) (hn : X1.length = q * 25) (hc : ∀ W', Upd (fun _ => False) w2 W' → ∀ j u, X1[j]? = some u → W'.cell? ((⟨g, 0, none⟩ : Addr).add j) = some u) (ho1 : ∀ u ∈ X1, u.oneCell' = true) (hq : q ≤ 4000)
    (h : ∀ v3 w3, w3.ownsRow w2.heap.size 56 25 v3 q X1 → Upd (fun k => k = w2.heap.size) w2 w3 → K (a.put o.dst v3) w3) : if Region.wanted o (yielded ops a.tmps) = true then Oper.wp Try.prog o a W K Q else E := by
  obtain ⟨hu, hown⟩ := alloc_up w2 W hW
  obtain ⟨i1, hi1', hz10, hz11, hz12⟩ := info_parts info_sent
  refine step_of hgd (wp_append_row s x 45 ho w2.heap.size 56 i1 _ 25 256 Try.underlying45 hi1' hz10 hz11 hz12 rfl (by decide) _ 0 [] hs hown ⟨g, 0, none⟩ q cap X1 hx hn (hc W hu) ho1 (by unfold maxLen; omega) (by omega) hu.size (fun v' w' h1 h2 => ?_))
  refine h v' w' (by simpa using h1) ((hu.mono (fun _ _ h => h.elim)).trans (h2.mono (fun k _ e => by simpa [Value.ownBlock] using e)))
theorem take_a2 {ops : Array Oper} {o : Oper} {a : Act} {K : Act → World → Prop} {Q : Exit → Act → World → Prop} {E : Prop} {w2 W : World} (hgd : o.guard = none) (s x : Operand)
    (ho : o.op = .call { callee := .builtin .append, args := #[s, x], argTypes := #[45, 45] }) (g o2 q m c2 : Nat) (v3 : Value)
    (hs : a.eval s = v3) (hx : a.eval x = .slice (some ⟨g, o2, none⟩) m c2) (X1 X2 : List Value) (hown : W.ownsRow w2.heap.size 56 25 v3 q X1) (hu : Upd (fun k => k = w2.heap.size) w2 W)
    (hn : X2.length = m * 25) (hc : ∀ j u, X2[j]? = some u → W.cell? ((⟨g, o2, none⟩ : Addr).add j) = some u) (ho1 : ∀ u ∈ X2, u.oneCell' = true) (hq : q + m ≤ 4000)
    (h : ∀ v4 w4, w4.ownsRow w2.heap.size 56 25 v4 (q + m) (X1 ++ X2) → Upd (fun k => w2.heap.size ≤ k) w2 w4 → K (a.put o.dst v4) w4) : if Region.wanted o (yielded ops a.tmps) = true then Oper.wp Try.prog o a W K Q else E := by
  obtain ⟨i1, hi1', hz10, hz11, hz12⟩ := info_parts info_sent
  refine step_of hgd (wp_append_row s x 45 ho w2.heap.size 56 i1 _ 25 256 Try.underlying45 hi1' hz10 hz11 hz12 rfl (by decide) _ q X1 hs hown ⟨g, o2, none⟩ m c2 X2 hx hn hc ho1 (by unfold maxLen; omega) (by omega) hu.size (fun v' w' h1 h2 => ?_))
  exact h v' w' h1 ((hu.mono (fun k _ e => by omega)).trans (h2.mono (fun k _ e => owns_ge hown k e)))
theorem rtake_end {w w2 w4 : World} {G : Nat → Prop} {x B q : Nat} {last : Int} {L : List (Int × MsgD)} {v v4 : Value} {Cs : List (Array Value)} {X : List Value} {n : Nat} (h : RefAt G w x B last L v Cs) (hB : B ≤ w.heap.size) (hu2 : Upd (fun _ => False) w w2) (hu4 : Upd (fun k => w2.heap.size ≤ k) w2 w4) (hq : q < L.length)
    (ho : w4.ownsRow w2.heap.size 56 25 v4 n X) (hn : n = L.length - 1) (hX : X = (List.zipWith sentC (L.eraseIdx q) (Cs.eraseIdx q)).flatten) : RefAt G (w4.setCell ⟨x, 0, none⟩ v4) x B last (L.eraseIdx q) v4 (Cs.eraseIdx q) ∧ Upd (fun k => k = x ∨ w2.heap.size ≤ k) w2 (w4.setCell ⟨x, 0, none⟩ v4) := by
  have hs2 := hu2.size
  have hlt := h.lt
  have hu : Upd (fun k => w2.heap.size ≤ k) w w4 := (hu2.mono (fun _ _ h => h.elim)).trans hu4
  obtain ⟨cur, hb⟩ := h.blk
  have hxn : ¬ w2.heap.size ≤ x := by omega
  have hb4 : w4.heap[x]? = some (.cells cur 50 (0, 0)) := (hu.block x hlt hxn).trans hb
  have ux : Upd (fun k => k = x) w4 (w4.setCell ⟨x, 0, none⟩ v4) := (Upd.refl (fun k => k = x) w4).setCell (p := ⟨x, 0, none⟩) (Or.inl rfl) _
  have hln : (L.eraseIdx q).length = n := by rw [List.length_eraseIdx_of_lt hq, hn]
  refine ⟨⟨⟨_, block_setCell hb4 0 _⟩, ?_, ?_, ?_, ?_, fun i hi => ?_⟩, (hu4.mono (G := fun k => k = x ∨ w2.heap.size ≤ k) (fun _ _ e => Or.inr e)).trans (ux.mono (fun _ _ e => Or.inl e))⟩
  · rw [cell_setCell_self, hu.cell (p := ⟨x, 0, none⟩) hlt hxn, h.c0]; rfl
  · rw [World.cell?_setCell_other _ _ _ _ (fun e => by injection e; omega), hu.cell (p := ⟨x, 1, none⟩) hlt hxn]; exact h.c1
  · rw [List.length_eraseIdx_of_lt hq, List.length_eraseIdx_of_lt (by rw [h.len]; exact hq), h.len]
  · rw [hln, ← hX]
    have ho' := owns_low ho (Nat.le_trans hB hs2)
    obtain ⟨h1, h2⟩ := ho'
    refine ⟨h1, h2.imp id ?_⟩
    rintro ⟨g, cap, cur', hv, hg, hh, r⟩
    refine ⟨g, cap, cur', hv, hg, (ux.block g (Array.getElem?_eq_some_iff.1 hh).1 (fun e => ?_)).trans hh, r⟩
    subst e
    rw [hb4] at hh
    injection hh with hh
    injection hh with _ hh
    exact absurd hh (by decide)
  · rw [eraseD, eraseD]
    have hi' : (if i < q then i else i + 1) < L.length := by rw [hln] at hi; split <;> omega
    have hF : ∀ k, InG G w k → ¬ w2.heap.size ≤ k := fun k hk e => by have := hk.1.lt; omega
    have hm4 := ((h.msg _ hi').upd hu hF).mono (T := InG G w4) (fun k hk => hk.upd hu (hF k hk))
    exact (hm4.upd ux (fun k hk => not_in_x hb4 hk)).mono (fun k hk => hk.upd ux (not_in_x hb4 hk))
theorem notown_msg {w : World} {base n : Nat} {v : Value} {xs : List Value} (h : w.ownsRow base 56 25 v n xs) {k : Nat} {C : Array Value} (hk : w.heap[k]? = some (.cells C 34 (0, 0))) (e : some k = v.ownBlock) : False := by
  obtain ⟨_, ⟨rfl, _⟩ | ⟨g, cap, cur', rfl, hg, hh, _⟩⟩ := h
  · cases e
  · simp only [Value.ownBlock, Option.some.injEq] at e
    subst e
    rw [hk] at hh
    injection hh with hh
    injection hh with _ hh
    exact absurd hh (by decide)
def RTakeP (w : World) (G : Nat → Prop) (x B : Nat) (last : Int) (L : List (Int × MsgD)) (v : Value) (q : Nat) (e : Ending) (w' : World) : Prop :=
  ∃ C v' Cs', e = .returned (.tuple #[.agg C, .int .i64 0]) ∧ MsgAt (InG G w') w' C (L.getD q default).2 ∧ RefAt G w' x B last (L.eraseIdx q) v' Cs' ∧ Upd (fun k => k = x ∨ some k = v.ownBlock) w w'
set_option maxRecDepth 100000 in
set_option maxHeartbeats 4000000 in
theorem rtake_ok (w : World) (G : Nat → Prop) (x B q : Nat) (last id : Int) (L : List (Int × MsgD)) (v : Value) (Cs : List (Array Value)) (h : RefAt G w x B last L v Cs) (hL : L.length ≤ 4000) (hB : B ≤ w.heap.size) (hq : q < L.length) (hid : (L.getD q default).1 = id) (hno : ∀ j, j < q → (L.getD j default).1 ≠ id) :
    Calls Try.prog 16 #[.pointer (some ⟨x, 0, none⟩), .int .i64 id] w (RTakeP w G x B last L v q) := by
  obtain ⟨g, cap, rfl, hcap, hg, hBg, hc⟩ := h.at' hq
  have hm := h.msg q hq
  have HPL := Lib.hid (fun w' (u : Upd (fun _ => False) w w') => place_any w' G x B last id q L _ Cs (h.old u) hL (Or.inl ⟨q, hq, rfl, hid, hno⟩))
  obtain ⟨pq, hpq⟩ : ∃ pq, L.getD q default = pq := ⟨_, rfl⟩
  rw [hpq] at hm hc
  have HPQ := Lib.hid hpq; clear hpq
  obtain ⟨nv, vv, bv, hC⟩ := hm.form
  rw [hC] at hm hc
  have c0 := h.c0
  have f0 := h.fro 0
  have hlt := h.lt
  have HH := Lib.hid h; clear h
  have HC := Lib.hid hc; clear hc
  have HM := Lib.hid hm; clear hm
  have hone := (msgC_one HM.out).2
  have HONE := Lib.hid hone; clear hone
  have hz : (Try.prog.info? 34).map (·.size) = some (msgC pq.2 nv vv bv).size := by kernel_rfl
  have HZ := Lib.hid hz; clear hz
  have hq0 : ¬ ((q : Int) < 0) := by omega
  have hld : ∀ W, Upd (fun _ => False) w W → ∀ j, j < (msgC pq.2 nv vv bv).size → W.cell? ((⟨g, q * 25 + 1, none⟩ : Addr).add j) = (msgC pq.2 nv vv bv)[j]? := fun W u j hj => by
    have hj' : j < 24 := hj
    rw [add_lit0, u.cell (p := ⟨g, q * 25 + 1 + j, none⟩) hg (fun h => h), Nat.add_assoc, HC.out (1 + j) (by omega), Nat.add_comm]
    unfold sentC
    simp
  have HLD := Lib.hid hld; clear hld
  go_enter Try.func16, Try.ntmps16
  go_upto_region 9 with (first
    | (go_at_call 26; refine (HPL.out _ ((Upd.refl _ _).alloc _)).mono ?_; rintro e w1 ⟨rfl, hu1⟩
       have hr1 := (hu1.block w.heap.size (by simp) (fun h => h)).trans (MapKept.heap_alloc w _).1
       have hu01 := ((Upd.refl (fun _ => False) w).alloc _).trans hu1
       have c01 := (hu01.cell (p := ⟨x, 0, none⟩) hlt (fun h => h)).trans c0
       have f01 := (hu01.frozen (p := ⟨x, 0, none⟩) hlt (fun h => h)).trans f0
       have hlt1 : x < w1.heap.size := by have := hu01.size; omega
       have HR1 := Lib.hid hr1; clear hr1
       have HU1 := Lib.hid hu01; clear hu01 hu1)
    | (refine wpList_load_cells rfl 34 _ rfl ⟨g, q * 25 + 1, none⟩ rfl (msgC pq.2 nv vv bv) Try.isAgg34 Try.sizeOf34 (HLD.out _ (by first | exact HU1.out | exact HU1.out.alloc _)) ?_)
    | (refine wpList_store_last (w0 := w1) (C0 := msgN 0) rfl 34 _ _ rfl rfl (msgC pq.2 nv vv bv) rfl HZ.out rfl HONE.out ?_))
  have hx1 := HU1.out.size
  have hfl := HH.out.full
  have hrl : ∀ r ∈ List.zipWith sentC L Cs, r.length = 25 := zipS_all (p := fun r => r.length = 25) HH.out.len (fun i hi => by show (sentC _ _).length = 25; unfold sentC; rw [List.length_cons, msgC_len (HH.out.msg i hi)])
  have hro : ∀ u ∈ (List.zipWith sentC L Cs).flatten, u.oneCell' = true := fun u hu => by
    obtain ⟨r, hr, hur⟩ := List.mem_flatten.1 hu
    exact zipS_all (p := fun r => ∀ u ∈ r, u.oneCell' = true) HH.out.len (fun i hi => sentC_one (HH.out.msg i hi)) r hr u hur
  have hlen := flatten_length _ hrl
  rw [zipS_length HH.out.len] at hlen
  have hn1 : ((List.zipWith sentC L Cs).flatten.take (q * 25)).length = q * 25 := by rw [List.length_take, hlen]; omega
  have hn2 : ((List.zipWith sentC L Cs).flatten.drop ((q + 1) * 25)).length = (L.length - (q + 1)) * 25 := by rw [List.length_drop, hlen]; omega
  have he := erase_flatten _ q hrl (by rw [zipS_length HH.out.len]; exact hq)
  rw [zip_erase _ _ _ _ HH.out.len.symm] at he
  have HE := Lib.hid he; clear he
  have ho1 : ∀ u ∈ (List.zipWith sentC L Cs).flatten.take (q * 25), u.oneCell' = true := fun u hu => hro u (List.mem_of_mem_take hu)
  have ho2 : ∀ u ∈ (List.zipWith sentC L Cs).flatten.drop ((q + 1) * 25), u.oneCell' = true := fun u hu => hro u (List.mem_of_mem_drop hu)
  have hw1 : ∀ W : World, (∀ o, W.cell? ⟨g, o, none⟩ = w.cell? ⟨g, o, none⟩) → ∀ j u, ((List.zipWith sentC L Cs).flatten.take (q * 25))[j]? = some u → W.cell? ((⟨g, 0, none⟩ : Addr).add j) = some u := fun W hW j u hu => by
    rw [List.getElem?_take] at hu
    split at hu
    · rw [add_lit0, Nat.zero_add, hW]; exact hfl j u hu
    · cases hu
  have hw2 : ∀ W : World, (∀ o, W.cell? ⟨g, o, none⟩ = w.cell? ⟨g, o, none⟩) → ∀ j u, ((List.zipWith sentC L Cs).flatten.drop ((q + 1) * 25))[j]? = some u → W.cell? ((⟨g, (q + 1) * 25, none⟩ : Addr).add j) = some u := fun W hW j u hu => by
    rw [List.getElem?_drop] at hu
    rw [add_lit0, hW]; exact hfl _ u hu
  generalize (List.zipWith sentC L Cs).flatten.take (q * 25) = X1 at HE hn1 ho1 hw1
  generalize (List.zipWith sentC L Cs).flatten.drop ((q + 1) * 25) = X2 at HE hn2 ho2 hw2
  clear hfl hrl hro hlen
  have HO1 := Lib.hid ho1; clear ho1
  have HO2 := Lib.hid ho2; clear ho2
  have HW1 := Lib.hid hw1; clear hw1
  have HW2 := Lib.hid hw2; clear hw2
  have HN1 := Lib.hid hn1; clear hn1
  have HN2 := Lib.hid hn2; clear hn2
  have hmb : (w1.alloc (.cells (msgC pq.2 nv vv bv) 34)).heap[w1.heap.size]? = some (.cells (msgC pq.2 nv vv bv) 34 (0, 0)) := (MapKept.heap_alloc _ _).1
  have hu2 : Upd (fun _ => False) w1 (w1.alloc (.cells (msgC pq.2 nv vv bv) 34)) := (Upd.refl _ _).alloc _
  have hs2 : (w1.alloc (.cells (msgC pq.2 nv vv bv) 34)).heap.size = w1.heap.size + 1 := by simp
  generalize w1.alloc (.cells (msgC pq.2 nv vv bv) 34) = w2 at hmb hu2 hs2 ⊢
  have c02 := (hu2.cell (p := ⟨x, 0, none⟩) hlt1 (fun h => h)).trans c01
  have f02 := (hu2.frozen (p := ⟨x, 0, none⟩) hlt1 (fun h => h)).trans f01
  have hlt2 : x < w2.heap.size := by omega
  have HS2 := Lib.hid hs2; clear hs2
  have HU2 := Lib.hid (HU1.out.trans hu2)
  have HR2 := Lib.hid ((hu2.block _ (Array.getElem?_eq_some_iff.1 HR1.out).1 (fun h => h)).trans HR1.out)
  have HMB := Lib.hid hmb; clear hmb
  clear hu2 c01 f01 c0 f0
  have hi0 : (0 : Int) ≤ (q : Int) := by omega
  have hwr : IntKind.i64.wrap ((q : Int) + 1) = (q : Int) + 1 := by rw [IntKind.wrap_i64]; omega
  have hi1 : (q : Int) ≤ (L.length : Int) := by omega
  have hi2 : (q : Int) + 1 ≤ (L.length : Int) := by omega
  have hi3 : (q : Int) ≤ (cap : Int) := by omega
  have hi4 : (L.length : Int) ≤ (cap : Int) := by omega
  have hw12 : ∀ W', Upd (fun _ => False) w2 W' → ∀ j u, X1[j]? = some u → W'.cell? ((⟨g, 0, none⟩ : Addr).add j) = some u := fun W' u => HW1.out W' (fun o => (HU2.out.trans u).cell (p := ⟨g, o, none⟩) hg (fun h => h))
  have HW12 := Lib.hid hw12; clear hw12
  have hw22 : ∀ W', Upd (fun _ => False) w W' → ∀ j u, X2[j]? = some u → W'.cell? ((⟨g, (q + 1) * 25, none⟩ : Addr).add j) = some u := fun W' u => HW2.out W' (fun o => u.cell (p := ⟨g, o, none⟩) hg (fun h => h))
  have HW22 := Lib.hid hw22; clear hw22
  have hw2s := HU2.out.size
  have hi5 : (0 : Int) ≤ (q : Int) + 1 := by omega
  have hi6 : (q : Int) ≤ (q : Int) + 1 := by omega
  have hx20 : cap = q + 1 → ∀ j u, X2[j]? = some u → False := fun hc j u hu => by
    have h1 := (List.getElem?_eq_some_iff.1 hu).1
    have h2 := HN2.out
    omega
  have HX20 := Lib.hid hx20; clear hx20
  have hxw : ¬ x = w2.heap.size := by omega
  have hxw' : ¬ w2.heap.size ≤ x := by omega
  rw [show ∀ (a : Act) (v : Value), a.put none v = a from fun _ _ => rfl]
  go_cut [] (fun wc => ∃ v4, RefAt G wc x B last (L.eraseIdx q) v4 (Cs.eraseIdx q) ∧ Upd (fun k => k = x ∨ w2.heap.size ≤ k) w2 wc)
  case first =>
    by_cases hcq : cap = q + 1
    all_goals
     go_region_law (first
    | (refine take_a1 (w2 := w2) (by rfl) _ _ (by rfl) g q _ (by rfl) (by rfl) (by first | exact Or.inl rfl | exact Or.inr (Or.inl rfl) | exact Or.inr (Or.inr rfl)) X1 HN1.out HW12.out HO1.out (by omega) ?_; intro v3 w3 ho3 hu23; obtain ⟨sa3, sc3, rfl⟩ := owns_len ho3; have c03 := (hu23.cell (p := ⟨x, 0, none⟩) hlt2 hxw).trans c02; have f03 := (hu23.frozen (p := ⟨x, 0, none⟩) hlt2 hxw).trans f02; have HO3 := Lib.hid ho3; have HU3 := Lib.hid (HU2.out.trans' hu23 (fun i hi e => by omega)); have HV3 := Lib.hid hu23; clear ho3 hu23)
    | (refine take_a2 (w2 := w2) (by rfl) _ _ (by rfl) g ((q + 1) * 25) q (L.length - (q + 1)) _ _ (by rfl) (by rfl) X1 X2 HO3.out HV3.out HN2.out (HW22.out _ HU3.out) HO2.out (by omega) ?_; intro v4 w4 ho4 hu24; obtain ⟨sa4, sc4, rfl⟩ := owns_len ho4; have c04 := (hu24.cell (p := ⟨x, 0, none⟩) hlt2 hxw').trans c02; have f04 := (hu24.frozen (p := ⟨x, 0, none⟩) hlt2 hxw').trans f02; have HO4 := Lib.hid ho4; have HV4 := Lib.hid hu24; clear ho4 hu24)
    | (refine take_a2 (w2 := w2) (by rfl) _ _ (by rfl) g 0 q (L.length - (q + 1)) _ _ (by rfl) (by rfl) X1 X2 HO3.out HV3.out HN2.out (fun j u hu => (HX20.out hcq j u hu).elim) HO2.out (by omega) ?_; intro v4 w4 ho4 hu24; obtain ⟨sa4, sc4, rfl⟩ := owns_len ho4; have c04 := (hu24.cell (p := ⟨x, 0, none⟩) hlt2 hxw').trans c02; have f04 := (hu24.frozen (p := ⟨x, 0, none⟩) hlt2 hxw').trans f02; have HO4 := Lib.hid ho4; have HV4 := Lib.hid hu24; clear ho4 hu24))
    all_goals
      go_wp2_with fail
      go_meet
      case rel => exact ⟨_, rtake_end HH.out hB HU2.out HV4.out hq HO4.out (by omega) HE.out⟩
  case rest =>
    obtain ⟨v4, hr4, hu4⟩ := hcut
    have hw1 : w1.heap.size < w2.heap.size := (Array.getElem?_eq_some_iff.1 HMB.out).1
    have hw0 : w.heap.size < w2.heap.size := (Array.getElem?_eq_some_iff.1 HR2.out).1
    have hmb4 := (hu4.block w1.heap.size hw1 (by omega)).trans HMB.out
    have hrb4 := (hu4.block w.heap.size hw0 (by omega)).trans HR2.out
    have hF : ∀ k, InG G w k → ¬ (k = x ∨ w2.heap.size ≤ k) := fun k hk e => by
      have h1 := hk.1.lt
      obtain ⟨cur, hb⟩ := HH.out.blk
      rcases e with e | e
      · exact not_in_x hb hk e
      · omega
    have huw : Upd (fun k => k = x ∨ w2.heap.size ≤ k) w _ := (HU2.out.mono (fun _ _ h => h.elim)).trans hu4
    have hm4 := (HM.out.upd huw hF).mono (fun k hk => hk.upd huw (hF k hk))
    have HMB4 := Lib.hid hmb4; clear hmb4
    have HRB4 := Lib.hid hrb4; clear hrb4
    have HM4 := Lib.hid hm4; clear hm4 hF
    have HR4 := Lib.hid hr4; clear hr4
    have HUW := Lib.hid huw; clear huw hu4
    go_wp2_with (first
      | (refine wpList_load_block rfl 34 _ rfl w1.heap.size rfl (msgC pq.2 nv vv bv) (0, 0) _ Try.isAgg34 Try.sizeOf34 HMB4.out ?_)
      | (refine wpList_store_block rfl 34 _ _ rfl w.heap.size rfl (msgC pq.2 nv vv bv) rfl HZ.out HONE.out (msgN 0) 34 HRB4.out rfl ?_; intro w9 hb9 hu9; have HB9 := Lib.hid hb9; clear hb9; have HU9 := Lib.hid hu9; clear hu9))
    have hlv := run_loadVar_block (P := Try.prog) (Try.isAgg34 _) (Try.sizeOf34 _) HB9.out
    refine bodyPost_ret (v := .tuple #[.agg (msgC pq.2 nv vv bv), .int .i64 0]) (by simp [results, Try.results16, asAddr, hlv]) rfl ?_
    have hnf : ∀ (W : World) k, InG G W k → W.heap[w.heap.size]? = some (.cells (msgN 0) 34 (0, 0)) → ¬ k = w.heap.size := fun W k hk hb e => by subst e; exact not_mem_msg hb hk.1
    have hlt9 : ¬ x = w.heap.size := by omega
    refine ⟨_, v4, _, rfl, ?_, HR4.out.upd HU9.out hlt9 (fun k hk e => ?_) (fun k hk => hnf _ k hk HRB4.out), ?_⟩
    · rw [HPQ.out]
      exact (HM4.out.upd HU9.out (fun k hk => hnf _ k hk HRB4.out)).mono (fun k hk => hk.upd HU9.out (hnf _ k hk HRB4.out))
    · subst e
      exact notown_msg HR4.out.own HRB4.out hk
    · exact (HUW.out.trans' HU9.out (fun i hi e => by omega)).mono (fun k hk e => by rcases e with e | e <;> omega)
end Go.Proofs.Ytfodgohleioflaa
