/-
  The reference's post: Take of what is not there, Lose, Twice.
-/
import Derived.Test.YtfodgohleioflaaRefPost3
namespace Go.Proofs.Ytfodgohleioflaa
open Go Go.RowKit Go.MapKept Go.ChangeMaps
set_option linter.unusedVariables false

theorem RefAt.wid {G G' : Nat → Prop} {w : World} {x B : Nat} {last : Int} {L : List (Int × MsgD)} {v : Value} {Cs : List (Array Value)} (h : RefAt G w x B last L v Cs) (hG : ∀ k, G k → G' k) : RefAt G' w x B last L v Cs :=
  ⟨h.blk, h.c0, h.c1, h.len, h.own, fun i hi => (h.msg i hi).mono (fun k hk => ⟨hk.1, hG k hk.2⟩)⟩
set_option maxRecDepth 100000 in
set_option maxHeartbeats 4000000 in
theorem rtake_no (w : World) (G : Nat → Prop) (x B : Nat) (last id : Int) (L : List (Int × MsgD)) (v : Value) (Cs : List (Array Value)) (h : RefAt G w x B last L v Cs) (hL : L.length ≤ 4000) (hno : ∀ j, j < L.length → (L.getD j default).1 ≠ id) :
    Calls Try.prog 16 #[.pointer (some ⟨x, 0, none⟩), .int .i64 id] w (fun e w' => e = .returned (.tuple #[.agg (msgN 0), .int .i64 90]) ∧ Upd (fun _ => False) w w') := by
  have HPL := Lib.hid (fun w' (u : Upd (fun _ => False) w w') => place_any w' G x B last id (-1) L _ Cs (h.old u) hL (Or.inr ⟨rfl, hno⟩)); clear h hno
  have hz : (Try.prog.info? 34).map (·.size) = some (msgN 0).size := by kernel_rfl
  have HZ := Lib.hid hz; clear hz
  have hb1 := (MapKept.heap_alloc w (.cells (msgN 0) 34)).1
  have HB1 := Lib.hid hb1; clear hb1
  go_enter Try.func16, Try.ntmps16
  go_wp2_with (first
    | (go_at_call 26; refine (HPL.out _ ((Upd.refl _ _).alloc _)).mono ?_; rintro e w1 ⟨rfl, hu1⟩; have HR1 := Lib.hid ((hu1.block w.heap.size (by simp) (fun h => h)).trans HB1.out); have HU1 := Lib.hid (((Upd.refl (fun _ => False) w).alloc _).trans hu1); clear hu1)
    | (refine wpList_store_block rfl 34 _ _ rfl w.heap.size rfl (msgN 0) rfl HZ.out (msgN_one 0) (msgN 0) 34 HR1.out rfl ?_; intro w3 hb3 hu3; have HB3 := Lib.hid hb3; clear hb3; have HU3 := Lib.hid hu3; clear hu3))
  have hlv := run_loadVar_block (P := Try.prog) (Try.isAgg34 _) (Try.sizeOf34 _) HB3.out
  refine bodyPost_ret (v := .tuple #[.agg (msgN 0), .int .i64 90]) (by simp [results, Try.results16, asAddr, hlv]) rfl ?_
  exact ⟨rfl, HU1.out.trans' HU3.out (fun i hi e => by omega)⟩
def RLoseP (w : World) (G : Nat → Prop) (x B : Nat) (last : Int) (L : List (Int × MsgD)) (v : Value) (q : Nat) (e : Ending) (w' : World) : Prop :=
  ∃ v' Cs', e = .returned (.int .i64 0) ∧ RefAt G w' x B last (L.eraseIdx q) v' Cs' ∧ Upd (fun k => k = x ∨ some k = v.ownBlock) w w'
set_option maxRecDepth 100000 in
set_option maxHeartbeats 4000000 in
theorem rlose_ok (w : World) (G : Nat → Prop) (x B q : Nat) (last id : Int) (L : List (Int × MsgD)) (v : Value) (Cs : List (Array Value)) (h : RefAt G w x B last L v Cs) (hL : L.length ≤ 4000) (hB : B ≤ w.heap.size) (hq : q < L.length) (hid : (L.getD q default).1 = id) (hno : ∀ j, j < q → (L.getD j default).1 ≠ id) :
    Calls Try.prog 18 #[.pointer (some ⟨x, 0, none⟩), .int .i64 id] w (RLoseP w G x B last L v q) := by
  have HT := Lib.hid (rtake_ok w G x B q last id L v Cs h hL hB hq hid hno); clear h hno
  have hz : (Try.prog.info? 34).map (·.size) = some 24 := by kernel_rfl
  have HZ := Lib.hid hz; clear hz
  go_enter Try.func18, Try.ntmps18
  go_wp2_with (first
    | (go_at_call 16; refine HT.out.mono ?_; rintro e w2 ⟨C, v', Cs', rfl, hm, hr, hu⟩; obtain ⟨hs, hone⟩ := msgC_one hm; have HS := Lib.hid hs; clear hs; have HONE := Lib.hid hone; clear hone; clear hm; have HR := Lib.hid hr; clear hr; have HU := Lib.hid hu; clear hu)
    | (refine wpList_store_last (w0 := w2) (C0 := msgN 0) rfl 34 _ _ rfl rfl C rfl (by rw [HS.out]; exact HZ.out) (by rw [HS.out]; rfl) HONE.out ?_))
  go_ret
  exact ⟨v', Cs', rfl, HR.out.old ((Upd.refl _ _).alloc _), HU.out.alloc _⟩
set_option maxRecDepth 100000 in
set_option maxHeartbeats 4000000 in
theorem rlose_no (w : World) (G : Nat → Prop) (x B : Nat) (last id : Int) (L : List (Int × MsgD)) (v : Value) (Cs : List (Array Value)) (h : RefAt G w x B last L v Cs) (hL : L.length ≤ 4000) (hno : ∀ j, j < L.length → (L.getD j default).1 ≠ id) :
    Calls Try.prog 18 #[.pointer (some ⟨x, 0, none⟩), .int .i64 id] w (fun e w' => e = .returned (.int .i64 90) ∧ Upd (fun _ => False) w w') := by
  have HT := Lib.hid (rtake_no w G x B last id L v Cs h hL hno); clear h hno
  have hz : (Try.prog.info? 34).map (·.size) = some (msgN 0).size := by kernel_rfl
  have HZ := Lib.hid hz; clear hz
  go_enter Try.func18, Try.ntmps18
  go_wp2_with (first
    | (go_at_call 16; refine HT.out.mono ?_; rintro e w2 ⟨rfl, hu⟩; have HU := Lib.hid hu; clear hu)
    | (refine wpList_store_last (w0 := w2) (C0 := msgN 0) rfl 34 _ _ rfl rfl (msgN 0) rfl HZ.out rfl (msgN_one 0) ?_))
  go_ret
  exact ⟨rfl, HU.out.alloc _⟩
set_option maxRecDepth 100000 in
set_option maxHeartbeats 4000000 in
theorem rtwice_no (w : World) (G : Nat → Prop) (x B : Nat) (last id : Int) (L : List (Int × MsgD)) (v : Value) (Cs : List (Array Value)) (h : RefAt G w x B last L v Cs) (hL : L.length ≤ 4000) (hno : ∀ j, j < L.length → (L.getD j default).1 ≠ id) :
    Calls Try.prog 19 #[.pointer (some ⟨x, 0, none⟩), .int .i64 id] w (fun e w' => e = .returned (.tuple #[.int .i64 0, .int .i64 90]) ∧ Upd (fun _ => False) w w') := by
  have HPL := Lib.hid (place_any w G x B last id (-1) L _ Cs h hL (Or.inr ⟨rfl, hno⟩)); clear h hno
  go_enter Try.func19, Try.ntmps19
  go_wp2_with (go_at_call 26; refine HPL.out.mono ?_; rintro e w1 ⟨rfl, hu1⟩; have HU1 := Lib.hid hu1; clear hu1)
  go_ret2
  exact ⟨rfl, HU1.out⟩
set_option maxRecDepth 100000 in
set_option maxHeartbeats 4000000 in
theorem rtwice_ok (w : World) (G : Nat → Prop) (x B q : Nat) (last id : Int) (L : List (Int × MsgD)) (v : Value) (Cs : List (Array Value)) (h : RefAt G w x B last L v Cs) (hL : L.length < 4000) (hl0 : 0 ≤ last) (hl : last < 1000000) (hB : B ≤ w.heap.size) (hq : q < L.length) (hid : (L.getD q default).1 = id) (hno : ∀ j, j < q → (L.getD j default).1 ≠ id) :
    Calls Try.prog 19 #[.pointer (some ⟨x, 0, none⟩), .int .i64 id] w (RSendP w G x B last L v (L.getD q default).2) := by
  obtain ⟨g, cap, rfl, hcap, hg, hBg, hc⟩ := h.at' hq
  have hm := h.msg q hq
  have HPL := Lib.hid (place_any w G x B last id q L _ Cs h (by omega) (Or.inl ⟨q, hq, rfl, hid, hno⟩))
  have HSEND := Lib.hid (fun (w' : World) (C : Array Value) (u : Upd (fun _ => False) w w') (hC : MsgAt (InG G w') w' C (L.getD q default).2) (hx : ∀ k, InG G w' k → ¬ k = x) => rsend w' G _ x B last L _ Cs C (L.getD q default).2 (h.old u) hC hx hL hl0 hl (Nat.le_trans hB u.size))
  obtain ⟨pq, hpq⟩ : ∃ pq, L.getD q default = pq := ⟨_, rfl⟩
  rw [hpq] at hm hc HSEND ⊢
  clear hpq hid hno
  obtain ⟨nv, vv, bv, hC⟩ := hm.form
  rw [hC] at hm hc
  have c0 := h.c0
  have hlt := h.lt
  have HH := Lib.hid h; clear h
  have HC := Lib.hid hc; clear hc
  have HM := Lib.hid hm; clear hm
  have hq0 : ¬ ((q : Int) < 0) := by omega
  have hld : ∀ W, Upd (fun _ => False) w W → ∀ j, j < (msgC pq.2 nv vv bv).size → W.cell? ((⟨g, q * 25 + 1, none⟩ : Addr).add j) = (msgC pq.2 nv vv bv)[j]? := fun W u j hj => by
    have hj' : j < 24 := hj
    rw [add_lit0, u.cell (p := ⟨g, q * 25 + 1 + j, none⟩) hg (fun h => h), Nat.add_assoc, HC.out (1 + j) (by omega), Nat.add_comm]
    unfold sentC
    simp
  have HLD := Lib.hid hld; clear hld
  go_enter Try.func19, Try.ntmps19
  go_wp2_with (first
    | (go_at_call 26; refine HPL.out.mono ?_; rintro e w1 ⟨rfl, hu1⟩; have c01 := (hu1.cell (p := ⟨x, 0, none⟩) hlt (fun h => h)).trans c0; have HU1 := Lib.hid hu1; clear hu1)
    | (refine wpList_load_cells rfl 34 _ rfl ⟨g, q * 25 + 1, none⟩ rfl (msgC pq.2 nv vv bv) Try.isAgg34 Try.sizeOf34 (HLD.out _ HU1.out) ?_)
    | (go_at_call 14; refine (HSEND.out _ _ HU1.out ((HM.out.old HU1.out).mono (fun k hk => hk.upd HU1.out (fun h => h))) (fun k hk => by obtain ⟨cur, hb⟩ := (HH.out.old HU1.out).blk; exact not_in_x hb hk)).mono ?_; rintro e w2 ⟨rfl, v', Cs', hr, hu⟩; have HR := Lib.hid hr; clear hr; have HU := Lib.hid hu; clear hu))
  go_ret2
  refine ⟨rfl, v', Cs', HR.out.wid (fun k hk => ?_), (HU1.out.mono (fun _ _ h => h.elim)).trans HU.out⟩
  have := HU1.out.size
  rcases hk with hk | hk
  · exact Or.inl hk
  · exact Or.inr ⟨by omega, hk.2⟩
end Go.Proofs.Ytfodgohleioflaa
