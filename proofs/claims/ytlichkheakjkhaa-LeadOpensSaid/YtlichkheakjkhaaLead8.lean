/-
  Leads, Accepted, Chosen, Proposed.
-/
import Derived.Test.YtlichkheakjkhaaMajor
namespace Go.Proofs.Ytlichkheakjkhaa
open Go Go.RowKit

theorem leads_any (w : World) (b m1 m2 m3 : Nat) (ballot frm : Int) (P B O : List (Int × Value)) (acc : Int → Bool) (v : Value) (l : List Int) (hb : 1 ≤ ballot) (h : TryAt w b m1 m2 m3 ballot frm P B O)
    (hacc : ∀ n, aget P n = if acc n then some (.bool true) else none) (hv : Ints w v l) :
    Calls Try.prog 18 #[.pointer (some ⟨b, 0, none⟩), v] w (BoolPost w (majB acc l)) := by
  have hs : stateR 0 = 0 := by rw [stateR, if_pos (by omega)]
  obtain ⟨va, vc, rfl⟩ := hv.shape
  have c2 := h.c2
  have HH := Lib.hid h; clear h
  have HV := Lib.hid hv; clear hv
  have HA := Lib.hid hacc; clear hacc
  go_enter Try.func18, Try.ntmps18
  go_wp2_with (first
    | (go_at_call 34; refine (state_try _ HH.out hb).mono ?_; rintro e w' ⟨rfl, rfl⟩)
    | (go_at_call 39; refine (major_any m1 P acc _ l _ HH.out.i1 HA.out HV.out).mono ?_; rintro e w' ⟨rfl, hu⟩; have HU := Lib.hid hu; clear hu))
  go_ret
  exact ⟨rfl, HU.out⟩

/-- What a slot's proposal is, in the map and in memory. -/
theorem Props.at {w : World} {m1 m2 m3 : Nat} {O : List (Int × Value)} {blk : Int → Nat × Nat} {g : Int → Option PropD} {s : Int} {p : PropD} (h : Props w m1 m2 m3 O blk g) (hp : g s = some p) :
    aget O s = some (.pointer (some ⟨(blk s).1, 0, none⟩)) ∧ PropAt w m1 m2 m3 (blk s).1 (blk s).2 p := by
  have := h.1 s
  rw [hp] at this
  exact this
theorem Props.no {w : World} {m1 m2 m3 : Nat} {O : List (Int × Value)} {blk : Int → Nat × Nat} {g : Int → Option PropD} {s : Int} (h : Props w m1 m2 m3 O blk g) (hp : g s = none) : aget O s = none := by
  have := h.1 s
  rw [hp] at this
  exact this

theorem chosen_none (slot : Int) (w : World) (b m1 m2 m3 : Nat) (ballot frm : Int) (P B O : List (Int × Value)) (v : Value) (l : List Int) (hb : 1 ≤ ballot) (h : TryAt w b m1 m2 m3 ballot frm P B O)
    (hp : aget O slot = none) (hv : Ints w v l) :
    Calls Try.prog 20 #[.pointer (some ⟨b, 0, none⟩), .int .i64 slot, v] w (BoolPost w false) := by
  have hs : stateR 0 = 0 := by rw [stateR, if_pos (by omega)]
  have lp := look_prop
  obtain ⟨va, vc, rfl⟩ := hv.shape
  have c4 := h.c4
  have i3 := h.i3
  have HH := Lib.hid h; clear h
  clear hv
  go_enter Try.func20, Try.ntmps20
  go_wp2_with (go_at_call 34; refine (state_try _ HH.out hb).mono ?_; rintro e w' ⟨rfl, rfl⟩)
  go_ret
  exact ⟨rfl, Upd.refl _ _⟩

theorem chosen_some (slot : Int) (w : World) (b m1 m2 m3 : Nat) (ballot frm : Int) (P B O : List (Int × Value)) (blk : Int → Nat × Nat) (g : Int → Option PropD) (p : PropD) (v : Value) (l : List Int) (hb : 1 ≤ ballot) (h : TryAt w b m1 m2 m3 ballot frm P B O)
    (hg : Props w m1 m2 m3 O blk g) (hp : g slot = some p) (hv : Ints w v l) :
    Calls Try.prog 20 #[.pointer (some ⟨b, 0, none⟩), .int .i64 slot, v] w (BoolPost w (majB p.acc l)) := by
  have hs : stateR 0 = 0 := by rw [stateR, if_pos (by omega)]
  have lp := look_prop
  obtain ⟨va, vc, rfl⟩ := hv.shape
  have c4 := h.c4
  have i3 := h.i3
  obtain ⟨ha, nv, N, hn, hc, hm, hN, hacc, _⟩ := hg.at hp
  have lpb := World.block_lt_of_cell? _ _ hm
  simp only [] at lpb
  generalize (blk slot).1 = pb at ha hc hm lpb
  generalize (blk slot).2 = nb at hm hN
  have HH := Lib.hid h; clear h
  have HV := Lib.hid hv; clear hv
  have HN := Lib.hid hN; clear hN
  have HA := Lib.hid hacc; clear hacc
  clear hn hc hg hp
  go_enter Try.func20, Try.ntmps20
  go_wp2_with (first
    | (go_at_call 34; refine (state_try _ HH.out hb).mono ?_; rintro e w' ⟨rfl, rfl⟩)
    | (go_at_call 39; refine (major_any nb N p.acc _ l _ HN.out HA.out HV.out).mono ?_; rintro e w' ⟨rfl, hu⟩; have HU := Lib.hid hu; clear hu))
  go_ret
  exact ⟨rfl, HU.out⟩

theorem accepted_bad (node slot : Int) (w : World) (b m1 m2 m3 : Nat) (ballot frm : Int) (P B O : List (Int × Value)) (hb : 1 ≤ ballot) (h : TryAt w b m1 m2 m3 ballot frm P B O) (hn : node < 0 ∨ 16 ≤ node) :
    Calls Try.prog 19 #[.pointer (some ⟨b, 0, none⟩), .int .i64 node, .int .i64 slot] w (Ret0 w 1) := by
  have hs : stateR node = 1 := by rw [stateR, if_neg (by omega)]
  go_enter Try.func19, Try.ntmps19
  go_wp2_with (go_at_call 34; refine (state_try _ h hb).mono ?_; rintro e w' ⟨rfl, rfl⟩)
  go_ret
  exact ⟨rfl, Upd.refl _ _⟩
theorem accepted_none (node slot : Int) (w : World) (b m1 m2 m3 : Nat) (ballot frm : Int) (P B O : List (Int × Value)) (hb : 1 ≤ ballot) (h : TryAt w b m1 m2 m3 ballot frm P B O) (h0 : 0 ≤ node) (h1 : node < 16) (hp : aget O slot = none) :
    Calls Try.prog 19 #[.pointer (some ⟨b, 0, none⟩), .int .i64 node, .int .i64 slot] w (Ret0 w 1) := by
  have hs : stateR node = 0 := by rw [stateR, if_pos (by omega)]
  have lp := look_prop
  have c4 := h.c4
  have i3 := h.i3
  have HH := Lib.hid h; clear h
  go_enter Try.func19, Try.ntmps19
  go_wp2_with (go_at_call 34; refine (state_try _ HH.out hb).mono ?_; rintro e w' ⟨rfl, rfl⟩)
  go_ret
  exact ⟨rfl, Upd.refl _ _⟩

def PropD.heard (p : PropD) (node : Int) : PropD := ⟨p.cmd, fun n => decide (n = node) || p.acc n⟩
/-- A node's acceptance is in. -/
def AccPost (w : World) (m1 m2 m3 : Nat) (O : List (Int × Value)) (blk : Int → Nat × Nat) (g : Int → Option PropD) (slot node : Int) (p : PropD) (e : Ending) (w' : World) : Prop :=
  e = .returned (.int .i64 0) ∧ Props w' m1 m2 m3 O blk (fun s => if s = slot then some (p.heard node) else g s) ∧ Upd (fun k => k = (blk slot).2) w w' ∧ (blk slot).2 ≠ m1 ∧ (blk slot).2 ≠ m2 ∧ (blk slot).2 ≠ m3 ∧ (w.im (blk slot).2).isSome = true
theorem accepted_some (node slot : Int) (w : World) (b m1 m2 m3 : Nat) (ballot frm : Int) (P B O : List (Int × Value)) (blk : Int → Nat × Nat) (g : Int → Option PropD) (p : PropD) (hb : 1 ≤ ballot) (h : TryAt w b m1 m2 m3 ballot frm P B O) (h0 : 0 ≤ node) (h1 : node < 16)
    (hg : Props w m1 m2 m3 O blk g) (hp : g slot = some p) :
    Calls Try.prog 19 #[.pointer (some ⟨b, 0, none⟩), .int .i64 node, .int .i64 slot] w (AccPost w m1 m2 m3 O blk g slot node p) := by
  have hs : stateR node = 0 := by rw [stateR, if_pos (by omega)]
  have lp := look_prop
  have pb' := put_bool
  have c4 := h.c4
  have i3 := h.i3
  obtain ⟨ha, hpa⟩ := hg.at hp
  have hpa' := hpa
  obtain ⟨nv, N, hn, hc, hm, hN, hacc, hne1, hne2, hne3⟩ := hpa
  have lpb := World.block_lt_of_cell? _ _ hm
  simp only [] at lpb
  have HH := Lib.hid h; clear h
  have HG := Lib.hid hg; clear hg
  have HP := Lib.hid hp; clear hp
  have HPA := Lib.hid hpa'; clear hpa'
  have HC := Lib.hid hc; clear hc
  have HN := Lib.hid hn; clear hn
  have HACC := Lib.hid hacc; clear hacc
  have HNE := Lib.hid (And.intro hne1 (And.intro hne2 hne3)); clear hne1 hne2 hne3
  obtain ⟨pb, hpb⟩ : ∃ pb, (blk slot).1 = pb := ⟨_, rfl⟩
  obtain ⟨nb, hnb⟩ : ∃ nb, (blk slot).2 = nb := ⟨_, rfl⟩
  rw [hpb] at ha hm lpb
  rw [hnb] at hm hN
  have HPB := Lib.hid (And.intro hpb hnb); clear hpb hnb
  go_enter Try.func19, Try.ntmps19
  go_wp2_with (go_at_call 34; refine (state_try _ HH.out hb).mono ?_; rintro e w' ⟨rfl, rfl⟩)
  go_ret
  obtain ⟨hpb, hnb⟩ := HPB.out
  have hu : Upd (fun k => k = (blk slot).2) w (w.mput nb (.int .i64 node) (.bool true)) := by rw [hnb]; exact (Upd.refl (fun k => k = nb) w).mput (Or.inl rfl) _ _
  have him : (w.im (blk slot).2).isSome = true := by rw [hnb, hN]; rfl
  have hF : ∀ k, k = (blk slot).2 → (w.im k).isSome = true := fun k e => by rw [e]; exact him
  refine ⟨rfl, ⟨fun s => ?_, fun s s' hss h1 h2 => ?_⟩, ?_, HNE.out.1, HNE.out.2.1, HNE.out.2.2, him⟩
  · by_cases e : s = slot
    · subst e
      simp only [if_true]
      refine ⟨by rw [hpb]; exact ha, ?_⟩
      obtain ⟨nv', N', k1, k2, k3, k4, k5, k6⟩ := HPA.out
      obtain rfl : N' = N := by rw [hnb, hN] at k4; cases k4; rfl
      have lpb' : (blk s).1 < w.heap.size := by rw [hpb]; exact lpb
      have hne : ¬ (blk s).1 = (blk s).2 := fun h => by have := cell_im k3; simp only [] at this; rw [h] at this; rw [this] at him; cases him
      refine ⟨nv', aput N' node (.bool true), ?_, ?_, ?_, ?_, ?_, k6⟩
      · exact k1.updM hu hF
      · exact fun j hj => (hu.cell (p := ⟨(blk s).1, j, none⟩) lpb' hne).trans (k2 j hj)
      · exact (hu.cell (p := ⟨(blk s).1, 12, none⟩) lpb' hne).trans k3
      · rw [hnb]; exact im_mput_same hN _
      · intro n
        show _ = if (decide (n = node) || p.acc n) = true then _ else _
        rw [aget_aput, k5]
        by_cases en : n = node
        · simp [en]
        · simp [en]
    · simp only [e, if_false]
      cases hgs : g s with
      | none => exact HG.out.no hgs
      | some q =>
        obtain ⟨q1, q2⟩ := HG.out.at hgs
        exact ⟨q1, q2.upd hu hF (HG.out.2 s slot e (by rw [hgs]; simp) (by rw [HP.out]; simp))⟩
  · have conv : ∀ s, (if s = slot then some (p.heard node) else g s) ≠ none → g s ≠ none := by
      intro s hs
      by_cases e : s = slot
      · subst e; rw [HP.out]; simp
      · simpa [e] using hs
    exact HG.out.2 s s' hss (conv s h1) (conv s' h2)
  · exact hu

def ProposedPost (w : World) (c : CmdD) (there : Bool) (e : Ending) (w' : World) : Prop :=
  ∃ nv', e = .returned (.tuple #[.agg (c.cells nv'), .bool there]) ∧ Ints w' nv' c.nodes ∧ Fresh w.heap.size nv' ∧ Upd (fun _ => False) w w'
theorem proposed_none (slot : Int) (w : World) (b m1 m2 m3 : Nat) (ballot frm : Int) (P B O : List (Int × Value)) (hb : 1 ≤ ballot) (h : TryAt w b m1 m2 m3 ballot frm P B O) (hp : aget O slot = none) :
    Calls Try.prog 16 #[.pointer (some ⟨b, 0, none⟩), .int .i64 slot] w (ProposedPost w ⟨0, 0, ⟨#[]⟩, 0, 0, 0, 0, 0, 0, 0, 0, []⟩ false) := by
  have hs : stateR 0 = 0 := by rw [stateR, if_pos (by omega)]
  have lp := look_prop
  obtain ⟨lb, l1, l2, l3⟩ := h.lts
  have c4 := h.c4
  have i3 := h.i3
  have HH := Lib.hid h; clear h
  go_enter Try.func16, Try.ntmps16
  go_wp2_with (go_at_call 34; refine (state_try _ (HH.out.old ((Upd.refl _ _).alloc _)) hb).mono ?_; rintro e w' ⟨rfl, rfl⟩)
  refine bodyPost_ret (v := .tuple #[.agg (CmdD.cells ⟨0, 0, ⟨#[]⟩, 0, 0, 0, 0, 0, 0, 0, 0, []⟩ (.slice none 0 0)), .bool false]) ?_ rfl ?_
  · simp [results, Try.results16, go_sem, CmdD.cells]
  · refine ⟨_, rfl, Ints.nil _, ?_, ?_⟩
    · intro b o n c hb
      cases hb
    · exact (Upd.refl _ _).alloc _
theorem prop_cells {w : World} {pb : Nat} {d : CmdD} {nv : Value} (hc : ∀ j, j < 12 → w.cell? ⟨pb, j, none⟩ = (d.cells nv)[j]?) :
    w.cell? ⟨pb, 0, none⟩ = some (.int .i64 d.id) ∧ w.cell? ⟨pb, 1, none⟩ = some (.int .i64 d.kind) ∧ w.cell? ⟨pb, 2, none⟩ = some (.string d.key) ∧ w.cell? ⟨pb, 3, none⟩ = some (.int .i64 d.blob) ∧ w.cell? ⟨pb, 4, none⟩ = some (.int .i64 d.other) ∧ w.cell? ⟨pb, 5, none⟩ = some (.int .i64 d.index) ∧
    w.cell? ⟨pb, 6, none⟩ = some (.int .i64 d.node) ∧ w.cell? ⟨pb, 7, none⟩ = some (.int .i64 d.size) ∧ w.cell? ⟨pb, 8, none⟩ = some (.int .u32 d.sum) ∧ w.cell? ⟨pb, 9, none⟩ = some (.int .i64 d.k) ∧ w.cell? ⟨pb, 10, none⟩ = some (.int .i64 d.m) ∧ w.cell? ⟨pb, 11, none⟩ = some nv :=
  ⟨hc 0 (by omega), hc 1 (by omega), hc 2 (by omega), hc 3 (by omega), hc 4 (by omega), hc 5 (by omega), hc 6 (by omega), hc 7 (by omega), hc 8 (by omega), hc 9 (by omega), hc 10 (by omega), hc 11 (by omega)⟩
theorem proposed_some (slot : Int) (w : World) (b m1 m2 m3 : Nat) (ballot frm : Int) (P B O : List (Int × Value)) (blk : Int → Nat × Nat) (g : Int → Option PropD) (p : PropD) (hb : 1 ≤ ballot) (h : TryAt w b m1 m2 m3 ballot frm P B O)
    (hg : Props w m1 m2 m3 O blk g) (hp : g slot = some p) :
    Calls Try.prog 16 #[.pointer (some ⟨b, 0, none⟩), .int .i64 slot] w (ProposedPost w p.cmd true) := by
  have hs : stateR 0 = 0 := by rw [stateR, if_pos (by omega)]
  have lp := look_prop
  obtain ⟨lb, l1, l2, l3⟩ := h.lts
  have c4 := h.c4
  have i3 := h.i3
  obtain ⟨ha, nv, N, hn, hc, hm, hN, hacc, _⟩ := hg.at hp
  obtain ⟨d0, d1, d2, d3, d4, d5, d6, d7, d8, d9, d10, d11⟩ := prop_cells hc
  have lpb := World.block_lt_of_cell? _ _ hm
  simp only [] at lpb
  clear hm hc hN hacc hg hp
  generalize (blk slot).1 = pb at ha lpb d0 d1 d2 d3 d4 d5 d6 d7 d8 d9 d10 d11
  obtain ⟨na, nc, rfl⟩ := hn.shape
  have HN := Lib.hid hn; clear hn
  have HH := Lib.hid h; clear h
  go_enter Try.func16, Try.ntmps16
  go_wp2_with (first
    | (go_at_call 34; refine (state_try _ (HH.out.old ((Upd.refl _ _).alloc _)) hb).mono ?_; rintro e w' ⟨rfl, rfl⟩)
    | (go_at_call 35; refine (own_any p.cmd _ _ (HN.out.old ((Upd.refl (fun _ => False) _).alloc _))).mono ?_; rintro e w' ⟨v', rfl, hv, hf, hn, hu⟩; obtain ⟨va, vc', rfl⟩ := hv.shape; have HV := Lib.hid hv; clear hv; have HF := Lib.hid hf; clear hf; clear hn; have HU2 := Lib.hid hu; obtain ⟨r1, r2, r3, r4⟩ := hu.old; clear hu; simp at r4; simp only [CmdD.cells]))
  have hu : Upd (fun _ => False) w w' := ((Upd.refl _ _).alloc _).trans HU2.out
  refine bodyPost_ret (v := .tuple #[.agg (p.cmd.cells (.slice va p.cmd.nodes.length vc')), .bool true]) ?_ rfl ?_
  · simp [results, Try.results16, go_sem, CmdD.cells, r1]
  · refine ⟨_, rfl, ?_, ?_, ?_⟩
    · iterate 12 (refine Ints.setCell ?_ _ _ (fun b o n c' hb => by have := HF.out b o n c' hb; simp at this ⊢; omega))
      exact HV.out
    · intro b o n c' hb
      have := HF.out b o n c' hb
      simp at this
      omega
    · iterate 12 (refine Upd.setCell ?_ (Or.inr (by simp)) _)
      exact hu
end Go.Proofs.Ytlichkheakjkhaa
