/-
  Propose.
-/
import Derived.Test.YtlichkheakjkhaaLead5
import Derived.Deep.DeepCutAuto
import Derived.Deep.CutBlock
import Derived.Deep.DeepMust
import Derived.Deep.RegionWith
namespace Go.Proofs.Ytlichkheakjkhaa
open Go Go.RowKit

/-- A proposal, as data: its command, and who accepted. -/
structure PropD where
  cmd : CmdD
  acc : Int → Bool
/-- A proposal in memory. -/
def PropAt (w : World) (m1 m2 m3 : Nat) (pb nb : Nat) (p : PropD) : Prop :=
  ∃ nv N, Ints w nv p.cmd.nodes ∧ (∀ j, j < 12 → w.cell? ⟨pb, j, none⟩ = (p.cmd.cells nv)[j]?) ∧ w.cell? ⟨pb, 12, none⟩ = some (.map (some nb)) ∧ w.im nb = some N ∧
    (∀ n, aget N n = if p.acc n then some (.bool true) else none) ∧ nb ≠ m1 ∧ nb ≠ m2 ∧ nb ≠ m3
/-- What is proposed, as a function; blk: where each proposal lies, and its nodes. -/
def Props (w : World) (m1 m2 m3 : Nat) (O : List (Int × Value)) (blk : Int → Nat × Nat) (g : Int → Option PropD) : Prop :=
  (∀ s, match g s with
    | none => aget O s = none
    | some p => aget O s = some (.pointer (some ⟨(blk s).1, 0, none⟩)) ∧ PropAt w m1 m2 m3 (blk s).1 (blk s).2 p) ∧
  ∀ s s', s ≠ s' → g s ≠ none → g s' ≠ none → (blk s).2 ≠ (blk s').2
theorem PropAt.upd {F : Nat → Prop} {w w' : World} {m1 m2 m3 pb nb : Nat} {p : PropD} (h : PropAt w m1 m2 m3 pb nb p) (u : Upd F w w') (hF : ∀ k, F k → (w.im k).isSome = true) (hn : ¬ F nb) : PropAt w' m1 m2 m3 pb nb p := by
  obtain ⟨nv, N, h1, h2, h3, h4, h5⟩ := h
  have hpb : ¬ F pb := fun h => by have := hF _ h; rw [cell_im h3] at this; cases this
  have lpb := World.block_lt_of_cell? _ _ h3
  refine ⟨nv, N, h1.updM u hF, fun j hj => ?_, (u.cell (p := ⟨pb, 12, none⟩) lpb hpb).trans h3, (u.im (im_lt (w := w) (by rw [h4]; rfl)) hn).trans h4, h5⟩
  exact (u.cell (p := ⟨pb, j, none⟩) lpb hpb).trans (h2 j hj)
theorem Props.upd {F : Nat → Prop} {w w' : World} {m1 m2 m3 : Nat} {O : List (Int × Value)} {blk : Int → Nat × Nat} {g : Int → Option PropD} (h : Props w m1 m2 m3 O blk g) (u : Upd F w w') (hF : ∀ k, F k → (w.im k).isSome = true) (hn : ∀ s, g s ≠ none → ¬ F (blk s).2) : Props w' m1 m2 m3 O blk g := by
  refine ⟨fun s => ?_, h.2⟩
  have := h.1 s
  cases hg : g s with
  | none => rw [hg] at this; exact this
  | some p => rw [hg] at this; exact ⟨this.1, this.2.upd u hF (hn s (by rw [hg]; simp))⟩
theorem Props.old {w w' : World} {m1 m2 m3 : Nat} {O : List (Int × Value)} {blk : Int → Nat × Nat} {g : Int → Option PropD} (h : Props w m1 m2 m3 O blk g) (u : Upd (fun _ => False) w w') : Props w' m1 m2 m3 O blk g := h.upd u (fun _ h => h.elim) (fun _ _ h => h)

theorem look_prop (w : World) (b : Nat) (k : Int) (ok : Bool) : (Instr.lookup 58 (.map (some b)) (.int .i64 k) ok).run Try.prog w =
    lookR (.pointer none) w k (LookElse Try.prog 58 b k ok w) ok (w.im b) :=
  run_lookup_any Try.underlying58 Try.underlying3 (fun _ => by kernel_rfl) w b k ok
theorem put_prop (w : World) (b : Nat) (k : Int) (v : Value) : (Instr.mapUpdate 58 (.map (some b)) (.int .i64 k) v).run Try.prog w = putR w b k v (PutElse Try.prog 58 b k v w) (w.im b) :=
  run_mapUpdate_any Try.underlying58 Try.underlying3 w b k v

def Ret0 (w : World) (r : Int) (e : Ending) (w' : World) : Prop := e = .returned (.int .i64 r) ∧ Upd (fun _ => False) w w'
theorem propose_low (slot : Int) (w : World) (b m1 m2 m3 : Nat) (ballot frm : Int) (P B O : List (Int × Value)) (c : CmdD) (v : Value) (hb : 1 ≤ ballot) (h : TryAt w b m1 m2 m3 ballot frm P B O) (hlo : slot < frm) :
    Calls Try.prog 14 #[.pointer (some ⟨b, 0, none⟩), .int .i64 slot, .agg (c.cells v)] w (Ret0 w 1) := by
  have hs : stateR 0 = 0 := by rw [stateR, if_pos (by omega)]
  simp only [CmdD.cells]
  obtain ⟨lb, l1, l2, l3⟩ := h.lts
  have c1 := h.c1
  go_enter Try.func14, Try.ntmps14
  go_wp2_with fail
  refine (state_try _ (h.old ((Upd.refl _ _).alloc _)) hb).mono ?_
  rintro e w' ⟨rfl, rfl⟩
  go_wp2_with fail
  go_ret
  exact ⟨rfl, (Upd.refl _ _).alloc _⟩
theorem right_one (b o : Nat) (x : Int) (w : World) (c : Nat) (h0 : w.cell? ⟨b, o, none⟩ = some (.int .i64 x)) :
    Calls Try.prog 33 #[.slice (some ⟨b, o, none⟩) 1 c] w fun e w' => e = .returned (.bool (!wrongB x)) ∧ w = w' := by
  have := right_any b o [x] w c (by simp) (fun j hj => by
    obtain rfl : j = 0 := by simpa using hj
    exact h0)
  simpa [wrongIn] using this
theorem propose_high (slot : Int) (w : World) (b m1 m2 m3 : Nat) (ballot frm : Int) (P B O : List (Int × Value)) (c : CmdD) (v : Value) (hb : 1 ≤ ballot) (h : TryAt w b m1 m2 m3 ballot frm P B O) (hlo : frm ≤ slot) (hw : wrongB slot = true) :
    Calls Try.prog 14 #[.pointer (some ⟨b, 0, none⟩), .int .i64 slot, .agg (c.cells v)] w (Ret0 w 1) := by
  have hs : stateR 0 = 0 := by rw [stateR, if_pos (by omega)]
  simp only [CmdD.cells]
  obtain ⟨lb, l1, l2, l3⟩ := h.lts
  have c1 := h.c1
  go_enter Try.func14, Try.ntmps14
  go_wp2_with fail
  refine (state_try _ (h.old ((Upd.refl _ _).alloc _)) hb).mono ?_
  rintro e w' ⟨rfl, rfl⟩
  go_wp2_with fail
  refine (right_one _ _ slot _ _ (by simp [go_sem])).mono ?_
  rintro e w' ⟨rfl, rfl⟩
  go_wp2_with fail
  go_ret
  exact ⟨rfl, ((Upd.refl _ _).alloc _).alloc _⟩
def thereR (p : PropD) (c : CmdD) : Int := if p.cmd.id = c.id then 0 else 82
theorem propose_there (slot : Int) (w : World) (b m1 m2 m3 : Nat) (ballot frm : Int) (P B O : List (Int × Value)) (blk : Int → Nat × Nat) (g : Int → Option PropD) (p : PropD) (c : CmdD) (v : Value) (hb : 1 ≤ ballot) (h : TryAt w b m1 m2 m3 ballot frm P B O) (hlo : frm ≤ slot) (hw : wrongB slot = false)
    (hg : Props w m1 m2 m3 O blk g) (hp : g slot = some p) :
    Calls Try.prog 14 #[.pointer (some ⟨b, 0, none⟩), .int .i64 slot, .agg (c.cells v)] w (Ret0 w (thereR p c)) := by
  have hs : stateR 0 = 0 := by rw [stateR, if_pos (by omega)]
  have lp := look_prop
  simp only [CmdD.cells]
  obtain ⟨lb, l1, l2, l3⟩ := h.lts
  have c1 := h.c1
  have c4 := h.c4
  have i3 := h.i3
  have := hg.1 slot
  rw [hp] at this
  obtain ⟨ha, nv, N, hn, hc, hm, _⟩ := this
  have hid : w.cell? ⟨(blk slot).1, 0, none⟩ = some (.int .i64 p.cmd.id) := hc 0 (by omega)
  have lpb := World.block_lt_of_cell? _ _ hid
  simp only [] at lpb
  clear hm hn hc
  generalize (blk slot).1 = pb at ha hid lpb
  have HH := Lib.hid h; clear h
  have HG := Lib.hid hg; clear hg
  clear hp
  by_cases hq : p.cmd.id = c.id
  · have hR : Hid (thereR p c = 0) := by unfold thereR; rw [if_pos hq]; rfl
    have hq' : (p.cmd.id != c.id) = false := by simpa using hq
    have HQ := Lib.hid hq; clear hq
    go_enter Try.func14, Try.ntmps14
    go_wp2_with fail
    refine (state_try _ (HH.out.old ((Upd.refl _ _).alloc _)) hb).mono ?_
    rintro e w' ⟨rfl, rfl⟩
    go_wp2_with fail
    refine (right_one _ _ slot _ _ (by simp [go_sem])).mono ?_
    rintro e w' ⟨rfl, rfl⟩
    go_wp2_with fail
    go_quiet (fail)
    go_wp2_with fail
    go_ret
    exact ⟨ret_int hR.out.symm, (((Upd.refl _ _).alloc _).alloc _).drewN _⟩
  · have hR : Hid (thereR p c = 82) := by unfold thereR; rw [if_neg hq]; rfl
    have hq' : (p.cmd.id != c.id) = true := by simpa using hq
    have HQ := Lib.hid hq; clear hq
    go_enter Try.func14, Try.ntmps14
    go_wp2_with fail
    refine (state_try _ (HH.out.old ((Upd.refl _ _).alloc _)) hb).mono ?_
    rintro e w' ⟨rfl, rfl⟩
    go_wp2_with fail
    refine (right_one _ _ slot _ _ (by simp [go_sem])).mono ?_
    rintro e w' ⟨rfl, rfl⟩
    go_wp2_with fail
    go_quiet (fail)
    go_wp2_with fail
    go_ret
    exact ⟨ret_int hR.out.symm, (((Upd.refl _ _).alloc _).alloc _).drewN _⟩

/-- Behind the making of a proposal. -/
def CutN (w : World) (slot : Int) (c : CmdD) (m3 : Nat) (O : List (Int × Value)) (wc : World) : Prop :=
  ∃ pb nb nv, wc.im m3 = some (aput O slot (.pointer (some ⟨pb, 0, none⟩))) ∧ Ints wc nv c.nodes ∧ (∀ j, j < 12 → wc.cell? ⟨pb, j, none⟩ = (c.cells nv)[j]?) ∧ wc.cell? ⟨pb, 12, none⟩ = some (.map (some nb)) ∧
    wc.im nb = some [] ∧ w.heap.size ≤ pb ∧ w.heap.size ≤ nb ∧ Upd (fun k => k = m3) w wc
def CmdD.cells13 (d : CmdD) (v : Value) (nb : Nat) : Array Value :=
  #[.int .i64 d.id, .int .i64 d.kind, .string d.key, .int .i64 d.blob, .int .i64 d.other, .int .i64 d.index, .int .i64 d.node, .int .i64 d.size, .int .u32 d.sum, .int .i64 d.k, .int .i64 d.m, v, .map (some nb)]
theorem cells13_lt (d : CmdD) (v : Value) (nb : Nat) : ∀ j, j < 12 → (d.cells13 v nb)[j]? = (d.cells v)[j]? := by
  intro j hj
  match j, hj with
  | 0, _ => rfl | 1, _ => rfl | 2, _ => rfl | 3, _ => rfl | 4, _ => rfl | 5, _ => rfl | 6, _ => rfl | 7, _ => rfl | 8, _ => rfl | 9, _ => rfl | 10, _ => rfl | 11, _ => rfl
theorem cutN_mk {w w' X wc : World} {slot : Int} {c : CmdD} {m3 nb : Nat} {O : List (Int × Value)} {v : Value} (hX : Upd (fun _ => False) w' X) (u3 : Upd (fun _ => False) w w') (wi3 : w'.im m3 = some O) (hv : Ints w' v c.nodes)
    (hnb : X.im nb = some []) (hlo : w.heap.size ≤ nb) (l3 : m3 < w.heap.size) {n : Nat} (hn : n = X.heap.size) (he : wc = (X.alloc (.cells (c.cells13 v nb) 76)).mput m3 (.int .i64 slot) (.pointer (some ⟨n, 0, none⟩))) : CutN w slot c m3 O wc := by
  subst hn
  subst he
  have hX' : Upd (fun _ => False) w' (X.alloc (.cells (c.cells13 v nb) 76)) := hX.alloc _
  have hi3 : (X.alloc (.cells (c.cells13 v nb) 76)).im m3 = some O := (hX'.im (im_lt (w := w') (by rw [wi3]; rfl)) (fun h => h)).trans wi3
  have hne : nb ≠ m3 := by omega
  refine ⟨X.heap.size, nb, v, im_mput_same hi3 _, (hv.old hX').mput _ _ _, fun j hj => ?_, ?_, ?_, ?_, hlo, ((u3.trans hX').mono (fun _ _ h => h.elim)).mput (by exact Or.inl rfl) _ _⟩
  · rw [cell_mput, World.cell?_alloc_at _ _ _ _ rfl]; exact cells13_lt c v nb j hj
  · rw [cell_mput, World.cell?_alloc_at _ _ _ _ rfl]; rfl
  · rw [im_mput_other _ _ hne, im_alloc_old _ (im_lt (w := X) (by rw [hnb]; rfl))]; exact hnb
  · have := u3.size; have := hX.size; omega
set_option maxHeartbeats 2000000 in
theorem propose_new (slot : Int) (w : World) (b m1 m2 m3 : Nat) (ballot frm : Int) (P B O : List (Int × Value)) (c : CmdD) (v : Value) (hb : 1 ≤ ballot) (h : TryAt w b m1 m2 m3 ballot frm P B O) (hlo : frm ≤ slot) (hw : wrongB slot = false)
    (hn : Ints w v c.nodes) (hp : aget O slot = none) :
    Calls Try.prog 14 #[.pointer (some ⟨b, 0, none⟩), .int .i64 slot, .agg (c.cells v)] w (fun e w' => e = .returned (.int .i64 0) ∧ CutN w slot c m3 O w') := by
  have hs : stateR 0 = 0 := by rw [stateR, if_pos (by omega)]
  have lp := look_prop
  have pp := put_prop
  have hmm := @run_makeMap Try.prog
  obtain ⟨va, vc, rfl⟩ := hn.shape
  simp only [CmdD.cells]
  obtain ⟨lb, l1, l2, l3⟩ := h.lts
  have c1 := h.c1
  have c4 := h.c4
  have i3 := h.i3
  have HN := Lib.hid hn; clear hn
  have HH := Lib.hid h; clear h
  go_enter Try.func14, Try.ntmps14
  go_wp2_with fail
  refine (state_try _ (HH.out.old ((Upd.refl _ _).alloc _)) hb).mono ?_
  rintro e w' ⟨rfl, rfl⟩
  go_wp2_with fail
  refine (right_one _ _ slot _ _ (by simp [go_sem])).mono ?_
  rintro e w' ⟨rfl, rfl⟩
  have lb1 : b < w.heap.size + 1 := by omega
  have lb2 : b < w.heap.size + 1 + 1 := by omega
  have lb3 : b < w.heap.size + 1 + 1 + 1 := by omega
  go_upto_region 11 with (fail)
  go_cut [] (fun wc => CutN w slot c m3 O wc)
  case first =>
    go_region_with (go_at_call 35; refine (own_any c (.slice va c.nodes.length vc) _ (by first | exact HN.out.old ((((Upd.refl (fun _ => False) _).alloc _).alloc _).drew) | exact HN.out.old (((((Upd.refl (fun _ => False) _).alloc _).alloc _).drew).alloc _) | exact HN.out.old (((((Upd.refl (fun _ => False) _).alloc _).alloc _).alloc _).drew))).mono ?_; rintro e w' ⟨v', rfl, hv, hf, hn, hu⟩; obtain ⟨va', vc', rfl⟩ := hv.shape; obtain ⟨r1, r2, r3, r4⟩ := hu.old; have U3 : Upd (fun _ => False) w w' := (by first | exact ((((Upd.refl (fun _ => False) _).alloc _).alloc _).drew).trans hu | exact (((((Upd.refl (fun _ => False) _).alloc _).alloc _).drew).alloc _).trans hu | exact (((((Upd.refl (fun _ => False) _).alloc _).alloc _).alloc _).drew).trans hu); have wc4 := (U3.cell (p := ⟨b, 4, none⟩) lb (fun h => h)).trans c4; have wi3 := (U3.im l3 (fun h => h)).trans i3; have lbw : b < w'.heap.size := (by have := U3.size; omega); have lbw1 : b < w'.heap.size + 1 := (by omega); have lbw2 : b < w'.heap.size + 1 + 1 := (by omega); have HV := Lib.hid hv; clear hv; have HF := Lib.hid hf; clear hf hn; have HU := Lib.hid hu; clear hu; have HU3 := Lib.hid U3; clear U3; clear r1 r2 r3; simp only [CmdD.cells])
    all_goals
      go_wp2_with fail
      go_meet
      case rel =>
        first
        | exact cutN_mk (X := w'.alloc (.map #[] 0)) (nb := w'.heap.size) ((Upd.refl _ _).alloc _) HU3.out wi3 HV.out (by rw [im_alloc, im_past0, if_pos rfl, imO_made]; rfl) HU3.out.size l3 (by simp) rfl
        | exact cutN_mk (X := w') (nb := w.heap.size + 1 + 1) (Upd.refl _ _) HU3.out wi3 HV.out ((HU.out.im (by simp) (fun h => h)).trans (by simp [go_sem])) (by omega) l3 rfl rfl
  case rest =>
    have HC := Lib.hid hcut; clear hcut
    go_wp2_with fail
    go_ret
    exact ⟨rfl, HC.out⟩
end Go.Proofs.Ytlichkheakjkhaa
