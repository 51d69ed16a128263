/-
  The reference's CopyMsg.
-/
import Derived.Test.YtfodgohleioflaaRefCopy
import Derived.Test.YtfodgohleioflaaLib10
import Derived.Deep.RegionHeld3
import Derived.Deep.RegionLaw
namespace Go.Proofs.Ytfodgohleioflaa
open Go Go.RowKit Go.MapKept Go.ChangeMaps
set_option linter.unusedVariables false

theorem block_setPart {w : World} {b : Nat} {ty : TypeId} {fr : Nat × Nat} {C0 C1 : Array Value} (h : w.heap[b]? = some (.cells C0 ty fr)) (vs : List Value) (o : Nat) (hs : C1.size = C0.size) (hfit : o + vs.length ≤ C0.size)
    (hin : ∀ j (hj : j < vs.length), C1[o + j]? = some vs[j]) (hout : ∀ i, i < C0.size → (i < o ∨ o + vs.length ≤ i) → C1[i]? = C0[i]?) : (w.setCells b o vs).heap[b]? = some (.cells C1 ty fr) := by
  obtain ⟨C', h1, h2⟩ := heap_setCells b ty fr vs o w C0 h
  rw [h1]
  have : C' = C1 := by
    refine Array.ext (by omega) (fun i hi hi' => ?_)
    have e : C'[i]? = C1[i]? := by
      rw [← cell_block h1 i]
      by_cases hj : o ≤ i ∧ i < o + vs.length
      · have := World.cell?_setCells_in b vs o w (fun j hj => by rw [cell_block h, Array.getElem?_eq_getElem (by omega)]; rfl) (i - o) (by omega)
        rw [show o + (i - o) = i by omega] at this
        rw [this, ← hin (i - o) (by omega), show o + (i - o) = i by omega]
      · rw [World.cell?_setCells_out b vs o w ⟨b, i, none⟩ (fun _ _ => by show i < o ∨ o + vs.length ≤ i; omega), cell_block h, hout i (by omega) (by omega)]
    rw [Array.getElem?_eq_getElem hi, Array.getElem?_eq_getElem hi'] at e
    injection e
  rw [this]
theorem block_setCmd {w : World} {b : Nat} {d : MsgD} {nv vv bv : Value} (h : w.heap[b]? = some (.cells (msgC d nv vv bv) 34 (0, 0))) (nv' : Value) :
    (w.setCells b 10 (cmdC d.cmd nv').toList).heap[b]? = some (.cells (msgC d nv' vv bv) 34 (0, 0)) := by
  refine block_setPart h _ 10 rfl (by show 10 + 12 ≤ 24; omega) (fun j hj => ?_) (fun i hi ho => ?_)
  · have hj' : j < 12 := hj
    rcases j with _ | _ | _ | _ | _ | _ | _ | _ | _ | _ | _ | _ | j <;> first | rfl | omega
  · have hi' : i < 24 := hi
    have ho' : i < 10 ∨ 22 ≤ i := ho
    rcases i with _ | _ | _ | _ | _ | _ | _ | _ | _ | _ | i
    iterate 10 rfl
    rcases i with _ | _ | _ | _ | _ | _ | _ | _ | _ | _ | _ | _ | _ | _ | i <;> first | rfl | omega
theorem grow_setCells (b : Nat) : ∀ (vs : List Value) (o : Nat) (w : World), Grow w (w.setCells b o vs)
  | [], _, w => Grow.refl w
  | v :: r, o, w => (Grow.setCell w b o v).trans (grow_setCells b r (o + 1) _)
theorem heap_setCells_ne {b k : Nat} (hk : k ≠ b) : ∀ (vs : List Value) (o : Nat) (w : World), (w.setCells b o vs).heap[k]? = w.heap[k]?
  | [], _, w => rfl
  | v :: r, o, w => (heap_setCells_ne hk r (o + 1) _).trans (RowKit.Below.heap_setCell _ _ _ _ hk)
section
variable {w : World} {ops : Array Oper} {rest : List Oper} {o : Oper} {a : Act} {Q : Exit → Act → World → Prop}
theorem wpList_store_cmd (hg : o.guard = none) (x y : Operand) (ho : o.op = .store 30 x y) (w0 : World) (d : MsgD) (nv vv bv nv' : Value) (hx : a.eval x = .pointer (some ⟨w0.heap.size, 10, none⟩)) (hy : a.eval y = .agg (cmdC d.cmd nv')) (hn : nv'.oneCell' = true)
    (hl : LocAt w0 w d nv vv bv) (h : ∀ w', LocAt w0 w' d nv' vv bv → Grow w w' → Upd (fun k => k = w0.heap.size) w w' → wpList Try.prog ops Q rest (a.put o.dst undef) w') : wpList Try.prog ops Q (o :: rest) a w := by
  refine wpList_store_mid hg 30 x y ho w0.heap.size 10 (cmdC d.cmd nv') hx hy (fun j hj => ?_) (by show _ = some 12; kernel_rfl) (cmdC_one _ _ hn) ?_
  · have hj' : j < 12 := hj
    refine ⟨?_, hl.cells.2.2.2 _⟩
    rw [cell_block hl.loc, Array.getElem?_eq_getElem (by show 10 + j < 24; omega)]; rfl
  · exact h _ ⟨block_setCmd hl.loc nv', (heap_setCells_ne (by omega) _ _ _).trans hl.res, Upd.setCells (Or.inr (Nat.le_refl _)) _ _ _ hl.up⟩ (grow_setCells _ _ _ _) (Upd.setCells (F := fun k => k = w0.heap.size) (Or.inl rfl) _ _ _ (Upd.refl _ _))
end
theorem made1 (w : World) (e : TypeId) (k : Nat) : (w.alloc (.cells #[] e)).ownsRow w.heap.size e k (.slice (some ⟨w.heap.size, 0, none⟩) 0 0) 0 [] :=
  World.ownsRow_made w (base := w.heap.size) (e := e) (size := k) #[] 0 (Nat.le_refl _) (Nat.zero_le _) (by simp)
/-- Behind q of the votes. -/
def VoRel (w w4 : World) (d : MsgD) (nv vv bv : Value) (lv i : Value) (wr : World) : Prop := ∃ (q : Nat) (nvs : List Value), q ≤ d.votes.length ∧ i = .int .i64 (q : Int) ∧ nvs.length = q ∧ wr.ownsRow w4.heap.size 71 14 lv q (List.zipWith voteC (d.votes.take q) nvs).flatten ∧
  (∀ j, j < q → Ints wr (nvs.getD j undef) (d.votes.getD j default).nodes ∧ Inn (MemT 3 w.heap.size wr) (nvs.getD j undef)) ∧ Upd (fun _ => False) w4 wr
theorem vo_step {w w4 wr w5 w6 : World} {d : MsgD} {nv vv bv lv v' nv5 : Value} {q B5 : Nat} {nvs : List Value} {X : Obj} (hq : q < d.votes.length) (hnl : nvs.length = q)
    (hown : wr.ownsRow w4.heap.size 71 14 lv q (List.zipWith voteC (d.votes.take q) nvs).flatten) (hns : ∀ j, j < q → Ints wr (nvs.getD j undef) (d.votes.getD j default).nodes ∧ Inn (MemT 3 w.heap.size wr) (nvs.getD j undef)) (hu : Upd (fun _ => False) w4 wr) (hw : w.heap.size ≤ wr.heap.size)
    (u5 : Upd (fun _ => False) wr w5) (h5 : Ints w5 nv5 (d.votes.getD q default).nodes) (i5 : Inn (MemT 3 B5 w5) nv5) (hB5 : wr.heap.size ≤ B5) (ho6 : w6.ownsRow w4.heap.size 71 14 v' (q + 1) ((List.zipWith voteC (d.votes.take q) nvs).flatten ++ voteC (d.votes.getD q default) nv5))
    (hu6 : Upd (fun b => some b = lv.ownBlock) (w5.alloc X) w6) : VoRel w w4 d nv vv bv v' (.int .i64 ((q : Int) + 1)) w6 := by
  have hua : Upd (fun _ => False) wr (w5.alloc X) := u5.alloc _
  have hoa := owns_upd hown hua (fun _ _ h => h)
  refine ⟨q + 1, nvs ++ [nv5], hq, by simp, by simp [hnl], ?_, fun j hj => ?_, (hu.trans hua).trans' hu6 (fun i hi e => owns_far hown hi e)⟩
  · have e : List.zipWith voteC (d.votes.take (q + 1)) (nvs ++ [nv5]) = List.zipWith voteC (d.votes.take q) nvs ++ [voteC (d.votes.getD q default) nv5] := by
      rw [List.take_succ_eq_append_getElem hq, List.zipWith_append (by simp; omega)]
      rw [List.getD_eq_getElem?_getD, List.getElem?_eq_getElem hq]
      rfl
    rw [e, List.flatten_append]; simpa using ho6
  · by_cases e : j < q
    · rw [List.getD_eq_getElem?_getD, List.getElem?_append_left (by omega), ← List.getD_eq_getElem?_getD]
      obtain ⟨h1, h2⟩ := hns j e
      have hm : ∀ k, MemT 3 w.heap.size wr k → ¬ some k = lv.ownBlock := fun k hk => not_memT_own hown (by decide) hk
      exact ⟨(h1.old hua).updS hu6 h2 hm, h2.mono (fun k hk => (hk.grow (Grow.old hua)).upd hu6 (hm k hk))⟩
    · obtain rfl : j = q := by omega
      rw [List.getD_eq_getElem?_getD, List.getElem?_append_right (by omega), hnl, Nat.sub_self]
      show Ints _ nv5 _ ∧ Inn _ nv5
      have hga : Grow w5 (w5.alloc X) := Grow.old ((Upd.refl _ _).alloc _)
      have hm : ∀ k, MemT 3 B5 w5 k → ¬ some k = lv.ownBlock := fun k hk => not_memT_own hoa (by decide) (hk.grow hga)
      exact ⟨(h5.old ((Upd.refl _ _).alloc X)).updS hu6 i5 hm, i5.mono (fun k hk => (((hk.grow hga).upd hu6 (hm k hk))).low (by omega))⟩
theorem owns_len {w : World} {base : Nat} {e : TypeId} {k n : Nat} {v : Value} {xs : List Value} (h : w.ownsRow base e k v n xs) : ∃ a c, v = .slice a n c := by
  obtain ⟨_, ⟨rfl, rfl⟩ | ⟨g, cap, cur, rfl, _⟩⟩ := h
  · exact ⟨none, 0, rfl⟩
  · exact ⟨_, cap, rfl⟩
theorem zip_rows {l : List VoteD} {nvs : List Value} (hl : nvs.length = l.length) : ∀ r ∈ List.zipWith voteC l nvs, r.length = 14 := fun r hr => by
  obtain ⟨i, e⟩ := List.mem_iff_getElem?.1 hr
  have hi := (List.getElem?_eq_some_iff.1 e).1
  rw [zip_length hl] at hi
  have := zip_get hl hi
  rw [List.getD_eq_getElem?_getD, e] at this
  simp only [Option.getD_some] at this
  rw [this]; rfl
theorem vo_end {wr : World} {d : MsgD} {nv lv bv : Value} {B B4 : Nat} {nvs : List Value} (hnl : nvs.length = d.votes.length) (hown : wr.ownsRow B4 71 14 lv d.votes.length (List.zipWith voteC d.votes nvs).flatten)
    (hns : ∀ j, j < d.votes.length → Ints wr (nvs.getD j undef) (d.votes.getD j default).nodes ∧ Inn (MemT 3 B wr) (nvs.getD j undef)) (hn : Ints wr nv d.nodes) (hin : Inn (Mem B wr) nv) (hb : Byts wr bv d.bytes) (hib : Inn (Mem B wr) bv) (hB : B ≤ B4) (hbig : d.votes.length * 136 ≤ 140737488355328) :
    MsgAt (Mem B wr) wr (msgC d nv lv bv) d := by
  have hrow := Row.of_clone (zip_rows hnl) (by rw [zip_length hnl]; exact hown)
  refine ⟨nv, lv, bv, rfl, hn, hin, ⟨nvs, hnl, hrow, hbig, fun i hi => (hns i hi).1⟩, (inn_of_owns hown (by simp)).mono (fun k hk => hk.low hB), fun b o n c e i hi u hu => ?_, hb, hib⟩
  rcases hrow with ⟨h0, a, c', e', _⟩ | ⟨b', o', cap, e', _, _, hc⟩
  · rw [e] at e'; cases e'; omega
  · have hz := zip_length hnl
    rw [e, hz] at e'
    injection e' with e1 e2 _
    injection e1 with e1
    injection e1 with eb eo _
    subst eb eo e2
    rw [hc i 13 (by omega) (by omega), zip_get hnl hi] at hu
    have : (voteC (d.votes.getD i default) (nvs.getD i undef))[13]? = some (nvs.getD i undef) := rfl
    rw [this] at hu
    cases hu
    exact (hns i hi).2.mono (fun k hk => hk.mem (by simp))
noncomputable def LoadCmd (v : Value) : Sem Value := Instr.loadAt 30 v
theorem hide_loadC (v : Value) : Instr.loadAt 30 v = LoadCmd v := rfl
attribute [local go_sem ↓] hide_loadC
theorem loadCmd_of {w : World} {b : Nat} {d : VoteD} {nv : Value} (hb : w.heap[b]? = some (.cells (voteC d nv).toArray 71 (0, 0))) : (LoadCmd (.pointer (some ⟨b, 2, none⟩))).run Try.prog w = .ok (.agg (cmdC d.cmd nv)) w := by
  have := run_loadVar_cells (P := Try.prog) (w := w) ⟨b, 2, none⟩ (cmdC d.cmd nv) (Try.isAgg30 w) (Try.sizeOf30 w) (fun j hj => cmd_in hb j hj)
  have e : ((pure (⟨b, 2, none⟩ : Addr) : Sem Addr).run Try.prog w) = .ok ⟨b, 2, none⟩ w := rfl
  unfold LoadCmd
  simp only [Instr.loadAt, Instr.sureAddr, Sem.run_bind, e, this, Result.andThen]
noncomputable def BuildV (parts : Array (Nat × Value)) : Sem Value := Instr.build 71 parts
theorem hide_buildV (parts : Array (Nat × Value)) : Instr.build 71 parts = BuildV parts := rfl
attribute [local go_sem ↓] hide_buildV
theorem run_buildV (d : VoteD) (nv : Value) (w : World) : (BuildV #[(0, .int .i64 d.slot), (1, .int .i64 d.ballot), (2, .agg (cmdC d.cmd nv))]).run Try.prog w = .ok (.agg (voteC d nv).toArray) w :=
  run_build w 71 _ _ (by kernel_rfl)
attribute [local go_sem] run_buildV
noncomputable def BuildVs (parts : Array (Nat × Value)) : Sem Value := Instr.buildSlice 31 1 parts
theorem hide_buildVs (parts : Array (Nat × Value)) : Instr.buildSlice 31 1 parts = BuildVs parts := rfl
attribute [local go_sem ↓] hide_buildVs
theorem run_buildVs (d : VoteD) (nv : Value) (w : World) : (BuildVs #[(0, .agg (voteC d nv).toArray)]).run Try.prog w = .ok (.slice (some ⟨w.heap.size, 0, none⟩) 1 1) (w.alloc (.cells (voteC d nv).toArray 71)) := by
  obtain ⟨i0, hi, hz0, hz1, hz2⟩ := info_parts info_vote
  exact run_buildSlice w 31 71 1 _ (voteC d nv).toArray i0 _ Try.underlying31 hi hz0 (by rw [hz1]; decide) (by rw [hz1]; decide) (by rw [hz1]; kernel_rfl)
attribute [local go_sem] run_buildVs
theorem not_own_blk {wr : World} {base n sz : Nat} {e : TypeId} {v : Value} {xs : List Value} {N : Nat} (h : wr.ownsRow base e sz v n xs) (_ : N = wr.heap.size + 1) (hk : some wr.heap.size = v.ownBlock) : False := by
  have := h.lt _ hk.symm
  omega
theorem scmd_old {F : Nat → Prop} {w w' : World} {b : Nat} {d : VoteD} {nv : Value} (h : w.heap[b]? = some (.cells (voteC d nv).toArray 71 (0, 0))) (u : Upd F w w') (hF : ¬ F b) : w'.heap[b]? = some (.cells (voteC d nv).toArray 71 (0, 0)) :=
  (u.block b (Array.getElem?_eq_some_iff.1 h).1 hF).trans h
theorem scmd_of {w : World} {b : Nat} {d : VoteD} {nv : Value} (h : w.heap[b]? = some (.cells (voteC d nv).toArray 71 (0, 0))) : w.cell? ⟨b, 0, none⟩ = some (.int .i64 d.slot) ∧ w.cell? ⟨b, 1, none⟩ = some (.int .i64 d.ballot) ∧ (LoadCmd (.pointer (some ⟨b, 2, none⟩))).run Try.prog w = .ok (.agg (cmdC d.cmd nv)) w :=
  ⟨(cell_block h 0).trans rfl, (cell_block h 1).trans rfl, loadCmd_of h⟩
set_option maxRecDepth 100000 in
set_option maxHeartbeats 4000000 in
theorem copy_msg (w : World) (S : Nat → Prop) (C : Array Value) (d : MsgD) (h : MsgAt S w C d) : Calls Try.prog 13 #[.agg C] w (OwnP w d) := by
  obtain ⟨nv, vv, bv, rfl, hn, _, hv, _, _, hb, _⟩ := h
  obtain ⟨na, nk, rfl⟩ := hn.shape
  obtain ⟨va, vc, rfl, _⟩ := hv.cells
  have HN := Lib.hid hn; clear hn
  have HB := Lib.hid hb; clear hb
  have HV := Lib.hid hv; clear hv
  have hl0 : LocAt w ((w.alloc (.cells (msgC d (.slice na d.nodes.length nk) (.slice va d.votes.length vc) bv) 34)).alloc (.cells (msgN 0) 34)) d (.slice na d.nodes.length nk) (.slice va d.votes.length vc) bv := by
    obtain ⟨k1, k2, k3, _⟩ := two_alloc w (msgC d (.slice na d.nodes.length nk) (.slice va d.votes.length vc) bv) (msgN 0) 34 34
    exact ⟨k2, k3, k1⟩
  have HL0 := Lib.hid hl0; clear hl0
  obtain ⟨i0, hi, hz0, hz1, hz2⟩ := info_parts info_byte
  have HI := Lib.hid hi; clear hi
  have HZ0 := Lib.hid hz0; clear hz0
  have HZ1 := Lib.hid hz1; clear hz1
  have HZ2 := Lib.hid hz2; clear hz2
  unfold msgC
  go_enter Try.func13, Try.ntmps13
  go_wp2_with (first
    | (refine wpList_load_cells rfl 30 _ rfl ⟨w.heap.size, 10, none⟩ rfl (cmdC d.cmd (.slice na d.nodes.length nk)) Try.isAgg30 Try.sizeOf30 (fun j hj => cmd_in_msg HL0.out.loc j hj) ?_)
    | (go_at_call 25; refine (copy_cmd _ d.cmd _ d.nodes (HN.out.old HL0.out.up)).mono ?_; rintro e w1 ⟨a1, k1, rfl, hn1, hi1, hu1⟩; have HN1 := Lib.hid hn1; clear hn1; have HI1 := Lib.hid hi1; clear hi1; have HL1 := Lib.hid (HL0.out.old hu1); clear hu1)
    | (refine wpList_store_cmd rfl _ _ rfl w d (.slice na d.nodes.length nk) (.slice va d.votes.length vc) bv (.slice a1 d.nodes.length k1) rfl rfl rfl HL1.out ?_
       intro w2 hl2 hg2 hu2
       obtain ⟨-, k22, k23, kf⟩ := hl2.cells
       have HL2 := Lib.hid hl2; clear hl2
       have HG2 := Lib.hid hg2; clear hg2
       have HU2 := Lib.hid hu2; clear hu2
       have hlt2 : w.heap.size < w2.heap.size := by have := HL2.out.lt; omega)
    | (at_builtin; go_must (refine wpList_append_row rfl _ _ 32 rfl w2.heap.size 5 i0 _ 1 1 Try.underlying32 HI.out HZ0.out HZ1.out HZ2.out rfl (by decide) _ 0 [] rfl ?hown _ (d.bytes.map fun x => [.int .u8 x]) rfl ?hrow ?hone ?hlen ?hbytes ?hbase ?_)))
  case hown => exact made1 w2 5 1
  case hrow => exact ((HB.out.old HL2.out.up).old ((Upd.refl _ _).alloc _)).1
  case hone => intro r hr u hu; obtain ⟨x, _, rfl⟩ := List.mem_map.1 hr; simp only [List.mem_singleton] at hu; subst hu; rfl
  case hlen => have := HB.out.2; simp only [List.length_map, Nat.zero_add]; unfold maxLen; omega
  case hbytes => have := HB.out.2; simp only [List.length_map, Nat.zero_add]; omega
  case hbase => simp
  intro v' w3 hown' hu'
  have hil := inn_of_ownsT hown'
  obtain ⟨hb', -⟩ := Byts.of_clone HB.out.2 (by rw [List.length_map]; exact hown')
  obtain ⟨ba', bc', rfl⟩ := hb'.shape
  clear hown'
  have hu3 : Upd (fun _ => False) w2 w3 := ((Upd.refl (fun _ => False) w2).alloc (.cells #[] 5)).trans' hu' (fun i hi e => by simp [Value.ownBlock] at e; omega)
  clear hu'
  have hl3 := HL2.out.old hu3
  obtain ⟨-, m22, m23, mf⟩ := hl3.cells
  have hl4 := (hl3.set (.slice ba' d.bytes.length bc')).2.2
  have hg4 : Grow w1 (w3.setCell ⟨w.heap.size, 23, none⟩ (.slice ba' d.bytes.length bc')) := (HG2.out.trans (Grow.old hu3)).trans (Grow.setCell _ _ _ _)
  have hu4 : Upd (fun k => k = w.heap.size) w1 (w3.setCell ⟨w.heap.size, 23, none⟩ (.slice ba' d.bytes.length bc')) := (HU2.out.trans (hu3.mono (fun _ _ h => h.elim))).setCell (p := ⟨w.heap.size, 23, none⟩) (Or.inl rfl) _
  have hb4 : Byts (w3.setCell ⟨w.heap.size, 23, none⟩ (.slice ba' d.bytes.length bc')) (.slice ba' d.bytes.length bc') d.bytes :=
    hb'.updS ((Upd.refl (fun k => k = w.heap.size) w3).setCell (p := ⟨w.heap.size, 23, none⟩) (Or.inl rfl) _) hil (fun k hk e => by have := hk.1; omega)
  have hi4 : Inn (Mem w.heap.size (w3.setCell ⟨w.heap.size, 23, none⟩ (.slice ba' d.bytes.length bc'))) (.slice ba' d.bytes.length bc') :=
    hil.mono (fun k hk => ((hk.grow (Grow.setCell w3 w.heap.size 23 (.slice ba' d.bytes.length bc'))).low (B' := w.heap.size) (by omega)).mem (by simp))
  have hn4 : Ints (w3.setCell ⟨w.heap.size, 23, none⟩ (.slice ba' d.bytes.length bc')) (.slice a1 d.nodes.length k1) d.nodes :=
    HN1.out.updS hu4 HI1.out (fun k hk e => by have h1 := hk.1; have h2 := HL0.out.lt; omega)
  have hj4 : Inn (Mem w.heap.size (w3.setCell ⟨w.heap.size, 23, none⟩ (.slice ba' d.bytes.length bc'))) (.slice a1 d.nodes.length k1) :=
    HI1.out.mono (fun k hk => ((hk.grow hg4).low (B' := w.heap.size) (by have h2 := HL0.out.lt; omega)).mem (by simp))
  have HL4 := Lib.hid hl4; clear hl4 hl3
  have HB4 := Lib.hid hb4; clear hb4 hb'
  have HI4 := Lib.hid hi4; clear hi4 hil
  have HN4 := Lib.hid hn4; clear hn4
  have HJ4 := Lib.hid hj4; clear hj4 hg4 hu4 hu3
  clear k22 k23 kf
  go_wp2_with fail
  generalize (w3.setCell ⟨w.heap.size, 23, none⟩ (.slice ba' d.bytes.length bc')) = w4 at HL4 HB4 HI4 HN4 HJ4 ⊢
  clear m22 m23 mf
  go_loopw [3, 18] (fun v i wr => VoRel w w4 d (.slice a1 d.nodes.length k1) (.slice va d.votes.length vc) (.slice ba' d.bytes.length bc') v i wr) (fun _ i _ => d.votes.length - (intOf i).toNat)
  case atStart => exact ⟨0, [], Nat.zero_le _, rfl, rfl, ⟨rfl, .inl ⟨rfl, rfl⟩⟩, fun j hj => absurd hj (Nat.not_lt_zero j), Upd.refl _ _⟩
  case round =>
    obtain ⟨q, nvs, hq, rfl, hnl, hown, hns, hu⟩ := hrel
    by_cases hlt : q < d.votes.length
    · have huw := HL4.out.up.trans hu
      obtain ⟨va', vc', e1, _, hcs⟩ := (HV.out.updF huw).cells
      injection e1 with e1 _ e2
      subst e1 e2
      obtain ⟨b, o, rfl, nvq, hnq, hc⟩ := hcs q hlt
      clear hcs
      have HSTEP := Lib.hid (fun (w5 w6 : World) (v' nv5 : Value) (X : Obj) (B5 : Nat) => vo_step (w5 := w5) (w6 := w6) (v' := v') (nv5 := nv5) (nv := .slice a1 d.nodes.length k1) (vv := .slice (some ⟨b, o, none⟩) d.votes.length vc) (bv := .slice ba' d.bytes.length bc') (X := X) (B5 := B5) hlt hnl hown hns hu huw.size)
      have HOWN := Lib.hid hown; clear hown
      have HUW := Lib.hid huw; clear huw
      have HNS := Lib.hid hns; clear hns
      have hu4s := hu.size
      have HU4 := Lib.hid hu; clear hu
      have hbw : b < wr.heap.size := World.block_lt_of_cell? _ _ (show wr.cell? ⟨b, o + q * 14 + 0, none⟩ = some (.int .i64 (d.votes.getD q default).slot) from hc 0 (by omega))
      generalize (List.zipWith voteC (d.votes.take q) nvs).flatten = xs at HOWN HSTEP
      have hbv : d.votes.length * 136 ≤ 140737488355328 := by obtain ⟨_, _, _, hb, _⟩ := HV.out; exact hb
      obtain ⟨pa, pn, pc, rfl⟩ := hnq.slice
      generalize (d.votes.getD q default) = vq at hnq hc HSTEP
      have hload : ∀ j, j < (voteC vq (.slice pa pn pc)).toArray.size → wr.cell? ((⟨b, o + q * 14, none⟩ : Addr).add j) = (voteC vq (.slice pa pn pc)).toArray[j]? := fun j hj => by rw [add_lit0, hc j (by exact hj)]; simp
      have HLD := Lib.hid hload; clear hload hc
      have HNQ := Lib.hid hnq; clear hnq
      have hz : (Try.prog.info? 71).map (·.size) = some 14 := by kernel_rfl
      have HZ := Lib.hid hz; clear hz
      have hvb : (wr.alloc (.cells (voteC vq (.slice pa pn pc)).toArray 71)).heap[wr.heap.size]? = some (.cells (voteC vq (.slice pa pn pc)).toArray 71 (0, 0)) := (MapKept.heap_alloc _ _).1
      have HVB := Lib.hid hvb; clear hvb
      go_upto_region 7 with (first
        | (refine wpList_load_cells rfl 71 _ rfl ⟨b, o + q * 14, none⟩ rfl (voteC vq (.slice pa pn pc)).toArray Try.isAgg71 Try.sizeOf71 HLD.out ?_)
        | (refine wpList_store_last (w0 := wr) (C0 := zeroVote) rfl 71 _ _ rfl rfl (voteC vq (.slice pa pn pc)).toArray rfl HZ.out rfl (voteC_toArray_one _ _ rfl) ?_))
      have hu7 : Upd (fun _ => False) wr (wr.alloc (.cells (voteC vq (.slice pa pn pc)).toArray 71)) := (Upd.refl _ _).alloc _
      have hsz7 : (wr.alloc (.cells (voteC vq (.slice pa pn pc)).toArray 71)).heap.size = wr.heap.size + 1 := by simp
      generalize wr.alloc (.cells (voteC vq (.slice pa pn pc)).toArray 71) = w7 at HVB hu7 hsz7 ⊢
      have HU7 := Lib.hid hu7; clear hu7
      have c70 : w7.cell? ⟨wr.heap.size, 0, none⟩ = some (.int .i64 vq.slot) := (cell_block HVB.out 0).trans rfl
      have c71 : w7.cell? ⟨wr.heap.size, 1, none⟩ = some (.int .i64 vq.ballot) := (cell_block HVB.out 1).trans rfl
      have l7 := loadCmd_of HVB.out
      obtain ⟨i1, hi1', hz10, hz11, hz12⟩ := info_parts info_vote
      have HI1' := Lib.hid hi1'; clear hi1'
      have HZ10 := Lib.hid hz10; clear hz10
      have HZ11 := Lib.hid hz11; clear hz11
      have HZ12 := Lib.hid hz12; clear hz12
      go_region_held3 (fun w' => w'.cell? ⟨wr.heap.size, 0, none⟩ = some (.int .i64 vq.slot) ∧ w'.cell? ⟨wr.heap.size, 1, none⟩ = some (.int .i64 vq.ballot) ∧ (LoadCmd (.pointer (some ⟨wr.heap.size, 2, none⟩))).run Try.prog w' = .ok (.agg (cmdC vq.cmd (.slice pa pn pc))) w')
        (first | exact scmd_of HVB.out | exact scmd_of HVB5.out | exact scmd_of (scmd_old HVB5.out ((Upd.refl (fun _ => False) _).alloc _) (fun h => h)) | exact scmd_of HVB6.out)
        (first
          | (go_at_call 25; refine (copy_cmd _ vq.cmd _ vq.nodes (by first | exact HNQ.out.old HU7.out | exact HNQ.out.old HU7.out.drew)).mono ?_; rintro e w5 ⟨a5, k5, rfl, hn5, hi5, hu5⟩; have hu75 : Upd (fun _ => False) w7 w5 := (by first | exact hu5 | exact ((Upd.refl _ _).drew).trans hu5); have HVB5 := Lib.hid (scmd_old HVB.out hu75 (fun h => h)); have HN5 := Lib.hid hn5; have HI5 := Lib.hid hi5; have HU5 := Lib.hid hu75; clear hn5 hi5 hu5 hu75)
          | (refine step_of (by rfl) (wp_append_row _ _ 31 (by rfl) w4.heap.size 71 i1 _ 14 136 Try.underlying31 HI1'.out HZ10.out HZ11.out HZ12.out rfl (by decide) _ q xs (by rfl) (owns_upd HOWN.out ((HU7.out.trans HU5.out).alloc _) (fun _ _ h => h)) ⟨w5.heap.size, 0, none⟩ 1 1 (voteC vq (.slice a5 vq.nodes.length k5)) (by rfl) rfl (fun j u hu => by rw [add_lit0, Nat.zero_add, cell_block (MapKept.heap_alloc w5 _).1]; simpa using hu) (voteC_one _ _ rfl) (by unfold maxLen; omega) (by omega) (by have := HU4.out.size; have := HU7.out.size; have := HU5.out.size; simp; omega) ?_); intro v6 w6 ho6 hu6; have HVB6 := Lib.hid (scmd_old (scmd_old HVB5.out ((Upd.refl (fun _ => False) _).alloc (.cells (voteC vq (.slice a5 vq.nodes.length k5)).toArray 71)) (fun h => h)) hu6 (fun e => (not_own_blk HOWN.out hsz7 e))); have HO6 := Lib.hid ho6; clear ho6; have HU6 := Lib.hid hu6; clear hu6))
      all_goals
        go_wp2_with fail
        go_roundw
        case rel => exact HSTEP.out _ _ _ _ _ _ (HU7.out.trans HU5.out) HN5.out HI5.out (by have := HU7.out.size; simp only [World.drew]; omega) HO6.out HU6.out
        case measure => simp [intOf]; omega
    · obtain rfl : q = d.votes.length := by omega
      rw [List.take_length] at hown
      have hl := HL4.out.old hu
      obtain ⟨-, k22, -, kf⟩ := hl.cells
      obtain ⟨sa, sc, rfl⟩ := owns_len hown
      have hm := vo_end hnl hown hns (HN4.out.old hu) (HJ4.out.mono (fun k hk => hk.grow (Grow.old hu))) (HB4.out.old hu) (HI4.out.mono (fun k hk => hk.grow (Grow.old hu))) HL4.out.up.size (by obtain ⟨_, _, _, hb, _⟩ := HV.out; exact hb)
      have hu8 : Upd (fun k => k = w.heap.size) wr (wr.setCell ⟨w.heap.size, 22, none⟩ (.slice sa d.votes.length sc)) := (Upd.refl (fun k => k = w.heap.size) wr).setCell (p := ⟨w.heap.size, 22, none⟩) (Or.inl rfl) _
      have hnf : ∀ k, Mem w.heap.size wr k → ¬ k = w.heap.size := fun k hk e => by subst e; exact not_mem_msg hl.loc hk
      have hm8 := (hm.upd hu8 hnf).mono (fun k hk => hk.upd hu8 (hnf k hk))
      have hl8 := (hl.set (.slice sa d.votes.length sc)).2.1
      have HM8 := Lib.hid hm8; clear hm hm8 hnf hu8
      have HL8 := Lib.hid hl8; clear hl hl8
      clear hown hns hu
      have hz : (Try.prog.info? 34).map (·.size) = some (msgC d (.slice a1 d.nodes.length k1) (.slice sa d.votes.length sc) (.slice ba' d.bytes.length bc')).size := by kernel_rfl
      have HZ := Lib.hid hz; clear hz
      go_wp2_with (first
        | (refine wpList_load_block rfl 34 _ rfl w.heap.size rfl (msgC d (.slice a1 d.nodes.length k1) (.slice sa d.votes.length sc) (.slice ba' d.bytes.length bc')) (0, 0) _ Try.isAgg34 Try.sizeOf34 HL8.out.loc ?_)
        | (refine wpList_store_block rfl 34 _ _ rfl (w.heap.size + 1) rfl (msgC d (.slice a1 d.nodes.length k1) (.slice sa d.votes.length sc) (.slice ba' d.bytes.length bc')) rfl HZ.out (msgC_one HM8.out).2 (msgN 0) 34 HL8.out.res rfl ?_; intro w9 hb9 hu9; have HB9 := Lib.hid hb9; clear hb9; have HU9 := Lib.hid hu9; clear hu9))
      have hlv := run_loadVar_block (P := Try.prog) (Try.isAgg34 _) (Try.sizeOf34 _) HB9.out
      refine bodyPost_ret (v := .agg (msgC d (.slice a1 d.nodes.length k1) (.slice sa d.votes.length sc) (.slice ba' d.bytes.length bc'))) (by simp [results, Try.results13]; exact hlv) rfl ?_
      have hnf : ∀ k, Mem w.heap.size (wr.setCell ⟨w.heap.size, 22, none⟩ (.slice sa d.votes.length sc)) k → ¬ k = w.heap.size + 1 := fun k hk e => by subst e; exact not_mem_msg HL8.out.res hk
      exact ⟨_, rfl, (HM8.out.upd HU9.out hnf).mono (fun k hk => hk.upd HU9.out (hnf k hk)), HL8.out.up.trans' HU9.out (fun i hi e => by omega)⟩
end Go.Proofs.Ytfodgohleioflaa
