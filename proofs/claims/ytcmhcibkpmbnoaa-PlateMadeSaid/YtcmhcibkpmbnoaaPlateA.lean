/-
  A plate in memory; its small functions.
  Write, Sync.
  Sync; clones of sectors.
-/
import Derived.Test.YtcmhcibkpmbnoaaProg
import Derived.Test.YtcmhcibkpmbnoaaLib
import Derived.Test.YtcmhcibkpmbnoaaShelf
import Derived.Deep.DeepCutAuto
import Derived.Deep.CutBlock
import Derived.Deep.DeepMust
import Derived.Deep.RegionWith
set_option linter.unusedVariables false
namespace Go.Proofs.Ytcmhcibkpmbnoaa
open Go Go.RowKit

/-- v is a sector: 64 bytes that read so, in a block of bytes. -/
def Sec (w : World) (v : Value) (l : List Int) : Prop :=
  ∃ k o c cur, v = .slice (some ⟨k, o, none⟩) 64 (64 + c) ∧ l.length = 64 ∧ w.heap[k]? = some (.cells cur 5 (0, 0)) ∧ ∀ j, j < 64 → w.cell? ⟨k, o + j, none⟩ = some (.int .u8 (l.getD j 0))
/-- Block k is none of bytes. -/
def NotB (w : World) (k : Nat) : Prop := ∀ cur fr, w.heap[k]? ≠ some (.cells cur 5 fr)
theorem Sec.upd {F : Nat → Prop} {w w' : World} {v : Value} {l : List Int} (h : Sec w v l) (u : Upd F w w') (hF : ∀ k, F k → NotB w k) : Sec w' v l := by
  obtain ⟨k, o, c, cur, hv, hl, hk, hc⟩ := h
  have hlt : k < w.heap.size := (Array.getElem?_eq_some_iff.1 hk).1
  have hn : ¬ F k := fun h => hF k h cur (0, 0) hk
  exact ⟨k, o, c, cur, hv, hl, (u.block k hlt hn).trans hk, fun j hj => (u.cell (p := ⟨k, o + j, none⟩) hlt hn).trans (hc j hj)⟩
theorem Sec.old {w w' : World} {v : Value} {l : List Int} (h : Sec w v l) (u : Upd (fun _ => False) w w') : Sec w' v l := h.upd u (fun _ h => h.elim)
theorem Sec.shape {w : World} {v : Value} {l : List Int} (h : Sec w v l) : ∃ k o c, v = .slice (some ⟨k, o, none⟩) 64 c ∧ k < w.heap.size := by
  obtain ⟨k, o, c, cur, hv, _, hk, _⟩ := h
  exact ⟨k, o, _, hv, (Array.getElem?_eq_some_iff.1 hk).1⟩
theorem Sec.cap {w : World} {a : Option Addr} {n c : Nat} {l : List Int} (h : Sec w (.slice a n c) l) : 64 ≤ c := by
  obtain ⟨_, _, c', _, hv, _⟩ := h
  cases hv
  omega
theorem Sec.len {w : World} {v : Value} {l : List Int} (h : Sec w v l) : l.length = 64 := by
  obtain ⟨k, o, c, cur, _, hl, _⟩ := h
  exact hl
/-- v is a slice of sectors, its headers in block h. -/
def Secs (w : World) (v : Value) (h : Nat) (L : List (List Int)) : Prop :=
  ∃ c cur, v = .slice (some ⟨h, 0, none⟩) L.length c ∧ L.length ≤ c ∧ w.heap[h]? = some (.cells cur 32 (0, 0)) ∧ ∀ i, i < L.length → ∃ sv, w.cell? ⟨h, i, none⟩ = some sv ∧ Sec w sv (L.getD i [])
theorem Secs.upd {F : Nat → Prop} {w w' : World} {v : Value} {h : Nat} {L : List (List Int)} (H : Secs w v h L) (u : Upd F w w') (hh : ¬ F h) (hF : ∀ k, F k → NotB w k) : Secs w' v h L := by
  obtain ⟨c, cur, hv, hl, hk, hc⟩ := H
  have hlt : h < w.heap.size := (Array.getElem?_eq_some_iff.1 hk).1
  refine ⟨c, cur, hv, hl, (u.block h hlt hh).trans hk, fun i hi => ?_⟩
  obtain ⟨sv, h1, h2⟩ := hc i hi
  exact ⟨sv, (u.cell (p := ⟨h, i, none⟩) hlt hh).trans h1, h2.upd u hF⟩
theorem Secs.old {w w' : World} {v : Value} {h : Nat} {L : List (List Int)} (H : Secs w v h L) (u : Upd (fun _ => False) w w') : Secs w' v h L := H.upd u (fun h => h) (fun _ h => h.elim)
theorem Secs.lt {w : World} {v : Value} {h : Nat} {L : List (List Int)} (H : Secs w v h L) : h < w.heap.size := by
  obtain ⟨c, cur, _, _, hk, _⟩ := H
  exact (Array.getElem?_eq_some_iff.1 hk).1
theorem Secs.notB {w : World} {v : Value} {h : Nat} {L : List (List Int)} (H : Secs w v h L) : NotB w h := by
  obtain ⟨c, cur, _, _, hk, _⟩ := H
  intro cur' fr e
  rw [hk] at e
  cases e
theorem im_notB {w : World} {k : Nat} (h : (w.im k).isSome = true) : NotB w k := by
  intro cur fr e
  unfold World.im at h
  rw [e] at h
  cases h
/-- A plate at block b: its durable sectors' headers in block ab, its cache in block cm. -/
structure PlateAt (w : World) (b ab cm : Nat) (D : List (List Int)) (C : Int → Option (List Int)) : Prop where
  c0 : ∃ v, w.cell? ⟨b, 0, none⟩ = some v ∧ Secs w v ab D
  c1 : w.cell? ⟨b, 1, none⟩ = some (.map (some cm))
  c2 : w.cell? ⟨b, 2, none⟩ = some (.int .i64 D.length)
  c3 : w.cell? ⟨b, 3, none⟩ = some (.bool false)
  tag : ∃ cur, w.heap[b]? = some (.cells cur 55 (0, 0))
  cache : ∃ M, w.im cm = some M ∧ ∀ i : Int, match C i with
    | none => aget M i = none
    | some l => ∃ sv, aget M i = some sv ∧ Sec w sv l
  keys : ∀ i l, C i = some l → 0 ≤ i ∧ i < D.length
  pos : 0 < D.length
  few : D.length ≤ 8192
theorem PlateAt.lt {w : World} {b ab cm : Nat} {D : List (List Int)} {C : Int → Option (List Int)} (h : PlateAt w b ab cm D C) : b < w.heap.size ∧ ab < w.heap.size ∧ cm < w.heap.size := by
  obtain ⟨v, _, hs⟩ := h.c0
  obtain ⟨M, hm, _⟩ := h.cache
  exact ⟨World.block_lt_of_cell? _ _ h.c1, hs.lt, im_lt (w := w) (by rw [hm]; rfl)⟩
theorem PlateAt.upd {F : Nat → Prop} {w w' : World} {b ab cm : Nat} {D : List (List Int)} {C : Int → Option (List Int)} (h : PlateAt w b ab cm D C) (u : Upd F w w') (hb : ¬ F b) (ha : ¬ F ab) (hc : ¬ F cm) (hF : ∀ k, F k → NotB w k) : PlateAt w' b ab cm D C := by
  obtain ⟨lb, la, lc⟩ := h.lt
  obtain ⟨v, h0, hs⟩ := h.c0
  obtain ⟨cur, ht⟩ := h.tag
  obtain ⟨M, hm, hM⟩ := h.cache
  refine ⟨⟨v, (u.cell (p := ⟨b, 0, none⟩) lb hb).trans h0, hs.upd u ha hF⟩, (u.cell (p := ⟨b, 1, none⟩) lb hb).trans h.c1, (u.cell (p := ⟨b, 2, none⟩) lb hb).trans h.c2, (u.cell (p := ⟨b, 3, none⟩) lb hb).trans h.c3, ⟨cur, (u.block b lb hb).trans ht⟩,
    ⟨M, (u.im lc hc).trans hm, fun i => ?_⟩, h.keys, h.pos, h.few⟩
  have := hM i
  cases hC : C i with
  | none => rw [hC] at this; exact this
  | some l =>
    rw [hC] at this
    obtain ⟨sv, h1, h2⟩ := this
    exact ⟨sv, h1, h2.upd u hF⟩
theorem PlateAt.old {w w' : World} {b ab cm : Nat} {D : List (List Int)} {C : Int → Option (List Int)} (h : PlateAt w b ab cm D C) (u : Upd (fun _ => False) w w') : PlateAt w' b ab cm D C := h.upd u (fun h => h) (fun h => h) (fun h => h) (fun _ h => h.elim)
/-- What is read of sector i. -/
def view (D : List (List Int)) (C : Int → Option (List Int)) (i : Nat) : List Int := (C i).getD (D.getD i [])

def Same (w : World) (v : Value) (e : Ending) (w' : World) : Prop := e = .returned v ∧ w = w'
theorem state_ok (w : World) (b ab cm : Nat) (D : List (List Int)) (C : Int → Option (List Int)) (h : PlateAt w b ab cm D C) : Calls Try.prog 43 #[.pointer (some ⟨b, 0, none⟩)] w (Same w (.int .i64 0)) := by
  have c2 := h.c2
  have c3 := h.c3
  have hp := h.pos
  have HH := Lib.hid h; clear h
  go_enter Try.func43, Try.ntmps43
  go_wp2
  go_ret
  exact ⟨rfl, rfl⟩
theorem has_any (i : Int) (w : World) (b ab cm : Nat) (D : List (List Int)) (C : Int → Option (List Int)) (h : PlateAt w b ab cm D C) : Calls Try.prog 44 #[.pointer (some ⟨b, 0, none⟩), .int .i64 i] w (Same w (.bool (decide (0 ≤ i ∧ i < D.length)))) := by
  obtain ⟨v, h0, c, cur, rfl, hl, _, _⟩ := h.c0
  have HH := Lib.hid h; clear h
  by_cases h1 : 0 ≤ i
  · by_cases h2 : i < D.length
    · rw [decide_eq_true ⟨h1, h2⟩]
      go_enter Try.func44, Try.ntmps44
      go_wp2
      go_ret
      exact ⟨rfl, rfl⟩
    · rw [decide_eq_false (fun h => h2 h.2)]
      go_enter Try.func44, Try.ntmps44
      go_wp2
      go_ret
      exact ⟨rfl, rfl⟩
  · rw [decide_eq_false (fun h => h1 h.1)]
    go_enter Try.func44, Try.ntmps44
    go_wp2
    go_ret
    exact ⟨rfl, rfl⟩

/-- A sector of memory of its own. -/
def ClonePost (w : World) (l : List Int) (e : Ending) (w' : World) : Prop := ∃ v', e = .returned v' ∧ Sec w' v' l ∧ Fresh w.heap.size v' ∧ Upd (fun _ => False) w w'
theorem sec_of_owns {w : World} {base : Nat} {v : Value} {l : List Int} (hl : l.length = 64) (h : w.ownsRow base 5 1 v 64 (l.map (Value.int .u8))) : Sec w v l := by
  obtain ⟨_, ⟨_, h0⟩ | ⟨g, cap, cur, rfl, hg, hh, hn, hm, hs, ht⟩⟩ := h
  · cases h0
  · refine ⟨g, 0, cap - 64, cur, by rw [Nat.add_sub_cancel' hn], hl, hh, fun j hj => ?_⟩
    unfold World.cell?
    rw [hh]
    simp only [Option.isSome_none, Bool.false_eq_true, if_false, Nat.zero_add]
    have h1 : (cur.toList.take (64 * 1))[j]? = (l.map (Value.int .u8))[j]? := by rw [ht]
    rw [List.getElem?_take_of_lt (by omega), List.getElem?_map, List.getElem?_eq_getElem (by omega : j < l.length)] at h1
    rw [← Array.getElem?_toList, h1, List.getD_eq_getElem?_getD, List.getElem?_eq_getElem (by omega : j < l.length)]
    rfl
theorem clone_sec (w : World) (v : Value) (l : List Int) (h : Sec w v l) : Calls Try.prog 16 #[v] w (ClonePost w l) := by
  obtain ⟨k, o, c, cur, rfl, hl, _, hc⟩ := h
  refine (Try.bytes_Clone_at ⟨k, o, none⟩ 64 _ l w hl (by omega) (fun i hi => by rw [Addr.add_lit]; exact hc i hi)).mono ?_
  rintro e w' ⟨v', rfl, ho, _, hb⟩
  exact ⟨v', rfl, sec_of_owns hl ho, Fresh.of_owns ho, Upd.of_below hb⟩
theorem look_sec (w : World) (b : Nat) (k : Int) (ok : Bool) : (Instr.lookup 53 (.map (some b)) (.int .i64 k) ok).run Try.prog w =
    lookR (.slice none 0 0) w k (LookElse Try.prog 53 b k ok w) ok (w.im b) :=
  run_lookup_any Try.underlying53 Try.underlying3 (fun _ => by kernel_rfl) w b k ok
theorem put_sec (w : World) (b : Nat) (k : Int) (v : Value) : (Instr.mapUpdate 53 (.map (some b)) (.int .i64 k) v).run Try.prog w = putR w b k v (PutElse Try.prog 53 b k v w) (w.im b) :=
  run_mapUpdate_any Try.underlying53 Try.underlying3 w b k v

def ReadPost (w : World) (l : List Int) (e : Ending) (w' : World) : Prop := ∃ v', e = .returned (.tuple #[v', .int .i64 0]) ∧ Sec w' v' l ∧ Fresh w.heap.size v' ∧ Upd (fun _ => False) w w'
theorem read_any (i : Nat) (w : World) (b ab cm : Nat) (D : List (List Int)) (C : Int → Option (List Int)) (h : PlateAt w b ab cm D C) (hi : i < D.length) :
    Calls Try.prog 30 #[.pointer (some ⟨b, 0, none⟩), .int .i64 i] w (ReadPost w (view D C i)) := by
  have lv := look_sec
  have c1 := h.c1
  have hh := has_any i w b ab cm D C h
  rw [decide_eq_true (by omega)] at hh
  obtain ⟨v, h0, c, cur, rfl, hl, _, hsec⟩ := h.c0
  obtain ⟨sv, hsv, hss⟩ := hsec i hi
  obtain ⟨M, hm, hM⟩ := h.cache
  have hMi := hM i
  have HS := state_ok w b ab cm D C h
  have HSEC := Lib.hid hsec; clear hsec
  have HM := Lib.hid hM; clear hM
  have HH := Lib.hid h; clear h
  have HHH := Lib.hid hh; clear hh
  have HST := Lib.hid HS; clear HS
  cases hC : C i with
  | some l =>
    rw [hC] at hMi
    obtain ⟨cv, hcv, hcs⟩ := hMi
    obtain ⟨k, o, cc, rfl, hk⟩ := hcs.shape
    have HCS := Lib.hid hcs; clear hcs
    have hvw : view D C i = l := by unfold view; rw [hC]; rfl
    rw [hvw]
    clear hvw hC
    go_enter Try.func30, Try.ntmps30
    go_wp2_with (first
      | (go_at_call 43; refine HST.out.mono ?_; rintro e w' ⟨rfl, rfl⟩)
      | (go_at_call 44; refine HHH.out.mono ?_; rintro e w' ⟨rfl, rfl⟩)
      | (go_at_call 16; refine (clone_sec _ _ l HCS.out).mono ?_; rintro e w' ⟨v', rfl, hv', hf', hu'⟩; obtain ⟨k', o', c', rfl, hk'⟩ := hv'.shape))
    go_ret2
    exact ⟨_, rfl, hv', hf', hu'⟩
  | none =>
    rw [hC] at hMi
    obtain ⟨k, o, cc, rfl, hk⟩ := hss.shape
    have HCS := Lib.hid hss; clear hss
    have hvw : view D C i = D.getD i [] := by unfold view; rw [hC]; rfl
    rw [hvw]
    clear hvw hC
    go_enter Try.func30, Try.ntmps30
    go_wp2_with (first
      | (go_at_call 43; refine HST.out.mono ?_; rintro e w' ⟨rfl, rfl⟩)
      | (go_at_call 44; refine HHH.out.mono ?_; rintro e w' ⟨rfl, rfl⟩)
      | (go_at_call 16; refine (clone_sec _ _ (D.getD i []) HCS.out).mono ?_; rintro e w' ⟨v', rfl, hv', hf', hu'⟩; obtain ⟨k', o', c', rfl, hk'⟩ := hv'.shape))
    go_ret2
    exact ⟨_, rfl, hv', hf', hu'⟩
theorem read_arg (i : Int) (w : World) (b ab cm : Nat) (D : List (List Int)) (C : Int → Option (List Int)) (h : PlateAt w b ab cm D C) (hi : ¬ (0 ≤ i ∧ i < D.length)) :
    Calls Try.prog 30 #[.pointer (some ⟨b, 0, none⟩), .int .i64 i] w (Same w (.tuple #[.slice none 0 0, .int .i64 1])) := by
  have hh := has_any i w b ab cm D C h
  rw [decide_eq_false hi] at hh
  have HST := Lib.hid (state_ok w b ab cm D C h)
  have HHH := Lib.hid hh; clear hh
  clear h
  go_enter Try.func30, Try.ntmps30
  go_wp2_with (first
    | (go_at_call 43; refine HST.out.mono ?_; rintro e w' ⟨rfl, rfl⟩)
    | (go_at_call 44; refine HHH.out.mono ?_; rintro e w' ⟨rfl, rfl⟩))
  go_ret2
  exact ⟨rfl, rfl⟩
end Go.Proofs.Ytcmhcibkpmbnoaa
namespace Go.Proofs.Ytcmhcibkpmbnoaa
open Go Go.RowKit Go.MapKept Go.ChangeMaps

/-- Behind the store into the cache. -/
def CutW (w : World) (cm : Nat) (M : List (Int × Value)) (i : Int) (l : List Int) (wc : World) : Prop :=
  ∃ sv, wc.im cm = some (aput M i sv) ∧ Sec wc sv l ∧ Upd (fun k => k = cm) w wc
def cput (C : Int → Option (List Int)) (i : Nat) (l : List Int) : Int → Option (List Int) := fun j => if j = i then some l else C j
def WritePost (w : World) (b ab cm : Nat) (D : List (List Int)) (C : Int → Option (List Int)) (i : Nat) (l : List Int) (e : Ending) (w' : World) : Prop :=
  e = .returned (.int .i64 0) ∧ PlateAt w' b ab cm D (cput C i l) ∧ Upd (fun k => k = cm) w w'
theorem plate_put {w wc : World} {b ab cm : Nat} {D : List (List Int)} {C : Int → Option (List Int)} {i : Nat} {l : List Int} {M : List (Int × Value)} (h : PlateAt w b ab cm D C) (hi : i < D.length) (hm : w.im cm = some M) (hc : CutW w cm M i l wc) : PlateAt wc b ab cm D (cput C i l) := by
  obtain ⟨sv, h1, h2, hu⟩ := hc
  obtain ⟨lb, la, lc⟩ := h.lt
  obtain ⟨v, h0, hs⟩ := h.c0
  obtain ⟨cur, ht⟩ := h.tag
  obtain ⟨M', hm', hM⟩ := h.cache
  obtain rfl : M' = M := by rw [hm] at hm'; cases hm'; rfl
  have hF : ∀ k, k = cm → NotB w k := fun k e => by rw [e]; exact im_notB (by rw [hm]; rfl)
  have hbc : b ≠ cm := fun e => by have := cell_im h.c1; simp only [] at this; rw [e, hm] at this; cases this
  have hac : ab ≠ cm := fun e => by
    obtain ⟨c, cur, _, _, hk, _⟩ := hs
    unfold World.im at hm
    rw [← e, hk] at hm; cases hm
  refine ⟨⟨v, (hu.cell (p := ⟨b, 0, none⟩) lb hbc).trans h0, hs.upd hu hac hF⟩, (hu.cell (p := ⟨b, 1, none⟩) lb hbc).trans h.c1, (hu.cell (p := ⟨b, 2, none⟩) lb hbc).trans h.c2, (hu.cell (p := ⟨b, 3, none⟩) lb hbc).trans h.c3, ⟨cur, (hu.block b lb hbc).trans ht⟩,
    ⟨_, h1, fun j => ?_⟩, fun j l' hj => ?_, h.pos, h.few⟩
  · unfold cput
    by_cases e : j = i
    · simp only [e, if_true]
      exact ⟨sv, by rw [aget_aput, if_pos rfl], h2⟩
    · simp only [e, if_false]
      have := hM j
      cases hC : C j with
      | none => rw [hC] at this; simp only []; rw [aget_aput, if_neg e]; exact this
      | some l' =>
        rw [hC] at this
        obtain ⟨sv', k1, k2⟩ := this
        exact ⟨sv', by rw [aget_aput, if_neg e]; exact k1, k2.upd hu hF⟩
  · unfold cput at hj
    by_cases e : j = i
    · omega
    · simp only [e, if_false] at hj
      exact h.keys j l' hj
theorem write_any (i : Nat) (w : World) (b ab cm : Nat) (D : List (List Int)) (C : Int → Option (List Int)) (v : Value) (l : List Int) (h : PlateAt w b ab cm D C) (hi : i < D.length) (hv : Sec w v l) :
    Calls Try.prog 21 #[.pointer (some ⟨b, 0, none⟩), .int .i64 i, v] w (WritePost w b ab cm D C i l) := by
  have pv := put_sec
  have c1 := h.c1
  have hh := has_any i w b ab cm D C h
  rw [decide_eq_true (by omega)] at hh
  obtain ⟨M, hm, _⟩ := h.cache
  obtain ⟨lb, la, lc⟩ := h.lt
  have HST := Lib.hid (state_ok w b ab cm D C h)
  have HHH := Lib.hid hh; clear hh
  have HH := Lib.hid h; clear h
  obtain ⟨k, o, c, rfl, hk⟩ := hv.shape
  have HV := Lib.hid hv; clear hv
  go_enter Try.func21, Try.ntmps21
  go_upto_region 6 with (first
    | (go_at_call 43; refine HST.out.mono ?_; rintro e w' ⟨rfl, rfl⟩)
    | (go_at_call 44; refine HHH.out.mono ?_; rintro e w' ⟨rfl, rfl⟩))
  go_cut [] (fun wc => CutW w cm M i l wc)
  case first =>
    go_region_with (go_at_call 16; refine (clone_sec _ _ l (by exact HV.out)).mono ?_; rintro e w' ⟨v', rfl, hv', hf', hu'⟩; obtain ⟨k', o', c', rfl, hk'⟩ := hv'.shape; have U3 : Upd (fun _ => False) w w' := ((Upd.refl (fun _ => False) _).drew).trans hu'; have wc1 := (U3.cell (p := ⟨b, 1, none⟩) lb (fun h => h)).trans c1; have wim := (U3.im lc (fun h => h)).trans hm; have lbw : b < w'.heap.size := (by have := U3.size; omega); have HV' := Lib.hid hv'; clear hv'; clear hf' hu'; have HU3 := Lib.hid U3; clear U3)
    all_goals
      go_wp2_with fail
      go_meet
      case rel => exact ⟨_, im_mput_same wim _, HV'.out.upd ((Upd.refl (fun k => k = cm) w').mput (Or.inl rfl) _ _) (fun k e => by rw [e]; exact im_notB (by rw [wim]; rfl)), (HU3.out.mono (G := fun k => k = cm) (fun _ _ h => h.elim)).mput (by exact Or.inl rfl) _ _⟩
  case rest =>
    have HC := Lib.hid hcut; clear hcut
    go_wp2_with fail
    go_ret
    exact ⟨rfl, plate_put HH.out hi hm HC.out, by obtain ⟨_, _, _, hu⟩ := HC.out; exact hu⟩

theorem clear_im {w : World} {b : Nat} {l : List (Int × Value)} (h : w.im b = some l) : ∃ w', (Builtin.clear_ #[53] 0 #[.map (some b)]).run Try.prog w = .ok (.tuple #[]) w' ∧ w'.im b = some [] ∧ Upd (fun k => k = b) w w' := by
  obtain ⟨es, c, hb, hs, hk, _⟩ := im_inv h
  have hlt := (Array.getElem?_eq_some_iff.1 hb).1
  refine ⟨{ w with heap := w.heap.setIfInBounds b (.map #[] c) }, ?_, ?_, ⟨rfl, rfl, rfl, by simp, fun k hk hne => ?_⟩⟩
  · simp [Builtin.clear_, run_underlying Try.underlying53, MapKept.run_getObj_map hb, MapKept.run_setObj_map _ hb, Result.andThen]
  · have := im_intro (w := { w with heap := w.heap.setIfInBounds b (.map #[] c) }) (b := b) (es := #[]) (c := c) (by simp [hlt]) (stamped_empty c) (by simp)
    simpa using this
  · have : b ≠ k := fun e => hne e.symm
    simp [this]
theorem aget_of_mem : ∀ {l : List (Int × Value)} {k : Int} {v : Value}, (l.map (·.1)).Nodup → (k, v) ∈ l → aget l k = some v
  | p :: r, k, v, hn, h => by
    obtain ⟨n1, n2⟩ := List.nodup_cons.1 hn
    rw [aget_cons]
    rcases List.mem_cons.1 h with h | h
    · subst h; rw [if_pos rfl]
    · rw [if_neg (fun e => n1 (by have h2 := List.mem_map_of_mem (f := (·.1)) h; rw [← e] at h2; exact h2))]
      exact aget_of_mem n2 h
theorem im_mem {w : World} {b : Nat} {l : List (Int × Value)} (h : w.im b = some l) {k : Int} {v : Value} (hm : (k, v) ∈ l) : aget l k = some v := by
  obtain ⟨es, c, hb, hs, hk, rfl⟩ := im_inv h
  obtain ⟨e, he, hek⟩ := List.mem_map.1 hm
  have hn : ((es.toList.map ient).map (·.1)).Nodup := by
    rw [List.map_map]
    refine List.pairwise_map.2 ((List.pairwise_map.1 hs.2.2).imp_of_mem fun {x y} hx hy hne e => hne ?_)
    rw [ient_key (hk x hx), ient_key (hk y hy)]
    exact congrArg _ e
  exact aget_of_mem hn hm
end Go.Proofs.Ytcmhcibkpmbnoaa
namespace Go.Proofs.Ytcmhcibkpmbnoaa
open Go Go.RowKit Go.MapKept Go.ChangeMaps

def keyIn (l : List (Int × Value)) (k : Int) : Prop := ∃ v, (k, v) ∈ l
theorem keyIn_adel {l : List (Int × Value)} {k k' : Int} : keyIn (adel l k) k' ↔ keyIn l k' ∧ k' ≠ k := by
  unfold keyIn adel
  constructor
  · rintro ⟨v, h⟩
    obtain ⟨h1, h2⟩ := List.mem_filter.1 h
    exact ⟨⟨v, h1⟩, by simpa using h2⟩
  · rintro ⟨⟨v, h⟩, hne⟩
    exact ⟨v, List.mem_filter.2 ⟨h, by simpa using hne⟩⟩
noncomputable def leftN (wr : World) (r : Nat) : Nat :=
  match wr.heap[r]? with
  | some (.mapIter (some m) _ seen _) => match wr.heap[m]? with | some (.map es _) => (leftOf es seen).size | _ => 0
  | _ => 0
theorem IterAt.count {w : World} {r m : Nat} {left : List (Int × Value)} (h : IterAt w r m left) : leftN w r = left.length := by
  obtain ⟨es, c, since, seen, c0, h1, h2, _, _, _, _, rfl⟩ := h
  unfold leftN
  rw [h1]; simp only []; rw [h2]; simp
theorem IterAt.notB {w : World} {r m : Nat} {left : List (Int × Value)} (h : IterAt w r m left) : NotB w r := by
  obtain ⟨es, c, since, seen, c0, h1, _⟩ := h
  intro cur fr e
  rw [h1] at e; cases e

/-- A header is put. -/
theorem Secs.put {w : World} {v sv : Value} {h q : Nat} {L : List (List Int)} {l : List Int} (H : Secs w v h L) (hq : q < L.length) (hs : Sec w sv l) : Secs (w.setCell ⟨h, q, none⟩ sv) v h (L.set q l) ∧ Upd (fun k => k = h) w (w.setCell ⟨h, q, none⟩ sv) := by
  have hn := H.notB
  obtain ⟨c, cur, hv, hl, hk, hc⟩ := H
  have hlt : h < w.heap.size := (Array.getElem?_eq_some_iff.1 hk).1
  have hu : Upd (fun k => k = h) w (w.setCell ⟨h, q, none⟩ sv) := (Upd.refl (fun k => k = h) w).setCell (p := ⟨h, q, none⟩) (Or.inl rfl) _
  have hF : ∀ k, k = h → NotB w k := fun k e => by rw [e]; exact hn
  refine ⟨⟨c, cur.setIfInBounds q sv, by rw [List.length_set]; exact hv, by rw [List.length_set]; exact hl, ?_, fun i hi => ?_⟩, hu⟩
  · show (w.heap.modify h _)[h]? = _
    rw [Array.getElem?_modify, if_pos rfl, hk]
    rfl
  · rw [List.length_set] at hi
    by_cases e : i = q
    · subst e
      obtain ⟨u, h1, _⟩ := hc i hi
      refine ⟨sv, World.cell?_setCell_same' _ _ _ (by rw [h1]; rfl), ?_⟩
      rw [List.getD_eq_getElem?_getD, List.getElem?_set_self hi]
      exact hs.upd hu hF
    · obtain ⟨u, h1, h2⟩ := hc i hi
      refine ⟨u, ?_, ?_⟩
      · rw [World.cell?_setCell_other _ _ _ _ (fun e' => by cases e'; exact e rfl)]; exact h1
      · rw [List.getD_eq_getElem?_getD, List.getElem?_set_ne (fun e' => e e'.symm), ← List.getD_eq_getElem?_getD]
        exact h2.upd hu hF
theorem Secs.cellAt {w : World} {v : Value} {h i : Nat} {L : List (List Int)} (H : Secs w v h L) (hi : i < L.length) : ∃ sv, w.cell? ⟨h, i, none⟩ = some sv ∧ Sec w sv (L.getD i []) ∧ w.frozen? ⟨h, i, none⟩ = false := by
  obtain ⟨c, cur, hv, hl, hk, hc⟩ := H
  obtain ⟨sv, h1, h2⟩ := hc i hi
  exact ⟨sv, h1, h2, by simp [World.frozen?, hk]⟩

/-- A state of the walk over the cache. -/
structure SyncI (w : World) (b ab cm r : Nat) (D : List (List Int)) (C : Int → Option (List Int)) (M left : List (Int × Value)) (v : Value) (E : List (List Int)) (wr : World) : Prop where
  it : IterAt wr r cm left
  sub : ∀ p ∈ left, p ∈ M
  all : Secs wr v ab E
  len : E.length = D.length
  is : ∀ i : Nat, i < D.length → (keyIn left i → E.getD i [] = D.getD i []) ∧ (¬ keyIn left i → E.getD i [] = view D C i)
  up : Upd (fun k => k = ab) w wr
def SyncEx (w : World) (b ab cm r : Nat) (D : List (List Int)) (C : Int → Option (List Int)) (M : List (Int × Value)) (v : Value) (wr : World) : Prop :=
  ∃ left E, SyncI w b ab cm r D C M left v E wr
def viewL (D : List (List Int)) (C : Int → Option (List Int)) : List (List Int) := (List.range D.length).map (view D C)
theorem viewL_length (D : List (List Int)) (C : Int → Option (List Int)) : (viewL D C).length = D.length := by simp [viewL]
theorem viewL_get {D : List (List Int)} {C : Int → Option (List Int)} {i : Nat} (h : i < D.length) : (viewL D C).getD i [] = view D C i := by
  unfold viewL
  rw [List.getD_eq_getElem?_getD, List.getElem?_map, List.getElem?_range h]
  rfl
def SyncPost (w : World) (b ab cm : Nat) (D : List (List Int)) (C : Int → Option (List Int)) (e : Ending) (w' : World) : Prop :=
  e = .returned (.int .i64 0) ∧ PlateAt w' b ab cm (viewL D C) (fun _ => none) ∧ Upd (fun k => k = ab ∨ k = cm) w w'
theorem Secs.congr {w : World} {v : Value} {h : Nat} {L L' : List (List Int)} (H : Secs w v h L) (hl : L'.length = L.length) (he : ∀ i, i < L.length → L'.getD i [] = L.getD i []) : Secs w v h L' := by
  obtain ⟨c, cur, hv, hlc, hk, hc⟩ := H
  refine ⟨c, cur, by rw [hl]; exact hv, by rw [hl]; exact hlc, hk, fun i hi => ?_⟩
  rw [hl] at hi
  obtain ⟨sv, h1, h2⟩ := hc i hi
  exact ⟨sv, h1, by rw [he i hi]; exact h2⟩
theorem sync_step {w wr w1 : World} {b ab cm r q : Nat} {D : List (List Int)} {C : Int → Option (List Int)} {M left : List (Int × Value)} {v sv : Value} {E : List (List Int)} {l : List Int} (h : SyncI w b ab cm r D C M left v E wr)
    (hmem : ((q : Int), sv) ∈ left) (hq : q < D.length) (hC : C q = some l) (hs : Sec w sv l) (hit : IterAt w1 r cm (adel left q)) (hu : Upd (fun k => k = r) wr w1) (hra : r ≠ ab) (hrw : w.heap.size ≤ r) (hca : cm ≠ ab) (hna : NotB w ab) :
    SyncI w b ab cm r D C M (adel left q) v (E.set q l) (w1.setCell ⟨ab, q, none⟩ sv) := by
  have hF : ∀ k, k = r → NotB wr k := fun k e => by rw [e]; exact h.it.notB
  have h1 : Secs w1 v ab E := h.all.upd hu (fun e => hra e.symm) hF
  have hs1 : Sec w1 sv l := (hs.upd h.up (fun k e => by rw [e]; exact hna)).upd hu hF
  obtain ⟨h2, hu2⟩ := h1.put (q := q) (sv := sv) (l := l) (by rw [h.len]; exact hq) hs1
  refine ⟨hit.upd hu2 hra hca, fun p hp => h.sub p (List.mem_filter.1 hp).1, h2, by rw [List.length_set]; exact h.len, fun i hi => ?_, (h.up.trans' hu (fun i hi e => by omega)).trans hu2⟩
  have hi' := h.is i hi
  by_cases e : i = q
  · subst e
    refine ⟨fun hk => absurd rfl (keyIn_adel.1 hk).2, fun _ => ?_⟩
    rw [List.getD_eq_getElem?_getD, List.getElem?_set_self (by rw [h.len]; exact hi)]
    unfold view
    rw [hC]
    rfl
  · have e' : (i : Int) ≠ q := by omega
    rw [List.getD_eq_getElem?_getD, List.getElem?_set_ne (fun e' => e e'.symm), ← List.getD_eq_getElem?_getD]
    exact ⟨fun hk => hi'.1 (keyIn_adel.1 hk).1, fun hk => hi'.2 (fun hk' => hk (keyIn_adel.2 ⟨hk', e'⟩))⟩
set_option maxHeartbeats 2000000 in
theorem sync_any (w : World) (b ab cm : Nat) (D : List (List Int)) (C : Int → Option (List Int)) (h : PlateAt w b ab cm D C) :
    Calls Try.prog 24 #[.pointer (some ⟨b, 0, none⟩)] w (SyncPost w b ab cm D C) := by
  have c1 := h.c1
  obtain ⟨M, hm, hM⟩ := h.cache
  obtain ⟨lb, la, lc⟩ := h.lt
  obtain ⟨v, h0, hs⟩ := h.c0
  have hna := hs.notB
  have hba : b ≠ ab := fun e => by
    obtain ⟨cur, ht⟩ := h.tag
    obtain ⟨c, cur', _, _, hk, _⟩ := hs
    rw [e, hk] at ht; cases ht
  have hca : cm ≠ ab := fun e => by
    obtain ⟨c, cur, _, _, hk, _⟩ := hs
    unfold World.im at hm
    rw [e, hk] at hm; cases hm
  have hbc : b ≠ cm := fun e => by have := cell_im h.c1; simp only [] at this; rw [e, hm] at this; cases this
  have HST := Lib.hid (state_ok w b ab cm D C h)
  have HM := Lib.hid hM; clear hM
  have HH := Lib.hid h; clear h
  have hs' := hs
  obtain ⟨vc, _, rfl, _, _, _⟩ := hs'
  have hdl := HH.out.few
  have HS := Lib.hid hs; clear hs
  go_enter Try.func24, Try.ntmps24
  go_wp2_with (first
    | (go_at_call 43; refine HST.out.mono ?_; rintro e w' ⟨rfl, rfl⟩)
    | (at_range; refine wpList_range_im rfl _ 53 _ _ rfl Try.underlying53 cm M rfl hm ?_; intro w0 hit0 hu0 hs0 hc0; clear hc0))
  go_frame
  have hst : SyncI w b ab cm w.heap.size D C M M (.slice (some ⟨ab, 0, none⟩) D.length vc) D w0 := by
    refine ⟨hit0, fun _ h => h, HS.out.old hu0, rfl, fun i hi => ⟨fun _ => rfl, fun hk => ?_⟩, hu0.mono (fun _ _ h => h.elim)⟩
    have := HM.out i
    unfold view
    cases hC : C i with
    | none => rfl
    | some l =>
      rw [hC] at this
      obtain ⟨sv, k1, _⟩ := this
      refine absurd ?_ hk
      unfold aget at k1
      obtain ⟨p, hp, hp2⟩ := Option.map_eq_some_iff.1 k1
      have h1 := List.mem_of_find?_eq_some hp
      have h2 := List.find?_some hp
      simp only [decide_eq_true_eq] at h2
      exact ⟨sv, by rw [← h2, ← hp2]; exact h1⟩
  have HST0 := Lib.hid hst; clear hst hit0 hu0 hs0
  have HC0 := Lib.hid h0; clear h0
  have HMM := Lib.hid hm; clear hm
  clear HST
  go_loopw [] (fun wr => SyncEx w b ab cm w.heap.size D C M (.slice (some ⟨ab, 0, none⟩) D.length vc) wr) (fun wr => leftN wr w.heap.size)
  case atStart => exact ⟨_, _, HST0.out⟩
  case round =>
    obtain ⟨left, E, hI⟩ := hrel
    have HI := Lib.hid hI; clear hI
    have w1c := (HI.out.up.cell (p := ⟨b, 1, none⟩) lb hba).trans c1
    go_wp2_with (at_next; refine wpList_next_im rfl _ rfl w.heap.size cm left rfl HI.out.it ?_ ?_)
    · intro hl0
      subst hl0
      obtain ⟨wc, hrun, him, huc⟩ := clear_im (w := wr) (b := cm) (l := M) ((HI.out.up.im lc hca).trans HMM.out)
      have HUC := Lib.hid huc; clear huc
      have HIM := Lib.hid him; clear him
      go_wp2_with fail
      go_ret
      have hF : ∀ k, k = cm → NotB wr k := fun k e => by rw [e]; exact im_notB (by rw [(HI.out.up.im lc hca).trans HMM.out]; rfl)
      have hse : Secs wr (.slice (some ⟨ab, 0, none⟩) D.length vc) ab (viewL D C) := HI.out.all.congr (by rw [viewL_length, HI.out.len]) (fun i hi => by
        rw [HI.out.len] at hi
        rw [viewL_get hi, (HI.out.is i hi).2 (fun hk => by obtain ⟨v, hv⟩ := hk; cases hv)])
      have cw : ∀ o, wc.cell? ⟨b, o, none⟩ = w.cell? ⟨b, o, none⟩ := fun o => (HUC.out.cell (p := ⟨b, o, none⟩) (by have := HI.out.up.size; show b < _; omega) hbc).trans (HI.out.up.cell (p := ⟨b, o, none⟩) lb hba)
      refine ⟨rfl, ⟨⟨_, (cw 0).trans HC0.out, hse.upd HUC.out (fun e => hca e.symm) hF⟩, (cw 1).trans HH.out.c1, by rw [viewL_length]; exact (cw 2).trans HH.out.c2, (cw 3).trans HH.out.c3, ?_, ⟨[], HIM.out, fun i => rfl⟩, fun i l h => (by cases h), by rw [viewL_length]; exact HH.out.pos, by rw [viewL_length]; exact HH.out.few⟩, ?_⟩
      · obtain ⟨cur, ht⟩ := HH.out.tag
        exact ⟨cur, (HUC.out.block b (by have := HI.out.up.size; omega) hbc).trans ((HI.out.up.block b lb hba).trans ht)⟩
      · exact (HI.out.up.mono (fun _ _ h => Or.inl h)).trans (HUC.out.mono (fun _ _ h => Or.inr h))
    · intro k v w' hmem hit' hlt hu hsz hc him hen
      have hget := im_mem HMM.out (HI.out.sub _ hmem)
      have hMk := HM.out k
      cases hC : C k with
      | none => rw [hC] at hMk; simp only [] at hMk; rw [hget] at hMk; cases hMk
      | some l =>
        rw [hC] at hMk
        obtain ⟨sv, k1, k2⟩ := hMk
        obtain rfl : v = sv := by rw [hget] at k1; cases k1; rfl
        obtain ⟨kq1, kq2⟩ := HH.out.keys k l hC
        obtain ⟨q, rfl⟩ : ∃ q : Nat, k = q := ⟨k.toNat, by omega⟩
        have hq : q < D.length := by omega
        have HIN := Lib.hid (sync_step HI.out hmem hq hC k2 hit' hu (by omega) (Nat.le_refl _) hca hna)
        obtain ⟨sk, so, sc, rfl, _⟩ := k2.shape
        obtain ⟨ov, a1, _, a3⟩ := (HI.out.all.upd hu (fun e => by omega) (fun k e => by rw [e]; exact HI.out.it.notB)).cellAt (i := q) (by rw [HI.out.len]; exact hq)
        have HIT := Lib.hid (IterAt.count hit')
        have HLT := Lib.hid hlt; clear hlt
        have c0w := (hc ⟨b, 0, none⟩).trans ((HI.out.up.cell (p := ⟨b, 0, none⟩) lb hba).trans HC0.out)
        clear hget k1 k2 hmem hit' hu hc him w1c hC
        go_wp2_with fail
        go_roundw
        case rel => exact ⟨_, _, HIN.out⟩
        case measure => rw [HIN.out.it.count, HI.out.it.count]; exact HLT.out
end Go.Proofs.Ytcmhcibkpmbnoaa
