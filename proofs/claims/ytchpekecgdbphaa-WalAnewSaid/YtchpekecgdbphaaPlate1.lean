/-
  A plate in memory; its small functions.
-/
import Derived.Test.YtchpekecgdbphaaProg
import Derived.Test.YtchpekecgdbphaaLib3
import Derived.Test.YtchpekecgdbphaaShelf
namespace Go.Proofs.Ytchpekecgdbphaa
open Go Go.RowKit

/-- v is a sector: 64 bytes that read so, in a block of bytes. -/
def Sec (w : World) (v : Value) (l : List Int) : Prop :=
  ∃ k o c cur, v = .slice (some ⟨k, o, none⟩) 64 (64 + c) ∧ l.length = 64 ∧ w.heap[k]? = some (.cells cur 5 (0, 0)) ∧ ∀ j, j < 64 → w.cell? ⟨k, o + j, none⟩ = some (.int .u8 (l.getD j 0))
/-- Block k is none of bytes. -/
def NotB (w : World) (k : Nat) : Prop := ∀ cur fr, w.heap[k]? ≠ some (.cells cur 5 fr)
theorem Sec.upd {F : Nat → Prop} {w w' : World} {v : Value} {l : List Int} (h : Sec w v l) (u : Upd F w w') (hF : ∀ k, F k → NotB w k) : Sec w' v l := by
  obtain ⟨k, o, c, cur, hv, hl, hk, hc⟩ := h
  have hlt : k < w.heap.size := (Array.getElem?_eq_some_iff.1 hk).1
  have hn : ¬ F k := fun h => hF k h cur (0, 0) hk
  exact ⟨k, o, c, cur, hv, hl, (u.block k hlt hn).trans hk, fun j hj => (u.cell (p := ⟨k, o + j, none⟩) hlt hn).trans (hc j hj)⟩
theorem Sec.old {w w' : World} {v : Value} {l : List Int} (h : Sec w v l) (u : Upd (fun _ => False) w w') : Sec w' v l := h.upd u (fun _ h => h.elim)
theorem Sec.shape {w : World} {v : Value} {l : List Int} (h : Sec w v l) : ∃ k o c, v = .slice (some ⟨k, o, none⟩) 64 c ∧ k < w.heap.size := by
  obtain ⟨k, o, c, cur, hv, _, hk, _⟩ := h
  exact ⟨k, o, _, hv, (Array.getElem?_eq_some_iff.1 hk).1⟩
theorem Sec.cap {w : World} {a : Option Addr} {n c : Nat} {l : List Int} (h : Sec w (.slice a n c) l) : 64 ≤ c := by
  obtain ⟨_, _, c', _, hv, _⟩ := h
  cases hv
  omega
theorem Sec.len {w : World} {v : Value} {l : List Int} (h : Sec w v l) : l.length = 64 := by
  obtain ⟨k, o, c, cur, _, hl, _⟩ := h
  exact hl
/-- v is a slice of sectors, its headers in block h. -/
def Secs (w : World) (v : Value) (h : Nat) (L : List (List Int)) : Prop :=
  ∃ c cur, v = .slice (some ⟨h, 0, none⟩) L.length c ∧ L.length ≤ c ∧ w.heap[h]? = some (.cells cur 28 (0, 0)) ∧ ∀ i, i < L.length → ∃ sv, w.cell? ⟨h, i, none⟩ = some sv ∧ Sec w sv (L.getD i [])
theorem Secs.upd {F : Nat → Prop} {w w' : World} {v : Value} {h : Nat} {L : List (List Int)} (H : Secs w v h L) (u : Upd F w w') (hh : ¬ F h) (hF : ∀ k, F k → NotB w k) : Secs w' v h L := by
  obtain ⟨c, cur, hv, hl, hk, hc⟩ := H
  have hlt : h < w.heap.size := (Array.getElem?_eq_some_iff.1 hk).1
  refine ⟨c, cur, hv, hl, (u.block h hlt hh).trans hk, fun i hi => ?_⟩
  obtain ⟨sv, h1, h2⟩ := hc i hi
  exact ⟨sv, (u.cell (p := ⟨h, i, none⟩) hlt hh).trans h1, h2.upd u hF⟩
theorem Secs.old {w w' : World} {v : Value} {h : Nat} {L : List (List Int)} (H : Secs w v h L) (u : Upd (fun _ => False) w w') : Secs w' v h L := H.upd u (fun h => h) (fun _ h => h.elim)
theorem Secs.lt {w : World} {v : Value} {h : Nat} {L : List (List Int)} (H : Secs w v h L) : h < w.heap.size := by
  obtain ⟨c, cur, _, _, hk, _⟩ := H
  exact (Array.getElem?_eq_some_iff.1 hk).1
theorem Secs.notB {w : World} {v : Value} {h : Nat} {L : List (List Int)} (H : Secs w v h L) : NotB w h := by
  obtain ⟨c, cur, _, _, hk, _⟩ := H
  intro cur' fr e
  rw [hk] at e
  cases e
theorem im_notB {w : World} {k : Nat} (h : (w.im k).isSome = true) : NotB w k := by
  intro cur fr e
  unfold World.im at h
  rw [e] at h
  cases h
/-- A plate at block b: its durable sectors' headers in block ab, its cache in block cm. -/
structure PlateAt (w : World) (b ab cm : Nat) (D : List (List Int)) (C : Int → Option (List Int)) : Prop where
  c0 : ∃ v, w.cell? ⟨b, 0, none⟩ = some v ∧ Secs w v ab D
  c1 : w.cell? ⟨b, 1, none⟩ = some (.map (some cm))
  c2 : w.cell? ⟨b, 2, none⟩ = some (.int .i64 D.length)
  c3 : w.cell? ⟨b, 3, none⟩ = some (.bool false)
  tag : ∃ cur, w.heap[b]? = some (.cells cur 57 (0, 0))
  cache : ∃ M, w.im cm = some M ∧ ∀ i : Int, match C i with
    | none => aget M i = none
    | some l => ∃ sv, aget M i = some sv ∧ Sec w sv l
  keys : ∀ i l, C i = some l → 0 ≤ i ∧ i < D.length
  pos : 0 < D.length
  few : D.length ≤ 8192
theorem PlateAt.lt {w : World} {b ab cm : Nat} {D : List (List Int)} {C : Int → Option (List Int)} (h : PlateAt w b ab cm D C) : b < w.heap.size ∧ ab < w.heap.size ∧ cm < w.heap.size := by
  obtain ⟨v, _, hs⟩ := h.c0
  obtain ⟨M, hm, _⟩ := h.cache
  exact ⟨World.block_lt_of_cell? _ _ h.c1, hs.lt, im_lt (w := w) (by rw [hm]; rfl)⟩
theorem PlateAt.upd {F : Nat → Prop} {w w' : World} {b ab cm : Nat} {D : List (List Int)} {C : Int → Option (List Int)} (h : PlateAt w b ab cm D C) (u : Upd F w w') (hb : ¬ F b) (ha : ¬ F ab) (hc : ¬ F cm) (hF : ∀ k, F k → NotB w k) : PlateAt w' b ab cm D C := by
  obtain ⟨lb, la, lc⟩ := h.lt
  obtain ⟨v, h0, hs⟩ := h.c0
  obtain ⟨cur, ht⟩ := h.tag
  obtain ⟨M, hm, hM⟩ := h.cache
  refine ⟨⟨v, (u.cell (p := ⟨b, 0, none⟩) lb hb).trans h0, hs.upd u ha hF⟩, (u.cell (p := ⟨b, 1, none⟩) lb hb).trans h.c1, (u.cell (p := ⟨b, 2, none⟩) lb hb).trans h.c2, (u.cell (p := ⟨b, 3, none⟩) lb hb).trans h.c3, ⟨cur, (u.block b lb hb).trans ht⟩,
    ⟨M, (u.im lc hc).trans hm, fun i => ?_⟩, h.keys, h.pos, h.few⟩
  have := hM i
  cases hC : C i with
  | none => rw [hC] at this; exact this
  | some l =>
    rw [hC] at this
    obtain ⟨sv, h1, h2⟩ := this
    exact ⟨sv, h1, h2.upd u hF⟩
theorem PlateAt.old {w w' : World} {b ab cm : Nat} {D : List (List Int)} {C : Int → Option (List Int)} (h : PlateAt w b ab cm D C) (u : Upd (fun _ => False) w w') : PlateAt w' b ab cm D C := h.upd u (fun h => h) (fun h => h) (fun h => h) (fun _ h => h.elim)
/-- What is read of sector i. -/
def view (D : List (List Int)) (C : Int → Option (List Int)) (i : Nat) : List Int := (C i).getD (D.getD i [])

def Same (w : World) (v : Value) (e : Ending) (w' : World) : Prop := e = .returned v ∧ w = w'
theorem state_ok (w : World) (b ab cm : Nat) (D : List (List Int)) (C : Int → Option (List Int)) (h : PlateAt w b ab cm D C) : Calls Try.prog 29 #[.pointer (some ⟨b, 0, none⟩)] w (Same w (.int .i64 0)) := by
  have c2 := h.c2
  have c3 := h.c3
  have hp := h.pos
  have HH := Lib.hid h; clear h
  go_enter Try.func29, Try.ntmps29
  go_wp2
  go_ret
  exact ⟨rfl, rfl⟩
theorem has_any (i : Int) (w : World) (b ab cm : Nat) (D : List (List Int)) (C : Int → Option (List Int)) (h : PlateAt w b ab cm D C) : Calls Try.prog 44 #[.pointer (some ⟨b, 0, none⟩), .int .i64 i] w (Same w (.bool (decide (0 ≤ i ∧ i < D.length)))) := by
  obtain ⟨v, h0, c, cur, rfl, hl, _, _⟩ := h.c0
  have HH := Lib.hid h; clear h
  by_cases h1 : 0 ≤ i
  · by_cases h2 : i < D.length
    · rw [decide_eq_true ⟨h1, h2⟩]
      go_enter Try.func44, Try.ntmps44
      go_wp2
      go_ret
      exact ⟨rfl, rfl⟩
    · rw [decide_eq_false (fun h => h2 h.2)]
      go_enter Try.func44, Try.ntmps44
      go_wp2
      go_ret
      exact ⟨rfl, rfl⟩
  · rw [decide_eq_false (fun h => h1 h.1)]
    go_enter Try.func44, Try.ntmps44
    go_wp2
    go_ret
    exact ⟨rfl, rfl⟩

/-- A sector of memory of its own. -/
def ClonePost (w : World) (l : List Int) (e : Ending) (w' : World) : Prop := ∃ v', e = .returned v' ∧ Sec w' v' l ∧ Fresh w.heap.size v' ∧ Upd (fun _ => False) w w'
theorem sec_of_owns {w : World} {base : Nat} {v : Value} {l : List Int} (hl : l.length = 64) (h : w.ownsRow base 5 1 v 64 (l.map (Value.int .u8))) : Sec w v l := by
  obtain ⟨_, ⟨_, h0⟩ | ⟨g, cap, cur, rfl, hg, hh, hn, hm, hs, ht⟩⟩ := h
  · cases h0
  · refine ⟨g, 0, cap - 64, cur, by rw [Nat.add_sub_cancel' hn], hl, hh, fun j hj => ?_⟩
    unfold World.cell?
    rw [hh]
    simp only [Option.isSome_none, Bool.false_eq_true, if_false, Nat.zero_add]
    have h1 : (cur.toList.take (64 * 1))[j]? = (l.map (Value.int .u8))[j]? := by rw [ht]
    rw [List.getElem?_take_of_lt (by omega), List.getElem?_map, List.getElem?_eq_getElem (by omega : j < l.length)] at h1
    rw [← Array.getElem?_toList, h1, List.getD_eq_getElem?_getD, List.getElem?_eq_getElem (by omega : j < l.length)]
    rfl
theorem clone_sec (w : World) (v : Value) (l : List Int) (h : Sec w v l) : Calls Try.prog 12 #[v] w (ClonePost w l) := by
  obtain ⟨k, o, c, cur, rfl, hl, _, hc⟩ := h
  refine (Try.bytes_Clone_at ⟨k, o, none⟩ 64 _ l w hl (by omega) (fun i hi => by rw [Addr.add_lit]; exact hc i hi)).mono ?_
  rintro e w' ⟨v', rfl, ho, _, hb⟩
  exact ⟨v', rfl, sec_of_owns hl ho, Fresh.of_owns ho, Upd.of_below hb⟩
theorem look_sec (w : World) (b : Nat) (k : Int) (ok : Bool) : (Instr.lookup 55 (.map (some b)) (.int .i64 k) ok).run Try.prog w =
    lookR (.slice none 0 0) w k (LookElse Try.prog 55 b k ok w) ok (w.im b) :=
  run_lookup_any Try.underlying55 Try.underlying3 (fun _ => by kernel_rfl) w b k ok
theorem put_sec (w : World) (b : Nat) (k : Int) (v : Value) : (Instr.mapUpdate 55 (.map (some b)) (.int .i64 k) v).run Try.prog w = putR w b k v (PutElse Try.prog 55 b k v w) (w.im b) :=
  run_mapUpdate_any Try.underlying55 Try.underlying3 w b k v

def ReadPost (w : World) (l : List Int) (e : Ending) (w' : World) : Prop := ∃ v', e = .returned (.tuple #[v', .int .i64 0]) ∧ Sec w' v' l ∧ Fresh w.heap.size v' ∧ Upd (fun _ => False) w w'
theorem read_any (i : Nat) (w : World) (b ab cm : Nat) (D : List (List Int)) (C : Int → Option (List Int)) (h : PlateAt w b ab cm D C) (hi : i < D.length) :
    Calls Try.prog 32 #[.pointer (some ⟨b, 0, none⟩), .int .i64 i] w (ReadPost w (view D C i)) := by
  have lv := look_sec
  have c1 := h.c1
  have hh := has_any i w b ab cm D C h
  rw [decide_eq_true (by omega)] at hh
  obtain ⟨v, h0, c, cur, rfl, hl, _, hsec⟩ := h.c0
  obtain ⟨sv, hsv, hss⟩ := hsec i hi
  obtain ⟨M, hm, hM⟩ := h.cache
  have hMi := hM i
  have HS := state_ok w b ab cm D C h
  have HSEC := Lib.hid hsec; clear hsec
  have HM := Lib.hid hM; clear hM
  have HH := Lib.hid h; clear h
  have HHH := Lib.hid hh; clear hh
  have HST := Lib.hid HS; clear HS
  cases hC : C i with
  | some l =>
    rw [hC] at hMi
    obtain ⟨cv, hcv, hcs⟩ := hMi
    obtain ⟨k, o, cc, rfl, hk⟩ := hcs.shape
    have HCS := Lib.hid hcs; clear hcs
    have hvw : view D C i = l := by unfold view; rw [hC]; rfl
    rw [hvw]
    clear hvw hC
    go_enter Try.func32, Try.ntmps32
    go_wp2_with (first
      | (go_at_call 29; refine HST.out.mono ?_; rintro e w' ⟨rfl, rfl⟩)
      | (go_at_call 44; refine HHH.out.mono ?_; rintro e w' ⟨rfl, rfl⟩)
      | (go_at_call 12; refine (clone_sec _ _ l HCS.out).mono ?_; rintro e w' ⟨v', rfl, hv', hf', hu'⟩; obtain ⟨k', o', c', rfl, hk'⟩ := hv'.shape))
    go_ret2
    exact ⟨_, rfl, hv', hf', hu'⟩
  | none =>
    rw [hC] at hMi
    obtain ⟨k, o, cc, rfl, hk⟩ := hss.shape
    have HCS := Lib.hid hss; clear hss
    have hvw : view D C i = D.getD i [] := by unfold view; rw [hC]; rfl
    rw [hvw]
    clear hvw hC
    go_enter Try.func32, Try.ntmps32
    go_wp2_with (first
      | (go_at_call 29; refine HST.out.mono ?_; rintro e w' ⟨rfl, rfl⟩)
      | (go_at_call 44; refine HHH.out.mono ?_; rintro e w' ⟨rfl, rfl⟩)
      | (go_at_call 12; refine (clone_sec _ _ (D.getD i []) HCS.out).mono ?_; rintro e w' ⟨v', rfl, hv', hf', hu'⟩; obtain ⟨k', o', c', rfl, hk'⟩ := hv'.shape))
    go_ret2
    exact ⟨_, rfl, hv', hf', hu'⟩
theorem read_arg (i : Int) (w : World) (b ab cm : Nat) (D : List (List Int)) (C : Int → Option (List Int)) (h : PlateAt w b ab cm D C) (hi : ¬ (0 ≤ i ∧ i < D.length)) :
    Calls Try.prog 32 #[.pointer (some ⟨b, 0, none⟩), .int .i64 i] w (Same w (.tuple #[.slice none 0 0, .int .i64 1])) := by
  have hh := has_any i w b ab cm D C h
  rw [decide_eq_false hi] at hh
  have HST := Lib.hid (state_ok w b ab cm D C h)
  have HHH := Lib.hid hh; clear hh
  clear h
  go_enter Try.func32, Try.ntmps32
  go_wp2_with (first
    | (go_at_call 29; refine HST.out.mono ?_; rintro e w' ⟨rfl, rfl⟩)
    | (go_at_call 44; refine HHH.out.mono ?_; rintro e w' ⟨rfl, rfl⟩))
  go_ret2
  exact ⟨rfl, rfl⟩
end Go.Proofs.Ytchpekecgdbphaa
