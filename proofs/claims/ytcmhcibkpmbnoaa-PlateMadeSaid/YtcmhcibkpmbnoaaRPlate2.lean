/-
  The reference's plate in memory: there, Read, Write.
-/
import Derived.Test.YtcmhcibkpmbnoaaRPlate1
import Derived.Test.YtcmhcibkpmbnoaaCrashy
import Derived.Deep.RegionHeld3
set_option linter.unusedVariables false
namespace Go.Proofs.Ytcmhcibkpmbnoaa
open Go Go.RowKit Go.MapKept Go.ChangeMaps

/-- The reference's plate at block x: N sectors; the durable ones (in hb) are B, those now (in hw) V, the dirty ones (in hd) T. -/
structure RAt (w : World) (x hb hw hd N : Nat) (B V : Nat → List Int) (T : Nat → Bool) : Prop where
  tag : ∃ cur, w.heap[x]? = some (.cells cur 58 (0, 0))
  c0 : ∃ c, w.cell? ⟨x, 0, none⟩ = some (.slice (some ⟨hb, 0, none⟩) N (N + c))
  c1 : ∃ c, w.cell? ⟨x, 1, none⟩ = some (.slice (some ⟨hw, 0, none⟩) N (N + c))
  c2 : ∃ c, w.cell? ⟨x, 2, none⟩ = some (.slice (some ⟨hd, 0, none⟩) N (N + c))
  c3 : w.cell? ⟨x, 3, none⟩ = some (.bool false)
  tb : ∃ cur, w.heap[hb]? = some (.cells cur 32 (0, 0))
  tw : ∃ cur, w.heap[hw]? = some (.cells cur 32 (0, 0))
  td : ∃ cur, w.heap[hd]? = some (.cells cur 4 (0, 0))
  sb : ∀ i, i < N → ∃ sv, w.cell? ⟨hb, i, none⟩ = some sv ∧ Sec w sv (B i)
  sw : ∀ i, i < N → ∃ sv, w.cell? ⟨hw, i, none⟩ = some sv ∧ Sec w sv (V i)
  sd : ∀ i, i < N → w.cell? ⟨hd, i, none⟩ = some (.bool (T i))
  ne : hb ≠ hw
  pos : 0 < N
  few : N ≤ 8192
theorem tag_lt {w : World} {b : Nat} {ty : TypeId} (h : ∃ cur, w.heap[b]? = some (.cells cur ty (0, 0))) : b < w.heap.size := by
  obtain ⟨cur, h⟩ := h
  exact (Array.getElem?_eq_some_iff.1 h).1
theorem tag_upd {F : Nat → Prop} {w w' : World} {b : Nat} {ty : TypeId} (h : ∃ cur, w.heap[b]? = some (.cells cur ty (0, 0))) (u : Upd F w w') (hF : ¬ F b) : ∃ cur, w'.heap[b]? = some (.cells cur ty (0, 0)) := by
  have lt := tag_lt h
  obtain ⟨cur, h⟩ := h
  exact ⟨cur, (u.block b lt hF).trans h⟩
theorem tag_put {w : World} {b : Nat} {ty : TypeId} (h : ∃ cur, w.heap[b]? = some (.cells cur ty (0, 0))) (k o : Nat) (v : Value) : ∃ cur, (w.setCell ⟨k, o, none⟩ v).heap[b]? = some (.cells cur ty (0, 0)) := by
  obtain ⟨cur, h⟩ := h
  by_cases e : k = b
  · subst e
    refine ⟨cur.setIfInBounds o v, ?_⟩
    show (w.heap.modify k _)[k]? = _
    rw [Array.getElem?_modify, if_pos rfl, h]
    rfl
  · refine ⟨cur, ?_⟩
    show (w.heap.modify k _)[b]? = _
    rw [Array.getElem?_modify, if_neg e, h]
theorem tag_ne {w : World} {a b : Nat} {s t : TypeId} (h : ∃ cur, w.heap[a]? = some (.cells cur s (0, 0))) (k : ∃ cur, w.heap[b]? = some (.cells cur t (0, 0))) (hne : s ≠ t) : a ≠ b := fun e => by
  obtain ⟨c1, h⟩ := h
  obtain ⟨c2, k⟩ := k
  rw [e, k] at h
  cases h
  exact hne rfl
theorem tag_notB {w : World} {b : Nat} {t : TypeId} (h : ∃ cur, w.heap[b]? = some (.cells cur t (0, 0))) (hne : t ≠ 5) : NotB w b := fun cur fr e => by
  obtain ⟨c, h⟩ := h
  rw [h] at e
  cases e
  exact hne rfl
theorem tag_frozen {w : World} {b : Nat} {t : TypeId} (h : ∃ cur, w.heap[b]? = some (.cells cur t (0, 0))) : ∀ o, w.frozen? ⟨b, o, none⟩ = false := fun o => by
  obtain ⟨cur, h⟩ := h
  simp [World.frozen?, h]
section
variable {w w' : World} {x hb hw hd N : Nat} {B V : Nat → List Int} {T : Nat → Bool}
theorem RAt.lt (h : RAt w x hb hw hd N B V T) : x < w.heap.size ∧ hb < w.heap.size ∧ hw < w.heap.size ∧ hd < w.heap.size := ⟨tag_lt h.tag, tag_lt h.tb, tag_lt h.tw, tag_lt h.td⟩
theorem RAt.apart (h : RAt w x hb hw hd N B V T) : x ≠ hb ∧ x ≠ hw ∧ x ≠ hd ∧ hb ≠ hd ∧ hw ≠ hd :=
  ⟨tag_ne h.tag h.tb (by decide), tag_ne h.tag h.tw (by decide), tag_ne h.tag h.td (by decide), tag_ne h.tb h.td (by decide), tag_ne h.tw h.td (by decide)⟩
theorem RAt.notB (h : RAt w x hb hw hd N B V T) : ∀ k, k = x ∨ k = hb ∨ k = hw ∨ k = hd → NotB w k := by
  rintro k (rfl | rfl | rfl | rfl)
  · exact tag_notB h.tag (by decide)
  · exact tag_notB h.tb (by decide)
  · exact tag_notB h.tw (by decide)
  · exact tag_notB h.td (by decide)
theorem RAt.upd {F : Nat → Prop} (h : RAt w x hb hw hd N B V T) (u : Upd F w w') (hx : ¬ F x) (h1 : ¬ F hb) (h2 : ¬ F hw) (h3 : ¬ F hd) (hF : ∀ k, F k → NotB w k) : RAt w' x hb hw hd N B V T := by
  obtain ⟨l0, l1, l2, l3⟩ := h.lt
  obtain ⟨d0, c0⟩ := h.c0
  obtain ⟨d1, c1⟩ := h.c1
  obtain ⟨d2, c2⟩ := h.c2
  refine ⟨tag_upd h.tag u hx, ⟨d0, (u.cell (p := ⟨x, 0, none⟩) l0 hx).trans c0⟩, ⟨d1, (u.cell (p := ⟨x, 1, none⟩) l0 hx).trans c1⟩, ⟨d2, (u.cell (p := ⟨x, 2, none⟩) l0 hx).trans c2⟩, (u.cell (p := ⟨x, 3, none⟩) l0 hx).trans h.c3,
    tag_upd h.tb u h1, tag_upd h.tw u h2, tag_upd h.td u h3, fun i hi => ?_, fun i hi => ?_, fun i hi => (u.cell (p := ⟨hd, i, none⟩) l3 h3).trans (h.sd i hi), h.ne, h.pos, h.few⟩
  · obtain ⟨sv, k1, k2⟩ := h.sb i hi
    exact ⟨sv, (u.cell (p := ⟨hb, i, none⟩) l1 h1).trans k1, k2.upd u hF⟩
  · obtain ⟨sv, k1, k2⟩ := h.sw i hi
    exact ⟨sv, (u.cell (p := ⟨hw, i, none⟩) l2 h2).trans k1, k2.upd u hF⟩
theorem RAt.old (h : RAt w x hb hw hd N B V T) (u : Upd (fun _ => False) w w') : RAt w' x hb hw hd N B V T := h.upd u (fun h => h) (fun h => h) (fun h => h) (fun h => h) (fun _ h => h.elim)
/-- One of a family is turned. -/
def fset {α : Type} (f : Nat → α) (i : Nat) (a : α) : Nat → α := fun j => if j = i then a else f j
theorem cell_put {w : World} {k o : Nat} {v u : Value} {b p : Nat} (h : w.cell? ⟨b, p, none⟩ = some u) (hne : b ≠ k ∨ p ≠ o) : (w.setCell ⟨k, o, none⟩ v).cell? ⟨b, p, none⟩ = some u := by
  rw [World.cell?_setCell_other _ _ _ _ (fun e => by simp only [Addr.mk.injEq] at e; omega), h]
theorem sec_put {w : World} {k o : Nat} {v sv : Value} {l : List Int} (h : Sec w sv l) (hk : NotB w k) : Sec (w.setCell ⟨k, o, none⟩ v) sv l :=
  h.upd ((Upd.refl (fun j => j = k) w).setCell (p := ⟨k, o, none⟩) (Or.inl rfl) v) (fun j e => by rw [e]; exact hk)
theorem RAt.setB (h : RAt w x hb hw hd N B V T) {i : Nat} {v : Value} {l : List Int} (hi : i < N) (hv : Sec w v l) : RAt (w.setCell ⟨hb, i, none⟩ v) x hb hw hd N (fset B i l) V T := by
  obtain ⟨a1, a2, a3, a4, a5⟩ := h.apart
  have hn := h.notB hb (by simp)
  have hne := h.ne
  obtain ⟨d0, c0⟩ := h.c0
  obtain ⟨d1, c1⟩ := h.c1
  obtain ⟨d2, c2⟩ := h.c2
  refine ⟨tag_put h.tag _ _ _, ⟨d0, cell_put c0 (.inl a1)⟩, ⟨d1, cell_put c1 (.inl a1)⟩, ⟨d2, cell_put c2 (.inl a1)⟩, cell_put h.c3 (.inl a1), tag_put h.tb _ _ _, tag_put h.tw _ _ _, tag_put h.td _ _ _, fun j hj => ?_, fun j hj => ?_, fun j hj => cell_put (h.sd j hj) (.inl a4.symm), h.ne, h.pos, h.few⟩
  · obtain ⟨sv, k1, k2⟩ := h.sb j hj
    unfold fset
    by_cases e : j = i
    · subst e
      exact ⟨v, World.cell?_setCell_same' _ _ _ (by rw [k1]; rfl), by rw [if_pos rfl]; exact sec_put hv hn⟩
    · exact ⟨sv, cell_put k1 (.inr e), by rw [if_neg e]; exact sec_put k2 hn⟩
  · obtain ⟨sv, k1, k2⟩ := h.sw j hj
    exact ⟨sv, cell_put k1 (.inl hne.symm), sec_put k2 hn⟩
theorem RAt.setW (h : RAt w x hb hw hd N B V T) {i : Nat} {v : Value} {l : List Int} (hi : i < N) (hv : Sec w v l) : RAt (w.setCell ⟨hw, i, none⟩ v) x hb hw hd N B (fset V i l) T := by
  obtain ⟨a1, a2, a3, a4, a5⟩ := h.apart
  have hn := h.notB hw (by simp)
  have hne := h.ne
  obtain ⟨d0, c0⟩ := h.c0
  obtain ⟨d1, c1⟩ := h.c1
  obtain ⟨d2, c2⟩ := h.c2
  refine ⟨tag_put h.tag _ _ _, ⟨d0, cell_put c0 (.inl a2)⟩, ⟨d1, cell_put c1 (.inl a2)⟩, ⟨d2, cell_put c2 (.inl a2)⟩, cell_put h.c3 (.inl a2), tag_put h.tb _ _ _, tag_put h.tw _ _ _, tag_put h.td _ _ _, fun j hj => ?_, fun j hj => ?_, fun j hj => cell_put (h.sd j hj) (.inl a5.symm), h.ne, h.pos, h.few⟩
  · obtain ⟨sv, k1, k2⟩ := h.sb j hj
    exact ⟨sv, cell_put k1 (.inl hne), sec_put k2 hn⟩
  · obtain ⟨sv, k1, k2⟩ := h.sw j hj
    unfold fset
    by_cases e : j = i
    · subst e
      exact ⟨v, World.cell?_setCell_same' _ _ _ (by rw [k1]; rfl), by rw [if_pos rfl]; exact sec_put hv hn⟩
    · exact ⟨sv, cell_put k1 (.inr e), by rw [if_neg e]; exact sec_put k2 hn⟩
theorem RAt.setD (h : RAt w x hb hw hd N B V T) {i : Nat} {t : Bool} (hi : i < N) : RAt (w.setCell ⟨hd, i, none⟩ (.bool t)) x hb hw hd N B V (fset T i t) := by
  obtain ⟨a1, a2, a3, a4, a5⟩ := h.apart
  have hn := h.notB hd (by simp)
  obtain ⟨d0, c0⟩ := h.c0
  obtain ⟨d1, c1⟩ := h.c1
  obtain ⟨d2, c2⟩ := h.c2
  refine ⟨tag_put h.tag _ _ _, ⟨d0, cell_put c0 (.inl a3)⟩, ⟨d1, cell_put c1 (.inl a3)⟩, ⟨d2, cell_put c2 (.inl a3)⟩, cell_put h.c3 (.inl a3), tag_put h.tb _ _ _, tag_put h.tw _ _ _, tag_put h.td _ _ _, fun j hj => ?_, fun j hj => ?_, fun j hj => ?_, h.ne, h.pos, h.few⟩
  · obtain ⟨sv, k1, k2⟩ := h.sb j hj
    exact ⟨sv, cell_put k1 (.inl a4), sec_put k2 hn⟩
  · obtain ⟨sv, k1, k2⟩ := h.sw j hj
    exact ⟨sv, cell_put k1 (.inl a5), sec_put k2 hn⟩
  · unfold fset
    by_cases e : j = i
    · subst e
      rw [if_pos rfl]
      exact World.cell?_setCell_same' _ _ _ (by rw [h.sd j hj]; rfl)
    · rw [if_neg e]
      exact cell_put (h.sd j hj) (.inr e)
end
theorem rthere (i : Int) (w : World) (x hb hw hd N : Nat) (B V : Nat → List Int) (T : Nat → Bool) (h : RAt w x hb hw hd N B V T) : Calls Try.prog 45 #[.pointer (some ⟨x, 0, none⟩), .int .i64 i] w (Same w (.bool (decide (0 ≤ i ∧ i < N)))) := by
  obtain ⟨d1, c1⟩ := h.c1
  have HH := Lib.hid h; clear h
  by_cases h1 : 0 ≤ i
  · by_cases h2 : i < N
    · rw [decide_eq_true ⟨h1, h2⟩]
      go_enter Try.func45, Try.ntmps45
      go_wp2
      go_ret
      exact ⟨rfl, rfl⟩
    · rw [decide_eq_false (fun h => h2 h.2)]
      go_enter Try.func45, Try.ntmps45
      go_wp2
      go_ret
      exact ⟨rfl, rfl⟩
  · rw [decide_eq_false (fun h => h1 h.1)]
    go_enter Try.func45, Try.ntmps45
    go_wp2
    go_ret
    exact ⟨rfl, rfl⟩
theorem rread_ok (i : Nat) (w : World) (x hb hw hd N : Nat) (B V : Nat → List Int) (T : Nat → Bool) (h : RAt w x hb hw hd N B V T) (hi : i < N) :
    Calls Try.prog 31 #[.pointer (some ⟨x, 0, none⟩), .int .i64 i] w (ReadPost w (V i)) := by
  have ht := rthere i w x hb hw hd N B V T h
  rw [decide_eq_true (by omega)] at ht
  have c3 := h.c3
  obtain ⟨d1, c1⟩ := h.c1
  obtain ⟨sv, hc, hsv⟩ := h.sw i hi
  obtain ⟨k, o, kc, rfl, hk⟩ := hsv.shape
  have HT := Lib.hid ht; clear ht
  have HSV := Lib.hid (rown_sec w _ (V i) hsv.byt hsv.len); clear hsv
  have hi2 : (i : Int) < (N : Int) := by omega
  clear h
  go_enter Try.func31, Try.ntmps31
  go_wp2_with (first
    | (go_at_call 45; refine HT.out.mono ?_; rintro e w' ⟨rfl, rfl⟩)
    | (go_at_call 42; refine HSV.out.mono ?_; rintro e w' ⟨v', rfl, hv', hf', hu'⟩))
  go_ret2
  exact ⟨v', rfl, hv', hf', hu'⟩
theorem rread_no (i : Int) (w : World) (x hb hw hd N : Nat) (B V : Nat → List Int) (T : Nat → Bool) (h : RAt w x hb hw hd N B V T) (hi : ¬ (0 ≤ i ∧ i < N)) :
    Calls Try.prog 31 #[.pointer (some ⟨x, 0, none⟩), .int .i64 i] w (Same w (.tuple #[.slice none 0 0, .int .i64 1])) := by
  have ht := rthere i w x hb hw hd N B V T h
  rw [decide_eq_false hi] at ht
  have c3 := h.c3
  have HT := Lib.hid ht; clear ht
  clear h
  go_enter Try.func31, Try.ntmps31
  go_wp2_with (go_at_call 45; refine HT.out.mono ?_; rintro e w' ⟨rfl, rfl⟩)
  go_ret2
  exact ⟨rfl, rfl⟩
end Go.Proofs.Ytcmhcibkpmbnoaa
