/-
  The reference's plate: Dirty, Image.
-/
import Derived.Test.YtcmhcibkpmbnoaaRPlate3
import Derived.Test.YtcmhcibkpmbnoaaDirtyI
set_option linter.unusedVariables false
namespace Go.Proofs.Ytcmhcibkpmbnoaa
open Go Go.RowKit Go.MapKept Go.ChangeMaps

/-- The first q numbers that are marked. -/
def dl (T : Nat → Bool) : Nat → List Int
  | 0 => []
  | q + 1 => if T q then dl T q ++ [(q : Int)] else dl T q
theorem dl_length (T : Nat → Bool) (q : Nat) : (dl T q).length ≤ q := by
  induction q with
  | zero => exact Nat.le_refl _
  | succ q ih =>
    unfold dl
    split
    · rw [List.length_append]; simp; omega
    · omega
theorem mem_dl (T : Nat → Bool) (q : Nat) (i : Int) : i ∈ dl T q ↔ ∃ j : Nat, i = j ∧ j < q ∧ T j = true := by
  induction q with
  | zero => exact ⟨fun h => (by cases h), fun ⟨j, _, h, _⟩ => absurd h (Nat.not_lt_zero _)⟩
  | succ q ih =>
    unfold dl
    by_cases e : T q = true
    · rw [if_pos e, List.mem_append, ih, List.mem_singleton]
      constructor
      · rintro (⟨j, h1, h2, h3⟩ | rfl)
        · exact ⟨j, h1, by omega, h3⟩
        · exact ⟨q, rfl, by omega, e⟩
      · rintro ⟨j, rfl, h2, h3⟩
        by_cases e2 : j = q
        · exact .inr (by rw [e2])
        · exact .inl ⟨j, rfl, by omega, h3⟩
    · rw [if_neg e, ih]
      constructor
      · rintro ⟨j, h1, h2, h3⟩
        exact ⟨j, h1, by omega, h3⟩
      · rintro ⟨j, rfl, h2, h3⟩
        by_cases e2 : j = q
        · subst e2; exact absurd h3 e
        · exact ⟨j, rfl, by omega, h3⟩
def RDirtyP (w : World) (N : Nat) (T : Nat → Bool) (e : Ending) (w' : World) : Prop :=
  ∃ v, e = .returned v ∧ IOwn w.heap.size w' v (dl T N) ∧ Upd (fun _ => False) w w'
set_option maxHeartbeats 2000000 in
theorem rdirty_any (w : World) (x hb hw hd N : Nat) (B V : Nat → List Int) (T : Nat → Bool) (h : RAt w x hb hw hd N B V T) :
    Calls Try.prog 38 #[.pointer (some ⟨x, 0, none⟩)] w (RDirtyP w N T) := by
  obtain ⟨d2, c2⟩ := h.c2
  have hfew := h.few
  have HR := Lib.hid h; clear h
  go_enter Try.func38, Try.ntmps38
  go_wp2_with fail
  go_loopw [3, 11] (fun out i wr => ∃ q : Nat, i = .int .i64 q ∧ q ≤ N ∧ IOwn w.heap.size wr out (dl T q) ∧ Upd (fun _ => False) w wr) (fun _ i _ => N - (intOf i).toNat)
  case atStart => exact ⟨0, rfl, by omega, ⟨rfl, .inl ⟨rfl, rfl⟩⟩, Upd.refl _ _⟩
  case round =>
    obtain ⟨q, rfl, hq, hown, hu⟩ := hrel
    obtain ⟨xa, xc, rfl⟩ := hown.shape
    have hdl := dl_length T q
    have HOWN := Lib.hid hown; clear hown
    have HU := Lib.hid hu; clear hu
    by_cases hlt : q < N
    · have hcell := (HR.out.old HU.out).sd q hlt
      have hi0 : (0 : Int) ≤ (q : Int) := by omega
      have hi2 : (q : Int) < (N : Int) := by omega
      have HDL : Hid (dl T (q + 1) = if T q then dl T q ++ [(q : Int)] else dl T q) := Lib.hid rfl
      generalize dl T q = K at HOWN hdl HDL
      cases hb : T q with
      | false =>
        rw [hb] at hcell
        go_wp2_with fail
        go_roundw
        case rel => exact ⟨q + 1, by go_num, hlt, by rw [HDL.out, hb]; exact HOWN.out, HU.out⟩
        case measure => simp [intOf]; omega
      | true =>
        rw [hb] at hcell
        go_wp2_with (at_builtin; go_must (refine wpList_append_int1 rfl _ _ rfl w.heap.size _ K (q : Int) wr.heap.size 1 rfl ?hown rfl ?hcell ?hlen ?hB ?_))
        case hown => exact HOWN.out.upd ((Upd.refl (fun _ => False) _).alloc _) (fun _ _ h => h)
        case hcell => simp [go_sem, encI]
        case hlen => omega
        case hB => simp; have := HU.out.size; omega
        intro v' w3 hown3 hu3
        obtain ⟨ra', m', rc', rfl, hm'⟩ : ∃ a m c, v' = .slice a m c ∧ m = (K ++ [(q : Int)]).length := by
          obtain ⟨a, c, e⟩ := hown3.shape
          exact ⟨a, _, c, e, rfl⟩
        clear hm'
        have HOWN3 := Lib.hid hown3; clear hown3
        have hge4 := HOWN.out.ge
        have HU3 := Lib.hid (HU.out.trans' ((((Upd.refl _ _).alloc _).trans hu3 : Upd (fun k => some k = (Value.slice xa K.length xc).ownBlock) wr w3)) (fun i hi e => by have := hge4 i e; omega))
        clear hge4 hu3
        go_wp2_with fail
        go_roundw
        case rel => exact ⟨q + 1, by go_num, hlt, by rw [HDL.out, hb]; exact HOWN3.out, HU3.out⟩
        case measure => simp [intOf]; omega
    · obtain rfl : q = N := by omega
      go_wp2_with fail
      go_ret
      exact ⟨_, rfl, HOWN.out, HU.out⟩
/-- The row of a family. -/
def rowL (f : Nat → List Int) (N : Nat) : List (List Int) := (List.range N).map f
theorem rowL_length (f : Nat → List Int) (N : Nat) : (rowL f N).length = N := by simp [rowL]
theorem rowL_get {f : Nat → List Int} {N i : Nat} (h : i < N) : (rowL f N).getD i [] = f i := by
  unfold rowL
  rw [List.getD_eq_getElem?_getD, List.getElem?_map, List.getElem?_range h]
  rfl
theorem RAt.rowB {w : World} {x hb hw hd N : Nat} {B V : Nat → List Int} {T : Nat → Bool} (h : RAt w x hb hw hd N B V T) : ∃ v, w.cell? ⟨x, 0, none⟩ = some v ∧ Secs w v hb (rowL B N) := by
  obtain ⟨d0, c0⟩ := h.c0
  obtain ⟨cur, ht⟩ := h.tb
  refine ⟨_, c0, N + d0, cur, by rw [rowL_length], by rw [rowL_length]; omega, ht, fun i hi => ?_⟩
  rw [rowL_length] at hi
  rw [rowL_get hi]
  exact h.sb i hi
theorem RAt.rowW {w : World} {x hb hw hd N : Nat} {B V : Nat → List Int} {T : Nat → Bool} (h : RAt w x hb hw hd N B V T) : ∃ v, w.cell? ⟨x, 1, none⟩ = some v ∧ Secs w v hw (rowL V N) := by
  obtain ⟨d0, c0⟩ := h.c1
  obtain ⟨cur, ht⟩ := h.tw
  refine ⟨_, c0, N + d0, cur, by rw [rowL_length], by rw [rowL_length]; omega, ht, fun i hi => ?_⟩
  rw [rowL_length] at hi
  rw [rowL_get hi]
  exact h.sw i hi
theorem rall_secs (w : World) (v : Value) (h : Nat) (L : List (List Int)) (hs : Secs w v h L) (hp : 0 < L.length) (hf : L.length ≤ 8192) : Calls Try.prog 20 #[v] w (SecsPost w L) :=
  rall_any w v L hs.txt (fun i hi => by
    obtain ⟨c, cur, _, _, _, hc⟩ := hs
    obtain ⟨sv, _, k⟩ := hc i hi
    exact k.len) hp hf
theorem rimage_any (w : World) (x hb hw hd N : Nat) (B V : Nat → List Int) (T : Nat → Bool) (h : RAt w x hb hw hd N B V T) : Calls Try.prog 40 #[.pointer (some ⟨x, 0, none⟩)] w (SecsPost w (rowL B N)) := by
  obtain ⟨bv, c0, hs⟩ := h.rowB
  have HA := Lib.hid (rall_secs w bv hb _ hs (by rw [rowL_length]; exact h.pos) (by rw [rowL_length]; exact h.few))
  obtain ⟨c, cur, rfl, hl, _, _⟩ := hs
  clear h hl
  go_enter Try.func40, Try.ntmps40
  go_wp2_with (go_at_call 20; refine HA.out.mono ?_; rintro e w' ⟨v', h', rfl, hs', hh', hu'⟩)
  go_ret
  exact ⟨v', h', rfl, hs', hh', hu'⟩
end Go.Proofs.Ytcmhcibkpmbnoaa
