/-
  Of, New: plates are made.
-/
import Derived.Test.YtchpekecgdbphaaPlate4
import Derived.Test.YtchpekecgdbphaaSh2
import Derived.Laws.CopyOwn
import Derived.Laws.CopyRow
import Derived.RegionTactic
import Derived.BigRegion
namespace Go.Proofs.Ytchpekecgdbphaa
open Go Go.RowKit Go.MapKept Go.ChangeMaps

theorem odd_sec (w : World) (v : Value) (l : List Int) (h : Sec w v l) : Calls Try.prog 54 #[v] w (Same w (.bool false)) := by
  obtain ⟨k, o, c, rfl, _⟩ := h.shape
  clear h
  go_enter Try.func54, Try.ntmps54
  go_wp2
  go_ret
  exact ⟨rfl, rfl⟩
theorem index_odd (w : World) (h : Nat) (v : Value) (L : List (List Int)) (hs : Secs w v h L) (hf : L.length ≤ 8192) :
    Calls Try.prog 62 #[v, .func (.func 54) #[] #[]] w (Same w (.int .i64 (-1))) := by
  have hs' := hs
  obtain ⟨vc, _, rfl, _, _, _⟩ := hs'
  have HS := Lib.hid hs; clear hs
  go_enter Try.func62, Try.ntmps62
  go_wp2
  go_loop [8] (fun i => ∃ k : Nat, k ≤ L.length ∧ i = .int .i64 k) (fun i => L.length - (intOf i).toNat)
  case atStart => exact ⟨0, Nat.zero_le _, rfl⟩
  case round =>
    obtain ⟨k, hk, rfl⟩ := hrel
    by_cases hlt : k < L.length
    · obtain ⟨sv, hc, hsv, _⟩ := HS.out.cellAt hlt
      obtain ⟨sk, so, sc, rfl, _⟩ := hsv.shape
      have HSV := Lib.hid hsv; clear hsv
      go_wp2_with (go_at_call 54; refine (odd_sec _ _ _ HSV.out).mono ?_; rintro e w' ⟨rfl, rfl⟩)
      go_round
      case rel => exact ⟨k + 1, by omega, by go_num⟩
      case measure => simp [intOf]; omega
    · go_wp2
      go_ret
      exact ⟨rfl, rfl⟩
theorem contains_odd (w : World) (h : Nat) (v : Value) (L : List (List Int)) (hs : Secs w v h L) (hf : L.length ≤ 8192) :
    Calls Try.prog 55 #[v, .func (.func 54) #[] #[]] w (Same w (.bool false)) := by
  have hs' := hs
  obtain ⟨vc, _, rfl, _, _, _⟩ := hs'
  have HS := Lib.hid hs; clear hs
  go_enter Try.func55, Try.ntmps55
  go_wp2_with (go_at_call 62; refine (index_odd _ h _ L HS.out hf).mono ?_; rintro e w' ⟨rfl, rfl⟩)
  go_ret
  exact ⟨rfl, rfl⟩
/-- A plate that was made. -/
def MadePost (w : World) (L : List (List Int)) (e : Ending) (w' : World) : Prop :=
  ∃ b ab cm, e = .returned (.tuple #[.pointer (some ⟨b, 0, none⟩), .int .i64 0]) ∧ PlateAt w' b ab cm L (fun _ => none) ∧ w.heap.size ≤ b ∧ w.heap.size ≤ ab ∧ w.heap.size ≤ cm ∧ Upd (fun _ => False) w w'
theorem of_any (w : World) (h : Nat) (v : Value) (L : List (List Int)) (hs : Secs w v h L) (hp : 0 < L.length) (hf : L.length ≤ 8192) :
    Calls Try.prog 42 #[v] w (MadePost w L) := by
  have hmm := @run_makeMap Try.prog
  have hs' := hs
  obtain ⟨vc, _, rfl, _, _, _⟩ := hs'
  have HS := Lib.hid hs; clear hs
  go_enter Try.func42, Try.ntmps42
  go_wp2_with (first
    | (go_at_call 55; refine (contains_odd _ h _ L HS.out hf).mono ?_; rintro e w' ⟨rfl, rfl⟩)
    | (go_at_call 56; refine (clone_any _ w.heap.size h (.slice (some ⟨h, 0, none⟩) L.length vc) L (by simp [go_sem]) (HS.out.old ((Upd.refl _ _).alloc _)) hp hf).mono ?_; rintro e w1 ⟨v1, h1, rfl, hs1, hh1, hu1⟩; have hs1' := hs1; obtain ⟨vc1, _, rfl, _, _, _⟩ := hs1'))
  go_ret2
  have u : Upd (fun _ => False) w w1 := ((Upd.refl _ _).alloc _).trans hu1
  have u2 : Upd (fun _ => False) w1 ((w1.alloc (.map #[] 0)).alloc (.cells #[.slice (some ⟨h1, 0, none⟩) L.length vc1, .map (some w1.heap.size), .int .i64 L.length, .bool false] 57)) := ((Upd.refl _ _).alloc _).alloc _
  have ht := (MapKept.heap_alloc (w1.alloc (.map #[] 0)) (.cells #[.slice (some ⟨h1, 0, none⟩) L.length vc1, .map (some w1.heap.size), .int .i64 L.length, .bool false] 57)).1
  have hsz : (w1.alloc (.map #[] 0)).heap.size = w1.heap.size + 1 := by simp
  rw [hsz] at ht
  refine ⟨w1.heap.size + 1, h1, w1.heap.size, rfl, ⟨⟨_, by simp [go_sem], hs1.old u2⟩, by simp [go_sem], by simp [go_sem], by simp [go_sem], ⟨_, ht⟩,
    ⟨[], by simp [go_sem], fun i => rfl⟩, fun i l h => (by cases h), hp, hf⟩, ?_, ?_, ?_, u.trans u2⟩
  · have := u.size; omega
  · simp at hh1; omega
  · exact u.size
end Go.Proofs.Ytchpekecgdbphaa
