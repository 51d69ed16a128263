/-
  Texts that come in; a fresh log.
-/
import Derived.Test.YtchpekecgdbphaaWalA
import Derived.Test.YtchpekecgdbphaaWalN
import Derived.ProofKit
import Derived.OpenShut
import Derived.Deep.Slices
import Derived.ChangeArms
set_option linter.unusedVariables false
namespace Go.Proofs.Ytchpekecgdbphaa
open Go Go.RowKit Go.MapKept Go.ChangeMaps Go.ChangeShapes Go.WideShapes Go.Deep

/-- A text that came in. -/
structure InT (w : World) (v : Value) (r : List Int) : Prop where
  b : BytV w v r
  is : IsB r
  sl : ∃ a c, v = .slice a r.length c ∧ r.length ≤ c
  few : r.length ≤ 140737488355328
theorem InT.old {w w' : World} {v : Value} {r : List Int} (h : InT w v r) (u : Upd (fun _ => False) w w') : InT w' v r := ⟨h.b.old u, h.is, h.sl, h.few⟩
theorem InT.lt {w : World} {k o n c : Nat} {r : List Int} (h : InT w (.slice (some ⟨k, o, none⟩) n c) r) (hr : 1 ≤ r.length) : k < w.heap.size := by
  rcases h.b with ⟨rfl, _⟩ | ⟨k', o', c', e, hc⟩
  · simp at hr
  · cases e
    exact World.block_lt_of_cell? _ _ (hc 0 (by omega))
/-- Texts that came in. -/
structure Ins (w : World) (v : Value) (L : List (List Int)) : Prop where
  sl : ∃ a c, v = .slice a L.length c
  few : L.length ≤ 140737488355328
  at_ : ∀ i, i < L.length → ∃ h o c sv, v = .slice (some ⟨h, o, none⟩) L.length c ∧ w.cell? ⟨h, o + i, none⟩ = some sv ∧ InT w sv (L.getD i [])
theorem Ins.old {w w' : World} {v : Value} {L : List (List Int)} (h : Ins w v L) (u : Upd (fun _ => False) w w') : Ins w' v L := ⟨h.sl, h.few, fun i hi => by
  obtain ⟨b, o, c, sv, h1, h2, h3⟩ := h.at_ i hi
  exact ⟨b, o, c, sv, h1, (u.cell (p := ⟨b, o + i, none⟩) (World.block_lt_of_cell? _ _ h2) (fun h => h)).trans h2, h3.old u⟩⟩
def un40 (x : Int) : Nat := (IntKind.u64.wrap x % 40).toNat
theorem un40_lt (x : Int) : un40 x < 40 := by unfold un40; omega
theorem u64_nn (x : Int) : 0 ≤ IntKind.u64.wrap x := by
  rw [IntKind.wrap_u64]; omega
theorem un40_is (x : Int) : wrap64 ((IntKind.u64.wrap x).tmod 40) = un40 x := by
  have h := u64_nn x
  unfold un40
  rw [Int.tmod_eq_emod_of_nonneg h]
  unfold wrap64; omega
structure FreshL (w : World) (m : Nat) (b ab cm wb : Nat) (e : Ending) (w' : World) : Prop where
  e : e = .returned (.tuple #[.pointer (some ⟨wb, 0, none⟩), .pointer (some ⟨b, 0, none⟩)])
  p : PlateAt w' b ab cm (headed (List.replicate (8 + m) zeros) 1 (headB 1 1 0 1)) (fun _ => none)
  wal : WalAt w' wb b (6 + m : Nat) 1 1 0 1 1 0
  up : Upd (fun _ => False) w w'
  ge : w.heap.size ≤ b ∧ w.heap.size ≤ ab ∧ w.heap.size ≤ cm ∧ w.heap.size ≤ wb
def FreshLPost (w : World) (m : Nat) (e : Ending) (w' : World) : Prop := ∃ b ab cm wb, FreshL w m b ab cm wb e w'
theorem rep_at {n i : Nat} (h : i < n) : (List.replicate n zeros).getD i [] = zeros := by
  rw [List.getD_eq_getElem?_getD, List.getElem?_replicate, if_pos h]; rfl
set_option maxRecDepth 100000 in
set_option maxHeartbeats 4000000 in
theorem fresh_law (x : Int) (w : World) : Calls Try.prog 7 #[.int .i64 x] w (FreshLPost w (un40 x)) := by
  have hm := un40_lt x
  have hu := un40_is x
  have h1 := IntKind.wrap_u64 x
  clear h1
  generalize un40 x = m at hm hu
  have HNW : Hid (∀ W, Calls Try.prog 21 #[.int .i64 (8 + (m : Int))] W (MadePost W (List.replicate (8 + m) zeros))) := Lib.hid fun W => by
    have h := new_any (8 + m) W (by omega) (by omega)
    rw [Int.natCast_add] at h
    exact h
  go_enter Try.func7, Try.ntmps7
  go_wp2_with fail
  refine (HNW.out _).mono ?_
  rintro e w1 ⟨b, ab, cm, rfl, hp, g1, g2, g3, hu1⟩
  have hlt1 := hp.lt
  have HP := Lib.hid hp; clear hp
  have U1 := Lib.hid hu1; clear hu1
  go_wp2_with fail
  refine (open_new w1 b ab cm (6 + m) (List.replicate (8 + m) zeros) HP.out (by rw [List.length_replicate]; omega) (by omega) (fun i hi => rep_at (by rw [List.length_replicate] at hi; exact hi))).mono ?_
  rintro e w2 ⟨wb, hn⟩
  obtain rfl := hn.e
  have HN := Lib.hid hn; clear hn
  go_wp2_with (go_at_call 17; refine (life_any HN.out.wal).mono ?_; rintro e w3 ⟨rfl, rfl⟩)
  go_ret2
  have hge := HN.out.ge
  exact ⟨b, ab, cm, wb, rfl, HN.out.p, HN.out.wal, U1.out.trans' HN.out.up (fun i hi e => by omega), g1, g2, g3, by have := U1.out.size; omega⟩
end Go.Proofs.Ytchpekecgdbphaa
