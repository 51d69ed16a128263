/-
  A number's eight bytes.
-/
import Derived.Test.YtchpekecgdbphaaWal1
namespace Go.Proofs.Ytchpekecgdbphaa
open Go Go.RowKit Go.MapKept Go.ChangeMaps

def eby (n : Int) (q : Nat) : Int := n / 2 ^ (56 - 8 * q) % 256
def eightB (n : Int) : List Int := (List.range 8).map (eby n)
theorem eightB_length (n : Int) : (eightB n).length = 8 := by simp [eightB]
theorem eightB_next (n : Int) {q : Nat} (h : q < 8) : (eightB n).take (q + 1) = (eightB n).take q ++ [eby n q] := by
  rw [List.take_succ_eq_append_getElem (by rw [eightB_length]; exact h)]
  simp [eightB]
theorem one_byt {w : World} {x : Int} : BytV (w.alloc (.cells #[.int .u8 x] 5)) (.slice (some ⟨w.heap.size, 0, none⟩) 1 1) [x] :=
  .inr ⟨w.heap.size, 0, 1, rfl, fun j hj => by
    obtain rfl : j = 0 := by simpa using hj
    rw [World.cell?_alloc_at _ _ _ _ rfl]
    rfl⟩
theorem OwnPost.of {w w' : World} {l : List Int} {v : Value} (h : Own w.heap.size w' v l) (u : Upd (fun _ => False) w w') : OwnPost w l (.returned v) w' := ⟨v, rfl, h, u⟩
set_option maxHeartbeats 1000000 in
theorem eight_any (n : Int) (w : World) : Calls Try.prog 46 #[.int .i64 n] w (OwnPost w (eightB n)) := by
  have HL := Lib.hid (eightB_length n)
  have HX := fun q (h : q < 8) => Lib.hid (eightB_next n h)
  generalize eightB n = E at HL HX ⊢
  go_enter Try.func46, Try.ntmps46
  go_wp2_with fail
  go_loopw [3, 4] (fun b s wr => ∃ q : Nat, q ≤ 8 ∧ s = .int .i64 (56 - 8 * q) ∧ Own w.heap.size wr b (E.take q) ∧ Upd (fun _ => False) w wr) (fun _ s _ => ((intOf s) + 8).toNat)
  case atStart => exact ⟨0, by omega, rfl, Own.nil _ _, Upd.refl _ _⟩
  case round =>
    obtain ⟨q, hq, rfl, ho, hu⟩ := hrel
    obtain ⟨va, vc, rfl⟩ := ho.shape
    have HO := Lib.hid ho; clear ho
    have HU := Lib.hid hu; clear hu
    by_cases hlt : q < 8
    · have h1 := Lib.hid (HX q hlt).out
      have h4 : (E.take q).length + [eby n q].length ≤ 1099511627776 := by
        have : (E.take q).length ≤ q := by simp; omega
        simp; omega
      go_wp2_with (at_builtin; go_must (refine wpList_append_byt rfl _ _ rfl w.heap.size _ _ (E.take q) [eby n q] rfl (HO.out.old ((Upd.refl _ _).alloc _)) rfl one_byt h4 (by have := HU.out.size; simp; omega) ?_))
      intro v' w' ho' hu'
      rw [← h1.out] at ho'
      obtain ⟨va', vc', rfl⟩ := ho'.shape
      have HO' := Lib.hid ho'; clear ho'
      have HU' := Lib.hid (((HU.out.alloc _)).trans' hu' (fun i hi e => by omega)); clear hu'
      clear h1 h4
      go_wp2_with fail
      go_roundw
      case rel => exact ⟨q + 1, by omega, by go_num, HO'.out, HU'.out⟩
      case measure => simp [intOf]; omega
    · obtain rfl : q = 8 := by omega
      go_wp2_with fail
      go_ret
      have h := HO.out
      have e8 : E.take 8 = E := by rw [← HL.out, List.take_length]
      rw [e8] at h ⊢
      exact OwnPost.of h HU.out
end Go.Proofs.Ytchpekecgdbphaa
