/-
  SameTexts; Crash where no sector is torn.
-/
import Derived.Test.YtkgkjhhhgcpgkaaReads
namespace Go.Proofs.Ytkgkjhhhgcpgkaa
open Go Go.RowKit Go.MapKept Go.ChangeMaps

set_option maxHeartbeats 1000000 in
theorem equalAll (w : World) (h h' : Nat) (v v' : Value) (L : List (List Int)) (hs : Secs w v h L) (hs' : Secs w v' h' L) (hf : L.length ≤ 8192) :
    Calls Try.prog 44 #[v, v', .func (.func 12) #[] #[]] w (BoolPost w true) := by
  have k1 := hs
  have k2 := hs'
  obtain ⟨c1, _, rfl, _, _, _⟩ := k1
  obtain ⟨c2, _, rfl, _, _, _⟩ := k2
  have HS := Lib.hid hs; clear hs
  have HS' := Lib.hid hs'; clear hs'
  go_enter Try.func44, Try.ntmps44
  go_wp2_with fail
  go_loopw [17] (fun i wr => ∃ k : Nat, k ≤ L.length ∧ i = .int .i64 k ∧ wr = w) (fun i _ => L.length - (intOf i).toNat)
  case atStart => exact ⟨0, Nat.zero_le _, rfl, rfl⟩
  case round =>
    obtain ⟨k, hk, rfl, rfl⟩ := hrel
    by_cases hlt : k < L.length
    · obtain ⟨sv, hc, hsv, _⟩ := HS.out.cellAt hlt
      obtain ⟨sv', hc', hsv', _⟩ := HS'.out.cellAt hlt
      obtain ⟨sk, so, sc, rfl, _⟩ := hsv.shape
      obtain ⟨sk', so', sc', rfl, _⟩ := hsv'.shape
      have HSV := Lib.hid hsv; clear hsv
      have HSV' := Lib.hid hsv'; clear hsv'
      go_wp2_with (go_at_call 12; refine (equal_sec _ _ _ _ HSV.out HSV'.out).mono ?_; rintro e w' ⟨rfl, rfl⟩)
      go_roundw
      case rel => exact ⟨k + 1, hlt, by go_num, by trivial⟩
      case measure => simp [intOf]; omega
    · go_wp2_with fail
      go_ret
      exact ⟨rfl, Upd.refl _ _⟩
theorem sameTexts (w : World) (h h' : Nat) (v v' : Value) (L : List (List Int)) (hs : Secs w v h L) (hs' : Secs w v' h' L) (hf : L.length ≤ 8192) :
    Calls Try.prog 18 #[v, v'] w (BoolPost w true) := by
  have k1 := hs
  have k2 := hs'
  obtain ⟨c1, _, rfl, _, _, _⟩ := k1
  obtain ⟨c2, _, rfl, _, _, _⟩ := k2
  have HS := Lib.hid hs; clear hs
  have HS' := Lib.hid hs'; clear hs'
  go_enter Try.func18, Try.ntmps18
  go_wp2_with (go_at_call 44; refine (equalAll _ h h' _ _ L HS.out HS'.out hf).mono ?_; rintro e w' ⟨rfl, hu⟩)
  go_ret
  exact ⟨rfl, hu⟩

/-- What stays of the cache. -/
def keep (C : Int → Option (List Int)) (K : List Int) : Int → Option (List Int) := fun i => if i ∈ K then C i else none
/-- Behind q of those that are kept. -/
structure CrashI (w : World) (b ab cm cm2 : Nat) (D : List (List Int)) (C : Int → Option (List Int)) (K : List Int) (M : List (Int × Value)) (q : Nat) (wr : World) : Prop where
  p : PlateAt wr b ab cm2 D (keep C (K.take q))
  m : wr.im cm = some M
  up : Upd (fun k => k = b) w wr
theorem keep_take {C : Int → Option (List Int)} {K : List Int} {q : Nat} (hq : q < K.length) : keep C (K.take (q + 1)) = fun i => if i = K.getD q 0 then C i else keep C (K.take q) i := by
  funext i
  unfold keep
  rw [List.take_succ_eq_append_getElem hq, List.getD_eq_getElem?_getD, List.getElem?_eq_getElem hq]
  simp only [List.mem_append, List.mem_singleton, Option.getD_some]
  by_cases h1 : i = K[q] <;> by_cases h2 : i ∈ K.take q <;> simp [h1, h2]
end Go.Proofs.Ytkgkjhhhgcpgkaa
