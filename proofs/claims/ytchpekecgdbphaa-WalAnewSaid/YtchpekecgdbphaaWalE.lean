/-
  Texts compared; Sync of a log.
-/
import Derived.Test.YtchpekecgdbphaaWalM
import Derived.Test.YtchpekecgdbphaaWalLaw5
namespace Go.Proofs.Ytchpekecgdbphaa
open Go Go.RowKit Go.MapKept Go.ChangeMaps

/-- A slice of texts. -/
structure Txt (w : World) (v : Value) (L : List (List Int)) : Prop where
  sl : ∃ a c, v = .slice a L.length c
  at_ : ∀ i, i < L.length → ∃ h o c sv, v = .slice (some ⟨h, o, none⟩) L.length c ∧ w.cell? ⟨h, o + i, none⟩ = some sv ∧ BytV w sv (L.getD i [])
theorem Lists.txt {B : Nat} {w : World} {v : Value} {L : List (List Int)} (h : Lists B w v L) : Txt w v L := by
  refine ⟨h.shape, fun i hi => ?_⟩
  obtain ⟨xs, h1, h2, h3⟩ := h.row
  obtain ⟨sv, k1, k2⟩ := h3 i hi
  rcases h1.2 with ⟨rfl, h0⟩ | ⟨g, cap, cur, rfl, hg, hh, hn, hm, hs, ht⟩
  · omega
  · refine ⟨g, 0, cap, sv, rfl, ?_, k2.byt⟩
    unfold World.cell?
    rw [hh]
    simp only [Option.isSome_none, Bool.false_eq_true, if_false, Nat.zero_add]
    have e : (cur.toList.take (L.length * 1))[i]? = xs[i]? := by rw [ht]
    rw [List.getElem?_take_of_lt (by omega), k1] at e
    rw [← Array.getElem?_toList, e]
set_option maxHeartbeats 1000000 in
theorem equalTexts (w : World) (v v' : Value) (L : List (List Int)) (hs : Txt w v L) (hs' : Txt w v' L) (hB : ∀ i, i < L.length → IsB (L.getD i [])) (hf : L.length ≤ 1099511627776) :
    Calls Try.prog 38 #[v, v', .func (.func 39) #[] #[]] w (Only0 w (.bool true)) := by
  obtain ⟨a1, c1, rfl⟩ := hs.sl
  obtain ⟨a2, c2, rfl⟩ := hs'.sl
  have HS := Lib.hid hs; clear hs
  have HS' := Lib.hid hs'; clear hs'
  have HB := Lib.hid hB; clear hB
  go_enter Try.func38, Try.ntmps38
  go_wp2_with fail
  go_loopw [17] (fun i wr => ∃ k : Nat, k ≤ L.length ∧ i = .int .i64 k ∧ wr = w) (fun i _ => L.length - (intOf i).toNat)
  case atStart => exact ⟨0, Nat.zero_le _, rfl, rfl⟩
  case round =>
    obtain ⟨k, hk, rfl, rfl⟩ := hrel
    by_cases hlt : k < L.length
    · obtain ⟨h, o, c, sv, e, hc, hsv⟩ := HS.out.at_ k hlt
      cases e
      obtain ⟨h', o', c', sv', e, hc', hsv'⟩ := HS'.out.at_ k hlt
      cases e
      have hb := HB.out k hlt
      generalize L.getD k [] = r at hsv hsv' hb
      obtain ⟨sa, sc, rfl⟩ := hsv.shape
      obtain ⟨sa', sc', rfl⟩ := hsv'.shape
      have HE : Hid (Calls Try.prog 39 #[.slice sa r.length sc, .slice sa' r.length sc'] wr (Same wr (.bool true))) := Lib.hid (by
        have h := equal_byt wr _ _ r r hsv hsv' hb hb
        rw [decide_eq_true rfl] at h
        exact h)
      clear hsv hsv' hb
      go_wp2_with (go_at_call 39; refine HE.out.mono ?_; rintro e w' ⟨rfl, rfl⟩)
      go_roundw
      case rel => exact ⟨k + 1, hlt, by go_num, by trivial⟩
      case measure => simp [intOf]; omega
    · go_wp2_with fail
      go_ret
      exact ⟨rfl, Upd.refl _ _⟩
theorem sameTexts_any (w : World) (v v' : Value) (L : List (List Int)) (hs : Txt w v L) (hs' : Txt w v' L) (hB : ∀ i, i < L.length → IsB (L.getD i [])) (hf : L.length ≤ 1099511627776) :
    Calls Try.prog 16 #[v, v'] w (Only0 w (.bool true)) := by
  obtain ⟨a1, c1, rfl⟩ := hs.sl
  obtain ⟨a2, c2, rfl⟩ := hs'.sl
  have HS := Lib.hid hs; clear hs
  have HS' := Lib.hid hs'; clear hs'
  have HB := Lib.hid hB; clear hB
  go_enter Try.func16, Try.ntmps16
  go_wp2_with (go_at_call 38; refine (equalTexts _ _ _ L HS.out HS'.out HB.out hf).mono ?_; rintro e w' ⟨rfl, hu⟩)
  go_ret
  exact ⟨rfl, hu⟩
theorem wsync_any {w : World} {wb b ab cm : Nat} {size n l p f next used : Int} {D : List (List Int)} {C : Int → Option (List Int)} (hw : WalAt w wb b size n l p f next used) (hp : PlateAt w b ab cm D C) :
    Calls Try.prog 13 #[.pointer (some ⟨wb, 0, none⟩)] w (SyncPost w b ab cm D C) := by
  have c0 := hw.c0
  have HW := Lib.hid hw; clear hw
  have HP := Lib.hid hp; clear hp
  go_enter Try.func13, Try.ntmps13
  go_wp2_with (first
    | (go_at_call 22; refine (none_any HW.out).mono ?_; rintro e w' ⟨rfl, rfl⟩)
    | (go_at_call 28; refine (sync_any _ b ab cm D C HP.out).mono ?_; rintro e w' ⟨rfl, hp2, hu2⟩))
  go_ret
  exact ⟨rfl, hp2, hu2⟩
end Go.Proofs.Ytchpekecgdbphaa
