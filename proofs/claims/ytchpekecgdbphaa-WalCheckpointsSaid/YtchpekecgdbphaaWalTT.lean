/-
  What a torn crash leaves.
  A log that is opened behind a crash.
  Texts compared; Sync of a log.
-/
import Derived.Test.YtchpekecgdbphaaWalLaw
import Derived.Test.YtchpekecgdbphaaCrashy
import Derived.Test.YtchpekecgdbphaaWalOM
set_option linter.unusedVariables false
namespace Go.Proofs.Ytchpekecgdbphaa
open Go Go.RowKit Go.MapKept Go.ChangeMaps

theorem crashed_torn {D : List (List Int)} {C : Int → Option (List Int)} {K : List Int} {t : Int} {N : Nat} : Crashed D C (viewL D (torn D C K t N)) := by
  refine ⟨viewL_length _ _, fun i hi hC => ?_, fun i l hi hC => ?_⟩
  · rw [viewL_get hi]
    unfold view torn
    by_cases h1 : (i : Int) ∈ K
    · rw [if_pos h1, hC]; rfl
    · rw [if_neg h1]
      by_cases h2 : (i : Int) = t
      · rw [if_pos h2, ← h2, hC]; rfl
      · rw [if_neg h2]; rfl
  · rw [viewL_get hi]
    unfold view torn
    by_cases h1 : (i : Int) ∈ K
    · rw [if_pos h1, hC]; exact .inl rfl
    · rw [if_neg h1]
      by_cases h2 : (i : Int) = t
      · rw [if_pos h2, ← h2, hC]
        exact .inr ⟨N, rfl⟩
      · rw [if_neg h2]
        exact .inr ⟨0, by simp⟩
end Go.Proofs.Ytchpekecgdbphaa
namespace Go.Proofs.Ytchpekecgdbphaa
open Go Go.RowKit Go.MapKept Go.ChangeMaps

section
variable {D D' : List (List Int)} {C : Int → Option (List Int)} {size place : Nat} {n l f : Int} {recs : List (List Int)} {k : Nat}
theorem Log.isHead (h : Log D C size place n l f recs k) : IsHead (D.getD (n % 2).toNat []) (n % 2) size n l place f :=
  ⟨h.n1, h.n2, rfl, h.l1, h.l2, by omega, by have := h.plt; omega, by have := h.plt; have := h.few; omega, h.f1, h.f2, h.head⟩
/-- Behind a crash the heads are as they were. -/
theorem Log.heads (h : Log D C size place n l f recs k) (c : Crashed D C D') {i : Nat} (hi : i < 2) : D'.getD i [] = D.getD i [] := by
  refine c.same i (by rw [h.dlen]; omega) ?_
  obtain rfl | rfl : i = 0 ∨ i = 1 := by omega
  · exact h.c0
  · exact h.c1
/-- The best head is the log's. -/
theorem Log.best (h : Log D C size place n l f recs k) (c : Crashed D C D') {n' l' p' f' : Int} (hb : Best (fun i => D'.getD i []) size 2 n' l' p' f') : n' = n ∧ l' = l ∧ p' = place ∧ f' = f := by
  have hh := h.isHead
  have h1 := h.n1
  have hm := hb.most (n % 2).toNat (by omega) n l place f (by
    show IsHead (D'.getD (n % 2).toNat []) _ _ _ _ _ _
    rw [h.heads c (by omega), show ((n % 2).toNat : Int) = n % 2 by omega]
    exact hh)
  rcases hb.is with ⟨e, _⟩ | ⟨s, hs, k1⟩
  · omega
  · have k2 : IsHead (D'.getD s []) s size n' l' p' f' := k1
    rw [h.heads c hs] at k2
    have hpar := k2.par
    by_cases e : s = (n % 2).toNat
    · have e2 : (s : Int) = n % 2 := by omega
      rw [e2, e] at k2
      obtain ⟨a1, a2, a3, a4⟩ := hh.uniq k2
      exact ⟨a1.symm, a2.symm, a3.symm, a4.symm⟩
    · have e2 : s = ((n + 1) % 2).toNat := by omega
      have e3 : (s : Int) = (n + 1) % 2 := by omega
      rw [e3, e2] at k2
      have := h.other _ _ _ _ k2
      omega
/-- What is opened behind a crash. -/
theorem Log.opened {D2 : List (List Int)} {n' l' f' : Int} {place' : Nat} {L : List (List Int)} (h : Log D C size place n l f recs k) (c : Crashed D C D') (hB : ∀ i, i < D'.length → IsB (D'.getD i []))
    (hb : Best (fun i => D'.getD i []) size 2 n' l' place' f') (ho : Opened (fun i => D'.getD i []) size place' n' l' f' L D2) (hn : n < 1152921504606846976) (hl : l < 1152921504606846976) :
    n' = n ∧ l' = l ∧ k ≤ L.length ∧ L.length ≤ recs.length ∧ L = recs.take L.length ∧ Log D2 (fun _ => none) size place (n + 1) (l + 1) f L L.length := by
  obtain ⟨rfl, rfl, e3, rfl⟩ := h.best c hb
  obtain rfl : place' = place := by omega
  have h4 := h.four
  obtain ⟨k1, k2, k3⟩ := h.behind c ho.rs ho.max
  refine ⟨rfl, rfl, k1, k2, k3, ho.log h4 h.few (fun i hi => hB i (by rw [c.len, h.dlen]; exact hi)) ?_ hn hl⟩
  have := h.isHead
  rw [← h.heads c (by have := h.n1; omega)] at this
  exact this
/-- Nothing that was not durable is left whole. -/
structure Lost (D : List (List Int)) (C : Int → Option (List Int)) (D' : List (List Int)) : Prop where
  or : ∀ (i : Nat) l, i < D.length → C i = some l → D.getD i [] = zeros → l.length = 64 → (D'.getD i []).getD 63 0 = 0
theorem lost_torn {t : Int} {N : Nat} (hN : N < 64) : Lost D C (viewL D (torn D C [] t N)) := by
  refine ⟨fun i l hi hC hz hl => ?_⟩
  rw [viewL_get hi]
  unfold view torn
  rw [if_neg (by simp)]
  by_cases h2 : (i : Int) = t
  · rw [if_pos h2, ← h2, hC]
    show (l.take N ++ (D.getD (i : Int).toNat []).drop N).getD 63 0 = 0
    rw [show (i : Int).toNat = i by omega, hz]
    have hn : (l.take N).length = N := by rw [List.length_take]; omega
    rw [List.getD_eq_getElem?_getD, List.getElem?_append_right (by omega), hn, List.getElem?_drop, show N + (63 - N) = 63 by omega]
    rfl
  · rw [if_neg h2]
    show (D.getD i []).getD 63 0 = 0
    rw [hz]; rfl
/-- Behind such a crash just the durable records are told, where the next one has one sector at least that is not durable. -/
theorem Log.lost (h : Log D C size place n l f recs k) (c : Crashed D C D') (hl : Lost D C D') {L : List (List Int)} (hL : IsRecs (fun i => D'.getD i []) size place f L)
    (hmax : ∀ r, ¬ IsRec (fun i => D'.getD i []) size place (f + L.length) (usedB L) r) (hk : k < recs.length → C (atS size place (usedB (recs.take k))) ≠ none) : L = recs.take k := by
  obtain ⟨k1, k2, k3⟩ := h.behind c hL hmax
  rcases Nat.lt_or_ge k L.length with hlt | hge
  · exfalso
    have hr := hL.is k hlt
    have hneed := hr.need
    have hroom := hr.room
    have e0 : L.take k = recs.take k := by rw [k3, List.take_take, Nat.min_eq_left (by omega)]
    rw [e0] at hr hroom
    have hp := hr.is 0 (by omega)
    simp only [Nat.add_zero] at hp
    have h63 : (D'.getD (atS size place (usedB (recs.take k))) []).getD 63 0 = 167 := by
      rw [hp]; exact piece_last (partB_le _ _)
    have hne := hk (by omega)
    have hu : usedB (recs.take k) < usedB recs := by
      have h2 := usedB_mono (l := recs) (i := k + 1) (j := recs.length) (by omega)
      rw [List.take_length, usedB_take_next (by omega)] at h2
      have := (h.rs.is k (by omega)).need
      omega
    cases hC : C (atS size place (usedB (recs.take k))) with
    | none => exact hne hC
    | some x =>
      rcases h.under _ hu with h1 | h1
      · rw [hC] at h1; cases h1
      · obtain ⟨num, m, b', c', hm, hpp⟩ := view_piece h.rs hu
        have ev : view D C (atS size place (usedB (recs.take k))) = x := by unfold view; rw [hC]; rfl
        rw [ev] at hpp
        have := hl.or _ x (h.place_lt _) hC h1 (by rw [hpp]; exact piece_length hm)
        rw [this] at h63
        exact absurd h63 (by decide)
  · have : L.length = k := by omega
    rw [k3, this]
end
end Go.Proofs.Ytchpekecgdbphaa
namespace Go.Proofs.Ytchpekecgdbphaa
open Go Go.RowKit Go.MapKept Go.ChangeMaps

/-- A slice of texts. -/
structure Txt (w : World) (v : Value) (L : List (List Int)) : Prop where
  sl : ∃ a c, v = .slice a L.length c
  at_ : ∀ i, i < L.length → ∃ h o c sv, v = .slice (some ⟨h, o, none⟩) L.length c ∧ w.cell? ⟨h, o + i, none⟩ = some sv ∧ BytV w sv (L.getD i [])
theorem Lists.txt {B : Nat} {w : World} {v : Value} {L : List (List Int)} (h : Lists B w v L) : Txt w v L := by
  refine ⟨h.shape, fun i hi => ?_⟩
  obtain ⟨xs, h1, h2, h3⟩ := h.row
  obtain ⟨sv, k1, k2⟩ := h3 i hi
  rcases h1.2 with ⟨rfl, h0⟩ | ⟨g, cap, cur, rfl, hg, hh, hn, hm, hs, ht⟩
  · omega
  · refine ⟨g, 0, cap, sv, rfl, ?_, k2.byt⟩
    unfold World.cell?
    rw [hh]
    simp only [Option.isSome_none, Bool.false_eq_true, if_false, Nat.zero_add]
    have e : (cur.toList.take (L.length * 1))[i]? = xs[i]? := by rw [ht]
    rw [List.getElem?_take_of_lt (by omega), k1] at e
    rw [← Array.getElem?_toList, e]
set_option maxHeartbeats 1000000 in
theorem equalTexts (w : World) (v v' : Value) (L : List (List Int)) (hs : Txt w v L) (hs' : Txt w v' L) (hB : ∀ i, i < L.length → IsB (L.getD i [])) (hf : L.length ≤ 1099511627776) :
    Calls Try.prog 38 #[v, v', .func (.func 39) #[] #[]] w (Only0 w (.bool true)) := by
  obtain ⟨a1, c1, rfl⟩ := hs.sl
  obtain ⟨a2, c2, rfl⟩ := hs'.sl
  have HS := Lib.hid hs; clear hs
  have HS' := Lib.hid hs'; clear hs'
  have HB := Lib.hid hB; clear hB
  go_enter Try.func38, Try.ntmps38
  go_wp2_with fail
  go_loopw [17] (fun i wr => ∃ k : Nat, k ≤ L.length ∧ i = .int .i64 k ∧ wr = w) (fun i _ => L.length - (intOf i).toNat)
  case atStart => exact ⟨0, Nat.zero_le _, rfl, rfl⟩
  case round =>
    obtain ⟨k, hk, rfl, rfl⟩ := hrel
    by_cases hlt : k < L.length
    · obtain ⟨h, o, c, sv, e, hc, hsv⟩ := HS.out.at_ k hlt
      cases e
      obtain ⟨h', o', c', sv', e, hc', hsv'⟩ := HS'.out.at_ k hlt
      cases e
      have hb := HB.out k hlt
      generalize L.getD k [] = r at hsv hsv' hb
      obtain ⟨sa, sc, rfl⟩ := hsv.shape
      obtain ⟨sa', sc', rfl⟩ := hsv'.shape
      have HE : Hid (Calls Try.prog 39 #[.slice sa r.length sc, .slice sa' r.length sc'] wr (Same wr (.bool true))) := Lib.hid (by
        have h := equal_byt wr _ _ r r hsv hsv' hb hb
        rw [decide_eq_true rfl] at h
        exact h)
      clear hsv hsv' hb
      go_wp2_with (go_at_call 39; refine HE.out.mono ?_; rintro e w' ⟨rfl, rfl⟩)
      go_roundw
      case rel => exact ⟨k + 1, hlt, by go_num, by trivial⟩
      case measure => simp [intOf]; omega
    · go_wp2_with fail
      go_ret
      exact ⟨rfl, Upd.refl _ _⟩
theorem sameTexts_any (w : World) (v v' : Value) (L : List (List Int)) (hs : Txt w v L) (hs' : Txt w v' L) (hB : ∀ i, i < L.length → IsB (L.getD i [])) (hf : L.length ≤ 1099511627776) :
    Calls Try.prog 16 #[v, v'] w (Only0 w (.bool true)) := by
  obtain ⟨a1, c1, rfl⟩ := hs.sl
  obtain ⟨a2, c2, rfl⟩ := hs'.sl
  have HS := Lib.hid hs; clear hs
  have HS' := Lib.hid hs'; clear hs'
  have HB := Lib.hid hB; clear hB
  go_enter Try.func16, Try.ntmps16
  go_wp2_with (go_at_call 38; refine (equalTexts _ _ _ L HS.out HS'.out HB.out hf).mono ?_; rintro e w' ⟨rfl, hu⟩)
  go_ret
  exact ⟨rfl, hu⟩
theorem wsync_any {w : World} {wb b ab cm : Nat} {size n l p f next used : Int} {D : List (List Int)} {C : Int → Option (List Int)} (hw : WalAt w wb b size n l p f next used) (hp : PlateAt w b ab cm D C) :
    Calls Try.prog 13 #[.pointer (some ⟨wb, 0, none⟩)] w (SyncPost w b ab cm D C) := by
  have c0 := hw.c0
  have HW := Lib.hid hw; clear hw
  have HP := Lib.hid hp; clear hp
  go_enter Try.func13, Try.ntmps13
  go_wp2_with (first
    | (go_at_call 22; refine (none_any HW.out).mono ?_; rintro e w' ⟨rfl, rfl⟩)
    | (go_at_call 28; refine (sync_any _ b ab cm D C HP.out).mono ?_; rintro e w' ⟨rfl, hp2, hu2⟩))
  go_ret
  exact ⟨rfl, hp2, hu2⟩
end Go.Proofs.Ytchpekecgdbphaa
