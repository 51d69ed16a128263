/-
  fresh: a log of a plate of noughts.
-/
import Derived.Test.YtchpekecgdbphaaWalC
namespace Go.Proofs.Ytchpekecgdbphaa
open Go Go.RowKit Go.MapKept Go.ChangeMaps

theorem sectors_any (w : World) (b n : Nat) (h2 : w.cell? ⟨b, 2, none⟩ = some (.int .i64 n)) : Calls Try.prog 8 #[.pointer (some ⟨b, 0, none⟩)] w (Same w (.int .i64 n)) := by
  go_enter Try.func8, Try.ntmps8
  go_wp2
  go_ret
  exact ⟨rfl, rfl⟩
theorem failed_any (w : World) (b : Nat) (x : Bool) (h3 : w.cell? ⟨b, 3, none⟩ = some (.bool x)) : Calls Try.prog 31 #[.pointer (some ⟨b, 0, none⟩)] w (Same w (.bool x)) := by
  go_enter Try.func31, Try.ntmps31
  go_wp2
  go_ret
  exact ⟨rfl, rfl⟩
/-- What a head's writing leaves. -/
def headed (D : List (List Int)) (q : Nat) (h : List Int) : List (List Int) := viewL (viewL D (cput (fun _ => none) q zeros)) (cput (fun _ => none) q h)
theorem headed_length (D : List (List Int)) (q : Nat) (h : List Int) : (headed D q h).length = D.length := by simp [headed, viewL_length]
theorem headed_at {D : List (List Int)} {q : Nat} {h : List Int} (hq : q < D.length) : (headed D q h).getD q [] = h := by
  unfold headed
  rw [viewL_get (by rw [viewL_length]; exact hq)]
  unfold view cput
  rw [if_pos rfl]; rfl
theorem headed_other {D : List (List Int)} {q i : Nat} {h : List Int} (hi : i < D.length) (hne : i ≠ q) : (headed D q h).getD i [] = D.getD i [] := by
  have hne' : ¬ (i : Int) = q := by omega
  unfold headed
  rw [viewL_get (by rw [viewL_length]; exact hi)]
  unfold view cput
  rw [if_neg hne']
  show (viewL D _).getD i [] = _
  rw [viewL_get hi]
  unfold view
  simp [hne']
def FreshPost (w : World) (wb b ab cm : Nat) (size : Int) (D : List (List Int)) (e : Ending) (w' : World) : Prop :=
  e = .returned (.tuple #[.pointer (some ⟨wb, 0, none⟩), .slice none 0 0, .int .i64 0]) ∧ PlateAt w' b ab cm (headed D 1 (headB 1 1 0 1)) (fun _ => none) ∧ WalAt w' wb b size 1 1 0 1 1 0 ∧ Upd (fun k => k = ab ∨ k = cm ∨ k = wb) w w'
theorem WalAt.setNext {w : World} {wb b : Nat} {size n l p f next used : Int} (h : WalAt w wb b size n l p f next used) (x : Int) : WalAt (w.setCell ⟨wb, 6, none⟩ (.int .i64 x)) wb b size n l p f x used :=
  ⟨set_other h.c0 (by omega), set_other h.c1 (by omega), set_other h.c2 (by omega), set_other h.c3 (by omega), set_other h.c4 (by omega), set_other h.c5 (by omega), set_same h.c6, set_other h.c7 (by omega), tag_set h.tag _ _⟩
theorem WalAt.setUsed {w : World} {wb b : Nat} {size n l p f next used : Int} (h : WalAt w wb b size n l p f next used) (x : Int) : WalAt (w.setCell ⟨wb, 7, none⟩ (.int .i64 x)) wb b size n l p f next x :=
  ⟨set_other h.c0 (by omega), set_other h.c1 (by omega), set_other h.c2 (by omega), set_other h.c3 (by omega), set_other h.c4 (by omega), set_other h.c5 (by omega), set_other h.c6 (by omega), set_same h.c7, tag_set h.tag _ _⟩
/-- A store into the log's own block leaves the plate. -/
theorem PlateAt.set {w : World} {wb b b' ab cm : Nat} {size n l p f next used : Int} {D : List (List Int)} {C : Int → Option (List Int)} (hp : PlateAt w b ab cm D C) (hw : WalAt w wb b' size n l p f next used) (o : Nat) (x : Value) : PlateAt (w.setCell ⟨wb, o, none⟩ x) b ab cm D C := by
  obtain ⟨n1, n2, n3⟩ := hw.apart hp
  exact hp.upd ((Upd.refl (fun k => k = wb) w).setCell (p := ⟨wb, o, none⟩) (Or.inl rfl) _) n1.symm n2.symm n3.symm (fun k e => by rw [e]; exact hw.notB)
set_option maxRecDepth 100000 in
set_option maxHeartbeats 4000000 in
theorem fresh_yes (w : World) (wb b ab cm : Nat) (size : Int) (D : List (List Int)) (hw : WalAt w wb b size 0 0 0 0 0 0) (hp : PlateAt w b ab cm D (fun _ => none)) (hz : ∀ i, i < D.length → D.getD i [] = zeros) (hd : 1 < D.length) :
    Calls Try.prog 34 #[.pointer (some ⟨wb, 0, none⟩)] w (FreshPost w wb b ab cm size D) := by
  have c0 := hw.c0
  have hfew := hp.few
  obtain ⟨n1, n2, n3⟩ := hw.apart hp
  have HP := Lib.hid hp; clear hp
  have HW := Lib.hid hw; clear hw
  have HZ := Lib.hid hz; clear hz
  go_enter Try.func34, Try.ntmps34
  go_wp2_with (go_at_call 8; refine (sectors_any _ b D.length HP.out.c2).mono ?_; rintro e w' ⟨rfl, rfl⟩)
  go_loopw [13] (fun i wr => ∃ q : Nat, q ≤ D.length ∧ i = .int .i64 q ∧ Upd (fun _ => False) w wr) (fun i _ => D.length - (intOf i).toNat)
  case atStart => exact ⟨0, by omega, rfl, Upd.refl _ _⟩
  case round =>
    obtain ⟨q, hq, rfl, hu⟩ := hrel
    have c0r := (hu.cell (p := ⟨wb, 0, none⟩) HW.out.lt (fun h => h)).trans c0
    have HU := Lib.hid hu; clear hu
    by_cases hlt : q < D.length
    · have hv : view D (fun _ => none) q = zeros := by unfold view; exact HZ.out q hlt
      have hr := read_any q wr b ab cm D _ (HP.out.old HU.out) hlt
      rw [hv] at hr
      have HR := Lib.hid hr; clear hr hv
      go_wp2_with (first
        | (go_at_call 32; refine HR.out.mono ?_; rintro e w1 ⟨v1, rfl, hs1, _, hu1⟩; obtain ⟨k1, o1, c1, rfl, _⟩ := hs1.shape; have HS1 := Lib.hid hs1; have HU1 := Lib.hid hu1; clear hs1 hu1)
        | (go_at_call 49; refine (nought_zeros _ _ HS1.out).mono ?_; rintro e w2 ⟨rfl, hu2⟩; have HU2 := Lib.hid hu2; clear hu2))
      go_roundw
      case rel => exact ⟨q + 1, hlt, by go_num, (HU.out.trans HU1.out).trans HU2.out⟩
      case measure => simp [intOf]; omega
    · have HWR := Lib.hid (HW.out.old HU.out)
      have HPR := Lib.hid (HP.out.old HU.out)
      have e6 := HWR.out.c6
      have ef := HWR.out.frozen
      have HWS := Lib.hid (HWR.out.setNext 1)
      have HPS := Lib.hid (HPR.out.set HWR.out 6 (.int .i64 1))
      have HUS : Hid (Upd (fun k => k = ab ∨ k = cm ∨ k = wb) w (wr.setCell ⟨wb, 6, none⟩ (.int .i64 1))) := Lib.hid ((HU.out.mono (G := fun k => k = ab ∨ k = cm ∨ k = wb) (fun _ _ h => h.elim)).setCell (p := ⟨wb, 6, none⟩) (Or.inl (Or.inr (Or.inr rfl))) _)
      go_wp2_with fail
      generalize wr.setCell ⟨wb, 6, none⟩ (.int .i64 1) = ws at HWS HPS HUS ⊢
      refine (begin_any 1 _ wb b ab cm size 0 0 0 0 1 1 0 1 1 0 D (fun _ => none) (by decide) HWS.out HPS.out (by omega)).mono ?_
      rintro e w3 ⟨rfl, hp3, hw3, hu3⟩
      have HP3 := Lib.hid hp3; clear hp3
      have HW3 := Lib.hid hw3; clear hw3
      have HU3 := Lib.hid hu3; clear hu3
      go_wp2_with fail
      go_ret3
      exact ⟨rfl, HP3.out, HW3.out, HUS.out.trans HU3.out⟩
set_option maxRecDepth 100000 in
set_option maxHeartbeats 4000000 in
theorem fresh_no (w : World) (wb b ab cm : Nat) (size : Int) (D : List (List Int)) (hw : WalAt w wb b size 0 0 0 0 0 0) (hp : PlateAt w b ab cm D (fun _ => none)) (hz : ¬ ∀ i, i < D.length → D.getD i [] = zeros) (hB : ∀ i, i < D.length → IsB (D.getD i [])) :
    Calls Try.prog 34 #[.pointer (some ⟨wb, 0, none⟩)] w (fun e w' => e = .returned (.tuple #[.pointer none, .slice none 0 0, .int .i64 70]) ∧ Upd (fun _ => False) w w') := by
  have c0 := hw.c0
  have hfew := hp.few
  have HP := Lib.hid hp; clear hp
  have HW := Lib.hid hw; clear hw
  have HZ := Lib.hid hz; clear hz
  have HB := Lib.hid hB; clear hB
  go_enter Try.func34, Try.ntmps34
  go_wp2_with (go_at_call 8; refine (sectors_any _ b D.length HP.out.c2).mono ?_; rintro e w' ⟨rfl, rfl⟩)
  go_loopw [13] (fun i wr => ∃ q : Nat, q ≤ D.length ∧ i = .int .i64 q ∧ Upd (fun _ => False) w wr ∧ ∀ i, i < q → D.getD i [] = zeros) (fun i _ => D.length - (intOf i).toNat)
  case atStart => exact ⟨0, by omega, rfl, Upd.refl _ _, fun i h => absurd h (Nat.not_lt_zero _)⟩
  case round =>
    obtain ⟨q, hq, rfl, hu, hzq⟩ := hrel
    have c0r := (hu.cell (p := ⟨wb, 0, none⟩) HW.out.lt (fun h => h)).trans c0
    have HU := Lib.hid hu; clear hu
    have HZQ := Lib.hid hzq; clear hzq
    by_cases hlt : q < D.length
    · have hr : Calls Try.prog 32 #[.pointer (some ⟨b, 0, none⟩), .int .i64 q] wr (ReadPost wr (D.getD q [])) := read_any q wr b ab cm D _ (HP.out.old HU.out) hlt
      have hBq := HB.out q hlt
      have HNX : Hid (D.getD q [] = zeros → ∀ i, i < q + 1 → D.getD i [] = zeros) := Lib.hid fun h i hi => by
        by_cases e : i = q
        · rw [e]; exact h
        · exact HZQ.out i (by omega)
      generalize D.getD q [] = bl at hr hBq HNX
      obtain ⟨nz, hnz⟩ : ∃ nz, nz = decide (bl = zeros) := ⟨_, rfl⟩
      have HBQ := Lib.hid hBq; clear hBq
      have HND : Hid (∀ W v, Sec W v bl → Calls Try.prog 49 #[v] W (fun e w' => e = .returned (.bool nz) ∧ Upd (fun _ => False) W w')) := Lib.hid fun W v h => by rw [hnz]; exact nought_dec W v bl h HBQ.out
      have HNZ := Lib.hid hnz; clear hnz
      have HR := Lib.hid hr; clear hr
      cases nz
      · go_wp2_with (first
          | (go_at_call 32; refine HR.out.mono ?_; rintro e w1 ⟨v1, rfl, hs1, _, hu1⟩; obtain ⟨k1, o1, c1, rfl, _⟩ := hs1.shape; have HS1 := Lib.hid hs1; have HU1 := Lib.hid hu1; clear hs1 hu1)
          | (go_at_call 49; refine (HND.out _ _ HS1.out).mono ?_; rintro e w2 ⟨rfl, hu2⟩; have HU2 := Lib.hid hu2; clear hu2))
        go_ret3
        exact ⟨rfl, (HU.out.trans HU1.out).trans HU2.out⟩
      · go_wp2_with (first
          | (go_at_call 32; refine HR.out.mono ?_; rintro e w1 ⟨v1, rfl, hs1, _, hu1⟩; obtain ⟨k1, o1, c1, rfl, _⟩ := hs1.shape; have HS1 := Lib.hid hs1; have HU1 := Lib.hid hu1; clear hs1 hu1)
          | (go_at_call 49; refine (HND.out _ _ HS1.out).mono ?_; rintro e w2 ⟨rfl, hu2⟩; have HU2 := Lib.hid hu2; clear hu2))
        go_roundw
        case rel => exact ⟨q + 1, hlt, by go_num, (HU.out.trans HU1.out).trans HU2.out, HNX.out (of_decide_eq_true HNZ.out.symm)⟩
        case measure => simp [intOf]; omega
    · exact absurd (fun i hi => HZQ.out i (by omega)) HZ.out
end Go.Proofs.Ytchpekecgdbphaa
