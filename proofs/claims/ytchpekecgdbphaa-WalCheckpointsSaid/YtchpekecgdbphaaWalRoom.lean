/-
  WalRoom: the walk.
-/
import Derived.Test.YtchpekecgdbphaaWalT
set_option linter.unusedVariables false
namespace Go.Proofs.Ytchpekecgdbphaa
open Go Go.RowKit Go.MapKept Go.ChangeMaps

def TruePost (w : World) (e : Ending) (w' : World) : Prop := e = .returned (.bool true) ∧ Upd (fun _ => False) w w'
set_option maxRecDepth 100000 in
set_option maxHeartbeats 8000000 in
theorem room_walk (w : World) (x : Int) (v : Value) (L : List (List Int)) (hL : Ins w v L) : Calls Try.prog 3 #[.int .i64 x, v] w (TruePost w) := by
  obtain ⟨va, vc, rfl⟩ := hL.sl
  have hfew := hL.few
  have HL := Lib.hid hL; clear hL
  have HFR := Lib.hid (fresh_law x w)
  have hm := un40_lt x
  generalize un40 x = m at HFR hm
  go_enter Try.func3, Try.ntmps3
  go_wp2_with fail
  refine HFR.out.mono ?_
  rintro e w1 ⟨b, ab, cm, wb, hf⟩
  obtain rfl := hf.e
  obtain ⟨g1, g2, g3, g4⟩ := hf.ge
  have HF := Lib.hid hf; clear hf
  have hp2 := HF.out.p.c2
  rw [headed_length, List.length_replicate] at hp2
  go_wp2_with (go_at_call 8; refine (sectors_any _ b (8 + m) hp2).mono ?_; rintro e w2 ⟨rfl, rfl⟩)
  have HP := Lib.hid HF.out.p
  have HWl := Lib.hid HF.out.wal
  have HUp := Lib.hid HF.out.up
  clear hp2 HFR
  have hd : (headed (List.replicate (8 + m) zeros) 1 (headB 1 1 0 1)).length = 6 + m + 2 := by rw [headed_length, List.length_replicate]; omega
  clear HF
  generalize headed (List.replicate (8 + m) zeros) 1 (headB 1 1 0 1) = D at HP hd
  have HD := Lib.hid hd; clear hd
  have h862 : (8 : Int) + (m : Int) - 2 = 6 + (m : Int) := by omega
  rw [h862]
  clear h862
  go_loopw [7, 8, 26] (fun rm n i wr => ∃ (k t u : Nat) (C : Int → Option (List Int)), k ≤ L.length ∧ i = .int .i64 k ∧ rm = .int .i64 (6 + (m : Int) - (u : Int)) ∧ n = .int .i64 t ∧ u ≤ 6 + m ∧ t ≤ u ∧ PlateAt wr b ab cm D C ∧ WalAt wr wb b (6 + m : Nat) 1 1 (0 : Nat) 1 ((t : Int) + 1) u ∧ Upd (fun _ => False) w wr) (fun _ _ i _ => L.length - (intOf i).toNat)
  case atStart => exact ⟨0, 0, 0, _, by omega, rfl, by simp, rfl, by omega, by omega, HP.out, HWl.out, HUp.out⟩
  case round =>
    obtain ⟨k, t, u, C, hk, rfl, rfl, rfl, hu, htu, hp, hw, hup⟩ := hrel
    have HPR := Lib.hid hp; clear hp
    have HWR := Lib.hid hw; clear hw
    have HU := Lib.hid hup; clear hup
    have hlp := HPR.out.lt
    have hlw := HWR.out.lt
    by_cases hlt : k < L.length
    · obtain ⟨h, o, c, sv, hv, hcell0, hin0⟩ := HL.out.at_ k hlt
      cases hv
      have hcell := (HU.out.cell (p := ⟨h, o + k, none⟩) (World.block_lt_of_cell? _ _ hcell0) (fun h => h)).trans hcell0
      have hin := hin0.old HU.out
      clear hcell0
      generalize L.getD k [] = r at hin hin0
      have HKW : Hid (∀ k o n c, sv = .slice (some ⟨k, o, none⟩) n c → 1 ≤ r.length → k < w.heap.size) := Lib.hid fun k o n c e hr => by subst e; exact hin0.lt hr
      clear hin0
      obtain ⟨sa, sc, rfl, hsc⟩ := hin.sl
      have hrl := hin.few
      have HIN := Lib.hid hin; clear hin
      have hneed : ((r.length : Int) + 39) / 40 = (needB r : Int) := by unfold needB; omega
      by_cases hbad : ¬ (1 ≤ r.length ∧ r.length ≤ 2000)
      · have HAP := Lib.hid (append_arg (b := b) (size := 6 + m) (place := 0) (used := u) (n := 1) (l := 1) (f := 1) (num := (t : Int) + 1) HWR.out HIN.out.b hrl hbad)
        have HRM : Hid (∀ W, W = wr → Calls Try.prog 10 #[.pointer (some ⟨wb, 0, none⟩)] W (Drew W (.int .i64 (6 + (m : Int) - (u : Int))))) := Lib.hid fun W e => by
          subst e
          have h := room_any HWR.out (by omega) (by omega) (by omega) (by omega)
          rw [Int.natCast_add] at h
          exact h
        have HLA : Hid (∀ W, W = wr.drew → Calls Try.prog 11 #[.pointer (some ⟨wb, 0, none⟩)] W (Same W (.int .i64 t))) := Lib.hid fun W e => by
          subst e
          have h := last_any (HWR.out.old (Upd.refl _ _).drew) (by omega) (by omega)
          rw [Int.add_sub_cancel] at h
          exact h
        have hcase : r.length = 0 ∨ ((0 : Int) ≠ r.length ∧ decide ((2000 : Int) < (r.length : Int)) = true ∧ ((r.length : Int) == 0) = false) := by
          by_cases e : r.length = 0
          · exact Or.inl e
          · exact Or.inr ⟨by omega, decide_eq_true (by omega), beq_eq_false_iff_ne.2 (by omega)⟩
        clear hbad
        rcases hcase with e0 | ⟨_, q2, q3⟩
        all_goals
          try rw [e0] at hneed HAP hcell
          go_wp2_with (first
            | (go_at_call 9; refine HAP.out.mono ?_; rintro e w2 ⟨rfl, rfl⟩)
            | (go_at_call 10; refine (HRM.out _ rfl).mono ?_; rintro e w2 ⟨rfl, rfl⟩)
            | (go_at_call 11; refine (HLA.out _ rfl).mono ?_; rintro e w2 ⟨rfl, rfl⟩))
          go_roundw
          case rel => exact ⟨k + 1, t, u, C, hlt, by go_num, rfl, rfl, hu, htu, HPR.out.old (Upd.refl _ _).drew, HWR.out.old (Upd.refl _ _).drew, HU.out.drew⟩
          case measure => simp [intOf]; omega
      · have hok : 1 ≤ r.length ∧ r.length ≤ 2000 := by omega
        obtain ⟨hr1, hr2⟩ := hok
        clear hbad
        have q1 : ((r.length : Int) == 0) = false := beq_eq_false_iff_ne.2 (by omega)
        have q2 : decide ((2000 : Int) < (r.length : Int)) = false := decide_eq_false (by omega)
        by_cases hfull : 6 + m < u + needB r
        · have HAP := Lib.hid (append_full (b := b) (size := 6 + m) (place := 0) (used := u) (n := 1) (l := 1) (f := 1) (num := (t : Int) + 1) HWR.out HIN.out.b hr1 hr2 (by omega) hu (Or.inl hfull))
          have q3 : decide (6 + (m : Int) - (u : Int) < (needB r : Int)) = true := decide_eq_true (by omega)
          go_wp2_with (first
            | (go_at_call 9; refine HAP.out.mono ?_; rintro e w2 ⟨rfl, hu2⟩; have U2 := Lib.hid hu2; clear hu2; have HW2 := Lib.hid (HWR.out.old U2.out); have HRM : Hid (∀ W, W = w2 → Calls Try.prog 10 #[.pointer (some ⟨wb, 0, none⟩)] W (Drew W (.int .i64 (6 + (m : Int) - (u : Int))))) := Lib.hid (fun W e => by (subst e; have h := room_any HW2.out (by omega) (by omega) (by omega) (by omega); rw [Int.natCast_add] at h; exact h)); have HLA : Hid (∀ W, W = w2.drew → Calls Try.prog 11 #[.pointer (some ⟨wb, 0, none⟩)] W (Same W (.int .i64 t))) := Lib.hid (fun W e => by (subst e; have h := last_any (HW2.out.old (Upd.refl _ _).drew) (by omega) (by omega); rw [Int.add_sub_cancel] at h; exact h)))
            | (go_at_call 10; refine (HRM.out _ rfl).mono ?_; rintro e w3 ⟨rfl, rfl⟩)
            | (go_at_call 11; refine (HLA.out _ rfl).mono ?_; rintro e w3 ⟨rfl, rfl⟩))
          go_roundw
          case rel => exact ⟨k + 1, t, u, C, hlt, by go_num, rfl, rfl, hu, htu, (HPR.out.old U2.out).old (Upd.refl _ _).drew, HW2.out.old (Upd.refl _ _).drew, (HU.out.trans U2.out).drew⟩
          case measure => simp [intOf]; omega
        · have hn1 : 1 ≤ needB r := by unfold needB; omega
          have HAP := Lib.hid (append_ok wr wb b ab cm (6 + m) 0 u 1 1 1 ((t : Int) + 1) D C _ r HWR.out HPR.out HD.out (by omega) (by omega) (by omega) HIN.out.b (fun a n c e => by cases e; exact hsc) (fun k o n c e => by
            have h1 := HKW.out k o n c e hr1
            omega) hr1 hr2 (by omega) (by omega) (by omega))
          have q3 : decide (6 + (m : Int) - (u : Int) < (needB r : Int)) = false := decide_eq_false (by omega)
          go_wp2_with (first
            | (go_at_call 9; refine HAP.out.mono ?_; rintro e w2 ⟨rfl, hp2, hw2, hu2⟩; have U2 := Lib.hid hu2; clear hu2; have HP2 := Lib.hid hp2; clear hp2; have HW2 := Lib.hid hw2; clear hw2; have HRM : Hid (∀ W, W = w2 → Calls Try.prog 10 #[.pointer (some ⟨wb, 0, none⟩)] W (Drew W (.int .i64 (6 + (m : Int) - (u : Int) - (needB r : Int))))) := Lib.hid (fun W e => by (subst e; have h := room_any HW2.out (by omega) (by omega) (by omega) (by omega); have e2 : ((6 + m : Nat) : Int) - ((u + needB r : Nat) : Int) = 6 + (m : Int) - (u : Int) - (needB r : Int) := (by omega); rw [e2] at h; exact h)); have HLA : Hid (∀ W, W = w2.drew → Calls Try.prog 11 #[.pointer (some ⟨wb, 0, none⟩)] W (Same W (.int .i64 ((t : Int) + 1)))) := Lib.hid (fun W e => by (subst e; have h := last_any (HW2.out.old (Upd.refl _ _).drew) (by omega) (by omega); rw [Int.add_sub_cancel] at h; exact h)))
            | (go_at_call 10; refine (HRM.out _ rfl).mono ?_; rintro e w3 ⟨rfl, rfl⟩)
            | (go_at_call 11; refine (HLA.out _ rfl).mono ?_; rintro e w3 ⟨rfl, rfl⟩))
          go_roundw
          case rel =>
            refine ⟨k + 1, t + 1, u + needB r, _, hlt, by go_num, ?_, by go_num, by omega, by omega, HP2.out.old (Upd.refl _ _).drew, ?_, (HU.out.trans' U2.out (fun i hi e => by omega)).drew⟩
            · have e2 : (6 : Int) + (m : Int) - (u : Int) - (needB r : Int) = 6 + (m : Int) - ((u + needB r : Nat) : Int) := by omega
              rw [e2]
            · have h := HW2.out.old (Upd.refl (fun _ => False) w2).drew
              have e2 : ((t + 1 : Nat) : Int) + 1 = (t : Int) + 1 + 1 := by omega
              rw [e2]; exact h
          case measure => simp [intOf]; omega
    · have HRM : Hid (∀ W, W = wr → Calls Try.prog 10 #[.pointer (some ⟨wb, 0, none⟩)] W (Drew W (.int .i64 (6 + (m : Int) - (u : Int))))) := Lib.hid fun W e => by
        subst e
        have h := room_any HWR.out (by omega) (by omega) (by omega) (by omega)
        rw [Int.natCast_add] at h
        exact h
      go_wp2_with (go_at_call 10; refine (HRM.out _ rfl).mono ?_; rintro e w2 ⟨rfl, rfl⟩)
      go_ret
      exact ⟨rfl, HU.out.drew⟩
end Go.Proofs.Ytchpekecgdbphaa
