/-
  Append.
-/
import Derived.Test.YtchpekecgdbphaaWalOM
set_option linter.unusedVariables false
namespace Go.Proofs.Ytchpekecgdbphaa
open Go Go.RowKit Go.MapKept Go.ChangeMaps

theorem BytV.upd {F : Nat → Prop} {w w' : World} {v : Value} {l : List Int} (h : BytV w v l) (u : Upd F w w') (hF : ∀ k o n c, v = .slice (some ⟨k, o, none⟩) n c → ¬ F k) : BytV w' v l := by
  rcases h with h | ⟨k, o, c, hv, hc⟩
  · exact .inl h
  · refine .inr ⟨k, o, c, hv, fun j hj => ?_⟩
    have := hc j hj
    exact (u.cell (p := ⟨k, o + j, none⟩) (World.block_lt_of_cell? _ _ this) (hF k o _ _ hv)).trans this
def AppPost (w : World) (wb b ab cm : Nat) (size place used : Nat) (n l f num : Int) (D : List (List Int)) (C : Int → Option (List Int)) (r : List Int) (e : Ending) (w' : World) : Prop :=
  e = .returned (.tuple #[.int .i64 num, .int .i64 0]) ∧ PlateAt w' b ab cm D (putRec C size place used num r (needB r)) ∧ WalAt w' wb b size n l place f (num + 1) (used + needB r : Nat) ∧ Upd (fun k => k = cm ∨ k = wb) w w'
section
variable {w : World} {wb b ab cm size place used : Nat} {n l f num : Int} {D : List (List Int)} {C : Int → Option (List Int)} {v : Value} {r : List Int}
theorem append_arg (hw : WalAt w wb b size n l place f num used) (hb : BytV w v r) (hr : r.length ≤ 140737488355328) (hbad : ¬ (1 ≤ r.length ∧ r.length ≤ 2000)) :
    Calls Try.prog 9 #[.pointer (some ⟨wb, 0, none⟩), v] w (Same w (.tuple #[.int .i64 0, .int .i64 1])) := by
  obtain ⟨a, c, rfl⟩ := hb.shape
  clear hb
  have hm := may_any w a r.length c hr
  rw [decide_eq_false hbad] at hm
  have HM := Lib.hid hm; clear hm
  have HW := Lib.hid hw; clear hw
  clear hbad
  go_enter Try.func9, Try.ntmps9
  go_wp2_with (first
    | (go_at_call 22; refine (none_any HW.out).mono ?_; rintro e w' ⟨rfl, rfl⟩)
    | (go_at_call 23; refine HM.out.mono ?_; rintro e w' ⟨rfl, rfl⟩))
  go_ret2
  exact ⟨rfl, rfl⟩
theorem append_full (hw : WalAt w wb b size n l place f num used) (hb : BytV w v r) (h1 : 1 ≤ r.length) (h2 : r.length ≤ 2000) (hs : size ≤ 8190) (hu : used ≤ size) (hfull : size < used + needB r ∨ 1152921504606846976 < num) :
    Calls Try.prog 9 #[.pointer (some ⟨wb, 0, none⟩), v] w (Only0 w (.tuple #[.int .i64 0, .int .i64 4])) := by
  have HBV := Lib.hid hb
  obtain ⟨a, c, rfl⟩ := hb.shape
  clear hb
  have hm := may_any w a r.length c (by omega)
  rw [decide_eq_true ⟨h1, h2⟩] at hm
  have HM := Lib.hid hm; clear hm
  have HN := Lib.hid (need_any w _ r HBV.out (by omega))
  have c6 := hw.c6
  have HW := Lib.hid hw; clear hw
  have hcase : decide ((size : Int) - used < (needB r : Nat)) = true ∨ (decide ((size : Int) - used < (needB r : Nat)) = false ∧ decide (1152921504606846976 < num) = true) := by
    by_cases h : (size : Int) - used < (needB r : Nat)
    · exact Or.inl (decide_eq_true h)
    · exact Or.inr ⟨decide_eq_false h, decide_eq_true (by omega)⟩
  clear hfull
  rcases hcase with q1 | ⟨q1, q2⟩
  all_goals
    go_enter Try.func9, Try.ntmps9
    go_wp2_with (first
      | (go_at_call 22; refine (none_any HW.out).mono ?_; rintro e w' ⟨rfl, rfl⟩)
      | (go_at_call 23; refine HM.out.mono ?_; rintro e w' ⟨rfl, rfl⟩)
      | (go_at_call 24; refine HN.out.mono ?_; rintro e w' ⟨rfl, rfl⟩)
      | (go_at_call 10; refine (room_any HW.out (by omega) (by omega) (by omega) (by omega)).mono ?_; rintro e w' ⟨rfl, rfl⟩))
    go_ret2
    exact ⟨rfl, (Upd.refl _ _).drew⟩
end
set_option maxRecDepth 100000 in
set_option maxHeartbeats 8000000 in
theorem append_ok (w : World) (wb b ab cm size place used : Nat) (n l f num : Int) (D : List (List Int)) (C : Int → Option (List Int)) (v : Value) (r : List Int) (hw : WalAt w wb b size n l place f num used) (hp : PlateAt w b ab cm D C) (hd : D.length = size + 2) (h0 : 0 < size) (hs : size ≤ 8190) (hpl : place < size)
    (hb : BytV w v r) (hcap : ∀ a n c, v = .slice a n c → n ≤ c) (hk : ∀ k o n c, v = .slice (some ⟨k, o, none⟩) n c → k ≠ cm ∧ k ≠ wb) (h1 : 1 ≤ r.length) (h2 : r.length ≤ 2000) (hroom : used + needB r ≤ size) (hn1 : num ≤ 1152921504606846976) (hn0 : 1 ≤ num) :
    Calls Try.prog 9 #[.pointer (some ⟨wb, 0, none⟩), v] w (AppPost w wb b ab cm size place used n l f num D C r) := by
  have HBV := Lib.hid hb
  obtain ⟨k, o, c, rfl⟩ : ∃ k o c, v = .slice (some ⟨k, o, none⟩) r.length c := by
    rcases hb with ⟨rfl, _⟩ | ⟨k, o, c, hv, _⟩
    · simp at h1
    · exact ⟨k, o, c, hv⟩
  clear hb
  obtain ⟨hk1, hk2⟩ := hk k o _ _ rfl
  clear hk
  have hlc := hcap _ _ _ rfl
  clear hcap
  obtain ⟨c0, rfl⟩ : ∃ c0, c = r.length + c0 := ⟨c - r.length, by omega⟩
  clear hlc
  have hm := may_any w (some ⟨k, o, none⟩) r.length (r.length + c0) (by omega)
  rw [decide_eq_true ⟨h1, h2⟩] at hm
  have HM := Lib.hid hm; clear hm
  have HN := Lib.hid (need_any w _ r HBV.out (by omega))
  have c6 := hw.c6
  obtain ⟨n1, n2, n3⟩ := hw.apart hp
  have HW := Lib.hid hw; clear hw
  have HP := Lib.hid hp; clear hp
  have HD := Lib.hid hd; clear hd
  have q1 : decide ((size : Int) - used < (needB r : Nat)) = false := decide_eq_false (by omega)
  have q2 : decide (1152921504606846976 < num) = false := decide_eq_false (by omega)
  go_enter Try.func9, Try.ntmps9
  go_wp2_with (first
    | (go_at_call 22; refine (none_any HW.out).mono ?_; rintro e w' ⟨rfl, rfl⟩)
    | (go_at_call 23; refine HM.out.mono ?_; rintro e w' ⟨rfl, rfl⟩)
    | (go_at_call 24; refine HN.out.mono ?_; rintro e w' ⟨rfl, rfl⟩)
    | (go_at_call 10; refine (room_any HW.out (by omega) (by omega) (by omega) (by omega)).mono ?_; rintro e w' ⟨rfl, rfl⟩))
  clear c6 q1 q2
  go_loopw [6] (fun i wr => ∃ q : Nat, q ≤ needB r ∧ i = .int .i64 (40 * q : Nat) ∧ PlateAt wr b ab cm D (putRec C size place used num r q) ∧ WalAt wr wb b size n l place f num (used + q : Nat) ∧ Upd (fun k => k = cm ∨ k = wb) w wr) (fun i _ => 2000 - (intOf i).toNat)
  case atStart => exact ⟨0, by omega, rfl, HP.out.old (Upd.refl _ _).drew, HW.out.old (Upd.refl _ _).drew, (Upd.refl _ _).drew⟩
  case round =>
    obtain ⟨q, hq, rfl, hp, hw, hu⟩ := hrel
    have HPR := Lib.hid hp; clear hp
    have HWR := Lib.hid hw; clear hw
    have HU := Lib.hid hu; clear hu
    have e0 := HWR.out.c0
    have e6 := HWR.out.c6
    have e7 := HWR.out.c7
    have ef := HWR.out.frozen
    by_cases hlt : q < needB r
    · have hql : 40 * q < r.length := by unfold needB at hlt; omega
      have q3 : ((40 * q : Nat) : Int) < r.length := by omega
      obtain ⟨e, he⟩ : ∃ e, e = min (40 * q + 40) r.length := ⟨_, rfl⟩
      have hmin : min (40 * (q : Int) + 40) (r.length : Int) = (e : Int) := by rw [he]; omega
      have hel : 40 * q < e := by omega
      have hel2 : e ≤ r.length := by omega
      have hpl2 : (partB r q).length = e - 40 * q := by rw [partB_length]; omega
      have s1 : (0 : Int) ≤ 40 * (q : Int) := by omega
      have s2 : 40 * (q : Int) ≤ (e : Int) := by omega
      have s3 : (e : Int) ≤ ((r.length + c0 : Nat) : Int) := by omega
      have s3' : (e : Int) ≤ (r.length : Int) + (c0 : Int) := by omega
      have s4 : (40 * (q : Int)).toNat = 40 * q := by omega
      have s5 : ¬ r.length + c0 = 40 * q := by omega
      have hkz : ∃ kz, (40 * (q : Int) == 0) = kz := ⟨_, rfl⟩
      obtain ⟨kz, hkz⟩ := hkz
      have hlz : ∃ lz, ((e : Int) == (r.length : Int)) = lz := ⟨_, rfl⟩
      obtain ⟨lz, hlz⟩ := hlz
      have HPA : Hid (pieceAt num r q = pieceB num (partB r q) kz lz) := Lib.hid (by
        unfold pieceAt
        have e1 : decide (q = 0) = kz := by
          rw [← hkz]
          by_cases h : q = 0
          · rw [decide_eq_true h, h]; rfl
          · rw [decide_eq_false h]; exact (beq_eq_false_iff_ne.2 (by omega)).symm
        have e2 : decide (q + 1 = needB r) = lz := by
          rw [← hlz]
          by_cases h : q + 1 = needB r
          · rw [decide_eq_true h]
            have : e = r.length := by unfold needB at h; omega
            rw [this]; exact (beq_self_eq_true _).symm
          · rw [decide_eq_false h]; exact (beq_eq_false_iff_ne.2 (by unfold needB at h hlt; omega)).symm
        rw [e1, e2])
      have HPB : Hid (∀ W, Upd (fun x => x = cm ∨ x = wb) w W → BytV W (.slice (some ⟨k, o + 40 * q, none⟩) (e - 40 * q) (r.length + c0 - 40 * q)) (partB r q)) := Lib.hid fun W u => by
        rcases HBV.out with ⟨hn, _⟩ | ⟨k', o', c', hv, hc⟩
        · rw [hn] at h1; simp at h1
        · cases hv
          refine .inr ⟨k, o + 40 * q, _, by rw [hpl2], fun j hj => ?_⟩
          rw [hpl2] at hj
          have h3 := hc (40 * q + j) (by omega)
          rw [Nat.add_assoc, (u.cell (p := ⟨k, o + (40 * q + j), none⟩) (World.block_lt_of_cell? _ _ h3) (fun h => by rcases h with h | h; exact hk1 h; exact hk2 h)).trans h3]
          unfold partB
          rw [List.getD_eq_getElem?_getD, List.getD_eq_getElem?_getD, List.getElem?_take_of_lt (by omega), List.getElem?_drop]
      have HLE : Hid ((partB r q).length ≤ 40) := Lib.hid (partB_le r q)
      clear he hpl2
      generalize partB r q = pt at HPA HPB HLE
      go_wp2_with fail
      have HSC : Hid (∀ W, Upd (fun _ => False) wr W → Calls Try.prog 26 #[.pointer (some ⟨wb, 0, none⟩), .int .i64 ((used : Int) + (q : Int))] W (Drew W (.int .i64 (atS size place (used + q) : Nat)))) := Lib.hid fun W u => by
        have h := sector_any (used + q) W wb b size place n l f num (used + q : Nat) (HWR.out.old u) h0 hs hpl (by omega)
        rw [Int.natCast_add] at h
        exact h
      go_region_held3 (fun w' => w'.cell? ⟨wb, 0, none⟩ = some (.pointer (some ⟨b, 0, none⟩)) ∧ w'.cell? ⟨wb, 6, none⟩ = some (.int .i64 num) ∧ w'.cell? ⟨wb, 7, none⟩ = some (.int .i64 ((used : Int) + (q : Int))))
        (first | exact ⟨e0, e6, e7⟩ | exact ⟨HW1.out.c0, HW1.out.c6, HW1.out.c7⟩ | exact ⟨HW2.out.c0, HW2.out.c6, HW2.out.c7⟩)
        (first
          | (go_at_call 26; (with_reducible refine (HSC.out _ (by repeat (first | exact Upd.refl _ _ | apply Upd.drew | apply Upd.alloc))).mono ?_); rintro e w0 ⟨rfl, rfl⟩)
          | (go_at_call 27; (with_reducible refine (piece_any num _ pt kz lz _ (HPB.out _ (HU.out.trans (by repeat (first | exact Upd.refl _ _ | apply Upd.drew | apply Upd.alloc)))) HLE.out).mono ?_); rintro e w1 ⟨v1, rfl, hs1, hf1, hu1⟩; obtain ⟨k1, o1, cc1, rfl, _⟩ := hs1.shape; have S1 := Lib.hid hs1; have U1 : Hid (Upd (fun _ => False) wr w1) := Lib.hid (Upd.trans (by repeat (first | exact Upd.refl _ _ | apply Upd.drew | apply Upd.alloc)) hu1); have HW1 := Lib.hid (HWR.out.old U1.out); clear hs1 hf1 hu1)
          | (go_at_call 25; (with_reducible refine (write_any (atS size place (used + q)) _ b ab cm D _ _ (pieceB num pt kz lz) (HPR.out.old (by repeat (first | exact Upd.refl _ _ | exact U1.out | apply Upd.drew | apply Upd.alloc))) (by rw [HD.out]; exact atS_lt h0) (S1.out.old (by repeat (first | exact Upd.refl _ _ | apply Upd.drew | apply Upd.alloc)))).mono ?_); rintro e w2 ⟨rfl, hp2, hu2⟩; have HP2 := Lib.hid hp2; have U2 : Hid (Upd (fun x => x = cm) w1 w2) := Lib.hid (Upd.trans (by repeat (first | exact Upd.refl _ _ | apply Upd.drew | apply Upd.alloc)) hu2); have HW2 := Lib.hid (HW1.out.upd U2.out n3); clear hp2 hu2))
      all_goals
        have g7 := HW2.out.c7
        have gf := HW2.out.frozen
        rw [← HPA.out] at HP2
        go_wp2_with fail
        go_roundw
        case rel =>
          have hs1 := HW2.out.setUsed ((used : Int) + q + 1)
          have es : ((used + (q + 1) : Nat) : Int) = (used : Int) + q + 1 := by omega
          refine ⟨q + 1, hlt, by go_num, HP2.out.set HW2.out 7 _, by rw [es]; exact hs1, ((HU.out.trans (U1.out.mono (fun _ _ h => h.elim))).trans (U2.out.mono (fun _ _ h => Or.inl h))).setCell (p := ⟨wb, 7, none⟩) (Or.inl (Or.inr rfl)) _⟩
        case measure => simp [intOf]; omega
    · have hge : r.length ≤ 40 * q := by unfold needB at hlt; omega
      have hqn : q = needB r := by omega
      have q3 : ¬ ((40 * q : Nat) : Int) < r.length := by omega
      have HQN := Lib.hid hqn; clear hqn
      go_wp2_with fail
      go_ret2
      have h := HWR.out.setNext (num + 1)
      rw [HQN.out] at h
      exact ⟨rfl, by have h2 := HPR.out.set HWR.out 6 (.int .i64 (num + 1)); rw [HQN.out] at h2; exact h2, h, HU.out.setCell (p := ⟨wb, 6, none⟩) (Or.inl (Or.inr rfl)) _⟩
end Go.Proofs.Ytchpekecgdbphaa
