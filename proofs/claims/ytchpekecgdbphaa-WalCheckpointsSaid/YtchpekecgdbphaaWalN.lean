/-
  Open: of a plate of noughts.
-/
import Derived.Test.YtchpekecgdbphaaWalOM
set_option linter.unusedVariables false
namespace Go.Proofs.Ytchpekecgdbphaa
open Go Go.RowKit Go.MapKept Go.ChangeMaps

set_option maxRecDepth 100000 in
set_option maxHeartbeats 8000000 in
theorem open_new (w : World) (b ab cm : Nat) (size : Nat) (D : List (List Int)) (hp : PlateAt w b ab cm D (fun _ => none)) (hd : D.length = size + 2) (h4 : 4 ≤ size)
    (hz : ∀ i, i < D.length → D.getD i [] = zeros) :
    Calls Try.prog 15 #[.pointer (some ⟨b, 0, none⟩)] w (fun e w' => ∃ wb, NewLog w b ab cm size D wb e w') := by
  have hB : ∀ i, i < D.length → IsB (D.getD i []) := fun i hi => by rw [hz i hi]; exact isB_zeros
  have HZ := Lib.hid hz; clear hz
  have hfew := hp.few
  have hsz : size ≤ 8190 := by omega
  have hlp := hp.lt
  have p2 := hp.c2
  have p3 := hp.c3
  rw [hd] at p2
  have q1 : ((size : Int) + 2 == 0) = false := beq_eq_false_iff_ne.2 (by omega)
  have q2 : ¬ (size : Int) + 2 < 6 := by omega
  have q3 : (size : Int) + 2 - 2 = size := by omega
  have HP := Lib.hid hp; clear hp
  have HD := Lib.hid hd; clear hd
  have HB := Lib.hid hB; clear hB
  clear hfew
  go_enter Try.func15, Try.ntmps15
  go_wp2_with (first
    | (go_at_call 8; refine (sectors_any _ b (size + 2) p2).mono ?_; rintro e w' ⟨rfl, rfl⟩)
    | (go_at_call 31; refine (failed_any _ b false p3).mono ?_; rintro e w' ⟨rfl, rfl⟩))
  clear p2 p3
  go_loopw [29] (fun i wr => ∃ (q : Nat) (n l p f : Int), q ≤ 2 ∧ i = .int .i64 q ∧ WalAt wr w.heap.size b size n l p f 0 0 ∧ Best (fun i => D.getD i []) size q n l p f ∧ Upd (fun _ => False) w wr) (fun i _ => 2 - (intOf i).toNat)
  case atStart =>
    refine ⟨0, 0, 0, 0, 0, by omega, rfl, ⟨by simp [go_sem], by simp [go_sem], by simp [go_sem], by simp [go_sem], by simp [go_sem], by simp [go_sem], by simp [go_sem], by simp [go_sem], ⟨_, (MapKept.heap_alloc w _).1⟩⟩, Best.zero, (Upd.refl _ _).alloc _⟩
  case round =>
    obtain ⟨q, n, l, p, f, hq, rfl, hw, hbst, hu⟩ := hrel
    have HW := Lib.hid hw; clear hw
    have HBS := Lib.hid hbst; clear hbst
    have HU := Lib.hid hu; clear hu
    have HPR := Lib.hid (HP.out.old HU.out)
    by_cases hlt : q < 2
    · have hql : q < D.length := by rw [HD.out]; omega
      have HBq := Lib.hid (HB.out q hql)
      have c1 := HW.out.c1
      go_wp2_with (go_at_call 32; refine (read_any q _ b ab cm D _ HPR.out hql).mono ?_; rintro e w1 ⟨v1, rfl, hs1, _, hu1⟩; obtain ⟨k1, o1, cc1, rfl, _⟩ := hs1.shape; have S1 : Hid (Sec w1 _ (D.getD q [])) := Lib.hid hs1; have U1 := Lib.hid hu1; clear hs1 hu1; have d1 := (HW.out.old U1.out).c1)
      refine (parse_any _ _ q size _ S1.out HBq.out (by omega)).mono ?_
      rintro e w2 ⟨hu2, n', l', p', f', ok, rfl, hyes, hno⟩
      have U2 := Lib.hid hu2; clear hu2
      have HY := Lib.hid hyes; clear hyes
      have HN := Lib.hid hno; clear hno
      have HW2 := Lib.hid ((HW.out.old U1.out).old U2.out)
      have lw2 : w.heap.size < w2.heap.size := HW2.out.lt
      have e2 := HW2.out.c2
      have e3 := HW2.out.c3
      have e4 := HW2.out.c4
      have e5 := HW2.out.c5
      have ef := HW2.out.frozen
      have hne : w.heap.size ≠ w2.heap.size := by omega
      have UA := Lib.hid ((HU.out.trans U1.out).trans U2.out)
      clear c1 d1
      cases ok
      · go_wp2_with fail
        go_region
        go_wp2_with fail
        go_roundw
        case rel => exact ⟨q + 1, n, l, p, f, by omega, by go_num, HW2.out.old ((Upd.refl _ _).alloc _).drew, HBS.out.keep (fun a b c d h => absurd h (HN.out (by first | rfl | trivial) a b c d)), (UA.out.alloc _).drew⟩
        case measure => simp [intOf]; omega
      · by_cases hgt : n < n'
        · have q5 : decide (n < n') = true := decide_eq_true hgt
          go_wp2_with fail
          go_region
          go_wp2_with fail
          go_roundw
          case rel => exact ⟨q + 1, n', l', p', f', by omega, by go_num, (HW2.out.head n' l' p' f').old ((Upd.refl _ _).alloc _).drew, HBS.out.turn (HY.out (by first | rfl | trivial)) hgt, (((((UA.out.setCell (p := ⟨w.heap.size, 2, none⟩) (Or.inr (Nat.le_refl _)) _).setCell (p := ⟨w.heap.size, 3, none⟩) (Or.inr (Nat.le_refl _)) _).setCell (p := ⟨w.heap.size, 4, none⟩) (Or.inr (Nat.le_refl _)) _).setCell (p := ⟨w.heap.size, 5, none⟩) (Or.inr (Nat.le_refl _)) _).alloc _).drew⟩
          case measure => simp [intOf]; omega
        · have q5 : decide (n < n') = false := decide_eq_false hgt
          go_wp2_with fail
          go_region
          go_wp2_with fail
          go_roundw
          case rel => exact ⟨q + 1, n, l, p, f, by omega, by go_num, HW2.out.old ((Upd.refl _ _).alloc _).drew, HBS.out.keep (fun a b c d h => by have := ((HY.out (by first | rfl | trivial)).uniq h).1; omega), (UA.out.alloc _).drew⟩
          case measure => simp [intOf]; omega
    · obtain rfl : q = 2 := by omega
      have e1 := HW.out.c1
      have e2 := HW.out.c2
      have e3 := HW.out.c3
      have e4 := HW.out.c4
      have e5 := HW.out.c5
      have e6 := HW.out.c6
      have e7 := HW.out.c7
      have ef := HW.out.frozen
      by_cases h0 : n = 0
      · subst h0
        have hno := fun s (hs : s < 2) n' l' p' f' => HBS.out.none hs n' l' p' f'
        have hl0 : l = 0 ∧ p = 0 ∧ f = 0 := by
          rcases HBS.out.is with ⟨_, h1, h2, h3⟩ | ⟨s, _, hh⟩
          · exact ⟨h1, h2, h3⟩
          · have := hh.n1; omega
        obtain ⟨rfl, rfl, rfl⟩ := hl0
        clear hno
        go_wp2_with fail
        refine (fresh_yes _ w.heap.size b ab cm size D HW.out HPR.out HZ.out (by rw [HD.out]; omega)).mono ?_
        rintro e w2 ⟨rfl, hp2, hw2, hu2⟩
        have HP2 := Lib.hid hp2; clear hp2
        have HW2 := Lib.hid hw2; clear hw2
        have HU2 := Lib.hid hu2; clear hu2
        go_wp2_with fail
        go_ret3
        exact ⟨w.heap.size, ⟨rfl, HZ.out, HP2.out, HW2.out, upd_new HU.out HU2.out (Nat.le_refl _), Nat.le_refl _⟩⟩
      · exfalso
        have hh := HBS.out.got h0
        have hp := hh.n1
        have e : D.getD (n % 2).toNat [] = zeros := HZ.out _ (by rw [HD.out]; omega)
        refine not_head_of_last (b := D.getD (n % 2).toNat []) (by rw [e]; decide) _ _ _ _ _ _ hh
end Go.Proofs.Ytchpekecgdbphaa
