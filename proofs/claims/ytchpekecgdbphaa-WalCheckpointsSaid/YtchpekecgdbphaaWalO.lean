/-
  Open: of any plate.
-/
import Derived.Test.YtchpekecgdbphaaWalOM
set_option linter.unusedVariables false
namespace Go.Proofs.Ytchpekecgdbphaa
open Go Go.RowKit Go.MapKept Go.ChangeMaps

set_option maxRecDepth 100000 in
set_option maxHeartbeats 8000000 in
theorem open_any (w : World) (b ab cm : Nat) (size : Nat) (D : List (List Int)) (hp : PlateAt w b ab cm D (fun _ => none)) (hd : D.length = size + 2) (h4 : 4 ≤ size)
    (hB : ∀ i, i < D.length → IsB (D.getD i [])) :
    Calls Try.prog 15 #[.pointer (some ⟨b, 0, none⟩)] w (OpenPost w b ab cm size D) := by
  have hfew := hp.few
  have hsz : size ≤ 8190 := by omega
  have hlp := hp.lt
  have p2 := hp.c2
  have p3 := hp.c3
  rw [hd] at p2
  have q1 : ((size : Int) + 2 == 0) = false := beq_eq_false_iff_ne.2 (by omega)
  have q2 : ¬ (size : Int) + 2 < 6 := by omega
  have q3 : (size : Int) + 2 - 2 = size := by omega
  have HP := Lib.hid hp; clear hp
  have HD := Lib.hid hd; clear hd
  have HB := Lib.hid hB; clear hB
  clear hfew
  go_enter Try.func15, Try.ntmps15
  go_wp2_with (first
    | (go_at_call 8; refine (sectors_any _ b (size + 2) p2).mono ?_; rintro e w' ⟨rfl, rfl⟩)
    | (go_at_call 31; refine (failed_any _ b false p3).mono ?_; rintro e w' ⟨rfl, rfl⟩))
  clear p2 p3
  go_loopw [29] (fun i wr => ∃ (q : Nat) (n l p f : Int), q ≤ 2 ∧ i = .int .i64 q ∧ WalAt wr w.heap.size b size n l p f 0 0 ∧ Best (fun i => D.getD i []) size q n l p f ∧ Upd (fun _ => False) w wr) (fun i _ => 2 - (intOf i).toNat)
  case atStart =>
    refine ⟨0, 0, 0, 0, 0, by omega, rfl, ⟨by simp [go_sem], by simp [go_sem], by simp [go_sem], by simp [go_sem], by simp [go_sem], by simp [go_sem], by simp [go_sem], by simp [go_sem], ⟨_, (MapKept.heap_alloc w _).1⟩⟩, Best.zero, (Upd.refl _ _).alloc _⟩
  case round =>
    obtain ⟨q, n, l, p, f, hq, rfl, hw, hbst, hu⟩ := hrel
    have HW := Lib.hid hw; clear hw
    have HBS := Lib.hid hbst; clear hbst
    have HU := Lib.hid hu; clear hu
    have HPR := Lib.hid (HP.out.old HU.out)
    by_cases hlt : q < 2
    · have hql : q < D.length := by rw [HD.out]; omega
      have HBq := Lib.hid (HB.out q hql)
      have c1 := HW.out.c1
      go_wp2_with (go_at_call 32; refine (read_any q _ b ab cm D _ HPR.out hql).mono ?_; rintro e w1 ⟨v1, rfl, hs1, _, hu1⟩; obtain ⟨k1, o1, cc1, rfl, _⟩ := hs1.shape; have S1 : Hid (Sec w1 _ (D.getD q [])) := Lib.hid hs1; have U1 := Lib.hid hu1; clear hs1 hu1; have d1 := (HW.out.old U1.out).c1)
      refine (parse_any _ _ q size _ S1.out HBq.out (by omega)).mono ?_
      rintro e w2 ⟨hu2, n', l', p', f', ok, rfl, hyes, hno⟩
      have U2 := Lib.hid hu2; clear hu2
      have HY := Lib.hid hyes; clear hyes
      have HN := Lib.hid hno; clear hno
      have HW2 := Lib.hid ((HW.out.old U1.out).old U2.out)
      have lw2 : w.heap.size < w2.heap.size := HW2.out.lt
      have e2 := HW2.out.c2
      have e3 := HW2.out.c3
      have e4 := HW2.out.c4
      have e5 := HW2.out.c5
      have ef := HW2.out.frozen
      have hne : w.heap.size ≠ w2.heap.size := by omega
      have UA := Lib.hid ((HU.out.trans U1.out).trans U2.out)
      clear c1 d1
      cases ok
      · go_wp2_with fail
        go_region
        go_wp2_with fail
        go_roundw
        case rel => exact ⟨q + 1, n, l, p, f, by omega, by go_num, HW2.out.old ((Upd.refl _ _).alloc _).drew, HBS.out.keep (fun a b c d h => absurd h (HN.out (by first | rfl | trivial) a b c d)), (UA.out.alloc _).drew⟩
        case measure => simp [intOf]; omega
      · by_cases hgt : n < n'
        · have q5 : decide (n < n') = true := decide_eq_true hgt
          go_wp2_with fail
          go_region
          go_wp2_with fail
          go_roundw
          case rel => exact ⟨q + 1, n', l', p', f', by omega, by go_num, (HW2.out.head n' l' p' f').old ((Upd.refl _ _).alloc _).drew, HBS.out.turn (HY.out (by first | rfl | trivial)) hgt, (((((UA.out.setCell (p := ⟨w.heap.size, 2, none⟩) (Or.inr (Nat.le_refl _)) _).setCell (p := ⟨w.heap.size, 3, none⟩) (Or.inr (Nat.le_refl _)) _).setCell (p := ⟨w.heap.size, 4, none⟩) (Or.inr (Nat.le_refl _)) _).setCell (p := ⟨w.heap.size, 5, none⟩) (Or.inr (Nat.le_refl _)) _).alloc _).drew⟩
          case measure => simp [intOf]; omega
        · have q5 : decide (n < n') = false := decide_eq_false hgt
          go_wp2_with fail
          go_region
          go_wp2_with fail
          go_roundw
          case rel => exact ⟨q + 1, n, l, p, f, by omega, by go_num, HW2.out.old ((Upd.refl _ _).alloc _).drew, HBS.out.keep (fun a b c d h => by have := ((HY.out (by first | rfl | trivial)).uniq h).1; omega), (UA.out.alloc _).drew⟩
          case measure => simp [intOf]; omega
    · obtain rfl : q = 2 := by omega
      have e1 := HW.out.c1
      have e2 := HW.out.c2
      have e3 := HW.out.c3
      have e4 := HW.out.c4
      have e5 := HW.out.c5
      have e6 := HW.out.c6
      have e7 := HW.out.c7
      have ef := HW.out.frozen
      by_cases h0 : n = 0
      · subst h0
        have hno := fun s (hs : s < 2) n' l' p' f' => HBS.out.none hs n' l' p' f'
        have hl0 : l = 0 ∧ p = 0 ∧ f = 0 := by
          rcases HBS.out.is with ⟨_, h1, h2, h3⟩ | ⟨s, _, hh⟩
          · exact ⟨h1, h2, h3⟩
          · have := hh.n1; omega
        obtain ⟨rfl, rfl, rfl⟩ := hl0
        have HNO := Lib.hid hno; clear hno
        by_cases hz : ∀ i, i < D.length → D.getD i [] = zeros
        · have HZ := Lib.hid hz; clear hz
          go_wp2_with fail
          refine (fresh_yes _ w.heap.size b ab cm size D HW.out HPR.out HZ.out (by rw [HD.out]; omega)).mono ?_
          rintro e w2 ⟨rfl, hp2, hw2, hu2⟩
          have HP2 := Lib.hid hp2; clear hp2
          have HW2 := Lib.hid hw2; clear hw2
          have HU2 := Lib.hid hu2; clear hu2
          go_wp2_with fail
          go_ret3
          exact Or.inr (Or.inr (Or.inl ⟨w.heap.size, ⟨rfl, HZ.out, HP2.out, HW2.out, upd_new HU.out HU2.out (Nat.le_refl _), Nat.le_refl _⟩⟩))
        · have HZ := Lib.hid hz; clear hz
          go_wp2_with fail
          refine (fresh_no _ w.heap.size b ab cm size D HW.out HPR.out HZ.out HB.out).mono ?_
          rintro e w2 ⟨rfl, hu2⟩
          have HU2 := Lib.hid hu2; clear hu2
          go_wp2_with fail
          go_ret3
          exact Or.inl ⟨rfl, fun s n l p f hs => HNO.out s hs n l p f, HZ.out, HU.out.trans HU2.out⟩
      · obtain ⟨b0, b1, b2, b3, b4, b5, b6, b7⟩ := HBS.out.bound (by omega)
        by_cases hfull : 1152921504606846976 ≤ n ∨ 1152921504606846976 ≤ l ∨ 1152921504606846976 - (size : Int) ≤ f
        · have q8 : (n == 0) = false := beq_eq_false_iff_ne.2 h0
          have HPO : Hid (∃ n l p f, Best (fun i => D.getD i []) size 2 n l p f ∧ n ≠ 0 ∧ (1152921504606846976 ≤ n ∨ 1152921504606846976 ≤ l ∨ 1152921504606846976 - (size : Int) ≤ f)) := Lib.hid ⟨n, l, p, f, HBS.out, h0, hfull⟩
          have hcase : decide (1152921504606846976 ≤ n) = true ∨ (decide (1152921504606846976 ≤ n) = false ∧ decide (1152921504606846976 ≤ l) = true) ∨ (decide (1152921504606846976 ≤ n) = false ∧ decide (1152921504606846976 ≤ l) = false ∧ decide (1152921504606846976 - (size : Int) ≤ f) = true) := by
            by_cases h1 : 1152921504606846976 ≤ n
            · exact Or.inl (decide_eq_true h1)
            · by_cases h2 : 1152921504606846976 ≤ l
              · exact Or.inr (Or.inl ⟨decide_eq_false h1, decide_eq_true h2⟩)
              · exact Or.inr (Or.inr ⟨decide_eq_false h1, decide_eq_false h2, decide_eq_true (by omega)⟩)
          clear hfull
          rcases hcase with q5 | ⟨q5, q6⟩ | ⟨q5, q6, q7⟩
          all_goals
            go_wp2_with fail
            go_region
            go_wp2_with fail
            go_ret3
            exact Or.inr (Or.inl ⟨rfl, HPO.out, HU.out.drew⟩)
        · have q5 : decide (1152921504606846976 ≤ n) = false := decide_eq_false (by omega)
          have q6 : decide (1152921504606846976 ≤ l) = false := decide_eq_false (by omega)
          have q7 : decide (1152921504606846976 - (size : Int) ≤ f) = false := decide_eq_false (by omega)
          have q8 : (n == 0) = false := beq_eq_false_iff_ne.2 h0
          go_wp2_with fail
          go_region
          go_wp2_with fail
          have HH := Lib.hid (HBS.out.got h0)
          obtain ⟨place, rfl⟩ : ∃ place : Nat, p = place := ⟨p.toNat, by omega⟩
          have hpl : place < size := by have := HH.out.p2; omega
          have HWS := Lib.hid ((HW.out.setNext f).old (Upd.refl _ _).drew)
          have HPS := Lib.hid ((HPR.out.set HW.out 6 (.int .i64 f)).old (Upd.refl _ _).drew)
          have HUS : Hid (Upd (fun _ => False) w (wr.setCell ⟨w.heap.size, 6, none⟩ (.int .i64 f)).drew) := Lib.hid (HU.out.setCell (p := ⟨w.heap.size, 6, none⟩) (Or.inr (Nat.le_refl _)) _).drew
          generalize (wr.setCell ⟨w.heap.size, 6, none⟩ (.int .i64 f)).drew = ws at HWS HPS HUS ⊢
          clear e1 e2 e3 e4 e5 e6 e7 ef q1 q2 q3 HPR HW HU
          refine secQ ws w.heap.size b ab cm size place n l f D _ _ _ _ _ _ _ _ _ _ _ _ _ _ _ _ _ _ _ _ _ _ _ _ _ _ _ _ _ _ _ _ _ _ _ _ _ _ _ _ _ _ _ _ _ _ _ _ _ _ _ _ _ _ _ _ _ _ _ _ _ _ _ _ _ _ _ _ _ _ _ _ _ _ _ _ _ _ _ _ _ _ _ _ _ _ _ _ _ _ _ _ _ _ _ _ _ _ _ _ _ _ _ _ _ _ _ _ _ _ _ _ _ _ _ _ _ _ _ _ _ _ _ _ _ _ _ _ _ _ _ _ _ _ _ _ _ _ _ _ _ _ _ _ _ _ _ _ _ _ _ _ _ _ _ _ _ _ _ _ _ _ _ _ _ _ _ _ _ _ _ _ _ _ _ _ _ _ HWS.out HPS.out HD.out h4 hpl HH.out.f1 (by omega) HB.out (by omega) ?_
          intro L v u2 u3 u4 u12 u13 u113 u114 u115 u116 u117 u118 u119 u120 u121 u122 u123 u124 u125 u126 u127 u128 u129 u130 u131 u132 u133 u134 u135 u136 u137 u138 u139 u140 u141 u142 u143 u144 u145 u146 wl hcut
          have hroom := hcut.rs.room
          have hmany := hcut.rs.many
          have HC := Lib.hid hcut; clear hcut
          have HPL := Lib.hid (HPS.out.upd HC.out.up (by omega) (by omega) (by omega) (fun k e => by rw [e]; exact HWS.out.notB))
          have HUL := Lib.hid (show Upd (fun _ => False) w wl from HUS.out.trans' (HC.out.up) (fun i hi e => by omega))
          obtain ⟨va, vc, rfl⟩ := HC.out.li.shape
          go_wp2_with fail
          refine (clean_any _ w.heap.size b ab cm size place (usedB L) n l f (f + L.length) D _ HC.out.wal HPL.out HD.out (by omega) hsz hpl hroom HB.out).mono ?_
          rintro e w2 ⟨rfl, ⟨D1, hp2, hcl⟩, hu2⟩
          have HP2 := Lib.hid hp2; clear hp2
          have HCL := Lib.hid hcl; clear hcl
          have HU2 := Lib.hid hu2; clear hu2
          have HW2 := Lib.hid (HC.out.wal.upd HU2.out (fun h => by omega))
          go_wp2_with fail
          have e2 := HW2.out.c2
          have e3 := HW2.out.c3
          have e4 := HW2.out.c4
          have e5 := HW2.out.c5
          have hq1 : IntKind.i64.wrap (n + 1) = n + 1 := IntWalk.i64_in _ (by omega)
          have hq2 : IntKind.i64.wrap (l + 1) = l + 1 := IntWalk.i64_in _ (by omega)
          have HBG : Hid (∀ w3, Upd (fun _ => False) w2 w3 → Calls Try.prog 37 #[.pointer (some ⟨w.heap.size, 0, none⟩), .agg #[.int .i64 (n + 1), .int .i64 (l + 1), .int .i64 place, .int .i64 f]] w3 (BeginPost w3 w.heap.size b ab cm size (n + 1) (l + 1) place f (f + L.length) (usedB L : Nat) D1 (fun _ => none) ((n + 1) % 2).toNat)) :=
            Lib.hid fun w3 hud => begin_any ((n + 1) % 2).toNat _ w.heap.size b ab cm size n l place f (n + 1) (l + 1) place f (f + L.length) (usedB L : Nat) D1 _ (by rw [and_one_i64 (by omega) (by omega)]; omega) (HW2.out.old hud) (HP2.out.old hud) (by rw [HCL.out.len]; omega)
          have hge := HUS.out.size
          have HEND : Hid (∀ w4, PlateAt w4 b ab cm (headed D1 ((n + 1) % 2).toNat (headB (n + 1) (l + 1) place f)) (fun _ => none) → WalAt w4 w.heap.size b size (n + 1) (l + 1) place f (f + L.length) (usedB L : Nat) → Upd (fun k => k = ab ∨ k = cm ∨ k = w.heap.size) w2.drew w4 → OpenPost w b ab cm size D (.returned (.tuple #[.pointer (some ⟨w.heap.size, 0, none⟩), .slice va L.length vc, .int .i64 0])) w4) := Lib.hid fun w4 k1 k2 k3 => by
            have u24 : Upd (fun k => k = ab ∨ k = cm ∨ k = w.heap.size) wl w4 := (HU2.out.mono (fun _ _ h => by rcases h with h | h; exact Or.inl h; exact Or.inr (Or.inl h))).trans ((((Upd.refl _ _).drew)).trans k3)
            exact Or.inr (Or.inr (Or.inr ⟨w.heap.size, place, n, l, f, L, _, _, ⟨rfl, HBS.out, h0, by omega, by omega, by omega, opened_of (by omega) hpl HH.out.n1 HC.out.rs HC.out.max HCL.out, HC.out.bytes, k1, k2, (HC.out.li.upd u24 (fun k hk e => by have := HWS.out.lt; omega)).lower HWS.out.lt, upd_new HUL.out u24 (Nat.le_refl _), Nat.le_refl _⟩⟩))
          refine wp_region_held_drew (S := fun w' => w'.cell? ⟨w.heap.size, 4, none⟩ = some (.int .i64 place) ∧ w'.cell? ⟨w.heap.size, 5, none⟩ = some (.int .i64 f)) (by kernel_rfl) ⟨e4, e5⟩ (fun hHeld => ?_)
          refine wpAnyH_take (i := 0) (v := ?v1) rfl (by kernel_rfl) (by kernel_rfl) (by kernel_rfl) (fun _ _ _ h => h) (Or.inl ⟨by rfl, ?hy1⟩) (by assumption) ?rest1
          case hy1 => (intro w hSw; (try dsimp only at hSw); go_simp; try with_reducible rfl)
          (try simp only [Act.put, List.getElem_toArray, List.getElem_cons_zero, List.setIfInBounds_toArray, List.set_cons_zero, List.set_cons_succ])
          refine wpAnyH_take (i := 1) (v := ?v2) rfl (by kernel_rfl) (by kernel_rfl) (by kernel_rfl) (fun _ _ _ h => h) (Or.inl ⟨by rfl, ?hy2⟩) (by assumption) ?rest2
          case hy2 => (intro w hSw; (try dsimp only at hSw); go_simp; try with_reducible rfl)
          (try simp only [Act.put, List.getElem_toArray, List.getElem_cons_zero, List.getElem_cons_succ, List.setIfInBounds_toArray, List.set_cons_zero, List.set_cons_succ])
          refine wpAnyH_take (i := 2) (v := ?v3) rfl (by kernel_rfl) (by kernel_rfl) (by kernel_rfl) (fun _ _ _ h => h) (Or.inl ⟨by rfl, ?hy3⟩) (by assumption) ?rest3
          case hy3 => (intro w hSw; (try dsimp only at hSw); go_simp; try with_reducible rfl)
          (try simp only [Act.put, List.getElem_toArray, List.getElem_cons_zero, List.getElem_cons_succ, List.setIfInBounds_toArray, List.set_cons_zero, List.set_cons_succ])
          refine wpAnyH_take (i := 3) (v := ?v4) rfl (by kernel_rfl) (by kernel_rfl) (by kernel_rfl) (fun _ _ _ h => h) (Or.inl ⟨by rfl, ?hy4⟩) (by assumption) ?rest4
          case hy4 => (intro w hSw; (try dsimp only at hSw); go_simp; try with_reducible rfl)
          (try simp only [Act.put, List.getElem_toArray, List.getElem_cons_zero, List.getElem_cons_succ, List.setIfInBounds_toArray, List.set_cons_zero, List.set_cons_succ])
          refine wpAnyH_take (i := 4) (v := ?v5) rfl (by kernel_rfl) (by kernel_rfl) (by kernel_rfl) (fun _ _ _ h => h) (Or.inl ⟨by rfl, ?hy5⟩) (by assumption) ?rest5
          case hy5 => (intro w hSw; (try dsimp only at hSw); go_simp; try with_reducible rfl)
          (try simp only [Act.put, List.getElem_toArray, List.getElem_cons_zero, List.getElem_cons_succ, List.setIfInBounds_toArray, List.set_cons_zero, List.set_cons_succ])
          refine wpAnyH_take (i := 5) (v := ?v6) rfl (by kernel_rfl) (by kernel_rfl) (by kernel_rfl) (fun _ _ _ h => h) (Or.inl ⟨by rfl, ?hy6⟩) (by assumption) ?rest6
          case hy6 => (intro w hSw; (try dsimp only at hSw); go_simp; try with_reducible rfl)
          (try simp only [Act.put, List.getElem_toArray, List.getElem_cons_zero, List.getElem_cons_succ, List.setIfInBounds_toArray, List.set_cons_zero, List.set_cons_succ])
          refine wpAnyH_take (i := 6) (v := ?v7) rfl (by kernel_rfl) (by kernel_rfl) (by kernel_rfl) (fun _ _ _ h => h) (Or.inl ⟨by rfl, ?hy7⟩) (by assumption) ?rest7
          case hy7 => (intro w hSw; (try dsimp only at hSw); go_simp; try with_reducible rfl)
          (try simp only [Act.put, List.getElem_toArray, List.getElem_cons_zero, List.getElem_cons_succ, List.setIfInBounds_toArray, List.set_cons_zero, List.set_cons_succ])
          refine wpAnyH_take (i := 9) (v := ?v8) rfl (by kernel_rfl) (by kernel_rfl) (by kernel_rfl) (fun _ _ _ h => h) (Or.inl ⟨by rfl, ?hy8⟩) (by assumption) ?rest8
          case hy8 => (intro w hSw; (try dsimp only at hSw); go_simp; try with_reducible rfl)
          (try simp only [Act.put, List.getElem_toArray, List.getElem_cons_zero, List.getElem_cons_succ, List.setIfInBounds_toArray, List.set_cons_zero, List.set_cons_succ])
          refine wpAnyH_take (i := 10) (v := ?v9) rfl (by kernel_rfl) (by kernel_rfl) (by kernel_rfl) (fun _ _ _ h => h) (Or.inl ⟨by rfl, ?hy9⟩) (by assumption) ?rest9
          case hy9 => (intro w hSw; (try dsimp only at hSw); go_simp; try with_reducible rfl)
          (try simp only [Act.put, List.getElem_toArray, List.getElem_cons_zero, List.getElem_cons_succ, List.setIfInBounds_toArray, List.set_cons_zero, List.set_cons_succ])
          refine wpAnyH_take (i := 11) (v := ?v10) rfl (by kernel_rfl) (by kernel_rfl) (by kernel_rfl) (fun _ _ _ h => h) (Or.inl ⟨by rfl, ?hy10⟩) (by assumption) ?rest10
          case hy10 => (intro w hSw; (try dsimp only at hSw); go_simp; try with_reducible rfl)
          (try simp only [Act.put, List.getElem_toArray, List.getElem_cons_zero, List.getElem_cons_succ, List.setIfInBounds_toArray, List.set_cons_zero, List.set_cons_succ])
          refine wpAnyH_take (i := 12) (v := ?v11) rfl (by kernel_rfl) (by kernel_rfl) (by kernel_rfl) (fun _ _ _ h => h) (Or.inl ⟨by rfl, ?hy11⟩) (by assumption) ?rest11
          case hy11 => (intro w hSw; (try dsimp only at hSw); go_simp; try with_reducible rfl)
          (try simp only [Act.put, List.getElem_toArray, List.getElem_cons_zero, List.getElem_cons_succ, List.setIfInBounds_toArray, List.set_cons_zero, List.set_cons_succ])
          refine wpAnyH_take (i := 15) (v := ?v12) rfl (by kernel_rfl) (by kernel_rfl) (by kernel_rfl) (fun _ _ _ h => h) (Or.inl ⟨by rfl, ?hy12⟩) (by assumption) ?rest12
          case hy12 => (intro w hSw; (try dsimp only at hSw); go_simp; try with_reducible rfl)
          (try simp only [Act.put, List.getElem_toArray, List.getElem_cons_zero, List.getElem_cons_succ, List.setIfInBounds_toArray, List.set_cons_zero, List.set_cons_succ])
          refine wpAnyH_take (i := 16) (v := ?v13) rfl (by kernel_rfl) (by kernel_rfl) (by kernel_rfl) (fun _ _ _ h => h) (Or.inl ⟨by rfl, ?hy13⟩) (by assumption) ?rest13
          case hy13 => (intro w hSw; (try dsimp only at hSw); go_simp; try with_reducible rfl)
          (try simp only [Act.put, List.getElem_toArray, List.getElem_cons_zero, List.getElem_cons_succ, List.setIfInBounds_toArray, List.set_cons_zero, List.set_cons_succ])
          refine wpAnyH_take (i := 17) (v := ?v14) rfl (by kernel_rfl) (by kernel_rfl) (by kernel_rfl) (fun _ _ _ h => h) (Or.inl ⟨by rfl, ?hy14⟩) (by assumption) ?rest14
          case hy14 => (intro w hSw; (try dsimp only at hSw); go_simp; try with_reducible rfl)
          (try simp only [Act.put, List.getElem_toArray, List.getElem_cons_zero, List.getElem_cons_succ, List.setIfInBounds_toArray, List.set_cons_zero, List.set_cons_succ])
          refine wpAnyH_take (i := 18) (v := ?v15) rfl (by kernel_rfl) (by kernel_rfl) (by kernel_rfl) (fun _ _ _ h => h) (Or.inl ⟨by rfl, ?hy15⟩) (by assumption) ?rest15
          case hy15 => (intro w hSw; (try dsimp only at hSw); go_simp; try with_reducible rfl)
          (try simp only [Act.put, List.getElem_toArray, List.getElem_cons_zero, List.getElem_cons_succ, List.setIfInBounds_toArray, List.set_cons_zero, List.set_cons_succ])
          refine wpAnyH_take (i := 19) (v := ?v16) rfl (by kernel_rfl) (by kernel_rfl) (by kernel_rfl) (fun _ _ _ h => h) (Or.inl ⟨by rfl, ?hy16⟩) (by assumption) ?rest16
          case hy16 => (intro w hSw; (try dsimp only at hSw); go_simp; try with_reducible rfl)
          (try simp only [Act.put, List.getElem_toArray, List.getElem_cons_zero, List.getElem_cons_succ, List.setIfInBounds_toArray, List.set_cons_zero, List.set_cons_succ])
          refine wpAnyH_take (i := 20) (v := ?v17) rfl (by kernel_rfl) (by kernel_rfl) (by kernel_rfl) (fun _ _ _ h => h) (Or.inl ⟨by rfl, ?hy17⟩) (by assumption) ?rest17
          case hy17 => (intro w hSw; (try dsimp only at hSw); go_simp; try with_reducible rfl)
          (try simp only [Act.put, List.getElem_toArray, List.getElem_cons_zero, List.getElem_cons_succ, List.setIfInBounds_toArray, List.set_cons_zero, List.set_cons_succ])
          refine wpAnyH_take (i := 21) (v := ?v18) rfl (by kernel_rfl) (by kernel_rfl) (by kernel_rfl) (fun _ _ _ h => h) (Or.inl ⟨by rfl, ?hy18⟩) (by assumption) ?rest18
          case hy18 => (intro w hSw; (try dsimp only at hSw); go_simp; try with_reducible rfl)
          (try simp only [Act.put, List.getElem_toArray, List.getElem_cons_zero, List.getElem_cons_succ, List.setIfInBounds_toArray, List.set_cons_zero, List.set_cons_succ])
          refine wpAnyH_take (i := 22) (v := ?v19) rfl (by kernel_rfl) (by kernel_rfl) (by kernel_rfl) (fun _ _ _ h => h) (Or.inl ⟨by rfl, ?hy19⟩) (by assumption) ?rest19
          case hy19 => (intro w hSw; (try dsimp only at hSw); go_simp; try with_reducible rfl)
          (try simp only [Act.put, List.getElem_toArray, List.getElem_cons_zero, List.getElem_cons_succ, List.setIfInBounds_toArray, List.set_cons_zero, List.set_cons_succ])
          refine wpAnyH_take (i := 23) (v := ?v20) rfl (by kernel_rfl) (by kernel_rfl) (by kernel_rfl) (fun _ _ _ h => h) (Or.inl ⟨by rfl, ?hy20⟩) (by assumption) ?rest20
          case hy20 => (intro w hSw; (try dsimp only at hSw); go_simp; try with_reducible rfl)
          (try simp only [Act.put, List.getElem_toArray, List.getElem_cons_zero, List.getElem_cons_succ, List.setIfInBounds_toArray, List.set_cons_zero, List.set_cons_succ])
          refine wpAnyH_take (i := 24) (v := ?v21) rfl (by kernel_rfl) (by kernel_rfl) (by kernel_rfl) (fun _ _ _ h => h) (Or.inl ⟨by rfl, ?hy21⟩) (by assumption) ?rest21
          case hy21 => (intro w hSw; (try dsimp only at hSw); go_simp; try with_reducible rfl)
          (try simp only [Act.put, List.getElem_toArray, List.getElem_cons_zero, List.getElem_cons_succ, List.setIfInBounds_toArray, List.set_cons_zero, List.set_cons_succ])
          refine wpAnyH_ready (rs := [7, 13]) (by kernel_rfl) (by simp) ?rd22
          refine AllReadyH.cons rfl (fun K hK => ?st23) ?more23
          case st23 =>
            go_simp
            refine hK.out _ _ ⟨e4, e5⟩ (fun hHeld2 => ?_)
            clear hK K
            (try simp only [Act.put, List.getElem_toArray, List.getElem_cons_zero, List.getElem_cons_succ, List.setIfInBounds_toArray, List.set_cons_zero, List.set_cons_succ])
            refine wpAnyH_take (i := 8) (v := ?v24) rfl (by kernel_rfl) (by kernel_rfl) (by kernel_rfl) (fun _ _ _ h => h) (Or.inl ⟨by rfl, ?hy24⟩) (by assumption) ?rest24
            case hy24 => (intro w hSw; (try dsimp only at hSw); go_simp; try with_reducible rfl)
            (try simp only [Act.put, List.getElem_toArray, List.getElem_cons_zero, List.getElem_cons_succ, List.setIfInBounds_toArray, List.set_cons_zero, List.set_cons_succ])
            refine wpAnyH_ready (rs := [13]) (by kernel_rfl) (by simp) ?rd25
            refine AllReadyH.cons rfl (fun K hK => ?st26) ?more26
            case st26 =>
              go_simp
              refine hK.out _ _ ⟨e4, e5⟩ (fun hHeld2 => ?_)
              clear hK K
              (try simp only [Act.put, List.getElem_toArray, List.getElem_cons_zero, List.getElem_cons_succ, List.setIfInBounds_toArray, List.set_cons_zero, List.set_cons_succ])
              refine wpAnyH_take (i := 14) (v := ?v27) rfl (by kernel_rfl) (by kernel_rfl) (by kernel_rfl) (fun _ _ _ h => h) (Or.inl ⟨by rfl, ?hy27⟩) (by assumption) ?rest27
              case hy27 => (intro w hSw; (try dsimp only at hSw); go_simp; try with_reducible rfl)
              (try simp only [Act.put, List.getElem_toArray, List.getElem_cons_zero, List.getElem_cons_succ, List.setIfInBounds_toArray, List.set_cons_zero, List.set_cons_succ])
              refine wpAnyH_take (i := 25) (v := ?v28) rfl (by kernel_rfl) (by kernel_rfl) (by kernel_rfl) (fun _ _ _ h => h) (Or.inl ⟨by rfl, ?hy28⟩) (by assumption) ?rest28
              case hy28 => (intro w hSw; (try dsimp only at hSw); go_simp; try with_reducible rfl)
              (try simp only [Act.put, List.getElem_toArray, List.getElem_cons_zero, List.getElem_cons_succ, List.setIfInBounds_toArray, List.set_cons_zero, List.set_cons_succ])
              refine wpAnyH_ready (rs := [26]) (by kernel_rfl) (by simp) ?rd29
              refine AllReadyH.cons rfl (fun K hK => ?st30) ?more30
              case st30 =>
                go_simp
                go_at_call 37
                (with_reducible refine (HBG.out _ (Upd.refl _ _).drew).mono ?_)
                rintro e w4 ⟨rfl, hp4, hw4, hu4⟩
                have HP4 := Lib.hid hp4; have HW4 := Lib.hid hw4; have HU4 := Lib.hid hu4; clear hp4 hw4 hu4
                refine hK.out _ _ ⟨HW4.out.c4, HW4.out.c5⟩ (fun hHeld2 => ?_)
                clear hK K
                (try simp only [Act.put, List.getElem_toArray, List.getElem_cons_zero, List.getElem_cons_succ, List.setIfInBounds_toArray, List.set_cons_zero, List.set_cons_succ])
                refine wpAnyH_take (i := 27) (v := ?v31) rfl (by kernel_rfl) (by kernel_rfl) (by kernel_rfl) (fun _ _ _ h => h) (Or.inl ⟨by rfl, ?hy31⟩) (by assumption) ?rest31
                case hy31 => (intro w hSw; (try dsimp only at hSw); go_simp; try with_reducible rfl)
                (try simp only [Act.put, List.getElem_toArray, List.getElem_cons_zero, List.getElem_cons_succ, List.setIfInBounds_toArray, List.set_cons_zero, List.set_cons_succ])
                refine wpAnyH_take (i := 28) (v := ?v32) rfl (by kernel_rfl) (by kernel_rfl) (by kernel_rfl) (fun _ _ _ h => h) (Or.inl ⟨by rfl, ?hy32⟩) (by assumption) ?rest32
                case hy32 => (intro w hSw; (try dsimp only at hSw); go_simp; try with_reducible rfl)
                (try simp only [Act.put, List.getElem_toArray, List.getElem_cons_zero, List.getElem_cons_succ, List.setIfInBounds_toArray, List.set_cons_zero, List.set_cons_succ])
                refine wpAnyH_take (i := 29) (v := ?v33) rfl (by kernel_rfl) (by kernel_rfl) (by kernel_rfl) (fun _ _ _ h => h) (Or.inl ⟨by rfl, ?hy33⟩) (by assumption) ?rest33
                case hy33 => (intro w hSw; (try dsimp only at hSw); go_simp; try with_reducible rfl)
                (try simp only [Act.put, List.getElem_toArray, List.getElem_cons_zero, List.getElem_cons_succ, List.setIfInBounds_toArray, List.set_cons_zero, List.set_cons_succ])
                refine wpAnyH_done (by kernel_rfl) ?_ _
                go_wp2_with fail
                go_ret3
                exact HEND.out w4 HP4.out HW4.out HU4.out
              exact AllReadyH.nil
            exact AllReadyH.nil
          refine AllReadyH.cons rfl (fun K hK => ?st34) ?more34
          case st34 =>
            go_simp
            refine hK.out _ _ ⟨e4, e5⟩ (fun hHeld2 => ?_)
            clear hK K
            (try simp only [Act.put, List.getElem_toArray, List.getElem_cons_zero, List.getElem_cons_succ, List.setIfInBounds_toArray, List.set_cons_zero, List.set_cons_succ])
            refine wpAnyH_take (i := 14) (v := ?v35) rfl (by kernel_rfl) (by kernel_rfl) (by kernel_rfl) (fun _ _ _ h => h) (Or.inl ⟨by rfl, ?hy35⟩) (by assumption) ?rest35
            case hy35 => (intro w hSw; (try dsimp only at hSw); go_simp; try with_reducible rfl)
            (try simp only [Act.put, List.getElem_toArray, List.getElem_cons_zero, List.getElem_cons_succ, List.setIfInBounds_toArray, List.set_cons_zero, List.set_cons_succ])
            refine wpAnyH_ready (rs := [7]) (by kernel_rfl) (by simp) ?rd36
            refine AllReadyH.cons rfl (fun K hK => ?st37) ?more37
            case st37 =>
              go_simp
              refine hK.out _ _ ⟨e4, e5⟩ (fun hHeld2 => ?_)
              clear hK K
              (try simp only [Act.put, List.getElem_toArray, List.getElem_cons_zero, List.getElem_cons_succ, List.setIfInBounds_toArray, List.set_cons_zero, List.set_cons_succ])
              refine wpAnyH_take (i := 8) (v := ?v38) rfl (by kernel_rfl) (by kernel_rfl) (by kernel_rfl) (fun _ _ _ h => h) (Or.inl ⟨by rfl, ?hy38⟩) (by assumption) ?rest38
              case hy38 => (intro w hSw; (try dsimp only at hSw); go_simp; try with_reducible rfl)
              (try simp only [Act.put, List.getElem_toArray, List.getElem_cons_zero, List.getElem_cons_succ, List.setIfInBounds_toArray, List.set_cons_zero, List.set_cons_succ])
              refine wpAnyH_take (i := 25) (v := ?v39) rfl (by kernel_rfl) (by kernel_rfl) (by kernel_rfl) (fun _ _ _ h => h) (Or.inl ⟨by rfl, ?hy39⟩) (by assumption) ?rest39
              case hy39 => (intro w hSw; (try dsimp only at hSw); go_simp; try with_reducible rfl)
              (try simp only [Act.put, List.getElem_toArray, List.getElem_cons_zero, List.getElem_cons_succ, List.setIfInBounds_toArray, List.set_cons_zero, List.set_cons_succ])
              refine wpAnyH_ready (rs := [26]) (by kernel_rfl) (by simp) ?rd40
              refine AllReadyH.cons rfl (fun K hK => ?st41) ?more41
              case st41 =>
                go_simp
                go_at_call 37
                (with_reducible refine (HBG.out _ (Upd.refl _ _).drew).mono ?_)
                rintro e w4 ⟨rfl, hp4, hw4, hu4⟩
                have HP4 := Lib.hid hp4; have HW4 := Lib.hid hw4; have HU4 := Lib.hid hu4; clear hp4 hw4 hu4
                refine hK.out _ _ ⟨HW4.out.c4, HW4.out.c5⟩ (fun hHeld2 => ?_)
                clear hK K
                (try simp only [Act.put, List.getElem_toArray, List.getElem_cons_zero, List.getElem_cons_succ, List.setIfInBounds_toArray, List.set_cons_zero, List.set_cons_succ])
                refine wpAnyH_take (i := 27) (v := ?v42) rfl (by kernel_rfl) (by kernel_rfl) (by kernel_rfl) (fun _ _ _ h => h) (Or.inl ⟨by rfl, ?hy42⟩) (by assumption) ?rest42
                case hy42 => (intro w hSw; (try dsimp only at hSw); go_simp; try with_reducible rfl)
                (try simp only [Act.put, List.getElem_toArray, List.getElem_cons_zero, List.getElem_cons_succ, List.setIfInBounds_toArray, List.set_cons_zero, List.set_cons_succ])
                refine wpAnyH_take (i := 28) (v := ?v43) rfl (by kernel_rfl) (by kernel_rfl) (by kernel_rfl) (fun _ _ _ h => h) (Or.inl ⟨by rfl, ?hy43⟩) (by assumption) ?rest43
                case hy43 => (intro w hSw; (try dsimp only at hSw); go_simp; try with_reducible rfl)
                (try simp only [Act.put, List.getElem_toArray, List.getElem_cons_zero, List.getElem_cons_succ, List.setIfInBounds_toArray, List.set_cons_zero, List.set_cons_succ])
                refine wpAnyH_take (i := 29) (v := ?v44) rfl (by kernel_rfl) (by kernel_rfl) (by kernel_rfl) (fun _ _ _ h => h) (Or.inl ⟨by rfl, ?hy44⟩) (by assumption) ?rest44
                case hy44 => (intro w hSw; (try dsimp only at hSw); go_simp; try with_reducible rfl)
                (try simp only [Act.put, List.getElem_toArray, List.getElem_cons_zero, List.getElem_cons_succ, List.setIfInBounds_toArray, List.set_cons_zero, List.set_cons_succ])
                refine wpAnyH_done (by kernel_rfl) ?_ _
                go_wp2_with fail
                go_ret3
                exact HEND.out w4 HP4.out HW4.out HU4.out
              exact AllReadyH.nil
            exact AllReadyH.nil
          exact AllReadyH.nil
end Go.Proofs.Ytchpekecgdbphaa
