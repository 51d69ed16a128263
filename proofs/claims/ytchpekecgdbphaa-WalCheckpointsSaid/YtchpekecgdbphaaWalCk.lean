/-
  Checkpoint: the walk.
-/
import Derived.Test.YtchpekecgdbphaaWalCkL
import Derived.BigRegion
set_option linter.unusedVariables false
namespace Go.Proofs.Ytchpekecgdbphaa
open Go Go.RowKit Go.MapKept Go.ChangeMaps

/-- What Checkpoint answers of a log. -/
def CkPost (w : World) (wb b ab cm size place : Nat) (n l f : Int) (recs L : List (List Int)) (k : Nat) (e : Ending) (w' : World) : Prop := Upd (fun x => x = ab ∨ x = cm ∨ x = wb) w w' ∧
  ((∃ x, (x = 1 ∨ x = 4) ∧ e = .returned (.int .i64 x) ∧ LogSt w' wb b ab cm size place n l f recs k) ∨
   (e = .returned (.int .i64 0) ∧ LogClean w' wb b ab cm size ((place + usedB recs) % size) (n + 1) l (f + recs.length) L))
theorem usedB_le (L : List (List Int)) (h : MayAll L) : ∀ q, q ≤ L.length → usedB (L.take q) ≤ 50 * q := by
  intro q
  induction q with
  | zero => intro _; simp [usedB]
  | succ q ih =>
    intro hq
    rw [usedB_take_next (by omega)]
    have := ih (by omega)
    have := (h q (by omega)).2
    unfold needB
    omega
theorem cells_of {w : World} {wb b : Nat} {size n l p f next used : Int} (h : WalAt w wb b size n l p f next used) : w.cell? ⟨wb, 1, none⟩ = some (.int .i64 size) ∧ w.cell? ⟨wb, 2, none⟩ = some (.int .i64 n) ∧ w.cell? ⟨wb, 3, none⟩ = some (.int .i64 l) ∧ w.cell? ⟨wb, 4, none⟩ = some (.int .i64 p) ∧ w.cell? ⟨wb, 6, none⟩ = some (.int .i64 next) ∧ w.cell? ⟨wb, 7, none⟩ = some (.int .i64 used) := ⟨h.c1, h.c2, h.c3, h.c4, h.c6, h.c7⟩
set_option maxRecDepth 100000 in
set_option maxHeartbeats 16000000 in
theorem ck_any (w : World) (wb b ab cm size place : Nat) (n l f : Int) (recs L : List (List Int)) (k : Nat) (v : Value) (h : LogSt w wb b ab cm size place n l f recs k) (hL : Feed (fun x => x = ab ∨ x = cm ∨ x = wb) w v L) :
    Calls Try.prog 20 #[.pointer (some ⟨wb, 0, none⟩), v] w (CkPost w wb b ab cm size place n l f recs L k) := by
  obtain ⟨va, vc, rfl⟩ := hL.sl
  have hfew := hL.few
  have HL := Lib.hid hL; clear hL
  have HST := Lib.hid h
  obtain ⟨D, C, h1, h2, h3, h4⟩ := h.x
  clear h h4
  have c0 := h2.c0
  have c1 := h2.c1
  have c2 := h2.c2
  have c3 := h2.c3
  have c4 := h2.c4
  have c6 := h2.c6
  have c7 := h2.c7
  have hroom := h3.rs.room
  have hsz := h3.few
  have hs4 := h3.four
  have hpl := h3.plt
  have hn1 := h3.n1
  have hn2 := h3.n2
  have hf1 := h3.f1
  have hf2 := h3.f2
  have hmany := h3.rs.many
  obtain ⟨x1, x2, x3⟩ := h2.apart h1
  have hlp := h1.lt
  have hlw := h2.lt
  have HW := Lib.hid h2
  clear h1 h2 h3
  go_enter Try.func20, Try.ntmps20
  go_wp2_with (go_at_call 22; refine (none_any HW.out).mono ?_; rintro e w' ⟨rfl, rfl⟩)
  go_loopw [5, 19] (fun al i wr => ∃ q : Nat, q ≤ L.length ∧ i = .int .i64 q ∧ al = .int .i64 (usedB (L.take q) : Nat) ∧ MayAll (L.take q) ∧ wr = w) (fun _ i _ => L.length - (intOf i).toNat)
  case atStart => exact ⟨0, Nat.zero_le _, rfl, rfl, fun i hi => absurd hi (by simp), rfl⟩
  case round =>
    obtain ⟨q, hq, rfl, rfl, hmay, rfl⟩ := hrel
    by_cases hlt : q < L.length
    · obtain ⟨hb, o, c, ka, sc, e1, e2, e4, e5, e6, e7, e8, e9⟩ := HL.out.at_ q hlt
      cases e1
      have hu1 := usedB_le (L.take q) hmay q (by rw [List.length_take]; omega)
      rw [List.take_take, Nat.min_self] at hu1
      have hmx : MayAll (L.take q) → (1 ≤ (L.getD q []).length ∧ (L.getD q []).length ≤ 2000) → MayAll (L.take (q + 1)) := fun h1 h2 i hi => by
        rw [List.length_take] at hi
        by_cases e : i = q
        · subst e
          rw [List.getD_eq_getElem?_getD, List.getElem?_take_of_lt (by omega), ← List.getD_eq_getElem?_getD]
          exact h2
        · have := h1 i (by rw [List.length_take]; omega)
          rw [List.getD_eq_getElem?_getD, List.getElem?_take_of_lt (by omega), ← List.getD_eq_getElem?_getD] at this ⊢
          exact this
      have husn := usedB_take_next hlt
      have HMX := Lib.hid hmx; clear hmx
      have HMAY := Lib.hid hmay; clear hmay
      clear e9
      generalize L.getD q [] = r at e2 e4 e5 e6 e7 husn HMX
      have HB4 := Lib.hid e4; clear e4
      have hm := may_any wr ka r.length sc e6
      by_cases hok : 1 ≤ r.length ∧ r.length ≤ 2000
      · rw [decide_eq_true hok] at hm
        have HM := Lib.hid hm; clear hm
        have HN := Lib.hid (need_any wr _ r HB4.out (by omega))
        have hnb : needB r ≤ 50 := by unfold needB; omega
        generalize needB r = nb at HN husn hnb
        generalize hub : usedB (L.take q) = ub at *
        go_wp2_with (first
          | (go_at_call 23; refine HM.out.mono ?_; rintro e w' ⟨rfl, rfl⟩)
          | (go_at_call 24; refine HN.out.mono ?_; rintro e w' ⟨rfl, rfl⟩))
        go_roundw
        case rel => exact ⟨q + 1, hlt, by go_num, by rw [husn]; go_num, HMX.out HMAY.out hok, trivial⟩
        case measure => simp [intOf]; omega
      · rw [decide_eq_false hok] at hm
        have HM := Lib.hid hm; clear hm
        go_wp2_with (go_at_call 23; refine HM.out.mono ?_; rintro e w' ⟨rfl, rfl⟩)
        go_ret
        exact ⟨Upd.refl _ _, .inl ⟨1, Or.inl rfl, rfl, HST.out⟩⟩
    · obtain rfl : q = L.length := by omega
      rw [List.take_length] at hmay
      have hul := usedB_le L hmay L.length (Nat.le_refl _)
      rw [List.take_length] at hul
      rw [List.take_length]
      have HMAY := Lib.hid hmay; clear hmay
      have HRM : Hid (Calls Try.prog 10 #[.pointer (some ⟨wb, 0, none⟩)] wr (Drew wr (.int .i64 ((size : Int) - (usedB recs : Nat))))) := Lib.hid (room_any HW.out (by omega) (by omega) (by omega) (by omega))
      have hcase : decide ((size : Int) - (usedB recs : Nat) < (usedB L : Nat)) = true ∨ (decide ((size : Int) - (usedB recs : Nat) < (usedB L : Nat)) = false ∧ decide (1152921504606846976 ≤ n) = true) ∨ (decide ((size : Int) - (usedB recs : Nat) < (usedB L : Nat)) = false ∧ decide (1152921504606846976 ≤ n) = false ∧ decide (1152921504606846976 - (L.length : Int) ≤ f + recs.length - 1) = true) ∨ ((decide ((size : Int) - (usedB recs : Nat) < (usedB L : Nat)) = false ∧ decide (1152921504606846976 ≤ n) = false ∧ decide (1152921504606846976 - (L.length : Int) ≤ f + recs.length - 1) = false) ∧ (usedB recs + usedB L ≤ size ∧ n < 1152921504606846976 ∧ f + recs.length - 1 < 1152921504606846976 - L.length)) := by
        by_cases g1 : (size : Int) - (usedB recs : Nat) < (usedB L : Nat)
        · exact Or.inl (decide_eq_true g1)
        · by_cases g2 : 1152921504606846976 ≤ n
          · exact Or.inr (Or.inl ⟨decide_eq_false g1, decide_eq_true g2⟩)
          · by_cases g3 : 1152921504606846976 - (L.length : Int) ≤ f + recs.length - 1
            · exact Or.inr (Or.inr (Or.inl ⟨decide_eq_false g1, decide_eq_false g2, decide_eq_true g3⟩))
            · exact Or.inr (Or.inr (Or.inr ⟨⟨decide_eq_false g1, decide_eq_false g2, decide_eq_false g3⟩, by omega, by omega, by omega⟩))
      clear c0 c1 c3 c4 c7
      rcases hcase with q1 | ⟨q1, q2⟩ | ⟨q1, q2, q3⟩ | ⟨⟨q1, q2, q3⟩, g1, g2, g3⟩
      · go_wp2_with (go_at_call 10; refine HRM.out.mono ?_; rintro e w2 ⟨rfl, rfl⟩)
        go_ret
        exact ⟨(Upd.refl _ _).drew, .inl ⟨4, Or.inr rfl, rfl, HST.out.old (Upd.refl _ _).drew⟩⟩
      · go_wp2_with (go_at_call 10; refine HRM.out.mono ?_; rintro e w2 ⟨rfl, rfl⟩)
        go_ret
        exact ⟨(Upd.refl _ _).drew, .inl ⟨4, Or.inr rfl, rfl, HST.out.old (Upd.refl _ _).drew⟩⟩
      · go_wp2_with (go_at_call 10; refine HRM.out.mono ?_; rintro e w2 ⟨rfl, rfl⟩)
        go_ret
        exact ⟨(Upd.refl _ _).drew, .inl ⟨4, Or.inr rfl, rfl, HST.out.old (Upd.refl _ _).drew⟩⟩
      · go_wp2_with (go_at_call 10; refine HRM.out.mono ?_; rintro e w2 ⟨rfl, rfl⟩)
        have HWd := Lib.hid (HW.out.old (Upd.refl (fun _ => False) wr).drew)
        have HSd := Lib.hid (HST.out.old (Upd.refl (fun _ => False) wr).drew)
        have HLd := Lib.hid (HL.out.old (Upd.refl (fun _ => False) wr).drew)
        have HUd : Hid (Upd (fun _ => False) wr wr.drew) := Lib.hid (Upd.refl _ _).drew
        generalize wr.drew = wd at HWd HSd HLd HUd ⊢
        clear c2 c6 q1 q2 q3 HRM
        obtain ⟨sz, hsz2⟩ : ∃ sz : Int, sz = (size : Int) := ⟨_, rfl⟩
        obtain ⟨pl, hpl2⟩ : ∃ pl : Int, pl = (place : Int) := ⟨_, rfl⟩
        obtain ⟨ub, hub2⟩ : ∃ ub : Int, ub = ((usedB recs : Nat) : Int) := ⟨_, rfl⟩
        obtain ⟨z5, hz5⟩ : ∃ z5 : Int, z5 = f + recs.length := ⟨_, rfl⟩
        have HWz : Hid (WalAt wd wb b sz n l pl f z5 ub) := Lib.hid (by rw [hsz2, hpl2, hub2, hz5]; exact HWd.out)
        have d1 := HWz.out.c1
        have d2 := HWz.out.c2
        have d3 := HWz.out.c3
        have d4 := HWz.out.c4
        have d6 := HWz.out.c6
        have d7 := HWz.out.c7
        have hz : sz ≠ 0 := by omega
        have ht0 : (pl + ub).tmod sz = (pl + ub) % sz := Int.tmod_eq_emod_of_nonneg (by omega)
        have hrm : (pl + ub) % sz = (((place + usedB recs) % size : Nat) : Int) := by rw [hpl2, hub2, hsz2, Int.natCast_emod, Int.natCast_add]
        have hs1 : IntKind.i64.wrap (pl + ub) = pl + ub := IntWalk.i64_in _ (by omega)
        have hs3 : IntKind.i64.wrap (n + 1) = n + 1 := IntWalk.i64_in _ (by omega)
        rw [hrm] at ht0
        clear hrm
        generalize hrm : (((place + usedB recs) % size : Nat) : Int) = rm at ht0
        have HRMz := Lib.hid hrm; clear hrm
        have H1z := Lib.hid hsz2; clear hsz2
        have H2z := Lib.hid hpl2; clear hpl2
        have H3z := Lib.hid hub2; clear hub2
        have H4z := Lib.hid hz5; clear hz5
        have hlw2 := HWd.out.lt
        go_region_held3 (fun w' => w'.cell? ⟨wb, 1, none⟩ = some (.int .i64 sz) ∧ w'.cell? ⟨wb, 2, none⟩ = some (.int .i64 n) ∧ w'.cell? ⟨wb, 3, none⟩ = some (.int .i64 l) ∧ w'.cell? ⟨wb, 4, none⟩ = some (.int .i64 pl) ∧ w'.cell? ⟨wb, 6, none⟩ = some (.int .i64 z5) ∧ w'.cell? ⟨wb, 7, none⟩ = some (.int .i64 ub)) (exact cells_of (HWz.out.old (by repeat (first | exact Upd.refl _ _ | apply Upd.drew | apply Upd.alloc)))) (fail)
        all_goals
          obtain ⟨pm, hpm⟩ : ∃ pm : Nat, pm = (place + usedB recs) % size := ⟨_, rfl⟩
          obtain rfl : rm = (pm : Int) := by rw [hpm]; exact HRMz.out.symm
          obtain rfl := H4z.out
          clear HRMz H1z H2z H3z H4z ht0 hs1 hs3
          have hpml : pm < size := by rw [hpm]; exact Nat.mod_lt _ (by omega)
          have hbits : bits .and .i64 (n + 1) 1 = (((n + 1) % 2).toNat : Int) := by
            rw [and_one_i64 (by omega) (by omega)]; omega
          have hpar : ((n + 1) % 2).toNat < 2 := by omega
          have HBITS := Lib.hid hbits; clear hbits
          have HPM := Lib.hid hpm; clear hpm
          generalize hpq : ((n + 1) % 2).toNat = pq at hpar HBITS
          have HPQ := Lib.hid hpq; clear hpq
          have uA : Upd (fun _ => False) wd (wd.alloc (.cells #[.int .i64 (n + 1), .int .i64 l, .int .i64 (pm : Int), .int .i64 (f + recs.length)] 62)).drew := ((Upd.refl _ _).alloc _).drew
          have k0 : (wd.alloc (.cells #[.int .i64 (n + 1), .int .i64 l, .int .i64 (pm : Int), .int .i64 (f + recs.length)] 62)).drew.cell? ⟨wd.heap.size, 0, none⟩ = some (.int .i64 (n + 1)) := (((Upd.refl (fun _ => False) (wd.alloc (.cells #[.int .i64 (n + 1), .int .i64 l, .int .i64 (pm : Int), .int .i64 (f + recs.length)] 62))).drew).cell (p := ⟨wd.heap.size, 0, none⟩) (by simp) (fun h => h)).trans (World.cell?_alloc_at _ _ _ _ rfl)
          have k1 : (wd.alloc (.cells #[.int .i64 (n + 1), .int .i64 l, .int .i64 (pm : Int), .int .i64 (f + recs.length)] 62)).drew.cell? ⟨wd.heap.size, 1, none⟩ = some (.int .i64 l) := (((Upd.refl (fun _ => False) (wd.alloc (.cells #[.int .i64 (n + 1), .int .i64 l, .int .i64 (pm : Int), .int .i64 (f + recs.length)] 62))).drew).cell (p := ⟨wd.heap.size, 1, none⟩) (by simp) (fun h => h)).trans (World.cell?_alloc_at _ _ _ _ rfl)
          have k2 : (wd.alloc (.cells #[.int .i64 (n + 1), .int .i64 l, .int .i64 (pm : Int), .int .i64 (f + recs.length)] 62)).drew.cell? ⟨wd.heap.size, 2, none⟩ = some (.int .i64 (pm : Int)) := (((Upd.refl (fun _ => False) (wd.alloc (.cells #[.int .i64 (n + 1), .int .i64 l, .int .i64 (pm : Int), .int .i64 (f + recs.length)] 62))).drew).cell (p := ⟨wd.heap.size, 2, none⟩) (by simp) (fun h => h)).trans (World.cell?_alloc_at _ _ _ _ rfl)
          have k3 : (wd.alloc (.cells #[.int .i64 (n + 1), .int .i64 l, .int .i64 (pm : Int), .int .i64 (f + recs.length)] 62)).drew.cell? ⟨wd.heap.size, 3, none⟩ = some (.int .i64 (f + recs.length)) := (((Upd.refl (fun _ => False) (wd.alloc (.cells #[.int .i64 (n + 1), .int .i64 l, .int .i64 (pm : Int), .int .i64 (f + recs.length)] 62))).drew).cell (p := ⟨wd.heap.size, 3, none⟩) (by simp) (fun h => h)).trans (World.cell?_alloc_at _ _ _ _ rfl)
          have hkA : wd.heap.size < (wd.alloc (.cells #[.int .i64 (n + 1), .int .i64 l, .int .i64 (pm : Int), .int .i64 (f + recs.length)] 62)).drew.heap.size := by simp
          have hge : wr.heap.size ≤ wd.heap.size := HUd.out.size
          generalize (wd.alloc (.cells #[.int .i64 (n + 1), .int .i64 l, .int .i64 (pm : Int), .int .i64 (f + recs.length)] 62)).drew = wA at uA k0 k1 k2 k3 hkA ⊢
          have HSA := Lib.hid (HSd.out.old uA)
          have HLA := Lib.hid (HLd.out.old uA)
          have HUA := Lib.hid (HUd.out.trans uA)
          clear HWd HWz HSd HLd HUd uA d1 d2 d3 d4 d6 d7 hz hlw2
          obtain ⟨hb, hhb⟩ : ∃ hb, hb = wd.heap.size := ⟨_, rfl⟩
          rw [← hhb] at k0 k1 k2 k3 hkA hge ⊢
          clear hhb
          have K0 := Lib.hid k0; clear k0
          have K1 := Lib.hid k1; clear k1
          have K2 := Lib.hid k2; clear k2
          have K3 := Lib.hid k3; clear k3
          have hmono := fun q (hq : q ≤ L.length) => usedB_take_le L q
          go_wp2_with fail
          refine secKQ wA wb b ab cm size place n l f recs L k va vc _ _ _ _ _ _ _ _ _ _ _ _ _ _ _ _ _ _ _ _ _ _ _ _ _ _ _ _ _ _ _ _ _ _ _ _ _ _ _ _ _ _ _ _ _ _ _ _ _ _ _ _ _ _ _ _ _ _ _ _ _ _ _ _ _ _ _ _ _ _ _ _ _ _ _ _ _ _ _ _ _ _ _ _ _ _ _ _ _ _ _ _ _ _ _ _ _ _ _ _ _ _ _ _ _ _ _ _ _ _ _ _ _ _ _ _ _ _ HSA.out HLA.out HMAY.out g1 g3 ?_
          intro u4 u10 u11 u12 u88 u89 u90 u91 u92 u93 u94 u95 u96 u97 u98 u99 u100 wk hcut
          have HSR := Lib.hid hcut.st
          have HUR := Lib.hid hcut.up
          clear hcut
          obtain ⟨D1, C1, p1, p2, p3, p4⟩ := HSR.out.x
          have hne : hb ≠ cm ∧ hb ≠ wb ∧ hb ≠ ab := by omega
          have HS1 := Lib.hid p3.synced
          have hd1 := p3.dlen
          have HP1 := Lib.hid p1; clear p1
          have HW1 := Lib.hid p2; clear p2 p3 p4
          have c0 := HW1.out.c0
          have K0' := Lib.hid ((HUR.out.cell (p := ⟨hb, 0, none⟩) hkA (fun h => by rcases h with h | h; exact hne.1 h; exact hne.2.1 h)).trans K0.out)
          have K1' := Lib.hid ((HUR.out.cell (p := ⟨hb, 1, none⟩) hkA (fun h => by rcases h with h | h; exact hne.1 h; exact hne.2.1 h)).trans K1.out)
          have K2' := Lib.hid ((HUR.out.cell (p := ⟨hb, 2, none⟩) hkA (fun h => by rcases h with h | h; exact hne.1 h; exact hne.2.1 h)).trans K2.out)
          have K3' := Lib.hid ((HUR.out.cell (p := ⟨hb, 3, none⟩) hkA (fun h => by rcases h with h | h; exact hne.1 h; exact hne.2.1 h)).trans K3.out)
          have hks := HUR.out.size
          clear K0 K1 K2 K3
          go_wp2_with fail
          refine (sync_any _ b ab cm D1 C1 HP1.out).mono ?_
          rintro e w4 ⟨rfl, hp4, hu4⟩
          have k0 := (hu4.cell (p := ⟨hb, 0, none⟩) (by show hb < _; omega) (fun h => by rcases h with h | h; exact hne.2.2 h; exact hne.1 h)).trans K0'.out
          have k1 := (hu4.cell (p := ⟨hb, 1, none⟩) (by show hb < _; omega) (fun h => by rcases h with h | h; exact hne.2.2 h; exact hne.1 h)).trans K1'.out
          have k2 := (hu4.cell (p := ⟨hb, 2, none⟩) (by show hb < _; omega) (fun h => by rcases h with h | h; exact hne.2.2 h; exact hne.1 h)).trans K2'.out
          have k3 := (hu4.cell (p := ⟨hb, 3, none⟩) (by show hb < _; omega) (fun h => by rcases h with h | h; exact hne.2.2 h; exact hne.1 h)).trans K3'.out
          have HP4 := Lib.hid hp4; clear hp4
          have HW4 := Lib.hid (HW1.out.upd hu4 (fun h => by rcases h with h | h; exact x2 h; exact x3 h))
          have HU4 := Lib.hid hu4; clear hu4
          clear c0
          go_wp2_with fail
          refine (begin_any pq w4 wb b ab cm size n l place f (n + 1) l pm (f + recs.length) _ _ _ _ HBITS.out HW4.out HP4.out (by rw [viewL_length]; omega)).mono ?_
          rintro e w5 ⟨rfl, hp5, hw5, hu5⟩
          have HP5 : Hid (PlateAt w5 b ab cm (headed (viewL D1 C1) pq (headB (n + 1) l pm (f + recs.length))) (fun _ => none)) := Lib.hid hp5; clear hp5
          have HW5 := Lib.hid hw5; clear hw5
          have HU5 := Lib.hid hu5; clear hu5
          clear k0 k1 k2 k3
          have c7 := HW5.out.c7
          have cf := HW5.out.frozen
          go_wp2_with fail
          have HWU := Lib.hid (HW5.out.setUsed (usedB L : Nat))
          have HPU := Lib.hid (HP5.out.set HW5.out 7 (.int .i64 (usedB L : Nat)))
          have HUU : Hid (Upd (fun x => x = wb) w5 (w5.setCell ⟨wb, 7, none⟩ (.int .i64 (usedB L : Nat)))) := Lib.hid ((Upd.refl (fun k => k = wb) w5).setCell (p := ⟨wb, 7, none⟩) (Or.inl rfl) _)
          generalize w5.setCell ⟨wb, 7, none⟩ (.int .i64 (usedB L : Nat)) = w6 at HWU HPU HUU ⊢
          clear c7 cf
          have hBv := HS1.out.bytes
          have hDB : ∀ i, i < (headed (viewL D1 C1) pq (headB (n + 1) l pm (f + recs.length))).length → IsB (view (headed (viewL D1 C1) pq (headB (n + 1) l pm (f + recs.length))) (fun _ => none) i) := by
            intro i hi
            rw [headed_length] at hi
            show IsB ((headed (viewL D1 C1) pq (headB (n + 1) l pm (f + recs.length))).getD i [])
            by_cases e : i = pq
            · subst e; rw [headed_at hi]; exact isB_head _ _ _ _
            · rw [headed_other hi e]; exact (hBv i hi).2
          refine (clean_any w6 wb b ab cm size pm (usedB L) (n + 1) l (f + recs.length) _ _ _ HWU.out HPU.out (by rw [headed_length, viewL_length]; exact hd1) (by omega) hsz hpml (by omega) hDB).mono ?_
          rintro e w7 ⟨rfl, ⟨D7, hp7, hc7⟩, hu7⟩
          have HP7 := Lib.hid hp7; clear hp7
          have HC7 := Lib.hid hc7; clear hc7
          have HU7 := Lib.hid hu7; clear hu7
          clear hDB hBv
          go_wp2_with fail
          go_ret
          have hs1 := HS1.out
          rw [List.length_append] at hs1
          have hc7 := HC7.out
          rw [← HPQ.out, HPM.out] at hc7
          have hlog := Pointed.log hs1 (pointed_of (by rw [viewL_length]; exact hd1) (by omega) hn1 g1 hc7) g2 (by omega)
          have hw7 := HWU.out.upd HU7.out (fun h => by rcases h with h | h; exact x2 h; exact x3 h)
          have e1 : f + ((recs ++ L).length : Int) = f + recs.length + L.length := by rw [List.length_append]; omega
          rw [e1, HPM.out] at hw7
          refine ⟨?_, .inr ⟨rfl, D7, HP7.out, hw7, hlog⟩⟩
          have u1 : Upd (fun x => x = ab ∨ x = cm ∨ x = wb) wr wk := (HUA.out.mono (fun _ _ h => h.elim)).trans (HUR.out.mono (fun _ _ h => Or.inr h))
          have u2 : Upd (fun x => x = ab ∨ x = cm ∨ x = wb) wk w5 := (HU4.out.mono (fun _ _ h => by rcases h with h | h <;> simp [h])).trans HU5.out
          exact ((u1.trans u2).trans (HUU.out.mono (fun _ _ h => Or.inr (Or.inr h)))).trans (HU7.out.mono (fun _ _ h => by rcases h with h | h <;> simp [h]))
end Go.Proofs.Ytchpekecgdbphaa
