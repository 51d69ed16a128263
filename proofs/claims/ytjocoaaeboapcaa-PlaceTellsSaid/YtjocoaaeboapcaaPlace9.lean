/-
  The document's answer: turned, Choose, Spare.
-/
import Derived.Test.YtjocoaaeboapcaaPlace8
namespace Go.Proofs.Ytjocoaaeboapcaa
open Go Go.RowKit Go.MapKept Go.ChangeMaps Heap

structure TurI (w : World) (L : List Int) (v i : Value) (q : Nat) (wr : World) : Prop where
  i : i = .int .i64 q
  le : q ≤ 16
  own : IOwn w.heap.size wr v ((nums q).filter (fun n => decide (n ∈ L)))
  up : Upd (fun _ => False) w wr
theorem nums_yes {L : List Int} {q : Nat} (h : (q : Int) ∈ L) : (nums (q + 1)).filter (fun n => decide (n ∈ L)) = (nums q).filter (fun n => decide (n ∈ L)) ++ [(q : Int)] := by
  rw [nums_succ, List.filter_append, List.filter_cons_of_pos (by simpa using h)]; rfl
theorem nums_no {L : List Int} {q : Nat} (h : (q : Int) ∉ L) : (nums (q + 1)).filter (fun n => decide (n ∈ L)) = (nums q).filter (fun n => decide (n ∈ L)) := by
  rw [nums_succ, List.filter_append, List.filter_cons_of_neg (by simpa using h), List.filter_nil, List.append_nil]
theorem nums_few (L : List Int) (q : Nat) (h : q ≤ 16) : ((nums q).filter (fun n => decide (n ∈ L))).length ≤ 16 := by
  refine Nat.le_trans (List.length_filter_le _ _) ?_
  unfold nums; simp; exact h
theorem not_mem_of {L : List Int} {x : Int} (h : ∀ i, i < L.length → at0 L i ≠ x) : x ∉ L := fun hm => by
  obtain ⟨i, hi, he⟩ := List.mem_iff_getElem.1 hm
  refine h i hi ?_
  unfold at0; rw [List.getD_eq_getElem?_getD, List.getElem?_eq_getElem hi]; exact he
theorem Ints.drop {w : World} {b o n c k : Nat} {l : List Int} (h : Ints w (.slice (some ⟨b, o, none⟩) n c) l) (hk : k < n) : Ints w (.slice (some ⟨b, o + k, none⟩) (n - k) (c - k)) (l.drop k) := by
  rcases h.cells with ⟨rfl, a', c', e, hac⟩ | ⟨b', o', cap, e, hl, hc⟩
  · cases e; omega
  · cases e
    have hlen : (l.drop k).length = l.length - k := List.length_drop
    have := Ints.mk (w := w) (b := b) (o := o + k) (cap := c - k) (l := l.drop k) (by omega) (by have := h.2; omega) (fun j hj => by
      rw [Nat.add_assoc, hc (k + j) (by omega)]
      congr 2
      rw [List.getD_eq_getElem?_getD, List.getD_eq_getElem?_getD, List.getElem?_drop])
    rw [hlen] at this
    exact this
theorem IOwn.made {B : Nat} {w : World} {g : Nat} (hB : B ≤ g) (h : w.heap[g]? = some (.cells #[] 3 (0, 0))) : IOwn B w (.slice (some ⟨g, 0, none⟩) 0 0) [] :=
  ⟨rfl, .inr ⟨g, 0, #[], rfl, hB, h, Nat.le_refl _, by unfold maxLen; omega, rfl, rfl⟩⟩
set_option maxRecDepth 100000 in
set_option maxHeartbeats 4000000 in
theorem turned_any (w : World) (v : Value) (L : List Int) (seed : Int) (hv : Ints w v L) : Calls Try.prog 19 #[v, .int .i64 seed] w (OwnP w (ord L seed)) := by
  obtain ⟨va, vc, rfl⟩ := hv.shape
  have hL : L.length ≤ 17592186044416 := by have := hv.2; omega
  have HV := Lib.hid hv; clear hv
  go_enter Try.func19, Try.ntmps19
  go_wp2_with fail
  go_loopw [5, 10] (fun v i wr => ∃ q : Nat, TurI w L v i q wr) (fun _ i _ => 16 - (intOf i).toNat)
  case atStart => exact ⟨0, rfl, by omega, IOwn.nil _ _, Upd.refl _ _⟩
  case round =>
    obtain ⟨q, hR⟩ := hrel
    obtain rfl := hR.i
    have hq := hR.le
    obtain ⟨ra, rm, rc, rfl⟩ := hR.own.shape3
    have HR := Lib.hid hR; clear hR
    obtain ⟨wo, rfl⟩ : ∃ wo : World, wo = wr := ⟨_, rfl⟩
    by_cases hlt : q < 16
    · go_wp2_with fail
      go_loopw [5, 15] (fun v' j wr' => ∃ k : Nat, k ≤ L.length ∧ j = .int .i64 k ∧ v' = .slice ra rm rc ∧ wr' = wo ∧ Hid (∀ i, i < k → at0 L i ≠ (q : Int))) (fun _ j _ => L.length - (intOf j).toNat)
      case atStart => exact ⟨0, Nat.zero_le _, rfl, rfl, rfl, Lib.hid (fun i hi => absurd hi (Nat.not_lt_zero _))⟩
      case round =>
        obtain ⟨k, hk, rfl, rfl, rfl, hno⟩ := hrel
        by_cases hkl : k < L.length
        · obtain ⟨b, o, rfl, hcell⟩ := (HV.out.old HR.out.up).cellAt hkl
          by_cases hx : at0 L k = (q : Int)
          · rw [hx] at hcell
            have hm : (q : Int) ∈ L := by rw [← hx]; exact at0_mem hkl
            have hy := nums_yes hm
            have HY := Lib.hid hy; clear hy hx hm
            have hfew := nums_few L q hq
            have HFEW := Lib.hid hfew; clear hfew
            go_wp2_with (at_builtin; go_must (refine wpList_append_ints rfl _ _ rfl w.heap.size _ (.slice (some ⟨wr.heap.size, 0, none⟩) 1 1) ((nums q).filter (fun n => decide (n ∈ L))) [(q : Int)] rfl ?hown rfl ?hints ?hlen ?hB ?_))
            case hown => exact HR.out.own.old ((Upd.refl (fun _ => False) _).alloc _)
            case hints => exact ints_one _ _ _ _ (Nat.le_refl _) (by simp [go_sem])
            case hlen => have := HFEW.out; simp only [List.length_cons, List.length_nil]; omega
            case hB => have := HR.out.up.size; simp; omega
            intro v' w3 hown3 hu3
            obtain ⟨ra', m', rc', rfl⟩ := hown3.shape3
            have hge := HR.out.own.ge
            have hu4 : Upd (fun _ => False) w w3 := (HR.out.up.alloc _).trans' hu3 (fun i hi e => by have := hge i e; omega)
            have HU4 := Lib.hid hu4; clear hu4 hge hu3
            have HOWN3 := Lib.hid hown3; clear hown3
            go_wp2_with fail
            go_roundw
            case rel => exact ⟨q + 1, by go_num, by omega, by rw [HY.out]; exact HOWN3.out, HU4.out⟩
            case measure => simp [intOf]; omega
          · have hno' : ∀ i, i < k + 1 → at0 L i ≠ (q : Int) := fun i hi => by
              by_cases e : i = k
              · subst e; exact hx
              · exact hno.out i (by omega)
            have HNO := Lib.hid hno'; clear hno'
            generalize at0 L k = x at hcell hx
            go_wp2_with fail
            go_roundw
            case rel => exact ⟨k + 1, hkl, by go_num, by first | rfl | trivial, by first | rfl | trivial, HNO⟩
            case measure => simp [intOf]; omega
        · obtain rfl : k = L.length := by omega
          have hn := nums_no (not_mem_of hno.out)
          have HN := Lib.hid hn; clear hn hno
          go_wp2_with fail
          go_roundw
          case rel => exact ⟨q + 1, by go_num, by omega, by rw [HN.out]; exact HR.out.own, HR.out.up⟩
          case measure => simp [intOf]; omega
    · obtain rfl : q = 16 := by omega
      have hown : IOwn w.heap.size wo (.slice ra rm rc) (mems L) := HR.out.own
      have hml := mems_length L
      have hord : ord L seed = rot (mems L) (seedAt seed (mems L).length) := rfl
      have HUP := Lib.hid HR.out.up; clear HR
      generalize mems L = s at hown hml hord
      have HO := Lib.hid hord; clear hord
      obtain ⟨a0, c0, e0⟩ := hown.shape
      obtain ⟨rfl, rfl, rfl⟩ : ra = a0 ∧ rm = s.length ∧ rc = c0 := by cases e0; exact ⟨rfl, rfl, rfl⟩
      clear e0
      by_cases hz : s = []
      · subst hz
        have ho : ord L seed = [] := by rw [HO.out]; simp [rot]
        have HOE := Lib.hid ho; clear ho hown
        go_wp2_with fail
        go_ret
        exact ⟨.slice none 0 0, rfl, by rw [HOE.out]; exact IOwn.nil _ _, HUP.out⟩
      · have hpos : 0 < s.length := List.length_pos_iff.2 hz
        have hsa := seedAt_lt seed hpos
        have hsi := seedAt_is seed s.length hpos
        generalize hk' : seedAt seed s.length = k at hsa hsi
        rw [hk'] at HO
        clear hk'
        have hi0 := hown.ints (by omega)
        obtain ⟨g, cap, rfl, hcap, hcs⟩ : ∃ g cap, ra = some ⟨g, 0, none⟩ ∧ s.length ≤ rc ∧ ∀ j, j < s.length → wo.cell? ⟨g, 0 + j, none⟩ = some (.int .i64 (s.getD j 0)) := by
          rcases hown.2 with ⟨e, h0⟩ | ⟨g, cap, cur, e, hg, hh, hn, hm, hs, ht⟩
          · omega
          · rcases hi0.cells with ⟨h0, _⟩ | ⟨b, o, cap2, e2, hl2, hc2⟩
            · exact absurd h0 hz
            · cases e; cases e2
              exact ⟨g, 0, rfl, hl2, hc2⟩
        obtain ⟨X1, hX1⟩ : ∃ X, X = s.drop k := ⟨_, rfl⟩
        obtain ⟨X2, hX2⟩ : ∃ X, X = s.take k := ⟨_, rfl⟩
        have hl1 : X1.length + X2.length ≤ 16 := by rw [hX1, hX2, List.length_drop, List.length_take]; omega
        have hfin : X1 ++ X2 = ord L seed := by rw [HO.out, hX1, hX2]; rfl
        have HI0 := Lib.hid hi0
        have hlo : ∀ (W : World), Upd (fun _ => False) wo W → Ints W (.slice (some ⟨g, 0, none⟩) k rc) X2 := fun W u => by rw [hX2]; exact (HI0.out.old u).take (by omega)
        have hhi : ∀ (W : World), Upd (fun _ => False) wo W → Ints W (.slice (some ⟨g, k, none⟩) (s.length - k) (rc - k)) X1 := fun W u => by
          have := (HI0.out.old u).drop hsa
          rw [Nat.zero_add] at this
          rw [hX1]; exact this
        have HLO := Lib.hid hlo; clear hlo
        have HHI := Lib.hid hhi; clear hhi
        have HL1 := Lib.hid hl1; clear hl1
        have HFIN := Lib.hid hfin; clear hfin hX1 hX2
        have hB0 := HUP.out.size
        have i1 : (0 : Int) ≤ (k : Int) := by omega
        have i2 : (k : Int) < (s.length : Int) := by omega
        have i3 : (s.length : Int) ≤ (rc : Int) := by omega
        have i4 : (k : Int) ≤ (rc : Int) := by omega
        have i5 : ¬ rc = k := by omega
        have i6 : k ≤ s.length := by omega
        have i7 : k ≤ rc := by omega
        clear hcs hi0 hown hz
        go_upto_region 15 with (fail)
        go_region_law (first
          | (refine step_append_ints (by rfl) _ _ (by rfl) w.heap.size _ _ [] X1 (by rfl) (IOwn.made hB0 (by first | exact (MapKept.heap_alloc wo _).1 | exact (MapKept.heap_alloc wo.drew _).1)) (by rfl) (HHI.out _ (by first | exact (Upd.refl _ _).alloc _ | exact ((Upd.refl _ _).drew).alloc _ | exact ((Upd.refl _ _).alloc _).drew)) (by have := HL1.out; simp only [List.length_nil]; omega) (by simp; omega) ?_; intro v3 w3 ho3 hu3; obtain ⟨a3, m3, c3, rfl⟩ := ho3.shape3; have hu5 : Upd (fun _ => False) wo w3 := (by first | exact ((Upd.refl _ _).alloc _).trans' hu3 (fun i hi e => by cases e; simp at hi) | exact (((Upd.refl _ _).drew).alloc _).trans' hu3 (fun i hi e => by cases e; simp at hi)); rw [List.nil_append] at ho3; have HO3 := Lib.hid ho3; clear ho3 hu3; have HU5 := Lib.hid hu5; clear hu5)
          | (refine step_append_ints (by rfl) _ _ (by rfl) w.heap.size _ _ X1 X2 (by rfl) HO3.out (by rfl) (HLO.out _ HU5.out) (by have := HL1.out; omega) (by have := HU5.out.size; omega) ?_; intro v4 w4 ho4 hu4; obtain ⟨a4, m4, c4, rfl⟩ := ho4.shape3; have hg4 := HO3.out.ge; have hu6 : Upd (fun _ => False) w w4 := (HUP.out.trans HU5.out).trans' hu4 (fun i hi e => by have := hg4 i e; omega); have HO4 := Lib.hid ho4; clear ho4 hu4 hg4; have HU6 := Lib.hid hu6; clear hu6))
        all_goals
          go_wp2_with fail
          go_ret
          exact ⟨_, rfl, by rw [← HFIN.out]; exact HO4.out, HU6.out⟩
def RefChooseP (w : World) (L : List Int) (seed n : Int) (e : Ending) (w' : World) : Prop := ∃ v', e = .returned (.tuple #[v', .int .i64 (chooseE L seed n)]) ∧ Ints w' v' (chooseL L seed n) ∧ Upd (fun _ => False) w w'
theorem refchoose_any (w : World) (v : Value) (L : List Int) (seed n : Int) (hv : Ints w v L) : Calls Try.prog 9 #[v, .int .i64 seed, .int .i64 n] w (RefChooseP w L seed n) := by
  by_cases hn1 : n < 1
  · have hE : chooseE L seed n = 1 := by unfold chooseE; rw [if_pos (Or.inl hn1)]
    have hl : chooseL L seed n = [] := by unfold chooseL; rw [hE]; rfl
    clear hv
    have HE := Lib.hid hE; clear hE
    have HL := Lib.hid hl; clear hl
    go_enter Try.func9, Try.ntmps9
    go_wp2_with fail
    go_ret2
    exact ⟨.slice none 0 0, by rw [HE.out]; rfl, by rw [HL.out]; exact Ints.nil _, Upd.refl _ _⟩
  · by_cases hn2 : 16 < n
    · have hE : chooseE L seed n = 1 := by unfold chooseE; rw [if_pos (Or.inr hn2)]
      have hl : chooseL L seed n = [] := by unfold chooseL; rw [hE]; rfl
      clear hv
      have HE := Lib.hid hE; clear hE
      have HL := Lib.hid hl; clear hl
      go_enter Try.func9, Try.ntmps9
      go_wp2_with fail
      go_ret2
      exact ⟨.slice none 0 0, by rw [HE.out]; rfl, by rw [HL.out]; exact Ints.nil _, Upd.refl _ _⟩
    · obtain ⟨N, rfl⟩ : ∃ N : Nat, n = N := ⟨n.toNat, by omega⟩
      have HV := Lib.hid hv
      obtain ⟨va, vc, rfl⟩ := hv.shape
      clear hv
      have hol := ord_length L seed
      by_cases hlt : (ord L seed).length < N
      · have hE : chooseE L seed N = 140 := by unfold chooseE; rw [if_neg (by omega), if_pos (by omega)]
        have hl : chooseL L seed N = [] := by unfold chooseL; rw [hE]; rfl
        have HE := Lib.hid hE; clear hE
        have HL := Lib.hid hl; clear hl
        go_enter Try.func9, Try.ntmps9
        go_wp2_with fail
        refine (turned_any w _ L seed HV.out).mono ?_
        rintro e w1 ⟨tv, rfl, h1, u1⟩
        obtain ⟨ta, tc, rfl⟩ := h1.shape
        have U1 := Lib.hid u1; clear u1 h1
        go_wp2_with fail
        go_ret2
        exact ⟨.slice none 0 0, by rw [HE.out]; rfl, by rw [HL.out]; exact Ints.nil _, U1.out⟩
      · have hE : chooseE L seed N = 0 := by unfold chooseE; rw [if_neg (by omega), if_neg (by omega)]
        have hl : chooseL L seed N = (ord L seed).take N := by unfold chooseL; rw [if_pos hE]; rfl
        have HE := Lib.hid hE; clear hE
        have HL := Lib.hid hl; clear hl
        go_enter Try.func9, Try.ntmps9
        go_wp2_with fail
        refine (turned_any w _ L seed HV.out).mono ?_
        rintro e w1 ⟨tv, rfl, h1, u1⟩
        have hi := h1.ints (by omega)
        clear h1
        generalize ord L seed = od at hol hlt hi HL
        obtain ⟨ta, tc, rfl⟩ := hi.shape
        have i1 : (0 : Int) ≤ (N : Int) := by omega
        have i2 : (N : Int) ≤ (od.length : Int) := by omega
        have htc : N ≤ tc := by
          rcases hi.cells with ⟨e, _⟩ | ⟨b, o, cap, e, hl, _⟩
          · subst e; simp at hlt; omega
          · cases e; omega
        have i3 : (N : Int) ≤ (tc : Int) := by omega
        have i4 : N ≤ od.length := by omega
        have HI := Lib.hid (hi.take i4); clear hi
        have U1 := Lib.hid u1; clear u1
        go_wp2_with fail
        go_ret2
        exact ⟨_, by rw [HE.out]; rfl, by rw [HL.out]; exact HI.out, U1.out⟩
end Go.Proofs.Ytjocoaaeboapcaa
