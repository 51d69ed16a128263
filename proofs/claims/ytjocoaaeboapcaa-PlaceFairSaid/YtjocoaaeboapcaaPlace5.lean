/-
  place.Choose and place.Spare.
-/
import Derived.Test.YtjocoaaeboapcaaPlace4
import Derived.Test.YtjocoaaeboapcaaIntOwn
namespace Go.Proofs.Ytjocoaaeboapcaa
open Go Go.RowKit Go.MapKept Go.ChangeMaps Heap

def IntsQ (w : World) (v : Value) (e : Ending) (w' : World) : Prop := e = .returned v ∧ Upd (fun _ => False) w w'
theorem contains_any (w : World) (v : Value) (l : List Int) (x : Int) (hv : Ints w v l) : Calls Try.prog 14 #[v, .int .i64 x] w (Same w (.bool (decide (x ∈ l)))) := by
  rcases hv.cells with ⟨rfl, a, c, rfl, _⟩ | ⟨b, o, cap, rfl, _, hc⟩
  · refine (Try.slices_Contains_int_empty a c x w).mono ?_
    rintro e w' ⟨rfl, rfl⟩
    exact ⟨by simp, rfl⟩
  · refine (Try.slices_Contains_int b o l.length cap l x w (Nat.le_refl _) (by have := hv.2; omega) hc).mono ?_
    rintro e w' ⟨rfl, rfl⟩
    rw [List.take_length]
    exact ⟨by rw [List.contains_eq_mem], rfl⟩
theorem equal_any (w : World) (v v' : Value) (l l' : List Int) (hv : Ints w v l) (hv' : Ints w v' l') : Calls Try.prog 12 #[v, v'] w (Quiet w (.bool (decide (l = l')))) := by
  by_cases hn : l.length = l'.length
  · rcases hv.cells with ⟨rfl, a, c, rfl, _⟩ | ⟨b, o, cap, rfl, _, hc⟩
    · obtain ⟨a', c', rfl⟩ := hv'.shape
      refine (Try.slices_Equal_int_empty a a' c l'.length c' w (by have := hv'.2; omega)).mono ?_
      rintro e w' ⟨rfl, rfl⟩
      have : l' = [] := List.eq_nil_of_length_eq_zero hn.symm
      subst this
      exact ⟨rfl, 0, rfl⟩
    · rcases hv'.cells with ⟨rfl, a', c', rfl, _⟩ | ⟨b', o', cap', rfl, _, hc'⟩
      · have : l = [] := List.eq_nil_of_length_eq_zero hn
        subst this
        refine (Try.slices_Equal_int_empty _ a' _ 0 c' w (by omega)).mono ?_
        rintro e w' ⟨rfl, rfl⟩
        exact ⟨rfl, 0, rfl⟩
      · refine (Try.slices_Equal_int b o l.length cap b' o' l'.length cap' l l' w (Nat.le_refl _) (Nat.le_refl _) (by have := hv.2; omega) (by have := hv'.2; omega) hc hc').mono ?_
        rintro e w' ⟨rfl, q, rfl⟩
        rw [List.take_length, List.take_length]
        refine ⟨?_, q, rfl⟩
        congr 2
        by_cases h : l = l' <;> simp [h]
  · obtain ⟨a, c, rfl⟩ := hv.shape
    obtain ⟨a', c', rfl⟩ := hv'.shape
    refine (Try.slices_Equal_int_lens a a' l.length c l'.length c' w hn).mono ?_
    rintro e w' ⟨rfl, rfl⟩
    refine ⟨?_, 0, rfl⟩
    rw [decide_eq_false (fun h => hn (by rw [h]))]
theorem LineAt.upd {F : Nat → Prop} {n0 n1 : Nat} {w w' : World} {b : Nat} {s : List Int} (h : LineAt n0 n1 w b s) (u : Upd F w w') (hF : ∀ k, n0 ≤ k → k < n1 → ¬ F k) : LineAt n0 n1 w' b s := by
  have hb := hF b h.ge.1 h.ge.2
  refine ⟨h.ge, ?_⟩
  rcases h.st with ⟨e, a, c, hc⟩ | ⟨g, o, cap, fr, hg, ht, hs⟩
  · exact .inl ⟨e, a, c, (u.cell (p := ⟨b, 0, none⟩) (World.block_lt_of_cell? _ _ hc) hb).trans hc⟩
  · exact .inr ⟨g, o, cap, fr, hg, ht.upd u hb (hF g hg.1 hg.2), hs⟩
theorem LineAt.old {n0 n1 : Nat} {w w' : World} {b : Nat} {s : List Int} (h : LineAt n0 n1 w b s) (u : Upd (fun _ => False) w w') : LineAt n0 n1 w' b s := h.upd u (fun _ _ _ h => h)
theorem len_line (n0 n1 : Nat) (w : World) (b : Nat) (s : List Int) (h : LineAt n0 n1 w b s) : Calls Try.prog 65 #[.pointer (some ⟨b, 0, none⟩)] w (Same w (.int .i64 s.length)) := by
  rcases h.st with ⟨rfl, a, c, hc⟩ | ⟨g, o, cap, fr, hg, ⟨l, ht, hp, _⟩, _⟩
  · exact len_zero w b c a hc
  · rw [← hp.length_eq]
    exact len_any w b g o cap fr l ht
structure LPopP (n0 n1 : Nat) (w : World) (b : Nat) (x : Int) (s : List Int) (e : Ending) (w' : World) : Prop where
  e : e = .returned (.iface 3 (.int .i64 x))
  t : LineAt n0 n1 w' b s
  u : Upd (fun k => n0 ≤ k ∧ k < n1) w w'
theorem pop_line (n0 n1 : Nat) (w : World) (b : Nat) (x : Int) (s : List Int) (h : LineAt n0 n1 w b (x :: s)) : Calls Try.prog 18 #[.iface 49 (.pointer (some ⟨b, 0, none⟩))] w (LPopP n0 n1 w b x s) := by
  rcases h.st with ⟨e, _⟩ | ⟨g, o, cap, fr, hg, ht, hs⟩
  · cases e
  · refine (hpop_any w b g o cap fr x s ht hs).mono ?_
    rintro e w' ⟨rfl, ht', hu⟩
    exact ⟨rfl, ⟨h.ge, .inr ⟨g, o, cap, fr, hg, ht', (List.pairwise_cons.1 hs).2⟩⟩, hu.mono (fun k _ e => by rcases e with rfl | rfl; exact h.ge; exact hg)⟩
theorem assert_int (x : Int) (w : World) : (Instr.typeAssert (.iface 3 (.int .i64 x)) 20 3 true).run Try.prog w = .ok (.tuple #[.int .i64 x, .bool true]) w := by kernel_rfl
/-- What Choose answers. -/
def chooseE (L : List Int) (seed n : Int) : Int := if n < 1 ∨ 16 < n then 1 else if ((ord L seed).length : Int) < n then 140 else 0
def chooseL (L : List Int) (seed n : Int) : List Int := if chooseE L seed n = 0 then (ord L seed).take n.toNat else []
def ChooseP (w : World) (L : List Int) (seed n : Int) (e : Ending) (w' : World) : Prop := ∃ v', e = .returned (.tuple #[v', .int .i64 (chooseE L seed n)]) ∧ IOwn w.heap.size w' v' (chooseL L seed n) ∧ Upd (fun _ => False) w w'
theorem ord_length (L : List Int) (seed : Int) : (ord L seed).length ≤ 16 := by rw [(ord_perm L seed).length_eq]; exact mems_length L
theorem choose1 (n0 n1 : Nat) (w : World) (B b : Nat) (x : Int) (s : List Int) (hB : w.cell? ⟨B, 0, none⟩ = some (pv b)) (h : LineAt n0 n1 w b (x :: s)) : Calls Try.prog 17 #[.pointer (some ⟨B, 0, none⟩)] w (LPopP n0 n1 w b x s) := by
  unfold pv at hB
  have HH := Lib.hid h; clear h
  go_enter Try.func17, Try.ntmps17
  go_wp2_with fail
  refine (pop_line n0 n1 w b x s HH.out).mono ?_
  rintro e w' ⟨rfl, h', u'⟩
  have H' := Lib.hid h'; clear h'
  have U' := Lib.hid u'; clear u'
  go_wp2_with fail
  go_ret
  exact ⟨rfl, H'.out, U'.out⟩
structure ChI (n0 n1 : Nat) (w1 : World) (b : Nat) (od : List Int) (N : Nat) (v i : Value) (q : Nat) (wr : World) : Prop where
  i : i = .int .i64 q
  le : q ≤ N
  own : IOwn (n1 + 1) wr v (od.take q)
  lin : LineAt n0 n1 wr b (od.drop q)
  cell : wr.cell? ⟨n1, 0, none⟩ = some (pv b)
  up : Upd (fun k => n0 ≤ k) w1 wr
  sz : n1 < wr.heap.size
set_option maxHeartbeats 2000000 in
theorem choose_any (w : World) (v : Value) (L : List Int) (seed n : Int) (hv : Ints w v L) : Calls Try.prog 7 #[v, .int .i64 seed, .int .i64 n] w (ChooseP w L seed n) := by
  by_cases hn1 : n < 1
  · have hE : chooseE L seed n = 1 := by unfold chooseE; rw [if_pos (Or.inl hn1)]
    have hl : chooseL L seed n = [] := by unfold chooseL; rw [hE]; rfl
    clear hv
    have HE := Lib.hid hE; clear hE
    have HL := Lib.hid hl; clear hl
    go_enter Try.func7, Try.ntmps7
    go_wp2_with fail
    go_ret2
    exact ⟨.slice none 0 0, by rw [HE.out]; rfl, by rw [HL.out]; exact IOwn.nil _ _, Upd.refl _ _⟩
  · by_cases hn2 : 16 < n
    · have hE : chooseE L seed n = 1 := by unfold chooseE; rw [if_pos (Or.inr hn2)]
      have hl : chooseL L seed n = [] := by unfold chooseL; rw [hE]; rfl
      clear hv
      have HE := Lib.hid hE; clear hE
      have HL := Lib.hid hl; clear hl
      go_enter Try.func7, Try.ntmps7
      go_wp2_with fail
      go_ret2
      exact ⟨.slice none 0 0, by rw [HE.out]; rfl, by rw [HL.out]; exact IOwn.nil _ _, Upd.refl _ _⟩
    · obtain ⟨N, rfl⟩ : ∃ N : Nat, n = N := ⟨n.toNat, by omega⟩
      have mlen := m_len
      have mass := assert_int
      have HV := Lib.hid hv
      obtain ⟨va, vc, rfl⟩ := hv.shape
      clear hv
      have hol := ord_length L seed
      by_cases hlt : (ord L seed).length < N
      · have hE : chooseE L seed N = 140 := by unfold chooseE; rw [if_neg (by omega), if_pos (by omega)]
        have hl : chooseL L seed N = [] := by unfold chooseL; rw [hE]; rfl
        have HE := Lib.hid hE; clear hE
        have HL := Lib.hid hl; clear hl
        go_enter Try.func7, Try.ntmps7
        go_wp2_with fail
        refine (line_any w _ L seed HV.out).mono ?_
        rintro e w1 ⟨b, rfl, h1, u1⟩
        unfold pv
        have H1 := Lib.hid (h1.old ((Upd.refl _ _).alloc (.cells #[.iface 49 (.pointer (some ⟨b, 0, none⟩))] 39))); clear h1
        have U1 := Lib.hid u1; clear u1
        go_wp2_with fail
        refine (len_line _ _ _ b _ H1.out).mono ?_
        rintro e w' ⟨rfl, rfl⟩
        go_wp2_with fail
        go_ret2
        exact ⟨.slice none 0 0, by rw [HE.out]; rfl, by rw [HL.out]; exact IOwn.nil _ _, U1.out.alloc _⟩
      · have hE : chooseE L seed N = 0 := by unfold chooseE; rw [if_neg (by omega), if_neg (by omega)]
        have hl : chooseL L seed N = (ord L seed).take N := by unfold chooseL; rw [if_pos hE]; rfl
        have HE := Lib.hid hE; clear hE
        have HL := Lib.hid hl; clear hl
        go_enter Try.func7, Try.ntmps7
        go_wp2_with fail
        refine (line_any w _ L seed HV.out).mono ?_
        rintro e w1 ⟨b, rfl, h1, u1⟩
        unfold pv
        have H1 := Lib.hid (h1.old ((Upd.refl _ _).alloc (.cells #[.iface 49 (.pointer (some ⟨b, 0, none⟩))] 39))); clear h1
        have U1 := Lib.hid u1; clear u1
        go_wp2_with fail
        refine (len_line _ _ _ b _ H1.out).mono ?_
        rintro e w' ⟨rfl, rfl⟩
        generalize ord L seed = od at hol hlt H1 HL
        go_wp2_with fail
        have hst : ChI w.heap.size w1.heap.size w1 b od N (.slice none 0 0) (.int .i64 0) 0 (w1.alloc (.cells #[.iface 49 (.pointer (some ⟨b, 0, none⟩))] 39)) :=
          ⟨rfl, Nat.zero_le _, IOwn.nil _ _, H1.out, by unfold pv; simp [go_sem], (Upd.refl _ _).alloc _, by simp⟩
        have HST := Lib.hid hst; clear hst
        go_loopw [10, 28] (fun v i wr => ∃ q : Nat, ChI w.heap.size w1.heap.size w1 b od N v i q wr) (fun _ i _ => N - (intOf i).toNat)
        case atStart => exact ⟨0, HST.out⟩
        case round =>
          obtain ⟨q, hR⟩ := hrel
          obtain rfl := hR.i
          have hq := hR.le
          obtain ⟨ra, rm, rc, rfl⟩ := hR.own.shape3
          have HR := Lib.hid hR; clear hR
          by_cases hlq : q < N
          · have hdr : od.drop q = at0 od q :: od.drop (q + 1) := by
              rw [List.drop_eq_getElem_cons (by omega)]; unfold at0; rw [List.getD_eq_getElem?_getD, List.getElem?_eq_getElem (by omega)]; rfl
            have htk : od.take (q + 1) = od.take q ++ [at0 od q] := by
              rw [List.take_succ_eq_append_getElem (by omega)]; unfold at0; rw [List.getD_eq_getElem?_getD, List.getElem?_eq_getElem (by omega)]; rfl
            have hlin := HR.out.lin
            rw [hdr] at hlin
            generalize at0 od q = x at hlin htk
            have HLIN := Lib.hid hlin; clear hlin
            have HTK := Lib.hid htk; clear htk hdr
            go_wp2_with fail
            refine (choose1 _ _ _ _ b x _ HR.out.cell HLIN.out).mono ?_
            rintro e w2 ⟨rfl, h2, u2⟩
            have H2 := Lib.hid h2; clear h2
            have U2 := Lib.hid u2; clear u2
            have hown2 := HR.out.own.upd U2.out (fun k hk _ e => by omega)
            have HOWN := Lib.hid hown2; clear hown2
            have hlen : (od.take q).length ≤ 16 := by rw [List.length_take]; omega
            have HLEN := Lib.hid hlen; clear hlen
            have hz2 : w1.heap.size + 1 ≤ w2.heap.size := by have := U2.out.size; have := HR.out.sz; omega
            go_wp2_with (at_builtin; go_must (refine wpList_append_ints rfl _ _ rfl (w1.heap.size + 1) _ (.slice (some ⟨w2.heap.size, 0, none⟩) 1 1) (od.take q) [x] rfl ?hown rfl ?hints ?hlen ?hB ?_))
            case hown => exact HOWN.out.upd ((Upd.refl (fun _ => False) _).alloc _) (fun _ _ _ h => h)
            case hints => exact ints_one _ x _ _ (Nat.le_refl _) (by simp [go_sem])
            case hlen => have := HLEN.out; simp; omega
            case hB => simp; omega
            intro v' w3 hown3 hu3
            obtain ⟨ra', m', rc', rfl⟩ := hown3.shape3
            have hge := HOWN.out.ge
            have hu4 : Upd (fun k => w1.heap.size + 1 ≤ k) w2 w3 := (((Upd.refl _ _).alloc _).trans (hu3.mono (fun k _ e => hge k e)))
            have h3 : ChI w.heap.size w1.heap.size w1 b od N (.slice ra' m' rc') (.int .i64 (q + 1 : Nat)) (q + 1) w3 :=
              ⟨rfl, hlq, by rw [HTK.out]; exact hown3, H2.out.upd hu4 (fun k h1 h2 e => by omega),
                (hu4.cell (p := ⟨w1.heap.size, 0, none⟩) (by show w1.heap.size < _; omega) (by show ¬ _ ≤ w1.heap.size; omega)).trans ((U2.out.cell (p := ⟨w1.heap.size, 0, none⟩) HR.out.sz (by show ¬ (_ ∧ w1.heap.size < w1.heap.size); omega)).trans HR.out.cell),
                (HR.out.up.trans (U2.out.mono (fun k _ e => e.1))).trans (hu4.mono (fun k _ e => by have := H1.out.ge; omega)), by have := hu4.size; omega⟩
            have H3 := Lib.hid h3; clear h3 hown3 hu3 hu4 hge
            go_wp2_with fail
            go_roundw
            case rel => exact ⟨q + 1, H3.out⟩
            case measure => simp [intOf]; omega
          · obtain rfl : q = N := by omega
            go_wp2_with fail
            go_ret2
            exact ⟨_, by rw [HE.out]; rfl, by rw [HL.out]; exact HR.out.own.lower (by have := H1.out.ge; omega), U1.out.trans' HR.out.up (fun i hi e => by omega)⟩
end Go.Proofs.Ytjocoaaeboapcaa
