/-
  PlaceSame: the walk.
-/
import Derived.Test.YtjocoaaeboapcaaPlace7
namespace Go.Proofs.Ytjocoaaeboapcaa
open Go Go.RowKit Go.MapKept Go.ChangeMaps Go.Sort Go.Lib Heap

def OwnP (w : World) (l : List Int) (e : Ending) (w' : World) : Prop := ∃ v, e = .returned v ∧ IOwn w.heap.size w' v l ∧ Upd (fun _ => False) w w'
theorem clone_own (w : World) (v : Value) (l : List Int) (hv : Ints w v l) : Calls Try.prog 8 #[v] w (OwnP w l) := by
  rcases hv.cells with ⟨rfl, a, c, rfl, hac⟩ | ⟨b, o, cap, rfl, hl, hc⟩
  · cases a with
    | none =>
      refine (Try.slices_Clone_int_nil 0 c w).mono ?_
      rintro e w' ⟨rfl, rfl⟩
      exact ⟨_, rfl, IOwn.nil _ _, Upd.refl _ _⟩
    | some a =>
      refine (Try.slices_Clone_int_zero a c w).mono ?_
      rintro e w' ⟨v', rfl, ho, _, hb⟩
      exact ⟨_, rfl, ho, Upd.of_below hb⟩
  · refine (Try.slices_Clone_int b o l.length cap l w (Nat.le_refl _) hv.2 hc).mono ?_
    rintro e w' ⟨v', rfl, ho, _, hb⟩
    rw [List.take_length] at ho
    exact ⟨_, rfl, ho, Upd.of_below hb⟩
theorem reverse_own (B : Nat) (w : World) (v : Value) (l : List Int) (h : IOwn B w v l) (hl : l.length ≤ 9223372036854775807) :
    Calls Try.prog 15 #[v] w (fun e w' => e = .returned (.tuple #[]) ∧ IOwn B w' v l.reverse ∧ Upd (fun k => some k = v.ownBlock) w w') := by
  have hrev : l.reverse.length = l.length := List.length_reverse
  rcases h.2 with ⟨rfl, h0⟩ | ⟨g, cap, cur, rfl, hg, hh, hn, hm, hs, ht⟩
  · refine (Try.slices_Reverse_int_empty none 0 w).mono ?_
    rintro e w' ⟨rfl, rfl⟩
    have : l = [] := List.eq_nil_of_length_eq_zero h0
    subst this
    exact ⟨rfl, h, Upd.refl _ _⟩
  · refine (Try.slices_Reverse_int g 0 cap l w (holds_of_block_i hh (by simpa using ht)) hl).mono ?_
    rintro e w' ⟨rfl, n, rfl⟩
    have h1 := ownsRow_sorted_i (n := n) (os := #[]) (ts := l.reverse) (ss := l) hrev hg hh hn hm hs
    rw [grow_empty] at h1
    refine ⟨rfl, ?_, ((Upd.refl _ _).ahead _).putRow (by exact Or.inl rfl) _ _ _⟩
    unfold IOwn
    rw [hrev]
    exact h1
theorem mems_congr {L L' : List Int} (h : ∀ x, x ∈ L ↔ x ∈ L') : mems L = mems L' := by
  unfold mems
  exact List.filter_congr (fun x _ => by simp [h x])
theorem ord_congr {L L' : List Int} (h : ∀ x, x ∈ L ↔ x ∈ L') (seed : Int) : ord L seed = ord L' seed := by unfold ord; rw [mems_congr h]
theorem choose_congr {L L' : List Int} (h : ∀ x, x ∈ L ↔ x ∈ L') (seed n : Int) : chooseE L seed n = chooseE L' seed n ∧ chooseL L seed n = chooseL L' seed n := by
  have hE : chooseE L seed n = chooseE L' seed n := by unfold chooseE; rw [ord_congr h]
  exact ⟨hE, by unfold chooseL; rw [hE, ord_congr h]⟩
theorem choose_at2 (w : World) (v : Value) (L : List Int) (seed x : Int) (N : Nat) (hx : x = N) (hv : Ints w v L) :
    Calls Try.prog 7 #[v, .int .i64 seed, .int .i64 x] w (ChooseP w L seed N) := by
  subst hx
  exact choose_any w v L seed N hv
set_option maxRecDepth 100000 in
set_option maxHeartbeats 4000000 in
theorem same_walk (w : World) (v : Value) (L : List Int) (seed n : Int) (hv : Ints w v L) (hL : L.length ≤ 100000000000) : Calls Try.prog 6 #[v, .int .i64 seed, .int .i64 n] w (BoolPost w true) := by
  obtain ⟨q0, hq0, hq16⟩ := un16_nat n
  have s16 := un16_is n
  rw [hq0] at s16
  clear hq0
  obtain ⟨va, vc, rfl⟩ := hv.shape
  have HV := Lib.hid hv; clear hv
  have HLL := Lib.hid hL
  have hmem1 : ∀ x, x ∈ L.reverse ++ L ↔ x ∈ L := fun x => by simp
  have hmem2 : ∀ x, x ∈ L.reverse ↔ x ∈ L := fun x => by simp
  have hch := chosen_is L seed (q0 + 1) (by omega) (by omega)
  obtain ⟨hcE, hcL⟩ := choose_congr hmem1 seed ((q0 + 1 : Nat) : Int)
  have hso := ord_congr hmem2 seed
  have HMEM1 := Lib.hid hmem1; clear hmem1
  have HMEM2 := Lib.hid hmem2; clear hmem2
  go_enter Try.func6, Try.ntmps6
  go_wp2_with fail
  refine (clone_own _ _ L HV.out).mono ?_
  rintro e w1 ⟨v1, rfl, ho1, hu1⟩
  obtain ⟨ba, bm, bc, rfl⟩ := ho1.shape3
  have hge1 := ho1.ge
  have HGE := Lib.hid hge1; clear hge1
  have HO1 := Lib.hid ho1; clear ho1
  have HU1 := Lib.hid hu1; clear hu1
  go_wp2_with fail
  refine (reverse_own _ _ _ L HO1.out (by have := HLL.out; omega)).mono ?_
  rintro e w2 ⟨rfl, ho2, hu2⟩
  have hlt2 : ∀ k, some k = (Value.slice ba bm bc).ownBlock → k < w2.heap.size := fun k e => (World.ownsRow.lt ho2 k e.symm).2
  have HLT2 := Lib.hid hlt2; clear hlt2
  have HO2 := Lib.hid ho2; clear ho2
  have HU2 := Lib.hid (HU1.out.trans' hu2 (fun i hi e => by have := HGE.out i e; omega)); clear hu2
  go_wp2_with fail
  refine (choose_at2 _ _ L seed _ (q0 + 1) (by omega) (HV.out.old HU2.out)).mono ?_
  rintro e w3 ⟨va', rfl, ho3, hu3⟩
  have HU3 := Lib.hid (HU2.out.trans hu3)
  have HO2 := Lib.hid (HO2.out.old hu3)
  have hge3 := ho3.ge
  have HGE3 := Lib.hid hge3; clear hge3
  obtain ⟨ca, cm, cc, rfl⟩ := ho3.shape3
  have HO3 := Lib.hid ho3; clear ho3 hu3
  generalize chooseE L seed ((q0 + 1 : Nat) : Int) = E at hch hcE ⊢
  generalize chooseL L seed ((q0 + 1 : Nat) : Int) = l at hch hcL HO3
  have HCH := Lib.hid hch; clear hch
  have HCE := Lib.hid hcE; clear hcE
  have HCL := Lib.hid hcL; clear hcL
  have HSO := Lib.hid hso; clear hso
  have HV3 := Lib.hid (HV.out.old HU3.out)
  have hB3 : w.heap.size ≤ w3.heap.size := HU3.out.size
  go_wp2_with (at_builtin; go_must (refine wpList_append_ints2 rfl _ _ rfl w.heap.size _ _ L.reverse L rfl HO2.out rfl HV3.out (by rw [List.length_reverse]; have := HLL.out; omega) hB3 ?_))
  intro v4 w4 ho4 hb4 hu4
  have hi4 := ho4.ints (by rw [List.length_append, List.length_reverse]; have := HLL.out; omega)
  obtain ⟨da, dm, dc, rfl⟩ := ho4.shape3
  have HI4 := Lib.hid hi4; clear hi4 ho4
  have hbi := hb4.ints (by rw [List.length_reverse]; have := HLL.out; omega)
  have HBI := Lib.hid hbi; clear hbi hb4
  have hgb := HGE.out
  have hu4' : Upd (fun k => w.heap.size ≤ k ∧ k < w2.heap.size) w3 w4 := hu4.mono (fun k _ e => ⟨hgb k e, HLT2.out k e⟩)
  have hoa4 := HO3.out.upd hu4' (fun k hk _ e => by omega)
  have HOA4 := Lib.hid hoa4; clear hoa4
  have HU4 := Lib.hid (HU3.out.trans' hu4' (fun i hi e => by omega)); clear hu4 hu4' hgb
  go_wp2_with fail
  refine (choose_at2 _ _ (L.reverse ++ L) seed _ (q0 + 1) (by omega) HI4.out).mono ?_
  rintro e w5 ⟨vb', rfl, ho5, hu5⟩
  rw [HCL.out] at ho5
  rw [HCE.out]
  obtain ⟨xa, xm, xc, rfl⟩ := ho5.shape3
  have hlf := HCH.out.few
  have hia5 := (HOA4.out.old hu5).ints (by omega)
  have hib5 := ho5.ints (by omega)
  have HIA5 := Lib.hid hia5; clear hia5
  have HIB5 := Lib.hid hib5; clear hib5 ho5
  have HBI5 := Lib.hid (HBI.out.old hu5)
  have HU5 := Lib.hid (HU4.out.trans hu5); clear hu5
  have HV5 := Lib.hid (HV.out.old HU5.out)
  have hr : spareR L.reverse l seed = spareR L l seed := by unfold spareR; rw [HSO.out]
  have hs1 := spare_any w5 _ _ L l seed HV5.out HIA5.out
  have hs2 := fun (w6 : World) (hu : Upd (fun _ => False) w5 w6) => spare_any w6 _ _ L.reverse l seed (HBI5.out.old hu) (HIA5.out.old hu)
  rw [hr] at hs2
  clear hr
  generalize spareR L l seed = r at hs1 hs2
  have HS1 := Lib.hid hs1; clear hs1
  have HS2 := Lib.hid hs2; clear hs2
  go_wp2_with fail
  refine HS1.out.mono ?_
  rintro e w6 ⟨rfl, hu6⟩
  have HU6 := Lib.hid hu6; clear hu6
  go_wp2_with fail
  refine (HS2.out _ HU6.out).mono ?_
  rintro e w7 ⟨rfl, hu7⟩
  have HU7 := Lib.hid (HU6.out.trans hu7); clear hu7
  go_wp2_with fail
  refine (equal_any _ _ _ l l (HIA5.out.old HU7.out) (HIB5.out.old HU7.out)).mono ?_
  rintro e w8 ⟨rfl, m8, rfl⟩
  rw [decide_eq_true rfl]
  go_wp2_with fail
  refine (awake_any _).mono ?_
  rintro e w9 ⟨rfl, hu9⟩
  have HU9 := Lib.hid ((HU5.out.trans (HU7.out.drewN m8)).trans hu9); clear hu9
  go_wp2_with fail
  go_ret
  exact ⟨rfl, HU9.out⟩
end Go.Proofs.Ytjocoaaeboapcaa
