/-
  place.line, walked.
-/
import Derived.Test.YtjocoaaeboapcaaPlace3
import Derived.OpenShut
namespace Go.Proofs.Ytjocoaaeboapcaa
open Go Go.RowKit Go.ChangeShapes Go.WideShapes Go.MapKept Go.ChangeMaps Go.Sort Go.Shelf Go.Lib Heap

theorem len_zero (w : World) (b c : Nat) (a : Option Addr) (h : w.cell? ⟨b, 0, none⟩ = some (.slice a 0 c)) : Calls Try.prog 65 #[.pointer (some ⟨b, 0, none⟩)] w (Same w (.int .i64 0)) := by
  go_enter Try.func65, Try.ntmps65
  go_wp2
  go_ret
  exact ⟨rfl, rfl⟩
theorem init_zero (w : World) (b c : Nat) (a : Option Addr) (h : w.cell? ⟨b, 0, none⟩ = some (.slice a 0 c)) : Calls Try.prog 25 #[.iface 49 (.pointer (some ⟨b, 0, none⟩))] w (Same w (.tuple #[])) := by
  have mlen := m_len
  go_enter Try.func25, Try.ntmps25
  go_wp2_with fail
  refine (len_zero w b c a h).mono ?_
  rintro e w' ⟨rfl, rfl⟩
  go_wp2_with fail
  go_loopw [3] (fun i wr => i = .int .i64 (-1) ∧ wr = w) (fun _ _ => 0)
  case atStart => exact ⟨rfl, rfl⟩
  case round =>
    obtain ⟨rfl, rfl⟩ := hrel
    go_wp2_with fail
    go_end0
    exact ⟨rfl, rfl⟩
/-- Where a seed turns n members to. -/
def seedAt (seed : Int) (n : Nat) : Nat := (IntKind.u64.wrap seed % n).toNat
/-- The members, turned. -/
def ord (L : List Int) (seed : Int) : List Int := rot (mems L) (seedAt seed (mems L).length)
theorem ord_perm (L : List Int) (seed : Int) : (ord L seed).Perm (mems L) := rot_perm _ _
theorem u64_nonneg (x : Int) : 0 ≤ IntKind.u64.wrap x := by
  have h := (bounds_u64 (wf_wrap .u64 x)).1
  exact h
theorem seedAt_lt (seed : Int) {n : Nat} (hn : 0 < n) : seedAt seed n < n := by
  unfold seedAt
  have h0 := Int.emod_nonneg (IntKind.u64.wrap seed) (show (n : Int) ≠ 0 by omega)
  have h1 := Int.emod_lt_of_pos (IntKind.u64.wrap seed) (show (0 : Int) < n by omega)
  omega
theorem seedAt_is (seed : Int) (n : Nat) (hn : 0 < n) : (IntKind.u64.wrap seed).tmod n = (seedAt seed n : Int) := by
  unfold seedAt
  rw [Int.tmod_eq_emod_of_nonneg (u64_nonneg seed), Int.toNat_of_nonneg (Int.emod_nonneg _ (by omega))]
/-- Block b is a turn of s, in the order in which it gives them. -/
structure LineAt (n0 n1 : Nat) (w : World) (b : Nat) (s : List Int) : Prop where
  ge : n0 ≤ b ∧ b < n1
  st : (s = [] ∧ ∃ a c, w.cell? ⟨b, 0, none⟩ = some (.slice a 0 c)) ∨ ∃ g o cap fr, (n0 ≤ g ∧ g < n1) ∧ HeapAt w b g o cap fr s ∧ s.Pairwise (fun a c => rk fr a < rk fr c)
def LineP (w : World) (L : List Int) (seed : Int) (e : Ending) (w' : World) : Prop := ∃ b, e = .returned (pv b) ∧ LineAt w.heap.size w'.heap.size w' b (ord L seed) ∧ Upd (fun _ => False) w w'
set_option maxHeartbeats 2000000 in
theorem line_any (w : World) (v : Value) (L : List Int) (seed : Int) (hv : Ints w v L) : Calls Try.prog 16 #[v, .int .i64 seed] w (LineP w L seed) := by
  obtain ⟨va, vc, rfl⟩ := hv.shape
  have hL : L.length ≤ 17592186044416 := by have := hv.2; omega
  have HV := Lib.hid hv; clear hv
  go_enter Try.func16, Try.ntmps16
  go_wp2_with fail
  refine (clone_any _ _ L HV.out).mono ?_
  rintro e w1 ⟨a, cap, rfl, h1, u1⟩
  have H1 := Lib.hid h1; clear h1
  have U1 := Lib.hid u1; clear u1
  go_wp2_with fail
  refine (delete_any w.heap.size _ a cap L H1.out (by omega)).mono ?_
  rintro e w2 ⟨rfl, h2, u2⟩
  have hk : (kept L).length ≤ L.length := List.length_filter_le _ _
  have hr : (rising (kept L)).length = (kept L).length := List.length_mergeSort _
  have hm := mems_is L
  have hml := mems_length L
  have hms := mems_sorted L
  have hmm := fun x => (mem_mems (L := L) (x := x))
  have hord : ord L seed = rot (mems L) (seedAt seed (mems L).length) := rfl
  have hc2 : Hid (Calls Try.prog 23 #[.slice a (kept L).length cap] w2 (fun e w' => e = .returned (.tuple #[]) ∧ HoldPost w.heap.size w2 (rising (kept L)) a cap w')) := Lib.hid (sort_any w.heap.size w2 a cap (kept L) h2 (by omega))
  have hc3 := fun (w3 : World) (h3 : Hold w.heap.size w3 a cap (rising (kept L))) => compact_any w.heap.size w3 a cap (rising (kept L)) h3 (by omega)
  rw [hr, hm] at hc3
  generalize (kept L).length = n1 at hc2 hc3 hk ⊢
  generalize mems L = s at hm hml hms hmm hord hc3 ⊢
  have HC3 := Lib.hid hc3; clear hc3
  have HM := Lib.hid hm; clear hm
  have HMS := Lib.hid hms; clear hms
  have HMM := Lib.hid (fun x (hx : x ∈ s) => ((hmm x).1 hx).2); clear hmm
  have HO := Lib.hid hord; clear hord
  have U2 := Lib.hid (U1.out.trans u2); clear u2 h2 hr
  go_wp2_with fail
  refine (hc2.out).mono ?_
  rintro e w3 ⟨rfl, h3, u3⟩
  have H3 := Lib.hid h3; clear h3
  have U3 := Lib.hid (U2.out.trans u3); clear u3
  go_wp2_with fail
  refine (HC3.out w3 H3.out).mono ?_
  rintro e w4 ⟨rfl, h4, u4⟩
  have H4 := Lib.hid h4; clear h4
  have U4 := Lib.hid ((U3.out.trans u4).mono (G := fun k => w.heap.size ≤ k) (fun _ _ h => h)); clear u4
  by_cases hz : s = []
  · subst hz
    go_wp2_with fail
    refine (init_zero _ w4.heap.size cap a (by simp [go_sem])).mono ?_
    rintro e w' ⟨rfl, rfl⟩
    go_wp2_with fail
    go_ret
    have ho : ord L seed = [] := by rw [HO.out]; simp [rot]
    exact ⟨_, rfl, ⟨⟨by have := U4.out.size; exact this, by simp⟩, .inl ⟨ho, a, cap, by simp [go_sem]⟩⟩, ((Upd.refl (fun _ => False) w).trans' U4.out (fun i hi e => by omega)).alloc _⟩
  · obtain ⟨g, rfl, hg, hgl, hcap, hH⟩ := H4.out.resolve_left hz
    have hpos : 0 < s.length := List.length_pos_iff.2 hz
    have hsa := seedAt_lt seed hpos
    have hsi := seedAt_is seed s.length hpos
    generalize hk' : seedAt seed s.length = k at hsa hsi
    rw [hk'] at HO
    clear hk'
    have hcs : ∀ j, j < s.length → w4.cell? ⟨g, 0 + j, none⟩ = some (.int .i64 (at0 s j)) ∧ w4.frozen? ⟨g, 0 + j, none⟩ = false := fun j hj => by
      obtain ⟨k1, k2⟩ := hH j (by simpa using hj)
      refine ⟨?_, k2⟩
      rw [k1]; unfold at0
      rw [List.getElem!_toArray, List.getElem!_eq_getElem?_getD, List.getD_eq_getElem?_getD, List.getElem?_eq_getElem hj]; rfl
    have hcell := (hcs k hsa).1
    rw [Nat.zero_add] at hcell
    have HCS := Lib.hid hcs; clear hcs
    have hfr := HMM.out _ (at0_mem hsa)
    have hrk := rot_ranked HMS.out HMM.out hsa
    generalize at0 s k = fr at hcell hfr hrk
    have HRK := Lib.hid hrk; clear hrk
    have HFR := Lib.hid hfr; clear hfr
    have i1 : (0 : Int) ≤ (k : Int) := by omega
    have i2 : (k : Int) < (s.length : Int) := by omega
    clear hH hz
    have ht : TurnAt (w4.alloc (.cells #[.slice (some ⟨g, 0, none⟩) s.length cap, .int .i64 fr, .int .i64 16] 51)) w4.heap.size g 0 cap fr s :=
      ⟨by simp [go_sem], by simp [go_sem], by simp [go_sem], by simp [go_sem], by omega, hcap, hml, fun j hj => by
        obtain ⟨k1, k2⟩ := HCS.out j hj
        exact ⟨(World.cell?_alloc_old _ _ _ (by show g ≠ _; omega)).trans k1, (World.frozen?_alloc_old _ _ _ (by show g ≠ _; omega)).trans k2⟩, HFR.out, HMM.out⟩
    have HT := Lib.hid ht; clear ht
    go_wp2_with fail
    refine (init_any _ w4.heap.size g 0 cap fr s HT.out).mono ?_
    rintro e w5 ⟨rfl, h5, u5⟩
    have H5 := Lib.hid h5; clear h5
    have U5 := Lib.hid u5; clear u5
    go_wp2_with fail
    go_ret
    refine ⟨_, rfl, ⟨⟨by have := U4.out.size; exact this, by have := U5.out.size; simp at this; omega⟩, .inr ⟨g, 0, cap, fr, ⟨hg, by have := U5.out.size; simp at this; omega⟩, ?_, by rw [HO.out]; exact HRK.out⟩⟩, ?_⟩
    · obtain ⟨l, k1, k2, k3⟩ := H5.out
      exact ⟨l, k1, k2.trans (by rw [HO.out]; exact (rot_perm s k).symm), k3⟩
    · exact (((Upd.refl (fun _ => False) w).trans' U4.out (fun i hi e => by omega)).alloc _).trans' U5.out (fun i hi e => by omega)
end Go.Proofs.Ytjocoaaeboapcaa
