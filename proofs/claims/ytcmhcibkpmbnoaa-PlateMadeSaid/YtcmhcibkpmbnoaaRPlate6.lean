/-
  The reference's plate: Of.
-/
import Derived.Test.YtcmhcibkpmbnoaaRPlate4
import Derived.BigRegion
set_option linter.unusedVariables false
namespace Go.Proofs.Ytcmhcibkpmbnoaa
open Go Go.RowKit Go.MapKept Go.ChangeMaps

/-- Marks that are none, in block h. -/
structure Marks (w : World) (h N : Nat) (T : Nat → Bool) : Prop where
  tag : ∃ cur, w.heap[h]? = some (.cells cur 4 (0, 0))
  cell : ∀ i, i < N → w.cell? ⟨h, i, none⟩ = some (.bool (T i))
theorem Marks.old {w w' : World} {h N : Nat} {T : Nat → Bool} (m : Marks w h N T) (u : Upd (fun _ => False) w w') : Marks w' h N T :=
  ⟨tag_upd m.tag u (fun h => h), fun i hi => (u.cell (p := ⟨h, i, none⟩) (tag_lt m.tag) (fun h => h)).trans (m.cell i hi)⟩
theorem info_bool : (Try.prog.info? 4).map (fun i => (i.zero, i.size, i.bytes)) = some (some (.bool false), 1, 1) := by kernel_rfl
noncomputable def noMarks (N : Nat) : Array Value := madeCells #[.bool false] N
theorem run_marks (N : Nat) (hN : N ≤ 8192) (w : World) : (Instr.makeSlice 56 (.int .i64 N) (.int .i64 N)).run Try.prog w = .ok (.slice (some ⟨w.heap.size, 0, none⟩) N N) (w.alloc (.cells (noMarks N) 4)) := by
  obtain ⟨i0, hi, hz0, hz1, hz2⟩ := info_parts info_bool
  have h0 := run_make (P := Try.prog) w 56 4 i0 _ Try.underlying56 hi hz0 .i64 .i64 N N (by omega) (by omega) (by rw [hz2]; omega) (by omega)
  rw [hz1] at h0
  first
    | exact h0
    | (simp at h0 ⊢; exact h0)
theorem marks_made (w : World) (N : Nat) : Marks (w.alloc (.cells (noMarks N) 4)) w.heap.size N (fun _ => false) := by
  refine ⟨⟨_, (MapKept.heap_alloc w _).1⟩, fun i hi => ?_⟩
  rw [World.cell?_alloc_at _ _ _ _ (by simp)]
  simp [noMarks, madeCells, hi, Nat.mod_one]
theorem r_made {X : World} {h1 h2 hd c1 c2 N : Nat} {L1 L2 : List (List Int)} {T : Nat → Bool} {t3 : Nat} (s1 : Secs X (.slice (some ⟨h1, 0, none⟩) N c1) h1 L1) (s2 : Secs X (.slice (some ⟨h2, 0, none⟩) N c2) h2 L2) (l1 : L1.length = N) (l2 : L2.length = N) (hne : h1 ≠ h2) (m : Marks X hd N T) (ht : N ≤ t3) (hp : 0 < N) (hf : N ≤ 8192) :
    RAt (X.alloc (.cells #[.slice (some ⟨h1, 0, none⟩) N c1, .slice (some ⟨h2, 0, none⟩) N c2, .slice (some ⟨hd, 0, none⟩) N t3, .bool false] 58)) X.heap.size h1 h2 hd N (fun i => L1.getD i []) (fun i => L2.getD i []) T := by
  have u : Upd (fun _ => False) X (X.alloc (.cells #[.slice (some ⟨h1, 0, none⟩) N c1, .slice (some ⟨h2, 0, none⟩) N c2, .slice (some ⟨hd, 0, none⟩) N t3, .bool false] 58)) := (Upd.refl _ _).alloc _
  have s1' := s1.old u
  have s2' := s2.old u
  have m' := m.old u
  obtain ⟨e1, cur1, v1, k1, t1, q1⟩ := s1'
  obtain ⟨e2, cur2, v2, k2, t2, q2⟩ := s2'
  rw [l1] at v1
  rw [l2] at v2
  cases v1
  cases v2
  refine ⟨⟨_, (MapKept.heap_alloc X _).1⟩, ⟨c1 - N, ?_⟩, ⟨c2 - N, ?_⟩, ⟨t3 - N, ?_⟩, by simp [go_sem], ⟨_, t1⟩, ⟨_, t2⟩, m'.tag, fun i hi => q1 i (by omega), fun i hi => q2 i (by omega), m'.cell, hne, hp, hf⟩
  · rw [show N + (c1 - N) = c1 by omega]; simp [go_sem]
  · rw [show N + (c2 - N) = c2 by omega]; simp [go_sem]
  · rw [show N + (t3 - N) = t3 by omega]; simp [go_sem]
/-- A plate of the reference that was made. -/
structure RNew (w : World) (L : List (List Int)) (x hb hw hd : Nat) (w' : World) : Prop where
  r : RAt w' x hb hw hd L.length (fun i => L.getD i []) (fun i => L.getD i []) (fun _ => false)
  ge : w.heap.size ≤ x ∧ w.heap.size ≤ hb ∧ w.heap.size ≤ hw ∧ w.heap.size ≤ hd
  up : Upd (fun _ => False) w w'
def ROfP (w : World) (L : List (List Int)) (e : Ending) (w' : World) : Prop :=
  ∃ x hb hw hd, e = .returned (.tuple #[.pointer (some ⟨x, 0, none⟩), .int .i64 0]) ∧ RNew w L x hb hw hd w'
set_option maxRecDepth 100000 in
set_option maxHeartbeats 4000000 in
theorem rof_ok (w : World) (v : Value) (L : List (List Int)) (hs : Txt w v L) (h64 : All64 L) (hp : 0 < L.length) (hf : L.length ≤ 8192) : Calls Try.prog 7 #[v] w (ROfP w L) := by
  obtain ⟨va, vc, rfl⟩ := hs.sl
  have HALL : Hid (∀ W, Upd (fun _ => False) w W → Calls Try.prog 20 #[.slice va L.length vc] W (SecsPost W L)) := Lib.hid fun W u => rall_any W _ L (hs.old u) h64 hp hf
  have HS := Lib.hid hs; clear hs
  have H64 := Lib.hid h64; clear h64
  go_enter Try.func7, Try.ntmps7
  go_wp2_with fail
  go_loopw [16] (fun i wr => ∃ q : Nat, q ≤ L.length ∧ i = .int .i64 q ∧ wr = w) (fun i _ => L.length - (intOf i).toNat)
  case atStart => exact ⟨0, Nat.zero_le _, rfl, rfl⟩
  case round =>
    obtain ⟨q, hq, rfl, rfl⟩ := hrel
    by_cases hlt : q < L.length
    · obtain ⟨th, tp, tc, sv, e, hc, hsv⟩ := HS.out.at_ q hlt
      cases e
      have hl64 := H64.out q hlt
      obtain ⟨sa, sc, hsh⟩ := hsv.shape
      rw [hl64] at hsh
      subst hsh
      clear hsv hl64
      go_wp2_with fail
      go_roundw
      case rel => exact ⟨q + 1, hlt, by go_num, by trivial⟩
      case measure => simp [intOf]; omega
    · go_wp2_with fail
      have hmk := run_marks L.length hf
      go_region_held3 (fun _ => True) (trivial)
        (first
          | ((have U1x := U1.out; go_at_call 20; (with_reducible refine (HALL.out _ (by repeat (first | exact Upd.refl _ _ | exact U1x | apply Upd.drew | apply Upd.alloc))).mono ?_); rintro e w2 ⟨v2, h2, rfl, hs2, hh2, hu2⟩; obtain ⟨c2, _, rfl, _, _, _⟩ := id hs2; have HS2 := Lib.hid hs2; have HH2 := Lib.hid hh2; have U12 : Hid (Upd (fun _ => False) w1 w2) := Lib.hid (Upd.trans (by repeat (first | exact Upd.refl _ _ | apply Upd.drew | apply Upd.alloc)) hu2); have HU2 := Lib.hid hu2; clear hs2 hh2 hu2 U1x))
          | ((go_at_call 20; (with_reducible refine (HALL.out _ (by repeat (first | exact Upd.refl _ _ | apply Upd.drew | apply Upd.alloc))).mono ?_); rintro e w1 ⟨v1, h1, rfl, hs1, hh1, hu1⟩; obtain ⟨c1, _, rfl, _, _, _⟩ := id hs1; have HS1 := Lib.hid hs1; have HH1 := Lib.hid hh1; have U1 : Hid (Upd (fun _ => False) wr w1) := Lib.hid (Upd.trans (by repeat (first | exact Upd.refl _ _ | apply Upd.drew | apply Upd.alloc)) hu1); have HU1 := Lib.hid hu1; clear hs1 hh1 hu1)))
      all_goals
        go_wp2_with fail
        have hl1 := HS1.out.lt
        have hs12 := HU2.out.size
        have hs01 := HU1.out.size
        have hh1 := HH1.out
        have hh2 := HH2.out
        try simp only [World.size_alloc] at hs12
        try simp only [World.size_alloc] at hs01
        try simp only [World.size_alloc] at hh1
        try simp only [World.size_alloc] at hh2
        have hdr : wr.drew.heap.size = wr.heap.size := rfl
        have hdr2 : (wr.alloc (.cells (noMarks L.length) 4)).drew.heap.size = wr.heap.size + 1 := by show (wr.alloc _).heap.size = _; simp
        have hu01 := U1.out.size
        have UW2 := U1.out.trans U12.out
        first
          | (have hm := marks_made w2 L.length
             have hr := r_made ((HS1.out.old U12.out).old ((Upd.refl _ _).alloc (.cells (noMarks L.length) 4))) (HS2.out.old ((Upd.refl _ _).alloc (.cells (noMarks L.length) 4))) rfl rfl (by omega) hm (Nat.le_refl _) hp hf
             rw [World.size_alloc] at hr
             go_ret2
             exact ⟨_, _, _, _, rfl, hr, ⟨by omega, by omega, by omega, by omega⟩, (UW2.alloc _).alloc _⟩)
          | (have hm := (marks_made w1 L.length).old HU2.out
             have hr := r_made (HS1.out.old U12.out) HS2.out rfl rfl (by omega) hm (Nat.le_refl _) hp hf
             go_ret2
             exact ⟨_, _, _, _, rfl, hr, ⟨by omega, by omega, by omega, by omega⟩, UW2.alloc _⟩)
          | (have hm := ((marks_made wr.drew L.length).old HU1.out).old U12.out
             have hr := r_made (HS1.out.old U12.out) HS2.out rfl rfl (by omega) hm (Nat.le_refl _) hp hf
             go_ret2
             exact ⟨_, _, _, _, rfl, hr, ⟨by omega, by omega, by omega, by omega⟩, UW2.alloc _⟩)
theorem rof_bad (w : World) (v : Value) (L : List (List Int)) (hs : Txt w v L) (hL : L.length ≤ 140737488355328) (hfew : ∀ i, i < L.length → (L.getD i []).length ≤ 140737488355328) (hbad : ¬ (0 < L.length ∧ L.length ≤ 8192 ∧ All64 L)) : Calls Try.prog 7 #[v] w (Same w (.tuple #[.pointer none, .int .i64 1])) := by
  obtain ⟨va, vc, rfl⟩ := hs.sl
  have HS := Lib.hid hs; clear hs
  have HF := Lib.hid hfew; clear hfew
  by_cases h1 : 0 < L.length
  · by_cases h2 : L.length ≤ 8192
    · have hb : ¬ All64 L := fun h => hbad ⟨h1, h2, h⟩
      have HB := Lib.hid hb; clear hb hbad
      go_enter Try.func7, Try.ntmps7
      go_wp2_with fail
      go_loopw [16] (fun i wr => ∃ q : Nat, q ≤ L.length ∧ i = .int .i64 q ∧ (∀ j, j < q → (L.getD j []).length = 64) ∧ wr = w) (fun i _ => L.length - (intOf i).toNat)
      case atStart => exact ⟨0, Nat.zero_le _, rfl, fun j hj => absurd hj (Nat.not_lt_zero _), rfl⟩
      case round =>
        obtain ⟨q, hq, rfl, h64, rfl⟩ := hrel
        have H64 := Lib.hid h64; clear h64
        by_cases hlt : q < L.length
        · obtain ⟨th, tp, tc, sv, e, hc, hsv⟩ := HS.out.at_ q hlt
          cases e
          obtain ⟨sa, sc, rfl⟩ := hsv.shape
          have hlf := HF.out q hlt
          clear hsv
          have HNX : Hid ((L.getD q []).length = 64 → ∀ j, j < q + 1 → (L.getD j []).length = 64) := Lib.hid fun h j hj => by
            by_cases e : j = q
            · rw [e]; exact h
            · exact H64.out j (by omega)
          generalize (L.getD q []).length = len at hc hlf HNX
          cases hq6 : ((len : Int) == 64) with
          | true =>
            have hl : len = 64 := by have := eq_of_beq hq6; omega
            go_wp2_with fail
            go_roundw
            case rel => exact ⟨q + 1, hlt, by go_num, HNX.out hl, by trivial⟩
            case measure => simp [intOf]; omega
          | false =>
            go_wp2_with fail
            go_ret2
            exact ⟨rfl, rfl⟩
        · exfalso
          obtain rfl : q = L.length := by omega
          exact HB.out H64.out
    · have q1 : ¬ (L.length : Int) ≤ 8192 := by omega
      clear hbad
      go_enter Try.func7, Try.ntmps7
      go_wp2_with fail
      go_ret2
      exact ⟨rfl, rfl⟩
  · have h0 : L.length = 0 := by omega
    clear hbad
    rw [h0]
    go_enter Try.func7, Try.ntmps7
    go_wp2_with fail
    go_ret2
    exact ⟨rfl, rfl⟩
end Go.Proofs.Ytcmhcibkpmbnoaa
