/-
  clean: free sectors are cleaned.
-/
import Derived.Test.YtchpekecgdbphaaWalR
namespace Go.Proofs.Ytchpekecgdbphaa
open Go Go.RowKit Go.MapKept Go.ChangeMaps

/-- The cache, behind the cleaning of ring places used .. used + k - 1. -/
structure Cleaned (V : Nat → List Int) (C : Int → Option (List Int)) (D : List (List Int)) (size place used k : Nat) (C' : Int → Option (List Int)) : Prop where
  done : ∀ q, used ≤ q → q < used + k → view D C' (atS size place q) = zeros
  rest : ∀ i, i < size + 2 → (∀ q, used ≤ q → q < used + k → i ≠ atS size place q) → view D C' i = V i
section
variable {V : Nat → List Int} {C C' : Int → Option (List Int)} {D : List (List Int)} {size place used k : Nat}
theorem Cleaned.zero (h : ∀ i, V i = view D C i) : Cleaned V C D size place used 0 C := ⟨fun q h1 h2 => by omega, fun i _ _ => (h i).symm⟩
theorem Cleaned.at (h : Cleaned V C D size place used k C') (hs : 0 < size) (hk : used + k < size) : view D C' (atS size place (used + k)) = V (atS size place (used + k)) :=
  h.rest _ (atS_lt hs) (fun q h1 h2 e => by have := atS_inj hk (by omega) e; omega)
theorem Cleaned.skip (h : Cleaned V C D size place used k C') (hs : 0 < size) (hk : used + k < size) (hz : V (atS size place (used + k)) = zeros) : Cleaned V C D size place used (k + 1) C' := by
  refine ⟨fun q h1 h2 => ?_, fun i hi hq => h.rest i hi (fun q h1 h2 => hq q h1 (by omega))⟩
  by_cases e : q = used + k
  · subst e; rw [h.at hs hk, hz]
  · exact h.done q h1 (by omega)
theorem Cleaned.put (h : Cleaned V C D size place used k C') (hk : used + k < size) : Cleaned V C D size place used (k + 1) (cput C' (atS size place (used + k)) zeros) := by
  refine ⟨fun q h1 h2 => ?_, fun i hi hq => ?_⟩
  · by_cases e : q = used + k
    · subst e; unfold view cput; rw [if_pos rfl]; rfl
    · have := h.done q h1 (by omega)
      unfold view cput at *
      rw [if_neg (by intro e'; exact e (atS_inj (by omega) hk (Int.ofNat.inj e'))), this]
  · have := h.rest i hi (fun q h1 h2 => hq q h1 (by omega))
    have hne := hq (used + k) (by omega) (by omega)
    unfold view cput at *
    rw [if_neg (by intro e'; exact hne (Int.ofNat.inj e')), this]
end
/-- What a cleaning leaves. -/
structure CleanIs (V : Nat → List Int) (size place used : Nat) (D' : List (List Int)) : Prop where
  len : D'.length = size + 2
  free : ∀ q, used ≤ q → q < size → D'.getD (atS size place q) [] = zeros
  rest : ∀ i, i < size + 2 → (∀ q, used ≤ q → q < size → i ≠ atS size place q) → D'.getD i [] = V i
def CleanPost (w : World) (b ab cm : Nat) (V : Nat → List Int) (size place used : Nat) (e : Ending) (w' : World) : Prop :=
  e = .returned (.int .i64 0) ∧ (∃ D', PlateAt w' b ab cm D' (fun _ => none) ∧ CleanIs V size place used D') ∧ Upd (fun k => k = ab ∨ k = cm) w w'
theorem nought_dec (w : World) (v : Value) (l : List Int) (h : Sec w v l) (hB : IsB l) : Calls Try.prog 49 #[v] w (fun e w' => e = .returned (.bool (decide (l = zeros))) ∧ Upd (fun _ => False) w w') := by
  refine (nought_any w v l h).mono ?_
  rintro e w' ⟨rfl, hu⟩
  exact ⟨by rw [bytesOf_inj hB isB_zeros], hu⟩
noncomputable def z64 : Array Value := madeCells #[.int .u8 0] 64
theorem run_make64 (w : World) : (Instr.makeSlice 28 (.int .i64 64) (.int .i64 64)).run Try.prog w = .ok (.slice (some ⟨w.heap.size, 0, none⟩) 64 64) (w.alloc (.cells z64 5)) := by
  obtain ⟨i0, hi, hz0, hz1, hz2⟩ := info_parts info_u8
  have h0 := run_make (P := Try.prog) w 28 5 i0 _ Try.underlying28 hi hz0 .i64 .i64 64 64 (by omega) (by omega) (by rw [hz2]; omega) (by omega)
  rw [hz1] at h0
  exact h0
theorem sec_z64 (w : World) : Sec (w.alloc (.cells z64 5)) (.slice (some ⟨w.heap.size, 0, none⟩) 64 64) zeros := by
  refine ⟨w.heap.size, 0, 0, _, rfl, by simp [zeros], (MapKept.heap_alloc w _).1, fun j hj => ?_⟩
  rw [World.cell?_alloc_at _ _ _ _ (by simp)]
  have h1 : zeros.getD j 0 = 0 := by
    unfold zeros
    rw [List.getD_eq_getElem?_getD, List.getElem?_replicate, if_pos hj]
    rfl
  rw [h1]
  simp [z64, madeCells, hj, Nat.mod_one]
set_option maxRecDepth 100000 in
set_option maxHeartbeats 8000000 in
theorem clean_any (w : World) (wb b ab cm : Nat) (size place used : Nat) (n l f num : Int) (D : List (List Int)) (C : Int → Option (List Int)) (hw : WalAt w wb b size n l place f num used) (hp : PlateAt w b ab cm D C) (hd : D.length = size + 2) (h0 : 0 < size) (h1 : size ≤ 8190) (h2 : place < size) (h3 : used ≤ size)
    (hB : ∀ i, i < D.length → IsB (view D C i)) :
    Calls Try.prog 36 #[.pointer (some ⟨wb, 0, none⟩)] w (CleanPost w b ab cm (view D C) size place used) := by
  have c0 := hw.c0
  have c1 := hw.c1
  have c7 := hw.c7
  obtain ⟨n1, n2, n3⟩ := hw.apart hp
  have lw := hw.lt
  have hlp := hp.lt
  have HW := Lib.hid hw; clear hw
  have HP := Lib.hid hp; clear hp
  have HD := Lib.hid hd; clear hd
  have HB := Lib.hid hB; clear hB
  go_enter Try.func36, Try.ntmps36
  go_wp2_with fail
  clear c0 c1 c7
  go_loopw [3] (fun i wr => ∃ (k : Nat) (C' : Int → Option (List Int)), i = .int .i64 (used + k : Nat) ∧ used + k ≤ size ∧ PlateAt wr b ab cm D C' ∧ Cleaned (view D C) C D size place used k C' ∧ Upd (fun k => k = cm) w wr) (fun i _ => size - (intOf i).toNat)
  case atStart => exact ⟨0, C, rfl, h3, HP.out, Cleaned.zero (fun _ => rfl), Upd.refl _ _⟩
  case round =>
    obtain ⟨k, C', rfl, hk, hp, hcl, hu⟩ := hrel
    have HPR := Lib.hid hp; clear hp
    have HCL := Lib.hid hcl; clear hcl
    have HU := Lib.hid hu; clear hu
    have HWR := Lib.hid (HW.out.upd HU.out n3)
    have c0 := HWR.out.c0
    have c1 := HWR.out.c1
    by_cases hlt : used + k < size
    · have hsl : atS size place (used + k) < D.length := by rw [HD.out]; exact atS_lt h0
      have hra := read_any (atS size place (used + k)) 
      go_wp2_with fail
      go_region_held3 (fun w' => w'.cell? ⟨wb, 0, none⟩ = some (.pointer (some ⟨b, 0, none⟩))) (first | exact c0 | exact (HWR.out.old (by repeat (first | exact Upd.refl _ _ | exact U1.out | apply Upd.drew | apply Upd.alloc))).c0)
        (first
          | (go_at_call 26; refine (sector_any (used + k) _ wb b size place n l f num used (HWR.out.old (by repeat (first | exact Upd.refl _ _ | apply Upd.drew | apply Upd.alloc))) h0 h1 h2 (by omega)).mono ?_; rintro e w0 ⟨rfl, rfl⟩)
          | (go_at_call 32; refine (read_any (atS size place (used + k)) _ b ab cm D C' (HPR.out.old (by repeat (first | exact Upd.refl _ _ | apply Upd.drew | apply Upd.alloc))) hsl).mono ?_; rintro e w1 ⟨v1, rfl, hs1, hf1, hu1⟩; obtain ⟨k1, o1, cc1, rfl, _⟩ := hs1.shape; have S1 := Lib.hid hs1; have U1 : Hid (Upd (fun _ => False) wr w1) := Lib.hid (Upd.trans (by repeat (first | exact Upd.refl _ _ | apply Upd.drew | apply Upd.alloc)) hu1); clear hs1 hf1 hu1))
      all_goals
        have hv := HCL.out.at h0 hlt
        rw [hv] at S1
        have hBb := HB.out _ hsl
        have HSK := Lib.hid (fun h => HCL.out.skip h0 hlt h)
        have HPT := Lib.hid (HCL.out.put hlt)
        clear hv
        generalize view D C (atS size place (used + k)) = bl at S1 hBb HSK
        have HBb := Lib.hid hBb; clear hBb
        obtain ⟨nz, hnz⟩ : ∃ nz, nz = decide (bl = zeros) := ⟨_, rfl⟩
        have HND : Hid (∀ W v, Sec W v bl → Calls Try.prog 49 #[v] W (fun e w' => e = .returned (.bool nz) ∧ Upd (fun _ => False) W w')) := Lib.hid fun W v h => by rw [hnz]; exact nought_dec W v bl h HBb.out
        have HNZ := Lib.hid hnz; clear hnz
        have HWR1 := Lib.hid (HWR.out.old U1.out)
        have HPR1 := Lib.hid (HPR.out.old U1.out)
        clear c0 c1
        cases nz
        · go_wp2_with (go_at_call 49; refine (HND.out _ _ S1.out).mono ?_; rintro e w2 ⟨rfl, hu2⟩; have U2 := Lib.hid hu2; clear hu2)
          have HWR2 := Lib.hid (HWR1.out.old U2.out)
          have HPR2 := Lib.hid (HPR1.out.old U2.out)
          have c0 := HWR2.out.c0
          have c1 := HWR2.out.c1
          have hmk := run_make64
          go_region_held3 (fun w' => w'.cell? ⟨wb, 0, none⟩ = some (.pointer (some ⟨b, 0, none⟩))) (first | exact c0 | exact (HWR2.out.upd U3.out n3).c0 | exact (HWR2.out.old (by repeat (first | exact Upd.refl _ _ | apply Upd.drew | apply Upd.alloc))).c0)
            (first
              | (go_at_call 26; refine (sector_any (used + k) _ wb b size place n l f num used (HWR2.out.old (by repeat (first | exact Upd.refl _ _ | apply Upd.drew | apply Upd.alloc))) h0 h1 h2 (by omega)).mono ?_; rintro e w0 ⟨rfl, rfl⟩)
              | (go_at_call 25; refine (write_any (atS size place (used + k)) _ b ab cm D C' _ zeros (HPR2.out.old (by repeat (first | exact Upd.refl _ _ | apply Upd.drew | apply Upd.alloc))) hsl (by first | exact sec_z64 _ | exact (sec_z64 _).old (by repeat (first | exact Upd.refl _ _ | apply Upd.drew | apply Upd.alloc)))).mono ?_; rintro e w3 ⟨rfl, hp3, hu3⟩; have HP3 := Lib.hid hp3; have U3 : Hid (Upd (fun q => q = cm) w2 w3) := Lib.hid (Upd.trans (by repeat (first | exact Upd.refl _ _ | apply Upd.drew | apply Upd.alloc)) hu3); clear hp3 hu3))
          all_goals
            go_wp2_with fail
            go_roundw
            case rel => exact ⟨k + 1, _, by go_num, by omega, HP3.out, HPT.out, (HU.out.trans (U1.out.mono (fun _ _ h => h.elim))).trans ((U2.out.mono (fun _ _ h => h.elim)).trans U3.out)⟩
            case measure => simp [intOf]; omega
        · go_wp2_with (go_at_call 49; refine (HND.out _ _ S1.out).mono ?_; rintro e w2 ⟨rfl, hu2⟩; have U2 := Lib.hid hu2; clear hu2)
          go_roundw
          case rel => exact ⟨k + 1, C', by go_num, by omega, HPR1.out.old U2.out, HSK.out (of_decide_eq_true HNZ.out.symm), (HU.out.trans (U1.out.mono (fun _ _ h => h.elim))).trans (U2.out.mono (fun _ _ h => h.elim))⟩
          case measure => simp [intOf]; omega
    · have HE := Lib.hid (show used + k = size by omega)
      go_wp2_with fail
      refine (sync_any _ b ab cm D C' HPR.out).mono ?_
      rintro e w1 ⟨rfl, hp1, hu1⟩
      have HP1 := Lib.hid hp1; clear hp1
      have U1 := Lib.hid hu1; clear hu1
      go_wp2_with fail
      go_ret
      refine ⟨rfl, ⟨_, HP1.out, ⟨by rw [viewL_length, HD.out], fun q q1 q2 => ?_, fun i hi hq => ?_⟩⟩, (HU.out.mono (fun _ _ h => Or.inr h)).trans U1.out⟩
      · rw [viewL_get (by rw [HD.out]; exact atS_lt h0)]
        exact HCL.out.done q q1 (by rw [HE.out]; exact q2)
      · rw [viewL_get (by rw [HD.out]; exact hi)]
        exact HCL.out.rest i hi (fun q h1 h2 => hq q h1 (by rw [HE.out] at h2; exact h2))
end Go.Proofs.Ytchpekecgdbphaa
