/-
  Repeat, New.
-/
import Derived.Test.YtchpekecgdbphaaPlate5
namespace Go.Proofs.Ytchpekecgdbphaa
open Go Go.RowKit Go.MapKept Go.ChangeMaps

theorem mul_one_n (n : Nat) (hn : n ≤ 8192) (w : World) : Calls Try.prog 57 #[.int .u64 1, .int .u64 n] w fun e w' => e = .returned (.tuple #[.int .u64 0, .int .u64 n]) ∧ w = w' := by
  have h := Try.bits_Mul 1 n (by omega) (by omega) w
  have h1 : (1 * n / 18446744073709551616 : Nat) = 0 := by omega
  have h2 : (1 * n % 18446744073709551616 : Nat) = n := by omega
  rw [h1, h2] at h
  refine h.mono ?_
  rintro e w' ⟨rfl, rfl⟩
  exact ⟨rfl, rfl⟩
/-- Cells are copied within memory. -/
theorem copy_cells (w : World) (g o dLen dCap : Nat) (ad : Addr) (sLen sCap : Nat) (cur : Array Value) (cs : List Value) (hg : w.heap[g]? = some (.cells cur 28 (0, 0))) (hn : cs.length = Nat.min sLen dLen)
    (hsrc : ∀ j v, cs[j]? = some v → w.cell? (ad.add j) = some v) (hfit : o + cs.length ≤ cur.size) (h1 : ∀ v ∈ cs, v.oneCell' = true) :
    ∃ w' cur', (∀ k, (Builtin.copy_ #[22, 22] 3 #[.slice (some ⟨g, o, none⟩) dLen dCap, .slice (some ad) sLen sCap]).run Try.prog (w.drewN k) = .ok (.int .i64 cs.length) (w'.drewN k)) ∧
      w'.heap[g]? = some (.cells cur' 28 (0, 0)) ∧ cur'.size = cur.size ∧ (∀ j, j < o → cur'[j]? = cur[j]?) ∧ (∀ j, j < cs.length → cur'[o + j]? = cs[j]?) ∧ Upd (fun k => k = g) w w' := by
  refine ⟨w.setRow g (cur.toList.take o ++ cs ++ cur.toList.drop (o + cs.length)).toArray, _, fun k => ?_, setRow_heap w g cur _ _ _ hg, ?_, fun j hj => ?_, fun j hj => ?_, ⟨rfl, rfl, rfl, by rw [size_setRow]; exact Nat.le_refl _, fun k _ hk => setRow_other w g k _ hk⟩⟩
  · exact run_copy_row (P := Try.prog) (w.drewN k) 22 22 3 28 g o dLen dCap ad sLen sCap cur 28 cs Try.underlying22 (by kernel_rfl) hg hn hsrc hfit h1
  · simp; omega
  · rw [List.getElem?_toArray, List.append_assoc, List.getElem?_append_left (by simp; omega), List.getElem?_take_of_lt hj, Array.getElem?_toList]
  · have hl : (cur.toList.take o).length = o := by simp; omega
    rw [List.getElem?_toArray, List.append_assoc, List.getElem?_append_right (by omega), hl, List.getElem?_append_left (by omega)]
    congr 1
    omega
/-- The first r of a row are there. -/
def RepRel (w : World) (g n : Nat) (sv : Value) (i : Value) (wr : World) : Prop :=
  ∃ (r : Nat) (cur : Array Value), 1 ≤ r ∧ r ≤ n ∧ i = .int .i64 r ∧ wr.heap[g]? = some (.cells cur 28 (0, 0)) ∧ cur.size = n ∧ (∀ j, j < r → cur[j]? = some sv) ∧ Upd (fun _ => False) w wr
set_option maxRecDepth 100000 in
set_option maxHeartbeats 2000000 in
theorem repeat_any (w : World) (h n : Nat) (v : Value) (l : List Int) (hs : Secs w v h [l]) (hn : 0 < n) (hf : n ≤ 8192) :
    Calls Try.prog 43 #[v, .int .i64 n] w (SecsPost w (List.replicate n l)) := by
  obtain ⟨sv, hc, hsv, _⟩ := hs.cellAt (i := 0) (by simp)
  obtain ⟨sk, so, sc, rfl, _⟩ := hsv.shape
  have lh := hs.lt
  have hs' := hs
  obtain ⟨vc, _, hv, _, _, _⟩ := hs'
  have hv1 : v = .slice (some ⟨h, 0, none⟩) 1 vc := hv
  clear hv
  subst hv1
  have HS := Lib.hid hs; clear hs
  have HSV := Lib.hid hsv; clear hsv
  obtain ⟨i0, hi, hz0, hz1, hz2⟩ := info_parts info_sl
  obtain ⟨w1, hmk, ho, hg⟩ := run_makeSlice_full (P := Try.prog) (w := w) w.heap.size 22 28 i0 _ 1 Try.underlying22 hi hz0 hz1 .i64 .i64 n (by omega) (by rw [hz2]; omega) (by unfold maxLen; omega) (Nat.le_refl _)
  clear hi hz0 hz1 hz2
  obtain ⟨cur, hcur, hcs⟩ : ∃ cur, w1.heap[w.heap.size]? = some (.cells cur 28 (0, 0)) ∧ cur.size = n := by
    obtain ⟨_, ⟨e, _⟩ | ⟨g, cap, cur, e, _, hh, hn1, _, hsz, _⟩⟩ := ho
    · cases e
    · cases e; exact ⟨cur, hh, by omega⟩
  clear ho
  have hu1 := Upd.of_grown hg
  have hU1 : Upd (fun _ => False) w w1 := hu1.mono (fun k _ h => by cases h)
  clear hg hu1
  have hc1 := (hU1.cell (p := ⟨h, 0, none⟩) lh (fun h => h)).trans hc
  have HU1 := Lib.hid hU1; clear hU1
  obtain ⟨w2, cur2, hcp0, hg2, hs2, _, hj2, hu2⟩ := copy_cells w1 w.heap.size 0 n n ⟨h, 0, none⟩ 1 vc cur [.slice (some ⟨sk, so, none⟩) 64 sc] hcur (by show _ = min 1 n; simp; omega) (by
    intro j u hu
    rw [Addr.add_lit]
    have : j = 0 := by
      rcases Nat.eq_zero_or_pos j with h | h
      · exact h
      · rw [List.getElem?_eq_none (by simp; omega)] at hu; cases hu
    subst this
    simp only [List.getElem?_cons_zero, Option.some.injEq] at hu
    subst hu
    exact hc1) (by simp; omega) (by simp [Value.oneCell'])
  have hcp : (Builtin.copy_ #[22, 22] 3 #[.slice (some ⟨w.heap.size, 0, none⟩) n n, .slice (some ⟨h, 0, none⟩) 1 vc]).run Try.prog w1 = .ok (.int .i64 1) w2 := hcp0 0
  have hst : RepRel w w.heap.size n (.slice (some ⟨sk, so, none⟩) 64 sc) (.int .i64 1) w2 := by
    refine ⟨1, cur2, Nat.le_refl _, hn, rfl, hg2, by omega, fun j hj => ?_, HU1.out.trans' hu2 (fun i hi e => by omega)⟩
    obtain rfl : j = 0 := by omega
    have := hj2 0 (by simp)
    simpa using this
  have HST := Lib.hid hst; clear hst
  clear hcp0 hg2 hs2 hj2 hu2 hcur hcs hc1
  go_enter Try.func43, Try.ntmps43
  go_wp2_with fail
  refine (mul_one_n n hf _).mono ?_
  rintro e w' ⟨rfl, rfl⟩
  go_wp2_with fail
  go_loopw [8] (fun i wr => RepRel w w.heap.size n (.slice (some ⟨sk, so, none⟩) 64 sc) i wr) (fun i _ => n - (intOf i).toNat)
  case atStart => exact HST.out
  case round =>
    obtain ⟨r, cr, hr1, hr2, rfl, hgr, hcs, hfill, hu⟩ := hrel
    have HU := Lib.hid hu; clear hu
    have HFILL := Lib.hid hfill; clear hfill
    by_cases hlt : r < n
    · obtain ⟨w', cr', hcpr, hgr', hcs', hold', hnew', hu'⟩ := copy_cells wr w.heap.size r (n - r) (n - r) ⟨w.heap.size, 0, none⟩ r n cr (List.replicate (min r (n - r)) (.slice (some ⟨sk, so, none⟩) 64 sc)) hgr (by rw [List.length_replicate]) (by
        intro j u hu
        rw [List.getElem?_replicate] at hu
        split at hu
        · cases hu
          rw [Addr.add_lit]
          unfold World.cell?
          rw [hgr]
          simp only [Option.isSome_none, Bool.false_eq_true, if_false, Nat.zero_add]
          exact HFILL.out j (by omega)
        · cases hu) (by rw [List.length_replicate]; omega) (by intro v hv; rw [(List.mem_replicate.1 hv).2]; rfl)
      rw [List.length_replicate] at hcpr
      have hcpr1 : (Builtin.copy_ #[22, 22] 3 #[.slice (some ⟨w.heap.size, r, none⟩) (n - r) (n - r), .slice (some ⟨w.heap.size, 0, none⟩) r n]).run Try.prog wr.drew = .ok (.int .i64 (min r (n - r) : Nat)) w'.drew := hcpr 1
      go_wp2_with fail
      go_region
      go_wp2_with fail
      go_roundw
      case rel =>
        refine ⟨r + min r (n - r), cr', by omega, by omega, by go_num, hgr', by omega, fun j hj => ?_, ((HU.out.trans' hu' (fun i hi e => by omega))).drew⟩
        by_cases hjr : j < r
        · rw [hold' j hjr]; exact HFILL.out j hjr
        · have := hnew' (j - r) (by rw [List.length_replicate]; omega)
          rw [show r + (j - r) = j by omega, List.getElem?_replicate, if_pos (by omega)] at this
          exact this
      case measure => simp [intOf]; omega
    · obtain rfl : r = n := by omega
      go_wp2_with fail
      go_ret
      refine ⟨.slice (some ⟨w.heap.size, 0, none⟩) r r, w.heap.size, rfl, ⟨r, cr, by rw [List.length_replicate], by rw [List.length_replicate]; exact Nat.le_refl _, hgr, fun i hi => ?_⟩, Nat.le_refl _, HU.out⟩
      rw [List.length_replicate] at hi
      refine ⟨.slice (some ⟨sk, so, none⟩) 64 sc, ?_, ?_⟩
      · unfold World.cell?
        rw [hgr]
        simp only [Option.isSome_none, Bool.false_eq_true, if_false]
        exact HFILL.out i hi
      · rw [List.getD_eq_getElem?_getD, List.getElem?_replicate, if_pos hi]
        exact HSV.out.old HU.out

theorem info_u8 : (Try.prog.info? 5).map (fun i => (i.zero, i.size, i.bytes)) = some (some (.int .u8 0), 1, 1) := by kernel_rfl
def zeros : List Int := List.replicate 64 0
/-- Sixty-four noughts are made. -/
theorem make_sec (w : World) : ∃ w', (Instr.makeSlice 28 (.int .i64 64) (.int .i64 64)).run Try.prog w = .ok (.slice (some ⟨w.heap.size, 0, none⟩) 64 64) w' ∧ Sec w' (.slice (some ⟨w.heap.size, 0, none⟩) 64 64) zeros ∧ Upd (fun _ => False) w w' ∧ w'.heap.size = w.heap.size + 1 := by
  obtain ⟨i0, hi, hz0, hz1, hz2⟩ := info_parts info_u8
  have h0 := run_make (P := Try.prog) w 28 5 i0 _ Try.underlying28 hi hz0 .i64 .i64 64 64 (by omega) (by omega) (by rw [hz2]; omega) (by omega)
  rw [hz1] at h0
  have hmk : (Instr.makeSlice 28 (.int .i64 64) (.int .i64 64)).run Try.prog w = .ok (.slice (some ⟨w.heap.size, 0, none⟩) 64 64) (w.alloc (.cells (madeCells #[.int .u8 0] 64) 5)) := h0
  refine ⟨_, hmk, ⟨w.heap.size, 0, 0, _, rfl, by simp [zeros], (MapKept.heap_alloc w _).1, fun j hj => ?_⟩, (Upd.refl _ _).alloc _, by simp⟩
  rw [World.cell?_alloc_at _ _ _ _ (by simp)]
  have h1 : zeros.getD j 0 = 0 := by
    unfold zeros
    rw [List.getD_eq_getElem?_getD, List.getElem?_replicate, if_pos hj]
    rfl
  rw [h1]
  simp [madeCells, hj, Nat.mod_one]
set_option maxRecDepth 100000 in
theorem new_any (n : Nat) (w : World) (hn : 0 < n) (hf : n ≤ 8192) : Calls Try.prog 21 #[.int .i64 n] w (MadePost w (List.replicate n zeros)) := by
  obtain ⟨w1, hmk, hs1, hu1, hz1⟩ := make_sec w
  have hlen : (List.replicate n zeros).length = n := List.length_replicate
  have hrep := fun (w : World) (h : Nat) (v : Value) (hs : Secs w v h [zeros]) => repeat_any w h n v zeros hs hn hf
  generalize List.replicate n zeros = L at hlen hrep ⊢
  generalize zeros = Z at hs1 hrep
  have HREP := Lib.hid hrep; clear hrep
  have HS1 := Lib.hid hs1; clear hs1
  have HU1 := Lib.hid hu1; clear hu1
  go_enter Try.func21, Try.ntmps21
  have hs2 : Secs (w1.alloc (.cells #[.slice (some ⟨w.heap.size, 0, none⟩) 64 64] 28)) (.slice (some ⟨w.heap.size + 1, 0, none⟩) 1 1) (w.heap.size + 1) [Z] := by
    rw [← hz1]
    refine ⟨1, _, rfl, Nat.le_refl _, (MapKept.heap_alloc w1 _).1, fun i hi => ?_⟩
    obtain rfl : i = 0 := by simpa using hi
    exact ⟨_, by rw [World.cell?_alloc_at _ _ _ _ rfl]; rfl, HS1.out.old ((Upd.refl _ _).alloc _)⟩
  have HS2 := Lib.hid hs2; clear hs2
  go_wp2_with fail
  refine (HREP.out _ (w.heap.size + 1) _ HS2.out).mono ?_
  rintro e w2 ⟨v2, h2, rfl, hs2, hh2, hu2⟩
  have hs2' := hs2
  obtain ⟨vc2, _, hv2, _, _, _⟩ := hs2'
  rw [hlen] at hv2
  subst hv2
  have HS3 := Lib.hid hs2; clear hs2
  have HU2 := Lib.hid hu2; clear hu2
  go_wp2_with fail
  refine (of_any _ h2 _ L HS3.out (by omega) (by omega)).mono ?_
  rintro e w3 ⟨b, ab, cm, rfl, hp, l1, l2, l3, hu3⟩
  have HP := Lib.hid hp; clear hp
  have HU3 := Lib.hid hu3; clear hu3
  go_wp2_with fail
  go_ret2
  have k1 := HU1.out.size
  have k2 := HU2.out.size
  simp at k2
  exact ⟨b, ab, cm, rfl, HP.out, by omega, by omega, by omega, ((HU1.out.alloc _).trans HU2.out).trans HU3.out⟩
end Go.Proofs.Ytchpekecgdbphaa
