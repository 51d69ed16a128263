/-
  PlateReads: what was written last is read, and what is read is memory of its own. The walk.
-/
import Derived.Test.YtkgkjhhhgcpgkaaPlate9
namespace Go.Proofs.Ytkgkjhhhgcpgkaa
open Go Go.RowKit Go.MapKept Go.ChangeMaps

def BoolPost (w : World) (r : Bool) (e : Ending) (w' : World) : Prop := e = .returned (.bool r) ∧ Upd (fun _ => False) w w'
theorem Secs.shape6 {w : World} {v : Value} {h : Nat} {L : List (List Int)} (H : Secs w v h L) (hl : L.length = 6) : ∃ c, v = .slice (some ⟨h, 0, none⟩) 6 c := by
  obtain ⟨c, _, hv, _, _, _⟩ := H
  rw [hl] at hv
  exact ⟨c, hv⟩
theorem Sec.block {w : World} {v : Value} {l : List Int} {B : Nat} (h : Sec w v l) (hf : Fresh B v) : ∃ k o c, v = .slice (some ⟨k, o, none⟩) 64 c ∧ B ≤ k := by
  obtain ⟨k, o, c, hv, _⟩ := h.shape
  exact ⟨k, o, c, hv, hf k o 64 c hv⟩
set_option maxRecDepth 100000 in
set_option maxHeartbeats 4000000 in
theorem reads_walk (w : World) (v : Value) (ds : List DoP) (x : Int) (hv : DosP w v ds) : Calls Try.prog 3 #[v, .int .i64 x] w (BoolPost w true) := by
  obtain ⟨va, vc, rfl⟩ : ∃ a c, v = .slice a ds.length c := by
    rcases hv with ⟨rfl, a, c, h⟩ | ⟨b, o, c, h, _⟩
    · exact ⟨a, c, h⟩
    · exact ⟨_, _, h⟩
  have HV := Lib.hid hv; clear hv
  obtain ⟨q, hq, hq6⟩ := un6_nat x
  have s6 := un6_is x
  rw [hq] at s6
  clear hq
  go_enter Try.func3, Try.ntmps3
  go_wp2_with fail
  refine (written_any _ _ ds HV.out).mono ?_
  rintro e w1 ⟨b, ab, cm, hn, hw, D, C, N, wasv, nowv, rfl, hI⟩
  obtain ⟨nc, rfl⟩ := hI.now.shape6 hI.nlen
  obtain ⟨wc, rfl⟩ := hI.was.shape6 hI.six
  have HI := Lib.hid hI; clear hI
  obtain ⟨sv, hc1, hsv, _⟩ := HI.out.now.cellAt (i := q) (by rw [HI.out.nlen]; exact hq6)
  rw [HI.out.is q hq6] at hsv
  obtain ⟨sk, so, sc, rfl, _⟩ := hsv.shape
  have hln := HI.out.now.lt
  have HSV := Lib.hid hsv; clear hsv
  go_wp2_with fail
  refine (read_any q _ b ab cm D C HI.out.p (by rw [HI.out.six]; exact hq6)).mono ?_
  rintro e w2 ⟨bv, rfl, hb, hfb, hu2⟩
  obtain ⟨bk, bo, bc, rfl, hbk⟩ := hb.block hfb
  have HB := Lib.hid hb; clear hb hfb
  have hc2 := (hu2.cell (p := ⟨hn, q, none⟩) hln (fun h => h)).trans hc1
  have HU2 := Lib.hid hu2; clear hu2
  go_wp2_with fail
  refine (equal_sec _ _ _ _ HB.out (HSV.out.old HU2.out)).mono ?_
  rintro e w' ⟨rfl, rfl⟩
  go_wp2_with fail
  have hz := HU2.out.size
  refine (spoil_any _ w2.heap.size bk bo bc _ (by simp [go_sem]) ⟨_, (MapKept.heap_alloc w2 _).1⟩ (HB.out.old ((Upd.refl _ _).alloc _))).mono ?_
  rintro e w3 ⟨rfl, hu3⟩
  have HU3 := Lib.hid ((HU2.out.alloc _).trans' hu3 (fun i hi e => by omega)); clear hu3
  have hc3 := (HU3.out.cell (p := ⟨hn, q, none⟩) hln (fun h => h)).trans hc1
  go_wp2_with fail
  refine (read_any q _ b ab cm D C (HI.out.p.old HU3.out) (by rw [HI.out.six]; exact hq6)).mono ?_
  rintro e w4 ⟨cv, rfl, hcs, hfc, hu4⟩
  obtain ⟨ck, co, cc, rfl, _⟩ := hcs.block hfc
  have HC := Lib.hid hcs; clear hcs hfc
  have HU4 := Lib.hid (HU3.out.trans hu4); clear hu4
  have hc4 := (HU4.out.cell (p := ⟨hn, q, none⟩) hln (fun h => h)).trans hc1
  go_wp2_with fail
  refine (read_arg 6 _ b ab cm D C (HI.out.p.old HU4.out) (by rw [HI.out.six]; omega)).mono ?_
  rintro e w' ⟨rfl, rfl⟩
  go_wp2_with fail
  refine (equal_sec _ _ _ _ HC.out (HSV.out.old HU4.out)).mono ?_
  rintro e w' ⟨rfl, rfl⟩
  go_wp2_with fail
  go_ret
  exact ⟨rfl, HI.out.up.trans HU4.out⟩
end Go.Proofs.Ytkgkjhhhgcpgkaa
