/-
  PlateDead: the walk.
-/
import Derived.Test.YtkgkjhhhgcpgkaaPlateDead
namespace Go.Proofs.Ytkgkjhhhgcpgkaa
open Go Go.RowKit Go.MapKept Go.ChangeMaps

set_option maxHeartbeats 8000000 in
set_option maxRecDepth 100000 in
theorem dead_walk (w : World) (v : Value) (ds : List DoP) (i : Int) (hv : DosP w v ds) : Calls Try.prog 7 #[v, .int .i64 i] w (BoolPost w true) := by
  obtain ⟨va, vc, rfl⟩ : ∃ a c, v = .slice a ds.length c := by
    rcases hv with ⟨rfl, a, c, h⟩ | ⟨b, o, c, h, _⟩
    · exact ⟨a, c, h⟩
    · exact ⟨_, _, h⟩
  have HV := Lib.hid hv; clear hv
  go_enter Try.func7, Try.ntmps7
  go_wp2_with fail
  refine (written_any _ _ ds HV.out).mono ?_
  rintro e w1 ⟨b, ab, cm, hn, hw, D, C, N, wasv, nowv, rfl, hI⟩
  have HI := Lib.hid hI; clear hI
  go_wp2_with fail
  refine (failed_any _ b false HI.out.p.c3).mono ?_
  rintro e w' ⟨rfl, rfl⟩
  go_wp2_with fail
  refine (fail_any _ b ab cm D C HI.out.p).mono ?_
  rintro e w2 ⟨rfl, hd, hu2⟩
  have HD := Lib.hid hd; clear hd
  have hbl := HI.out.p.lt.1
  have HU2 := Lib.hid (HI.out.up.trans' hu2 (fun k hk e => by have := HI.out.lo; omega)); clear hu2
  have HST := Lib.hid (st_dead HD.out.pos HD.out.c2 HD.out.c3)
  obtain ⟨w3, hmk, hs3, hu3, hz3⟩ := make_sec w2
  clear hs3 hz3
  have HU3 := Lib.hid hu3; clear hu3
  have HST3 := Lib.hid (HST.out.old HU3.out)
  go_wp2_with (first
    | (go_at_call 11; refine (read_st _ _ _ 60 (Or.inr rfl) HST.out).mono ?_; rintro e w' ⟨rfl, rfl⟩)
    | (go_at_call 28; refine (write_st _ _ _ _ 60 (Or.inr rfl) HST3.out).mono ?_; rintro e w' ⟨rfl, rfl⟩)
    | (go_at_call 25; refine (sync_st _ _ 60 (Or.inr rfl) HST3.out).mono ?_; rintro e w' ⟨rfl, rfl⟩)
    | (go_at_call 22; refine (crash_st _ _ _ _ _ 60 (Or.inr rfl) HST3.out).mono ?_; rintro e w' ⟨rfl, rfl⟩)
    | (go_at_call 27; refine (fail_st _ _ 60 (Or.inr rfl) HST3.out).mono ?_; rintro e w' ⟨rfl, rfl⟩))
  have hcell : ∀ j, j < 5 → (w3.alloc (.cells #[.int .i64 60, .int .i64 60, .int .i64 60, .int .i64 60, .int .i64 60] 29)).cell? ⟨w3.heap.size, j, none⟩ = some (.int .i64 60) := by
    intro j hj
    rw [World.cell?_alloc_at _ _ _ _ rfl]
    match j, hj with
    | 0, _ => rfl | 1, _ => rfl | 2, _ => rfl | 3, _ => rfl | 4, _ => rfl
  have hu5 : Upd (fun _ => False) w3 (w3.alloc (.cells #[.int .i64 60, .int .i64 60, .int .i64 60, .int .i64 60, .int .i64 60] 29)) := (Upd.refl _ _).alloc _
  have hsz5 : w3.heap.size < (w3.alloc (.cells #[.int .i64 60, .int .i64 60, .int .i64 60, .int .i64 60, .int .i64 60] 29)).heap.size := by simp
  generalize w3.alloc (.cells #[.int .i64 60, .int .i64 60, .int .i64 60, .int .i64 60, .int .i64 60] 29) = w5 at hcell hu5 hsz5 ⊢
  have HC := Lib.hid hcell; clear hcell
  have HU5 := Lib.hid (HU2.out.trans (HU3.out.trans hu5))
  have HD5 := Lib.hid ((HD.out.old HU3.out).old hu5); clear hu5
  go_loopw [49] (fun i wx => ∃ j : Nat, j ≤ 5 ∧ i = .int .i64 j ∧ Upd (fun _ => False) w5 wx) (fun i _ => 5 - (intOf i).toNat)
  case atStart => exact ⟨0, by omega, rfl, Upd.refl _ _⟩
  case round =>
    obtain ⟨j, hj, rfl, hux⟩ := hrel
    by_cases hj5 : j < 5
    · have hcj := (hux.cell (p := ⟨w3.heap.size, j, none⟩) hsz5 (fun h => h)).trans (HC.out j hj5)
      have HUX := Lib.hid hux; clear hux
      go_wp2_with fail
      go_roundw
      case rel => exact ⟨j + 1, hj5, by go_num, HUX.out⟩
      case measure => simp [intOf]; omega
    · have HUX := Lib.hid (HU5.out.trans hux)
      have HDX := Lib.hid (HD5.out.old hux); clear hux
      have HSTX := Lib.hid (st_dead HDX.out.pos HDX.out.c2 HDX.out.c3)
      go_wp2_with fail
      refine (failed_any _ b true HDX.out.c3).mono ?_
      rintro e w' ⟨rfl, rfl⟩
      go_wp2_with fail
      refine (image_st _ _ 60 (Or.inr rfl) HSTX.out).mono ?_
      rintro e w' ⟨rfl, rfl⟩
      go_wp2_with fail
      refine (dirty_st _ _ 60 (Or.inr rfl) HSTX.out).mono ?_
      rintro e w' ⟨rfl, rfl⟩
      go_wp2_with fail
      refine (copy_dead _ b _ HDX.out).mono ?_
      rintro e w7 ⟨b', rfl, h3, hu7⟩
      have HU7 := Lib.hid (HUX.out.trans hu7); clear hu7
      go_wp2_with fail
      refine (failed_any _ b' true h3).mono ?_
      rintro e w' ⟨rfl, rfl⟩
      go_wp2_with fail
      go_ret
      exact ⟨rfl, HU7.out⟩
end Go.Proofs.Ytkgkjhhhgcpgkaa
