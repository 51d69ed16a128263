/-
  EpochNobody: what is the same as itself.
-/
import Derived.Test.YtmpjbolopgccpaaGreatEp3
import Derived.Test.YtmpjbolopgccpaaGreatLib3
import Derived.Test.YtmpjbolopgccpaaGreatLib5
import Derived.Deep.QuietTactic
import Derived.BigQuiet
set_option linter.unusedVariables false
namespace Go.Proofs.YtmpjbolopgccpaaGreat
open Go Go.RowKit Go.MapKept Go.ChangeMaps
set_option linter.unusedVariables false

theorem look_bool (w : World) (b : Nat) (k : Int) (ok : Bool) : (Instr.lookup 29 (.map (some b)) (.int .i64 k) ok).run Tryz.prog w =
    lookR (.bool false) w k (LookElse Tryz.prog 29 b k ok w) ok (w.im b) :=
  run_lookup_any Tryz.underlying29 Tryz.underlying3 (fun _ => by kernel_rfl) w b k ok
noncomputable def leftN (wr : World) (r : Nat) : Nat :=
  match wr.heap[r]? with
  | some (.mapIter (some m) _ seen _) => match wr.heap[m]? with | some (.map es _) => (leftOf es seen).size | _ => 0
  | _ => 0
theorem IterAt.count {w : World} {r m : Nat} {left : List (Int × Value)} (h : IterAt w r m left) : leftN w r = left.length := by
  obtain ⟨es, c, since, seen, c0, h1, h2, _, _, _, _, rfl⟩ := h
  unfold leftN
  rw [h1]; simp only []; rw [h2]; simp
def EqRel (w : World) (m r : Nat) (l : List (Int × Value)) (wr : World) : Prop := ∃ left, IterAt wr r m left ∧ (∀ p ∈ left, p ∈ l) ∧ wr.im m = some l ∧ Upd (fun _ => False) w wr
set_option maxHeartbeats 1000000 in
set_option maxRecDepth 100000 in
theorem mapEqual (w : World) (m : Nat) (l : List (Int × Value)) (h : w.im m = some l) (hl : ∀ p ∈ l, p.2 = .bool true ∧ aget l p.1 = some (.bool true)) :
    Calls Tryz.prog 46 #[.map (some m), .map (some m)] w (BoolPost w true) := by
  have lv := look_bool
  have HL := Lib.hid hl; clear hl
  have hlm := im_lt (w := w) (b := m) (by rw [h]; rfl)
  have H := Lib.hid h
  go_enter Tryz.func46, Tryz.ntmps46
  go_wp2_with (first
    | (at_len; refine wpList_len_im rfl _ rfl Tryz.underlying29 rfl H.out ?_)
    | (at_range; refine wpList_range_im rfl _ 29 _ _ rfl Tryz.underlying29 m l rfl H.out ?_; intro w0 hit0 hu0 hs0 hc0; clear hc0))
  have HI0 := Lib.hid hit0; clear hit0
  have HU0 := Lib.hid hu0; clear hu0
  clear h
  go_frame
  go_loopw [] (fun wr => EqRel w m w.heap.size l wr) (fun wr => leftN wr w.heap.size)
  case atStart => exact ⟨l, HI0.out, fun _ h => h, (HU0.out.im hlm (fun h => h)).trans H.out, HU0.out⟩
  case round =>
    obtain ⟨left, hit, hsub, him, hu⟩ := hrel
    have HI := Lib.hid hit
    have HS := Lib.hid hsub; clear hsub
    have HU := Lib.hid hu; clear hu
    go_wp2_with (at_next; refine wpList_next_im rfl _ rfl w.heap.size m left rfl HI.out ?_ ?_)
    · intro hl0
      go_wp2_with fail
      go_ret
      exact ⟨rfl, HU.out⟩
    · intro k v w' hmem hit' hlt hu hsz hc him' hen
      have hk := HL.out _ (HS.out _ hmem)
      simp only [] at hk
      obtain ⟨rfl, hk⟩ := hk
      have him2 := (him' m).trans him
      have HI' := Lib.hid hit'; clear hit'
      have HU' := Lib.hid hu; clear hu
      have HLT := Lib.hid hlt; clear hlt
      clear hit hmem hc him' hsz him
      go_wp2_with fail
      go_roundw
      case rel => exact ⟨_, HI'.out, fun p hp => HS.out p (List.mem_filter.1 hp).1, him2, HU.out.trans' HU'.out (fun i hi e => by omega)⟩
      case measure =>
        rw [HI'.out.count, HI.out.count]; exact HLT.out
def NoRel (w : World) (m r : Nat) (wr : World) : Prop := IterAt wr r m [] ∧ Upd (fun _ => False) w wr
set_option maxRecDepth 100000 in
theorem textEqual (w : World) (m : Nat) (h : w.im m = some []) :
    Calls Tryz.prog 47 #[.map (some m), .map (some m)] w (BoolPost w true) := by
  have H := Lib.hid h
  go_enter Tryz.func47, Tryz.ntmps47
  go_wp2_with (first
    | (at_len; refine wpList_len_im rfl _ rfl Tryz.underlying32 rfl H.out ?_)
    | (at_range; refine wpList_range_im rfl _ 32 _ _ rfl Tryz.underlying32 m [] rfl H.out ?_; intro w0 hit0 hu0 hs0 hc0; clear hc0))
  have HI0 := Lib.hid hit0; clear hit0
  have HU0 := Lib.hid hu0; clear hu0
  clear h
  go_frame
  go_loopw [] (fun wr => NoRel w m w.heap.size wr) (fun wr => 0)
  case atStart => exact ⟨HI0.out, HU0.out⟩
  case round =>
    obtain ⟨hit, hu⟩ := hrel
    have HI := Lib.hid hit
    have HU := Lib.hid hu; clear hu
    go_wp2_with (at_next; refine wpList_next_im rfl _ rfl w.heap.size m [] rfl HI.out ?_ ?_)
    go_ret
    exact ⟨rfl, HU.out⟩
set_option maxRecDepth 100000 in
theorem entryEqual (w : World) (m : Nat) (h : w.im m = some []) :
    Calls Tryz.prog 54 #[.map (some m), .map (some m), .func (.func 55) #[] #[]] w (BoolPost w true) := by
  have H := Lib.hid h
  go_enter Tryz.func54, Tryz.ntmps54
  go_wp2_with (first
    | (at_len; refine wpList_len_im rfl _ rfl Tryz.underlying31 rfl H.out ?_)
    | (at_range; refine wpList_range_im rfl _ 31 _ _ rfl Tryz.underlying31 m [] rfl H.out ?_; intro w0 hit0 hu0 hs0 hc0; clear hc0))
  have HI0 := Lib.hid hit0; clear hit0
  have HU0 := Lib.hid hu0; clear hu0
  clear h
  go_frame
  go_loopw [] (fun wr => NoRel w m w.heap.size wr) (fun wr => 0)
  case atStart => exact ⟨HI0.out, HU0.out⟩
  case round =>
    obtain ⟨hit, hu⟩ := hrel
    have HI := Lib.hid hit
    have HU := Lib.hid hu; clear hu
    go_wp2_with (at_next; refine wpList_next_im rfl _ rfl w.heap.size m [] rfl HI.out ?_ ?_)
    go_ret
    exact ⟨rfl, HU.out⟩
theorem movesEqual (w : World) : Calls Tryz.prog 51 #[.slice none 0 0, .slice none 0 0] w (Same w (.bool true)) := by
  go_enter Tryz.func51, Tryz.ntmps51
  go_wp2
  go_loop [13] (fun i => i = .int .i64 0) (fun i => 0)
  case atStart => rfl
  case round =>
    subst hrel
    go_wp2
    go_ret
    exact ⟨rfl, rfl⟩
set_option maxRecDepth 100000 in
theorem recodesEqual (w : World) : Calls Tryz.prog 52 #[.slice none 0 0, .slice none 0 0, .func (.func 53) #[] #[]] w (Same w (.bool true)) := by
  go_enter Tryz.func52, Tryz.ntmps52
  go_wp2
  go_loop [17] (fun i => i = .int .i64 0) (fun i => 0)
  case atStart => rfl
  case round =>
    subst hrel
    go_wp2
    go_ret
    exact ⟨rfl, rfl⟩
def OneRel (w : World) (i : Value) (wr : World) : Prop := ∃ k : Nat, k ≤ 1 ∧ i = .int .i64 k ∧ Upd (fun _ => False) w wr
theorem ints_at (w : World) (v : Value) (h : Ints w v [0]) : ∃ b o c, v = .slice (some ⟨b, o, none⟩) 1 c ∧ w.cell? ⟨b, o, none⟩ = some (.int .i64 0) := by
  rcases h.cells with ⟨h0, _⟩ | ⟨b, o, c, rfl, _, hc⟩
  · cases h0
  · exact ⟨b, o, c, rfl, hc 0 (by simp)⟩
set_option maxRecDepth 100000 in
theorem onesEqual (w : World) (v : Value) (h : Ints w v [0]) : Calls Tryz.prog 50 #[v, v] w (BoolPost w true) := by
  obtain ⟨b, o, c, rfl, hc⟩ := ints_at w v h
  clear h
  have hb := World.block_lt_of_cell? _ _ hc
  go_enter Tryz.func50, Tryz.ntmps50
  go_wp2
  go_loopw [13] (fun i wr => OneRel w i wr) (fun i wr => 1 - (intOf i).toNat)
  case atStart => exact ⟨0, by omega, rfl, Upd.refl _ _⟩
  case round =>
    obtain ⟨k, hk, rfl, hu⟩ := hrel
    by_cases hlt : k < 1
    · obtain rfl : k = 0 := by omega
      have h1 := (hu.cell (p := ⟨b, o, none⟩) hb (fun h => h)).trans hc
      have HU := Lib.hid hu; clear hu
      go_wp2_with fail
      go_quiet (fail)
      go_wp2_with fail
      go_roundw
      case rel => exact ⟨1, by omega, by go_num, HU.out.drewN _⟩
      case measure => simp [intOf]
    · obtain rfl : k = 1 := by omega
      go_wp2_with fail
      go_ret
      exact ⟨rfl, hu⟩
set_option maxRecDepth 100000 in
theorem quorumEqual (w : World) (nv : Value) (h : Ints w nv [0]) : Calls Tryz.prog 49 #[.agg #[.int .i64 1, nv], .agg #[.int .i64 1, nv]] w (BoolPost w true) := by
  obtain ⟨na, nc, rfl⟩ := h.shape
  have H := Lib.hid h; clear h
  go_enter Tryz.func49, Tryz.ntmps49
  go_wp2_with (go_at_call 50; refine (onesEqual _ _ (H.out.old (((Upd.refl _ _).alloc _).alloc _))).mono ?_; rintro e w' ⟨rfl, hu⟩)
  go_ret
  exact ⟨rfl, (((Upd.refl _ _).alloc _).alloc _).trans hu⟩
set_option maxRecDepth 100000 in
theorem quorumsEqual (w : World) (q : Value) (h : QuAt w q) : Calls Tryz.prog 48 #[q, q, .func (.func 49) #[] #[]] w (BoolPost w true) := by
  obtain ⟨qb, nv, rfl, h0, h1, hn⟩ := h
  obtain ⟨na, nc, rfl⟩ := hn.shape
  have hb := World.block_lt_of_cell? _ _ h0
  have HN := Lib.hid hn; clear hn
  have H0 := Lib.hid h0; clear h0
  have H1 := Lib.hid h1; clear h1
  go_enter Tryz.func48, Tryz.ntmps48
  go_wp2_with fail
  go_loopw [17] (fun i wr => OneRel w i wr) (fun i wr => 1 - (intOf i).toNat)
  case atStart => exact ⟨0, by omega, rfl, Upd.refl _ _⟩
  case round =>
    obtain ⟨k, hk, rfl, hu⟩ := hrel
    by_cases hlt : k < 1
    · obtain rfl : k = 0 := by omega
      have h0 := (hu.cell (p := ⟨qb, 0, none⟩) hb (fun h => h)).trans H0.out
      have h1 := (hu.cell (p := ⟨qb, 1, none⟩) hb (fun h => h)).trans H1.out
      have hbw : qb < wr.heap.size := by have := hu.size; omega
      have hbw1 : qb < wr.heap.size + 1 := by omega
      have HU := Lib.hid hu; clear hu
      go_wp2_with (refine (quorumEqual _ _ (HN.out.old ((HU.out.alloc _).alloc _))).mono ?_; rintro e w' ⟨rfl, hu2⟩; have HU2 := Lib.hid hu2; clear hu2)
      go_roundw
      case rel => exact ⟨1, by omega, by go_num, ((HU.out.alloc _).alloc _).trans HU2.out⟩
      case measure => simp [intOf]
    · obtain rfl : k = 1 := by omega
      go_wp2_with fail
      go_ret
      exact ⟨rfl, hu⟩
end Go.Proofs.YtmpjbolopgccpaaGreat
