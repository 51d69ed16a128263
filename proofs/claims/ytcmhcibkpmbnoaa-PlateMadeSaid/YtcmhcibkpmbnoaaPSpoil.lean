/-
  Spoil of one slice of bytes: its cells stay bytes.
-/
import Derived.Test.YtcmhcibkpmbnoaaPWrite
set_option linter.unusedVariables false
namespace Go.Proofs.Ytcmhcibkpmbnoaa
open Go Go.RowKit Go.MapKept Go.ChangeMaps

/-- The cells that hold bytes hold bytes still. -/
def ByteStay (w w' : World) : Prop := ∀ p : Addr, (∃ n, w.cell? p = some (.int .u8 n)) → ∃ n, w'.cell? p = some (.int .u8 n)
/-- What is no byte stays. -/
def OnlyB (w w' : World) : Prop := ∀ (p : Addr) (u : Value), w.cell? p = some u → (∀ n, u ≠ .int .u8 n) → w'.cell? p = some u
/-- v is a slice whose cells are bytes, whichever. -/
def AnyB (w : World) (v : Value) (n : Nat) : Prop := (n = 0 ∧ ∃ a c, v = .slice a 0 c) ∨ ∃ b o c, v = .slice (some ⟨b, o, none⟩) n c ∧ n ≤ 140737488355328 ∧ ∀ j, j < n → (∃ m, w.cell? ⟨b, o + j, none⟩ = some (.int .u8 m)) ∧ w.frozen? ⟨b, o + j, none⟩ = false
theorem AnyB.stay {w w' : World} {v : Value} {n : Nat} (h : AnyB w v n) (hs : ByteStay w w') (hf : ∀ p : Addr, w.frozen? p = false → (∃ n, w.cell? p = some (.int .u8 n)) → w'.frozen? p = false) : AnyB w' v n := by
  rcases h with h | ⟨b, o, c, hv, hn, hc⟩
  · exact .inl h
  · exact .inr ⟨b, o, c, hv, hn, fun j hj => ⟨hs _ (hc j hj).1, hf _ (hc j hj).2 (hc j hj).1⟩⟩
theorem AnyB.old {w w' : World} {v : Value} {n : Nat} (h : AnyB w v n) (u : Upd (fun _ => False) w w') : AnyB w' v n := by
  rcases h with h | ⟨b, o, c, hv, hn, hc⟩
  · exact .inl h
  · refine .inr ⟨b, o, c, hv, hn, fun j hj => ?_⟩
    obtain ⟨⟨m, h1⟩, h2⟩ := hc j hj
    have hlt := World.block_lt_of_cell? _ _ h1
    exact ⟨⟨m, (u.cell (p := ⟨b, o + j, none⟩) hlt (fun h => h)).trans h1⟩, (u.frozen (p := ⟨b, o + j, none⟩) hlt (fun h => h)).trans h2⟩
theorem AnyB.shape {w : World} {v : Value} {n : Nat} (h : AnyB w v n) : ∃ a c, v = .slice a n c := by
  rcases h with ⟨rfl, a, c, rfl⟩ | ⟨b, o, c, rfl, _⟩ <;> exact ⟨_, _, rfl⟩
theorem anyb_of {B : Nat} {w : World} {v : Value} {l : List Int} (h : Own B w v l) (hl : l.length ≤ 140737488355328) : AnyB w v l.length := by
  have hb := h.byt
  rcases h.2 with ⟨rfl, h0⟩ | ⟨g, cap, cur, rfl, hg, hh, _⟩
  · rw [h0]; exact .inl ⟨rfl, _, _, rfl⟩
  · rcases hb with ⟨rfl, a, c, e⟩ | ⟨k, o, c, e, hc⟩
    · exact .inl ⟨rfl, a, c, e⟩
    · cases e
      refine .inr ⟨g, 0, cap, rfl, hl, fun j hj => ⟨⟨_, hc j hj⟩, ?_⟩⟩
      simp [World.frozen?, hh]
/-- v's own block, if it has a cell of it, is k. -/
def Blk (v : Value) (k : Nat) : Prop := ∃ o n c, v = .slice (some ⟨k, o, none⟩) n c ∧ 0 < n
theorem blk_own {B k : Nat} {w : World} {v : Value} {l : List Int} (h : Own B w v l) (hk : Blk v k) : B ≤ k ∧ k < w.heap.size := by
  obtain ⟨o, n, c, rfl, hn⟩ := hk
  exact ⟨h.ge k rfl, h.lt k rfl⟩
structure SpoilP (w : World) (v : Value) (e : Ending) (w' : World) : Prop where
  e : e = .returned (.tuple #[])
  u : Upd (fun k => Blk v k) w w'
  s : ByteStay w w'
  o : OnlyB w w'
  f : ∀ p : Addr, p.block < w.heap.size → w'.frozen? p = w.frozen? p
structure SpR (w : World) (v : Value) (wr : World) : Prop where
  u : Upd (fun k => Blk v k) w wr
  s : ByteStay w wr
  o : OnlyB w wr
  f : ∀ p : Addr, p.block < w.heap.size → wr.frozen? p = w.frozen? p
theorem SpR.put {w wr : World} {b o n c j : Nat} {x : Int} (h : SpR w (.slice (some ⟨b, o, none⟩) n c) wr) (hn : 0 < n) (hy : ∃ y, wr.cell? ⟨b, o + j, none⟩ = some (.int .u8 y)) : SpR w (.slice (some ⟨b, o, none⟩) n c) (wr.setCell ⟨b, o + j, none⟩ (.int .u8 x)) := by
  obtain ⟨y, hy⟩ := hy
  refine ⟨h.u.setCell (p := ⟨b, o + j, none⟩) (Or.inl ⟨o, n, c, rfl, hn⟩) _, fun p hp => ?_, fun p u hp hu => ?_, fun p hp => by simp [go_sem]; exact h.f p hp⟩
  · obtain ⟨m, hm⟩ := h.s p hp
    by_cases e : p = ⟨b, o + j, none⟩
    · subst e
      exact ⟨x, World.cell?_setCell_same' _ _ _ (by rw [hy]; rfl)⟩
    · exact ⟨m, by rw [World.cell?_setCell_other _ _ _ _ (by first | exact e | exact Ne.symm e)]; exact hm⟩
  · have h1 := h.o p u hp hu
    rw [World.cell?_setCell_other _ _ _ _ (fun e => ?_)]
    · exact h1
    · subst e
      rw [hy] at h1
      injection h1 with h1
      exact hu y h1.symm
set_option maxRecDepth 100000 in
set_option maxHeartbeats 4000000 in
theorem spoil1 (w : World) (hb : Nat) (c : Nat) (v : Value) (n : Nat) (hv : AnyB w v n) (hc : w.cell? ⟨hb, 0, none⟩ = some v) (hne : ∀ k, Blk v k → k ≠ hb) :
    Calls Try.prog 23 #[.slice (some ⟨hb, 0, none⟩) 1 c] w (SpoilP w v) := by
  obtain ⟨a, vc, rfl⟩ := hv.shape
  have hlb : hb < w.heap.size := World.block_lt_of_cell? _ _ hc
  have HV := Lib.hid hv; clear hv
  go_enter Try.func23, Try.ntmps23
  go_wp2_with fail
  go_loopw [7] (fun i wr => ∃ q : Nat, q ≤ 1 ∧ i = .int .i64 q ∧ SpR w (.slice a n vc) wr) (fun i _ => 1 - (intOf i).toNat)
  case atStart => exact ⟨0, by omega, rfl, Upd.refl _ _, fun p h => h, fun p u h _ => h, fun p _ => rfl⟩
  case round =>
    obtain ⟨q, hq, rfl, hR⟩ := hrel
    have HR := Lib.hid hR; clear hR
    by_cases hlt : q < 1
    · obtain rfl : q = 0 := by omega
      have ha1 := (HR.out.u.cell (p := ⟨hb, 0, none⟩) hlb (fun e => hne _ e rfl)).trans hc
      go_wp2_with fail
      go_loopw [13] (fun i wr => ∃ j : Nat, j ≤ n ∧ i = .int .i64 j ∧ SpR w (.slice a n vc) wr) (fun i _ => n - (intOf i).toNat)
      case atStart => exact ⟨0, by omega, rfl, HR.out⟩
      case round =>
        obtain ⟨j, hj, rfl, hR2⟩ := hrel
        have HR2 := Lib.hid hR2; clear hR2
        by_cases hjl : j < n
        · obtain ⟨b, o, rfl, hn, hbl, hx, hfz⟩ : ∃ b o, a = some ⟨b, o, none⟩ ∧ n ≤ 140737488355328 ∧ b < w.heap.size ∧ (∃ m, w.cell? ⟨b, o + j, none⟩ = some (.int .u8 m)) ∧ w.frozen? ⟨b, o + j, none⟩ = false := by
            rcases HV.out with ⟨h0, _⟩ | ⟨b, o, c', e, hn, hcs⟩
            · omega
            · injection e with e _ _
              obtain ⟨⟨m, h1⟩, h2⟩ := hcs j hjl
              exact ⟨b, o, e, hn, World.block_lt_of_cell? _ _ h1, ⟨m, h1⟩, h2⟩
          have hx2 := HR2.out.s _ hx
          have hfz2 := (HR2.out.f ⟨b, o + j, none⟩ hbl).trans hfz
          have HPUT := Lib.hid (fun x => SpR.put (x := x) HR2.out (by omega) hx2)
          obtain ⟨x, hx3⟩ := hx2
          clear hx hfz
          go_wp2_with fail
          go_roundw
          case rel => exact ⟨j + 1, hjl, by go_num, HPUT.out _⟩
          case measure => simp [intOf]; omega
        · go_wp2_with fail
          go_roundw
          case rel => exact ⟨1, Nat.le_refl _, rfl, HR2.out⟩
          case measure => simp [intOf]
    · go_wp2_with fail
      go_end0
      exact ⟨rfl, HR.out.u, HR.out.s, HR.out.o, HR.out.f⟩
end Go.Proofs.Ytcmhcibkpmbnoaa
