/-
  Bound, Ballot, Next.
-/
import Derived.Test.YtlichkheakjkhaaLead4
namespace Go.Proofs.Ytlichkheakjkhaa
open Go Go.RowKit

theorem TryAt.old {w w' : World} {b m1 m2 m3 : Nat} {ballot frm : Int} {P B O : List (Int × Value)} (h : TryAt w b m1 m2 m3 ballot frm P B O) (u : Upd (fun _ => False) w w') : TryAt w' b m1 m2 m3 ballot frm P B O :=
  h.upd u (fun h => h) (fun h => h) (fun h => h) (fun h => h)
theorem state_try {w : World} {b m1 m2 m3 : Nat} {ballot frm : Int} {P B O : List (Int × Value)} (node : Int) (h : TryAt w b m1 m2 m3 ballot frm P B O) (hb : 1 ≤ ballot) :
    Calls Try.prog 34 #[.pointer (some ⟨b, 0, none⟩), .int .i64 node] w fun e w' => e = .returned (.int .i64 (stateR node)) ∧ w = w' := state_any node w b ballot frm hb h.c0 h.c1

def BoundPost (w : World) (c : VoteD) (there : Bool) (e : Ending) (w' : World) : Prop :=
  ∃ nv', e = .returned (.tuple #[.agg (c.cmd.cells nv'), .bool there]) ∧ Ints w' nv' c.cmd.nodes ∧ Fresh w.heap.size nv' ∧ Upd (fun _ => False) w w'

theorem bound_any (slot : Int) (w : World) (b m1 m2 m3 : Nat) (ballot frm : Int) (P B O : List (Int × Value)) (f : Int → Option VoteD) (hb : 1 ≤ ballot) (h : TryAt w b m1 m2 m3 ballot frm P B O) (hB : Bound w B f) :
    Calls Try.prog 11 #[.pointer (some ⟨b, 0, none⟩), .int .i64 slot] w (BoundPost w ((f slot).getD default) (f slot).isSome) := by
  have hs : stateR 0 = 0 := by rw [stateR, if_pos (by omega)]
  have lv := look_vote
  have c3 := h.c3
  have i2 := h.i2
  obtain ⟨lb, l1, l2, l3⟩ := h.lts
  obtain ⟨d, nv, hg, hn, hd⟩ : ∃ (d : VoteD) (nv : Value), (aget B slot).getD (.agg #[.int .i64 0, .int .i64 0, .int .i64 0, .int .i64 0, .string ⟨#[]⟩, .int .i64 0, .int .i64 0, .int .i64 0, .int .i64 0, .int .i64 0, .int .u32 0, .int .i64 0, .int .i64 0, .slice none 0 0]) = .agg (d.cells nv) ∧ Ints w nv d.cmd.nodes ∧ (f slot).getD default = d := by
    have := hB slot
    cases hf : f slot with
    | none => rw [hf] at this; simp only [] at this; rw [this]; exact ⟨default, .slice none 0 0, rfl, Ints.nil w, rfl⟩
    | some x => rw [hf] at this; obtain ⟨nv, h1, _, h3⟩ := this; rw [h1]; exact ⟨x, nv, rfl, h3, rfl⟩
  have hi : (aget B slot).isSome = (f slot).isSome := by
    have := hB slot
    cases hf : f slot with
    | none => rw [hf] at this; simp only [] at this; rw [this]; rfl
    | some x => rw [hf] at this; obtain ⟨nv, h1, _, h3⟩ := this; rw [h1]; rfl
  rw [hd]
  clear hd
  generalize (f slot).isSome = there at hi ⊢
  obtain ⟨na, nc, rfl⟩ := hn.shape
  have HN := Lib.hid hn; clear hn
  have HB := Lib.hid hB; clear hB
  simp only [VoteD.cells] at hg
  go_enter Try.func11, Try.ntmps11
  go_wp2_with fail
  refine (state_try _ (h.old ((Upd.refl _ _).alloc _)) hb).mono ?_
  rintro e w' ⟨rfl, rfl⟩
  go_wp2_with fail
  refine (own_any d.cmd _ _ ?_).mono ?_
  · exact HN.out.old (((Upd.refl (fun _ => False) _).alloc _).alloc _)
  rintro e w' ⟨v', rfl, hv, hf, hn, hu⟩
  obtain ⟨va, vc', rfl⟩ := hv.shape
  have HV := Lib.hid hv; clear hv
  have HF := Lib.hid hf; clear hf
  clear hn
  have HU2 := Lib.hid hu
  obtain ⟨r1, r2, r3, r4⟩ := hu.old
  clear hu
  simp at r4
  simp only [CmdD.cells]
  go_wp2_with fail
  have hu : Upd (fun _ => False) w w' := (((Upd.refl _ _).alloc _).alloc _).trans HU2.out
  refine bodyPost_ret (v := .tuple #[.agg (d.cmd.cells (.slice va d.cmd.nodes.length vc')), .bool there]) ?_ rfl ?_
  · simp [results, Try.results11, go_sem, CmdD.cells, r1]
  · refine ⟨_, rfl, ?_, ?_, ?_⟩
    · iterate 12 (refine Ints.setCell ?_ _ _ (fun b o n c' hb => by have := HF.out b o n c' hb; simp at this ⊢; omega))
      exact HV.out
    · intro b o n c' hb
      have := HF.out b o n c' hb
      simp at this
      omega
    · iterate 12 (refine Upd.setCell ?_ (Or.inr (by simp)) _)
      exact hu

theorem ballot_any (w : World) (b m1 m2 m3 : Nat) (ballot frm : Int) (P B O : List (Int × Value)) (h : TryAt w b m1 m2 m3 ballot frm P B O) :
    Calls Try.prog 13 #[.pointer (some ⟨b, 0, none⟩)] w fun e w' => e = .returned (.int .i64 ballot) ∧ w = w' := by
  have c0 := h.c0
  go_enter Try.func13, Try.ntmps13
  go_wp2
  go_ret
  exact ⟨rfl, rfl⟩
end Go.Proofs.Ytlichkheakjkhaa
