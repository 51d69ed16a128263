/-
  own: a command in memory of its own.
-/
import Derived.Test.YtlichkheakjkhaaLead1
import Derived.Test.YtlichkheakjkhaaLeadLib
namespace Go.Proofs.Ytlichkheakjkhaa
open Go Go.RowKit

/-- A command as data. -/
structure CmdD where
  id : Int
  kind : Int
  key : ByteArray
  blob : Int
  other : Int
  index : Int
  node : Int
  size : Int
  sum : Int
  k : Int
  m : Int
  nodes : List Int

/-- Its cells, the nodes' slice being v. -/
def CmdD.cells (d : CmdD) (v : Value) : Array Value :=
  #[.int .i64 d.id, .int .i64 d.kind, .string d.key, .int .i64 d.blob, .int .i64 d.other, .int .i64 d.index, .int .i64 d.node, .int .i64 d.size, .int .u32 d.sum, .int .i64 d.k, .int .i64 d.m, v]

def OwnPost (w : World) (d : CmdD) (v : Value) (e : Ending) (w' : World) : Prop :=
  ∃ v', e = .returned (.agg (d.cells v')) ∧ Ints w' v' d.nodes ∧ Fresh w.heap.size v' ∧ (v = .slice none 0 0 → v' = .slice none 0 0) ∧ Upd (fun _ => False) w w'

theorem own_any (d : CmdD) (v : Value) (w : World) (h : Ints w v d.nodes) : Calls Try.prog 35 #[.agg (d.cells v)] w (OwnPost w d v) := by
  obtain ⟨id, kind, key, blob, other, index, node, size, sum, k, m, nodes⟩ := d
  simp only [CmdD.cells] at *
  have H := Lib.hid h; clear h
  go_enter Try.func35, Try.ntmps35
  go_wp2_with fail
  refine (clone_ints _ nodes _ ?_).mono ?_
  · exact H.out.old (((Upd.refl (fun _ => False) _).alloc _).alloc _)
  rintro e w' ⟨v', rfl, hv, hf, hn, hu⟩
  obtain ⟨a, c, hv'⟩ := hv.1.length
  have HV := Lib.hid hv; clear hv
  have HF := Lib.hid hf; clear hf
  have HN := Lib.hid hn; clear hn
  have HU := Lib.hid hu
  obtain ⟨r1, r2, r3, r4⟩ := hu.old
  clear hu
  subst hv'
  simp at r4
  go_wp2
  refine bodyPost_ret (v := .agg ((CmdD.mk id kind key blob other index node size sum k m nodes).cells (.slice a (nodes.map fun x => [Value.int .i64 x]).length c))) ?_ rfl ?_
  · simp [results, Try.results35, go_sem, CmdD.cells, r1]
  · have hu : Upd (fun _ => False) w w' := (((Upd.refl _ _).alloc _).alloc _).trans HU.out
    have hB : w.heap.size ≤ w'.heap.size := hu.size
    refine ⟨_, rfl, ?_, ?_, HN.out, ?_⟩
    · repeat (refine Ints.setCell ?_ _ _ (fun b o n c' hb => by have := HF.out b o n c' hb; simp at this ⊢; omega))
      exact HV.out
    · intro b o n c' hb
      have := HF.out b o n c' hb
      simp at this
      omega
    · repeat (refine Upd.setCell ?_ (Or.inr (by simp)) _)
      exact hu
end Go.Proofs.Ytlichkheakjkhaa
