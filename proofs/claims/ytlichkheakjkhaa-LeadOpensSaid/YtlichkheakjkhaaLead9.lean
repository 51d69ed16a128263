/-
  Propose, as the laws use it; small words on maps.
-/
import Derived.Test.YtlichkheakjkhaaLead8
import Derived.Test.YtlichkheakjkhaaLead6
namespace Go.Proofs.Ytlichkheakjkhaa
open Go Go.RowKit

def gput (g : Int → Option PropD) (slot : Int) (p : PropD) : Int → Option PropD := fun s => if s = slot then some p else g s
def ProposeNew (w : World) (b m1 m2 m3 : Nat) (ballot frm : Int) (P B O : List (Int × Value)) (blk : Int → Nat × Nat) (g : Int → Option PropD) (slot : Int) (c : CmdD) (e : Ending) (w' : World) : Prop :=
  e = .returned (.int .i64 0) ∧ ∃ pv blk', TryAt w' b m1 m2 m3 ballot frm P B (aput O slot pv) ∧ Props w' m1 m2 m3 (aput O slot pv) blk' (gput g slot ⟨c, fun _ => false⟩) ∧ (w.heap.size ≤ (blk' slot).2 ∧ ∀ s, s ≠ slot → blk' s = blk s) ∧ Upd (fun k => k = m3) w w'
theorem propose_props (slot : Int) (w : World) (b m1 m2 m3 : Nat) (ballot frm : Int) (P B O : List (Int × Value)) (blk : Int → Nat × Nat) (g : Int → Option PropD) (c : CmdD) (v : Value) (hb : 1 ≤ ballot) (h : TryAt w b m1 m2 m3 ballot frm P B O) (hlo : frm ≤ slot) (hw : wrongB slot = false)
    (hn : Ints w v c.nodes) (hg : Props w m1 m2 m3 O blk g) (hp : g slot = none) :
    Calls Try.prog 14 #[.pointer (some ⟨b, 0, none⟩), .int .i64 slot, .agg (c.cells v)] w (ProposeNew w b m1 m2 m3 ballot frm P B O blk g slot c) := by
  refine (propose_new slot w b m1 m2 m3 ballot frm P B O c v hb h hlo hw hn (hg.no hp)).mono ?_
  rintro e w' ⟨rfl, pb, nb, nv, k1, k2, k3, k4, k5, k6, k7, k8⟩
  obtain ⟨lb, l1, l2, l3⟩ := h.lts
  have hbn := h.nb
  refine ⟨rfl, .pointer (some ⟨pb, 0, none⟩), fun s => if s = slot then (pb, nb) else blk s, ?_, ⟨fun s => ?_, fun s s' hss h1 h2 => ?_⟩, ⟨by simp only [if_true]; exact k7, fun s hs => by simp only [hs, if_false]⟩, k8⟩
  · have ht : ∀ j, w'.cell? ⟨b, j, none⟩ = w.cell? ⟨b, j, none⟩ := fun j => k8.cell (p := ⟨b, j, none⟩) lb (by have := hbn.2.2; exact this)
    exact ⟨(ht 0).trans h.c0, (ht 1).trans h.c1, (ht 2).trans h.c2, (ht 3).trans h.c3, (ht 4).trans h.c4, (k8.im l1 h.n13).trans h.i1, (k8.im l2 h.n23).trans h.i2, k1, h.n12, h.n13, h.n23⟩
  · by_cases e : s = slot
    · subst e
      simp only [gput, if_true]
      refine ⟨by rw [aget_aput, if_pos rfl], nv, [], k2, k3, k4, k5, fun n => rfl, by omega, by omega, by omega⟩
    · simp only [gput, e, if_false]
      cases hgs : g s with
      | none => simp only []; rw [aget_aput, if_neg e]; exact hg.no hgs
      | some q =>
        obtain ⟨q1, q2⟩ := hg.at hgs
        refine ⟨by rw [aget_aput, if_neg e]; exact q1, q2.upd k8 (fun k hk => by rw [hk, h.i3]; rfl) ?_⟩
        obtain ⟨_, _, _, _, _, _, _, _, _, h3⟩ := q2
        exact h3
  · have old : ∀ s, s ≠ slot → gput g slot ⟨c, fun _ => false⟩ s ≠ none → g s ≠ none ∧ (blk s).2 < w.heap.size := by
      intro s hs hne
      simp only [gput, hs, if_false] at hne
      refine ⟨hne, ?_⟩
      obtain ⟨q, hq⟩ := Option.ne_none_iff_exists'.1 hne
      obtain ⟨_, _, _, _, _, _, h4, _⟩ := hg.at hq
      exact im_lt (w := w) (by rw [h4]; rfl)
    by_cases e : s = slot <;> by_cases e' : s' = slot
    · exact absurd (e.trans e'.symm) hss
    · have := (old s' e' h2).2
      simp only [e, e', if_true, if_false]
      omega
    · have := (old s e h1).2
      simp only [e, e', if_true, if_false]
      omega
    · simp only [e, e', if_false]
      exact hg.2 s s' hss (old s e h1).1 (old s' e' h2).1
theorem props_nil (w : World) (m1 m2 m3 : Nat) (blk : Int → Nat × Nat) : Props w m1 m2 m3 [] blk (fun _ => none) := ⟨fun _ => rfl, fun _ _ _ h => absurd rfl h⟩

/-- How long a map is, as the walk asks it. -/
theorem im_heap {w : World} {b : Nat} {l : List (Int × Value)} (h : w.im b = some l) : ∃ es c, w.heap[b]? = some (.map es c) ∧ es.size = l.length := by
  obtain ⟨es, c, h1, _, _, h4, _⟩ := im_find h 0
  exact ⟨es, c, h1, by rw [h4]; simp⟩
theorem aput_length {l : List (Int × Value)} {k : Int} {v : Value} : (aput l k v).length = if (aget l k).isSome then l.length else l.length + 1 := by
  rw [← ahas_aget]
  unfold aput ahas
  split <;> simp
end Go.Proofs.Ytlichkheakjkhaa
