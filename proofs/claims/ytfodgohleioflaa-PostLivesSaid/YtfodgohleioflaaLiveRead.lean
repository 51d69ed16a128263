/-
  How the calls of a post come in, with their messages.
-/
import Derived.Test.YtfodgohleioflaaLives
namespace Go.Proofs.Ytfodgohleioflaa
open Go Go.RowKit Go.ChangeShapes Go.WideShapes Go.Deep
set_option linter.unusedVariables false

section
variable {H : Type} {enc : TypeId × Value → H} {w : World} {base : Nat} {spare : Nat → Bool} {held : Bool}
theorem do_readM {fuel : Nat} {cs : List Value} {x : DataW H × List MemPlace} (h : DataW.trod enc Try.prog w base spare held fuel 36 cs = some x) (hz : ∀ n ∈ DataW.weights Try.prog 36 x.1, n ≤ reachBytes) :
    ∃ d : DoM, ∃ nv vv bv, cs = doC d nv vv bv ∧ MsgAt (fun k => k < w.heap.size) w (msgC d.msg nv vv bv) d.msg := by
  obtain ⟨xs, n, _, rfl, hlen, hxl, hf⟩ := DataW.trod_struct Try.underlying36 h
  have hl : cs.length = 26 := hlen.trans (by kernel_rfl)
  obtain ⟨c0, c1, r, rfl, hr⟩ := front2 hl
  obtain ⟨y0, y1, y2, rfl⟩ := list3 (show xs.length = 3 from hxl)
  have k3 : Try.prog.cellsOf 3 = 1 := by kernel_rfl
  have f0 := hf 0 ⟨"Op", 3, 0, false, "", "", 0⟩ rfl
  have f1 := hf 1 ⟨"ID", 3, 1, false, "", "", 8⟩ rfl
  have f2 := hf 2 ⟨"Msg", 34, 2, false, "", "", 16⟩ rfl
  have km : Try.prog.cellsOf 34 = 24 := by kernel_rfl
  simp only [k3, km] at f0 f1 f2
  have e2 : (List.take 24 (List.drop 2 (c0 :: c1 :: r))) = r := by
    rw [List.drop_succ_cons, List.drop_succ_cons, List.drop_zero, List.take_of_length_le (by omega)]
  rw [e2] at f2
  obtain ⟨md, hm⟩ := msg_read f2 (fun n hn => hz n (by
    simp only [DataW.weights, Try.underlying36, List.map_cons, List.map_nil, DataW.weightsEach, List.mem_append]
    simp [hn]))
  obtain ⟨i0, e0, _, w0⟩ := DataW.trod_int Try.underlying3 f0
  obtain ⟨i1, e1, _, w1⟩ := DataW.trod_int Try.underlying3 f1
  simp at e0 e1
  obtain ⟨nv, vv, bv, e⟩ := hm.form
  refine ⟨⟨i0, i1, md⟩, nv, vv, bv, ?_, by rw [e] at hm; exact hm⟩
  have er : r = (msgC md nv vv bv).toList := by rw [← e]
  simp [doC, e0, e1, er]
theorem dosM_read {fuel : Nat} {cs : List Value} {x : DataW H × List MemPlace} (h : DataW.trod enc Try.prog w base spare held fuel 22 cs = some x) (hz : ∀ n ∈ DataW.weights Try.prog 22 x.1, n ≤ reachBytes) :
    ∃ v ds, cs = [v] ∧ DosM w v ds := by
  obtain ⟨v, ds, rfl, hb, hr⟩ := rows_read (R := fun cs (d : DoM) => ∃ nv vv bv, cs = doC d nv vv bv ∧ MsgAt (fun k => k < w.heap.size) w (msgC d.msg nv vv bv) d.msg) (k := 26) Try.underlying22 (by kernel_rfl) (by omega) h hz (fun n cs y hy hzy => do_readM hy hzy)
  rcases hr with ⟨rfl, a, c, rfl, hac⟩ | ⟨b, o, c, rfl, hl, hc, hi⟩
  · exact ⟨_, [], rfl, a, c, rfl, fun i hi => absurd hi (Nat.not_lt_zero i)⟩
  · refine ⟨_, ds, rfl, _, c, rfl, fun i hi' => ?_⟩
    obtain ⟨r, ⟨nv, vv, bv, rfl, hm⟩, _, h4⟩ := hi i hi'
    refine ⟨b, o, nv, vv, bv, rfl, ?_, hm, fun j hj => h4 j hj⟩
    exact World.block_lt_of_cell? _ _ (show w.cell? ⟨b, o + i * 26 + 0, none⟩ = some (.int .i64 (ds.getD i default).op) from h4 0 (by omega))
end
end Go.Proofs.Ytfodgohleioflaa
