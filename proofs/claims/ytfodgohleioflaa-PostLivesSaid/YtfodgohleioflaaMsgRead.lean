/-
  A message that comes in, whole.
-/
import Derived.Test.YtfodgohleioflaaPostRead
import Derived.Test.YtfodgohleioflaaPostD
namespace Go.Proofs.Ytfodgohleioflaa
open Go Go.RowKit Go.ChangeShapes Go.WideShapes Go.Deep

theorem front2' {l : List Value} {n : Nat} (h : l.length = n + 2) : ∃ c0 c1 r, l = c0 :: c1 :: r ∧ r.length = n := by
  match l, h with
  | c0 :: c1 :: r, h => exact ⟨c0, c1, r, rfl, by simpa using h⟩
section
variable {H : Type} {enc : TypeId × Value → H} {w : World} {base : Nat} {spare : Nat → Bool} {held : Bool}
theorem inn_row {v : Value} {k : Nat} {rows : List (List Value)} (h : Row w v k rows) (hk0 : 0 < k) : Inn (fun b => b < w.heap.size) v := by
  intro b o n c hv hn
  rcases h with ⟨rfl, a, c', hv', _⟩ | ⟨b', o', cap, hv', _, hk, hc⟩
  · rw [hv] at hv'; cases hv'; omega
  · rw [hv] at hv'; cases hv'
    have h0 := hc 0 0 hn hk0
    have hr : rows.getD 0 [] ∈ rows := by rw [List.getD_eq_getElem?_getD, List.getElem?_eq_getElem hn]; exact List.getElem_mem hn
    rw [List.getElem?_eq_getElem (by rw [hk _ hr]; exact hk0)] at h0
    exact World.block_lt_of_cell? _ _ h0
theorem vots_of {v : Value} {vs : List VoteD} (hb : vs.length * Try.prog.bytesOf 71 ≤ reachBytes) (h : (vs = [] ∧ ∃ a c, v = .slice a 0 c ∧ (a = none → c = 0)) ∨ ∃ b o c, v = .slice (some ⟨b, o, none⟩) vs.length c ∧ vs.length ≤ c ∧ c ≤ 9223372036854775807 ∧
      ∀ i, i < vs.length → ∃ r, (∃ nv, r = voteC (vs.getD i default) nv ∧ Ints w nv (vs.getD i default).nodes) ∧ r.length = 14 ∧ ∀ j, j < 14 → w.cell? ⟨b, o + i * 14 + j, none⟩ = r[j]?) : Vots w v vs := by
  have hb' : vs.length * 136 ≤ 140737488355328 := by
    have : Try.prog.bytesOf 71 = 136 := by kernel_rfl
    rw [this] at hb; unfold reachBytes at hb; omega
  rcases h with ⟨rfl, a, c, rfl, hac⟩ | ⟨b, o, c, rfl, hl, _, hi⟩
  · exact ⟨[], rfl, .inl ⟨rfl, a, c, rfl, hac⟩, by simp, fun i hi => absurd hi (Nat.not_lt_zero i)⟩
  · obtain ⟨nvs, hnl, hp⟩ := exists_list (p := fun i nv => Ints w nv (vs.getD i default).nodes ∧ ∀ j, j < 14 → w.cell? ⟨b, o + i * 14 + j, none⟩ = (voteC (vs.getD i default) nv)[j]?) vs.length (fun i h => by
      obtain ⟨r, ⟨nv, rfl, hn⟩, _, hc⟩ := hi i h
      exact ⟨nv, hn, hc⟩)
    have hdef : ∀ i, i < vs.length → nvs.getD i default = nvs.getD i undef := fun i h => by
      rw [List.getD_eq_getElem?_getD, List.getD_eq_getElem?_getD, List.getElem?_eq_getElem (by omega)]; rfl
    have hz := zip_length hnl
    refine ⟨nvs, hnl, .inr ⟨b, o, c, by rw [hz], by omega, fun r hr => ?_, fun i j h1 h2 => ?_⟩, hb', fun i h => by rw [← hdef i h]; exact (hp i h).1⟩
    · obtain ⟨i, e⟩ := List.mem_iff_getElem?.1 hr
      have h1 := (List.getElem?_eq_some_iff.1 e).1
      have := zip_get hnl (i := i) (by omega)
      rw [List.getD_eq_getElem?_getD, e] at this
      simp only [Option.getD_some] at this
      rw [this]; rfl
    · rw [zip_get hnl (by omega), ← hdef i (by omega)]
      exact (hp i (by omega)).2 j h2
theorem ints_read {fuel : Nat} {cs : List Value} {x : DataW H × List MemPlace} (h : DataW.trod enc Try.prog w base spare held fuel 28 cs = some x) (hz : ∀ n ∈ DataW.weights Try.prog 28 x.1, n ≤ reachBytes) :
    ∃ v l, cs = [v] ∧ Ints w v l ∧ ∀ y ∈ l, (Lit.int .i64 y).wf = true := by
  rcases open_ints Try.underlying28 Try.underlying3 (by kernel_rfl) h with ⟨rfl, rfl⟩ | ⟨a, len, cap, zs, rfl, hb, hl, hm, hlen, rfl, hc, hwf⟩
  · exact ⟨_, [], rfl, Ints.nil w, by simp⟩
  · have hle : len ≤ zs.length := by split at hlen <;> omega
    have hz' : len * 8 ≤ reachBytes := by
      have := hz ((len + (zs.length - len)) * 8) (by
        simp only [DataW.weights, Try.underlying28]
        have hb8 : Try.prog.bytesOf 3 = 8 := by kernel_rfl
        rw [hb8]
        refine List.mem_cons.2 (Or.inl ?_)
        simp [ChangeShapes.lits]
        omega)
      omega
    refine ⟨_, zs.take len, rfl, ?_, fun y hy => hwf y (List.mem_of_mem_take hy)⟩
    have hlt : (zs.take len).length = len := by simp; omega
    by_cases h0 : len = 0
    · subst h0
      rw [List.take_zero]; exact Ints.empty w a cap
    · have hs := add_none (hc 0 (by omega))
      have := Ints.mk (w := w) (b := a.block) (o := a.off) (cap := cap) (l := zs.take len) (by omega) (by unfold reachBytes at hz'; omega) (fun j hj => by
        have h1 := hc j (by omega)
        rw [add_lit' hs] at h1
        rw [h1]
        congr 2
        rw [List.getD_eq_getElem?_getD, List.getD_eq_getElem?_getD, List.getElem?_take, if_pos (by omega)])
      rw [hlt] at this
      have e : a = ⟨a.block, a.off, none⟩ := by cases a; simp_all
      rw [e]; exact this

theorem bytes_read {fuel : Nat} {cs : List Value} {x : DataW H × List MemPlace} (h : DataW.trod enc Try.prog w base spare held fuel 32 cs = some x) (hz : ∀ n ∈ DataW.weights Try.prog 32 x.1, n ≤ reachBytes) :
    ∃ v l, cs = [v] ∧ Byts w v l := by
  rcases open_ints Try.underlying32 Try.underlying5 (by kernel_rfl) h with ⟨rfl, rfl⟩ | ⟨a, len, cap, zs, rfl, hb, hl, hm, hlen, rfl, hc, hwf⟩
  · exact ⟨_, [], rfl, Row.nil w 1, by simp⟩
  · have hle : len ≤ zs.length := by split at hlen <;> omega
    have hz' : len ≤ reachBytes := by
      have := hz ((len + (zs.length - len)) * 1) (by
        simp only [DataW.weights, Try.underlying32]
        have hb8 : Try.prog.bytesOf 5 = 1 := by kernel_rfl
        rw [hb8]
        refine List.mem_cons.2 (Or.inl ?_)
        simp [ChangeShapes.lits]
        omega)
      omega
    have hlt : (zs.take len).length = len := by simp; omega
    refine ⟨_, zs.take len, rfl, ?_, by rw [hlt]; unfold reachBytes at hz'; omega⟩
    by_cases h0 : len = 0
    · subst h0
      rw [List.take_zero]; exact Row.empty w 1 a cap
    · have hs := add_none (hc 0 (by omega))
      have e : a = ⟨a.block, a.off, none⟩ := by cases a; simp_all
      refine .inr ⟨a.block, a.off, cap, by rw [List.length_map, hlt, ← e], by rw [List.length_map, hlt]; exact hl, fun r hr => by obtain ⟨y, _, rfl⟩ := List.mem_map.1 hr; rfl, fun i j hi hj => ?_⟩
      rw [List.length_map, hlt] at hi
      obtain rfl : j = 0 := by omega
      have h1 := hc i (by omega)
      rw [add_lit' hs] at h1
      simp only [Nat.mul_one, Nat.add_zero]
      rw [h1, List.getD_eq_getElem?_getD, List.getD_eq_getElem?_getD, List.getElem?_map, List.getElem?_take, if_pos hi, List.getElem?_eq_getElem (by omega)]
      rfl
theorem cmd_read {fuel : Nat} {cs : List Value} {x : DataW H × List MemPlace} (h : DataW.trod enc Try.prog w base spare held fuel 30 cs = some x) (hz : ∀ n ∈ DataW.weights Try.prog 30 x.1, n ≤ reachBytes) :
    ∃ d nv l, cs = (cmdC d nv).toList ∧ Ints w nv l := by
  obtain ⟨xs, n, _, rfl, hlen, hxl, hf⟩ := DataW.trod_struct Try.underlying30 h
  have hl12 : cs.length = 12 := hlen.trans (by kernel_rfl)
  obtain ⟨c0, c1, c2, c3, c4, c5, c6, c7, c8, c9, c10, c11, rfl⟩ := list12 hl12
  obtain ⟨y0, y1, y2, y3, y4, y5, y6, y7, y8, y9, y10, rfl⟩ := list11 (show xs.length = 11 from hxl)
  have k3 : Try.prog.cellsOf 3 = 1 := by kernel_rfl
  have k9 : Try.prog.cellsOf 9 = 1 := by kernel_rfl
  have k28 : Try.prog.cellsOf 25 = 1 := by kernel_rfl
  have k30 : Try.prog.cellsOf 27 = 2 := by kernel_rfl
  have k31 : Try.prog.cellsOf 28 = 1 := by kernel_rfl
  have f0 := hf 0 ⟨"ID", 3, 0, false, "", "", 0⟩ rfl
  have f1 := hf 1 ⟨"Kind", 3, 1, false, "", "", 8⟩ rfl
  have f2 := hf 2 ⟨"Key", 9, 2, false, "", "", 16⟩ rfl
  have f3 := hf 3 ⟨"Blob", 3, 3, false, "", "", 32⟩ rfl
  have f4 := hf 4 ⟨"Other", 3, 4, false, "", "", 40⟩ rfl
  have f5 := hf 5 ⟨"Index", 3, 5, false, "", "", 48⟩ rfl
  have f6 := hf 6 ⟨"Node", 3, 6, false, "", "", 56⟩ rfl
  have f7 := hf 7 ⟨"Size", 3, 7, false, "", "", 64⟩ rfl
  have f8 := hf 8 ⟨"Sum", 25, 8, false, "", "", 72⟩ rfl
  have f9 := hf 9 ⟨"Code", 27, 9, false, "", "", 80⟩ rfl
  have f10 := hf 10 ⟨"Nodes", 28, 11, false, "", "", 96⟩ rfl
  simp only [k3, k9, k28, k30, k31] at f0 f1 f2 f3 f4 f5 f6 f7 f8 f9 f10
  obtain ⟨i0, e0, _, w0⟩ := DataW.trod_int Try.underlying3 f0
  obtain ⟨i1, e1, _, w1⟩ := DataW.trod_int Try.underlying3 f1
  obtain ⟨s2, e2, _, w2⟩ := DataW.trod_string Try.underlying9 f2
  obtain ⟨i3, e3, _, w3⟩ := DataW.trod_int Try.underlying3 f3
  obtain ⟨i4, e4, _, w4⟩ := DataW.trod_int Try.underlying3 f4
  obtain ⟨i5, e5, _, w5⟩ := DataW.trod_int Try.underlying3 f5
  obtain ⟨i6, e6, _, w6⟩ := DataW.trod_int Try.underlying3 f6
  obtain ⟨i7, e7, _, w7⟩ := DataW.trod_int Try.underlying3 f7
  obtain ⟨i8, e8, _, w8⟩ := DataW.trod_int Try.underlying25 f8
  obtain ⟨v10, l10, e10, hi, hwf⟩ := ints_read f10 (fun n hn => hz n (by
    simp only [DataW.weights, Try.underlying30, List.map_cons, List.map_nil, DataW.weightsEach, List.mem_append]
    simp [hn]))
  obtain ⟨zs, n2, _, _, hlen2, hxl2, hf2⟩ := DataW.trod_struct Try.underlying27 f9
  obtain ⟨z0, z1, rfl⟩ := list2 (show zs.length = 2 from hxl2)
  have g0 := hf2 0 ⟨"K", 3, 0, false, "", "", 0⟩ rfl
  have g1 := hf2 1 ⟨"M", 3, 1, false, "", "", 8⟩ rfl
  simp only [k3] at g0 g1
  obtain ⟨j0, d0, _, u0⟩ := DataW.trod_int Try.underlying3 g0
  obtain ⟨j1, d1, _, u1⟩ := DataW.trod_int Try.underlying3 g1
  simp at e0 e1 e2 e3 e4 e5 e6 e7 e8 e10 d0 d1
  refine ⟨⟨i0, i1, s2, i3, i4, i5, i6, i7, i8, j0, j1⟩, v10, l10, ?_, hi⟩
  simp [cmdC, *]

theorem vote_read {fuel : Nat} {cs : List Value} {x : DataW H × List MemPlace} (h : DataW.trod enc Try.prog w base spare held fuel 71 cs = some x) (hz : ∀ n ∈ DataW.weights Try.prog 71 x.1, n ≤ reachBytes) :
    ∃ d nv, cs = voteC d nv ∧ Ints w nv d.nodes := by
  obtain ⟨xs, n, _, rfl, hlen, hxl, hf⟩ := DataW.trod_struct Try.underlying71 h
  have hl14 : cs.length = 14 := hlen.trans (by kernel_rfl)
  obtain ⟨y0, y1, y2, rfl⟩ := list3 (show xs.length = 3 from hxl)
  have k3 : Try.prog.cellsOf 3 = 1 := by kernel_rfl
  have k33 : Try.prog.cellsOf 30 = 12 := by kernel_rfl
  have f0 := hf 0 ⟨"Slot", 3, 0, false, "", "", 0⟩ rfl
  have f1 := hf 1 ⟨"Ballot", 3, 1, false, "", "", 8⟩ rfl
  have f2 := hf 2 ⟨"Cmd", 30, 2, false, "", "", 16⟩ rfl
  simp only [k3, k33] at f0 f1 f2
  obtain ⟨i0, e0, _, w0⟩ := DataW.trod_int Try.underlying3 f0
  obtain ⟨i1, e1, _, w1⟩ := DataW.trod_int Try.underlying3 f1
  obtain ⟨d, nv, l, e2, hi⟩ := cmd_read f2 (fun n hn => hz n (by
    simp only [DataW.weights, Try.underlying71, List.map_cons, List.map_nil, DataW.weightsEach, List.mem_append]
    simp [hn]))
  refine ⟨⟨i0, i1, d, l⟩, nv, ?_, hi⟩
  obtain ⟨c0, c1, r, rfl, hr⟩ := front2' hl14
  simp at e0 e1 e2
  rw [List.take_of_length_le (by omega)] at e2
  rw [e0, e1, e2]
  simp [voteC, cmdC]

set_option maxHeartbeats 1000000 in
theorem msg_read {fuel : Nat} {cs : List Value} {x : DataW H × List MemPlace} (h : DataW.trod enc Try.prog w base spare held fuel 34 cs = some x) (hz : ∀ n ∈ DataW.weights Try.prog 34 x.1, n ≤ reachBytes) :
    ∃ d : MsgD, MsgAt (fun k => k < w.heap.size) w cs.toArray d := by
  obtain ⟨xs, n, _, rfl, hlen, hxl, hf⟩ := DataW.trod_struct Try.underlying34 h
  have hl : cs.length = 24 := hlen.trans (by kernel_rfl)
  obtain ⟨c0, c1, c2, c3, c4, c5, c6, c7, c8, c9, c10, c11, c12, c13, c14, c15, c16, c17, c18, c19, c20, c21, c22, c23, rfl⟩ := list24 hl
  obtain ⟨y0, y1, y2, y3, y4, y5, y6, y7, y8, y9, y10, y11, y12, rfl⟩ := list13 (show xs.length = 13 from hxl)
  have k3 : Try.prog.cellsOf 3 = 1 := by kernel_rfl
  have k4 : Try.prog.cellsOf 4 = 1 := by kernel_rfl
  have kc : Try.prog.cellsOf 30 = 12 := by kernel_rfl
  have kv : Try.prog.cellsOf 31 = 1 := by kernel_rfl
  have kb : Try.prog.cellsOf 32 = 1 := by kernel_rfl
  have f0 := hf 0 ⟨"Kind", 3, 0, false, "", "", 0⟩ rfl
  have f1 := hf 1 ⟨"From", 3, 1, false, "", "", 8⟩ rfl
  have f2 := hf 2 ⟨"To", 3, 2, false, "", "", 16⟩ rfl
  have f3 := hf 3 ⟨"Ballot", 3, 3, false, "", "", 24⟩ rfl
  have f4 := hf 4 ⟨"Slot", 3, 4, false, "", "", 32⟩ rfl
  have f5 := hf 5 ⟨"Blob", 3, 5, false, "", "", 40⟩ rfl
  have f6 := hf 6 ⟨"Index", 3, 6, false, "", "", 48⟩ rfl
  have f7 := hf 7 ⟨"Epoch", 3, 7, false, "", "", 56⟩ rfl
  have f8 := hf 8 ⟨"ID", 3, 8, false, "", "", 64⟩ rfl
  have f9 := hf 9 ⟨"OK", 4, 9, false, "", "", 72⟩ rfl
  have f10 := hf 10 ⟨"Cmd", 30, 10, false, "", "", 80⟩ rfl
  have f11 := hf 11 ⟨"Votes", 31, 22, false, "", "", 200⟩ rfl
  have f12 := hf 12 ⟨"Bytes", 32, 23, false, "", "", 224⟩ rfl
  simp only [k3, k4, kc, kv, kb] at f0 f1 f2 f3 f4 f5 f6 f7 f8 f9 f10 f11 f12
  obtain ⟨i0, e0, _, _⟩ := DataW.trod_int Try.underlying3 f0
  obtain ⟨i1, e1, _, _⟩ := DataW.trod_int Try.underlying3 f1
  obtain ⟨i2, e2, _, _⟩ := DataW.trod_int Try.underlying3 f2
  obtain ⟨i3, e3, _, _⟩ := DataW.trod_int Try.underlying3 f3
  obtain ⟨i4, e4, _, _⟩ := DataW.trod_int Try.underlying3 f4
  obtain ⟨i5, e5, _, _⟩ := DataW.trod_int Try.underlying3 f5
  obtain ⟨i6, e6, _, _⟩ := DataW.trod_int Try.underlying3 f6
  obtain ⟨i7, e7, _, _⟩ := DataW.trod_int Try.underlying3 f7
  obtain ⟨i8, e8, _, _⟩ := DataW.trod_int Try.underlying3 f8
  obtain ⟨i9, e9, _⟩ := DataW.trod_bool Try.underlying4 f9
  obtain ⟨dc, nv, nl, e10, hn⟩ := cmd_read f10 (fun n hn => hz n (by
    simp only [DataW.weights, Try.underlying34, List.map_cons, List.map_nil, DataW.weightsEach, List.mem_append]
    simp [hn]))
  obtain ⟨vv, vs, e11, hb, hv⟩ := rows_read (R := fun cs (d : VoteD) => ∃ nv, cs = voteC d nv ∧ Ints w nv d.nodes) (k := 14) Try.underlying31 (by kernel_rfl) (by omega) f11 (fun n hn => hz n (by
    simp only [DataW.weights, Try.underlying34, List.map_cons, List.map_nil, DataW.weightsEach, List.mem_append]
    simp [hn])) (fun n cs y hy hzy => by obtain ⟨d, nv, h1, h2⟩ := vote_read hy hzy; exact ⟨d, nv, h1, h2⟩)
  obtain ⟨bv, bl, e12, hby⟩ := bytes_read f12 (fun n hn => hz n (by
    simp only [DataW.weights, Try.underlying34, List.map_cons, List.map_nil, DataW.weightsEach, List.mem_append]
    simp [hn]))
  clear f0 f1 f2 f3 f4 f5 f6 f7 f8 f9 f10 f11 f12 hf
  simp at e0 e1 e2 e3 e4 e5 e6 e7 e8 e9 e11 e12
  simp [cmdC] at e10
  obtain ⟨r0, r1, r2, r3, r4, r5, r6, r7, r8, r9, r10, r11⟩ := e10
  subst e0 e1 e2 e3 e4 e5 e6 e7 e8 e9 r0 r1 r2 r3 r4 r5 r6 r7 r8 r9 r10 r11 e11 e12
  have hvots := vots_of hb hv
  refine ⟨⟨i0, i1, i2, i3, i4, i5, i6, i7, i8, i9, dc, nl, vs, bl⟩, _, _, _, rfl, hn, inn_row hn.1 (by omega), hvots, ?_, ?_, hby, inn_row hby.1 (by omega)⟩
  · obtain ⟨nvs, _, h2, _, _⟩ := hvots
    exact inn_row h2 (by omega)
  · intro b o n c e i hi u hu
    obtain ⟨a, c', e', _, hcs⟩ := hvots.cells
    rw [e] at e'
    injection e' with e1 e2 _
    subst e2
    obtain ⟨b', o', e3, nv', hn', hc⟩ := hcs i hi
    rw [← e1] at e3
    injection e3 with e3
    injection e3 with eb eo _
    subst eb eo
    have h13 : w.cell? ⟨b, o + i * 14 + 13, none⟩ = some nv' := hc 13 (by omega)
    rw [h13] at hu
    cases hu
    exact inn_row hn'.1 (by omega)
end
end Go.Proofs.Ytfodgohleioflaa
