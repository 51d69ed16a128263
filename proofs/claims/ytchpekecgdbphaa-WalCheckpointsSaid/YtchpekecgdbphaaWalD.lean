/-
  Calls of a log that come in; clones of texts; what is wanted.
-/
import Derived.Test.YtchpekecgdbphaaWalTT
import Derived.Test.YtchpekecgdbphaaWalRead
set_option linter.unusedVariables false
namespace Go.Proofs.Ytchpekecgdbphaa
open Go Go.RowKit Go.MapKept Go.ChangeMaps Go.ChangeShapes Go.WideShapes Go.Deep

/-- A text's clone. -/
structure CloneT (w : World) (r : List Int) (e : Ending) (w' : World) : Prop where
  x : ∃ v, e = .returned v ∧ Own w.heap.size w' v r ∧ (∀ a n c, v = .slice a n c → n ≤ c)
  up : Upd (fun _ => False) w w'
theorem clone_text (w : World) (v : Value) (r : List Int) (h : InT w v r) : Calls Try.prog 12 #[v] w (CloneT w r) := by
  have key : ∀ (a : Addr) (c : Nat), v = .slice (some a) r.length c → (∀ i, i < r.length → w.cell? (a.add i) = some (.int .u8 (r.getD i 0))) → Calls Try.prog 12 #[v] w (CloneT w r) := by
    intro a c hv hc
    subst hv
    refine (Try.bytes_Clone_at a r.length c r w rfl h.few hc).mono ?_
    rintro e w' ⟨v', rfl, ho, _, hb⟩
    refine ⟨⟨v', rfl, ho, fun a n c e => ?_⟩, Upd.of_below hb⟩
    obtain ⟨_, ⟨rfl, _⟩ | ⟨g, cap, cur, rfl, _, _, hn, _⟩⟩ := ho
    · cases e; exact Nat.le_refl _
    · cases e; exact hn
  rcases h.b with ⟨rfl, a, c, rfl⟩ | ⟨k, o, c, rfl, hc⟩
  · cases a with
    | none =>
      refine (Try.bytes_Clone_nil 0 c w).mono ?_
      rintro e w' ⟨rfl, rfl⟩
      exact ⟨⟨_, rfl, Own.nil _ _, fun a n c e => by cases e; exact Nat.le_refl _⟩, Upd.refl _ _⟩
    | some a => exact key a c rfl (fun i hi => absurd hi (Nat.not_lt_zero _))
  · exact key ⟨k, o, none⟩ c rfl (fun i hi => by rw [Addr.add_lit]; exact hc i hi)
/-- What is wanted: texts that came in, in a row of its own. -/
structure Wants (w0 : World) (B : Nat) (w : World) (v : Value) (L : List (List Int)) : Prop where
  row : ∃ xs, w.ownsRow B 28 1 v L.length xs ∧ xs.length = L.length ∧ ∀ i, i < L.length → ∃ sv, xs[i]? = some sv ∧ InT w0 sv (L.getD i [])
theorem Wants.nil (w0 : World) (B : Nat) (w : World) : Wants w0 B w (.slice none 0 0) [] := ⟨[], ⟨rfl, .inl ⟨rfl, rfl⟩⟩, rfl, fun i hi => absurd hi (Nat.not_lt_zero _)⟩
theorem Wants.upd {F : Nat → Prop} {w0 : World} {B : Nat} {w w' : World} {v : Value} {L : List (List Int)} (h : Wants w0 B w v L) (u : Upd F w w') (hF : ∀ k, B ≤ k → some k = v.ownBlock → ¬ F k) : Wants w0 B w' v L := by
  obtain ⟨xs, ⟨h0, h1⟩, h2, h3⟩ := h.row
  refine ⟨xs, ⟨h0, h1.imp id ?_⟩, h2, h3⟩
  rintro ⟨g, cap, cur, hv, hg, hh, r⟩
  have hlt : g < w.heap.size := (Array.getElem?_eq_some_iff.1 hh).1
  exact ⟨g, cap, cur, hv, hg, (u.block g hlt (hF g hg (by rw [hv]; rfl))).trans hh, r⟩
theorem Wants.old {w0 : World} {B : Nat} {w w' : World} {v : Value} {L : List (List Int)} (h : Wants w0 B w v L) (u : Upd (fun _ => False) w w') : Wants w0 B w' v L := h.upd u (fun _ _ _ h => h)
theorem Wants.shape {w0 : World} {B : Nat} {w : World} {v : Value} {L : List (List Int)} (h : Wants w0 B w v L) : ∃ a c, v = .slice a L.length c := by
  obtain ⟨xs, h1, h2, _⟩ := h.row
  obtain ⟨_, ⟨rfl, h0⟩ | ⟨g, cap, cur, rfl, _⟩⟩ := h1
  · rw [h0]; exact ⟨_, _, rfl⟩
  · exact ⟨_, _, rfl⟩
theorem Wants.tag {w0 : World} {B : Nat} {w : World} {v : Value} {L : List (List Int)} (h : Wants w0 B w v L) : ∀ k, some k = v.ownBlock → B ≤ k ∧ k < w.heap.size ∧ ∃ cur, w.heap[k]? = some (.cells cur 28 (0, 0)) := by
  obtain ⟨xs, h1, h2, _⟩ := h.row
  intro k hk
  obtain ⟨_, ⟨rfl, h0⟩ | ⟨g, cap, cur, rfl, hg, hh, _⟩⟩ := h1
  · cases hk
  · cases hk
    exact ⟨hg, (Array.getElem?_eq_some_iff.1 hh).1, cur, hh⟩
theorem Wants.txt {w0 : World} {B : Nat} {w : World} {v : Value} {L : List (List Int)} (h : Wants w0 B w v L) (u : Upd (fun _ => False) w0 w) : Txt w v L := by
  refine ⟨h.shape, fun i hi => ?_⟩
  obtain ⟨xs, h1, h2, h3⟩ := h.row
  obtain ⟨sv, k1, k2⟩ := h3 i hi
  rcases h1.2 with ⟨rfl, h0⟩ | ⟨g, cap, cur, rfl, hg, hh, hn, hm, hs, ht⟩
  · omega
  · refine ⟨g, 0, cap, sv, rfl, ?_, (k2.old u).b⟩
    unfold World.cell?
    rw [hh]
    simp only [Option.isSome_none, Bool.false_eq_true, if_false, Nat.zero_add]
    have e : (cur.toList.take (L.length * 1))[i]? = xs[i]? := by rw [ht]
    rw [List.getElem?_take_of_lt (by omega), k1] at e
    rw [← Array.getElem?_toList, e]
theorem Wants.isB {w0 : World} {B : Nat} {w : World} {v : Value} {L : List (List Int)} (h : Wants w0 B w v L) : ∀ i, i < L.length → IsB (L.getD i []) := fun i hi => by
  obtain ⟨xs, h1, h2, h3⟩ := h.row
  obtain ⟨sv, _, k2⟩ := h3 i hi
  exact k2.is
/-- One more is wanted. -/
theorem wpList_append_want {ops : Array Oper} {rest : List Oper} {o : Oper} {a : Act} {Q : Exit → Act → World → Prop} {w : World} (hgd : o.guard = none) (s x : Operand)
    (ho : o.op = .call { callee := .builtin .append, args := #[s, x], argTypes := #[22, 22] })
    (w0 : World) (B : Nat) (v nv : Value) (L : List (List Int)) (r : List Int) (b c : Nat) (hs : a.eval s = v) (hown : Wants w0 B w v L) (hx : a.eval x = .slice (some ⟨b, 0, none⟩) 1 c) (hb : w.cell? ⟨b, 0, none⟩ = some nv) (hr : InT w0 nv r) (hlen : L.length ≤ 1099511627776) (hB : B ≤ w.heap.size)
    (h : ∀ v' w', Wants w0 B w' v' (L ++ [r]) → Upd (fun k => some k = v.ownBlock) w w' → wpList Try.prog ops Q rest (a.put o.dst v') w') : wpList Try.prog ops Q (o :: rest) a w := by
  obtain ⟨i0, hi, hz0, hz1, hz2⟩ := info_parts info_sl
  obtain ⟨xs, k1, k2, k3⟩ := hown.row
  refine wpList_append_own _ hgd s x 22 ho B 28 i0 _ 1 24 Try.underlying22 hi hz0 hz1 hz2 rfl (by decide) v L.length xs hs k1 ⟨b, 0, none⟩ 1 c [nv] hx rfl ?_ (by intro u hu; simp only [List.mem_cons, List.not_mem_nil, or_false] at hu; rw [hu]; obtain ⟨a, c, rfl, _⟩ := hr.sl; rfl) (by unfold maxLen; omega) (by omega) hB ?_
  · intro j u hu
    cases j with
    | zero => cases hu; rw [Addr.add_lit]; exact hb
    | succ j => cases hu
  · intro v' w' g1 g2 _
    refine h v' w' ⟨xs ++ [nv], by rw [List.length_append]; exact g1, by simp [k2], fun i hi => ?_⟩ (Upd.of_grown g2)
    by_cases e : i = L.length
    · subst e
      refine ⟨nv, by rw [List.getElem?_append_right (by omega), k2]; simp, ?_⟩
      rw [List.getD_eq_getElem?_getD, List.getElem?_append_right (Nat.le_refl _), Nat.sub_self]
      exact hr
    · have hi' : i < L.length := by simp at hi; omega
      obtain ⟨sv, m1, m2⟩ := k3 i hi'
      refine ⟨sv, by rw [List.getElem?_append_left (by omega)]; exact m1, ?_⟩
      rw [List.getD_eq_getElem?_getD, List.getElem?_append_left hi', ← List.getD_eq_getElem?_getD]
      exact m2
/-- A call of a log. -/
structure DoW where
  op : Int
  torn : Int
  n : Int
  txt : List Int
  mask : Int
deriving Inhabited
def DoRow (w : World) (cs : List Value) (d : DoW) : Prop := ∃ rv sa sn sc, InT w rv d.txt ∧ cs = [.int .i64 d.op, .int .i64 d.torn, .int .i64 d.n, rv, .slice sa sn sc, .int .u64 d.mask] ∧ 0 ≤ d.mask ∧ d.mask ≤ 18446744073709551615 ∧ -9223372036854775808 ≤ d.n ∧ d.n ≤ 9223372036854775807
/-- Calls that came in. -/
structure Dos (w : World) (v : Value) (ds : List DoW) : Prop where
  sl : ∃ a c, v = .slice a ds.length c
  few : ds.length ≤ 140737488355328
  at_ : ∀ i, i < ds.length → ∃ b o c r, v = .slice (some ⟨b, o, none⟩) ds.length c ∧ DoRow w r (ds.getD i default) ∧ ∀ j, j < 6 → w.cell? ⟨b, o + i * 6 + j, none⟩ = r[j]?
theorem list6 {α : Type} {l : List α} (h : l.length = 6) : ∃ c0 c1 c2 c3 c4 c5, l = [c0, c1, c2, c3, c4, c5] := by
  match l, h with
  | [c0, c1, c2, c3, c4, c5], _ => exact ⟨c0, c1, c2, c3, c4, c5, rfl⟩
section
variable {H : Type} {enc : TypeId × Value → H} {w : World} {base : Nat} {spare : Nat → Bool} {held : Bool}
theorem do_read {fuel : Nat} {cs : List Value} {x : DataW H × List MemPlace} (h : DataW.trod enc Try.prog w base spare held fuel 36 cs = some x) (hz : ∀ n ∈ DataW.weights Try.prog 36 x.1, n ≤ reachBytes) : ∃ d, DoRow w cs d := by
  obtain ⟨xs, n, _, rfl, hlen, hxl, hf⟩ := DataW.trod_struct Try.underlying36 h
  have hl6 : cs.length = 6 := hlen.trans (by kernel_rfl)
  obtain ⟨c0, c1, c2, c3, c4, c5, rfl⟩ := list6 hl6
  obtain ⟨y0, y1, y2, y3, y4, y5, rfl⟩ := list6 (show xs.length = 6 from hxl)
  have k3 : Try.prog.cellsOf 3 = 1 := by kernel_rfl
  have k28 : Try.prog.cellsOf 28 = 1 := by kernel_rfl
  have k22 : Try.prog.cellsOf 22 = 1 := by kernel_rfl
  have k64 : Try.prog.cellsOf 34 = 1 := by kernel_rfl
  have f0 := hf 0 ⟨"Op", 3, 0, false, "", "", 0⟩ rfl
  have f1 := hf 1 ⟨"Torn", 3, 1, false, "", "", 8⟩ rfl
  have f2 := hf 2 ⟨"N", 3, 2, false, "", "", 16⟩ rfl
  have f3 := hf 3 ⟨"Rec", 28, 3, false, "", "", 24⟩ rfl
  have f4 := hf 4 ⟨"Recs", 22, 4, false, "", "", 48⟩ rfl
  have f5 := hf 5 ⟨"Mask", 34, 5, false, "", "", 72⟩ rfl
  simp only [k3, k28, k22, k64] at f0 f1 f2 f3 f4 f5
  obtain ⟨i0, e0, _, w0⟩ := DataW.trod_int Try.underlying3 f0
  obtain ⟨i1, e1, _, w1⟩ := DataW.trod_int Try.underlying3 f1
  obtain ⟨i2, e2, _, w2⟩ := DataW.trod_int Try.underlying3 f2
  obtain ⟨i5, e5, _, w5⟩ := DataW.trod_int Try.underlying34 f5
  obtain ⟨bv, l, e3, hb⟩ := text_read f3 (fun n hn => hz n (by
    simp only [DataW.weights, Try.underlying36, List.map_cons, List.map_nil, DataW.weightsEach, List.mem_append]
    simp [hn]))
  obtain ⟨kv, kl, e4, hk⟩ := texts_read f4 (fun n hn => hz n (by
    simp only [DataW.weights, Try.underlying36, List.map_cons, List.map_nil, DataW.weightsEach, List.mem_append]
    simp [hn]))
  obtain ⟨ka, kc, rfl⟩ := hk.sl
  simp at e0 e1 e2 e3 e4 e5
  simp only [Lit.wf, Bool.and_eq_true, decide_eq_true_eq] at w2 w5
  have m1 : IntKind.i64.min = -9223372036854775808 := by decide
  have m2 : IntKind.i64.max = 9223372036854775807 := by decide
  have m3 : IntKind.u64.min = 0 := by decide
  have m4 : IntKind.u64.max = 18446744073709551615 := by decide
  exact ⟨⟨i0, i1, i2, l, i5⟩, bv, ka, kl.length, kc, hb, by simp [*], by show 0 ≤ i5; omega, by show i5 ≤ _; omega, by show _ ≤ i2; omega, by show i2 ≤ _; omega⟩
theorem dos_read {fuel : Nat} {cs : List Value} {x : DataW H × List MemPlace} (h : DataW.trod enc Try.prog w base spare held fuel 33 cs = some x) (hz : ∀ n ∈ DataW.weights Try.prog 33 x.1, n ≤ reachBytes) :
    ∃ v ds, cs = [v] ∧ Dos w v ds := by
  obtain ⟨v, ds, rfl, hb, hr⟩ := rows_read (R := DoRow w) (k := 6) Try.underlying33 (by kernel_rfl) (by omega) h hz (fun n cs y hy hzy => do_read hy hzy)
  have hb80 : Try.prog.bytesOf 36 = 80 := by kernel_rfl
  rw [hb80] at hb
  have hfew : ds.length ≤ 140737488355328 := by unfold reachBytes at hb; omega
  rcases hr with ⟨rfl, a, c, rfl, hac⟩ | ⟨b, o, c, rfl, hl, hc, hi⟩
  · exact ⟨_, [], rfl, ⟨⟨_, _, rfl⟩, by simp, fun i hi => absurd hi (Nat.not_lt_zero _)⟩⟩
  · refine ⟨_, ds, rfl, ⟨⟨_, _, rfl⟩, hfew, fun i hi' => ?_⟩⟩
    obtain ⟨r, h2, _, h4⟩ := hi i hi'
    exact ⟨b, o, c, r, rfl, h2, h4⟩
end
end Go.Proofs.Ytchpekecgdbphaa
