/-
  Promise of a node that has not promised: its votes are taken.
-/
import Derived.Test.YtlichkheakjkhaaLead3
namespace Go.Proofs.Ytlichkheakjkhaa
open Go Go.RowKit

structure VoteD where
  slot : Int
  ballot : Int
  cmd : CmdD
instance : Inhabited CmdD := ⟨⟨0, 0, ⟨#[]⟩, 0, 0, 0, 0, 0, 0, 0, 0, []⟩⟩
instance : Inhabited VoteD := ⟨⟨0, 0, default⟩⟩
def VoteD.cells (d : VoteD) (v : Value) : Array Value :=
  #[.int .i64 d.slot, .int .i64 d.ballot, .int .i64 d.cmd.id, .int .i64 d.cmd.kind, .string d.cmd.key, .int .i64 d.cmd.blob, .int .i64 d.cmd.other, .int .i64 d.cmd.index, .int .i64 d.cmd.node, .int .i64 d.cmd.size, .int .u32 d.cmd.sum, .int .i64 d.cmd.k, .int .i64 d.cmd.m, v]
/-- A slice of votes. -/
def Votes (w : World) (v : Value) (ds : List VoteD) : Prop :=
  (ds = [] ∧ ∃ a c, v = .slice a 0 c ∧ (a = none → c = 0)) ∨ ∃ b o c, v = .slice (some ⟨b, o, none⟩) ds.length c ∧ ds.length ≤ 9223372036854775807 ∧ ∀ i, i < ds.length → ∃ nv, Ints w nv (ds.getD i default).cmd.nodes ∧ ∀ j, j < 14 → w.cell? ⟨b, o + i * 14 + j, none⟩ = ((ds.getD i default).cells nv)[j]?
theorem vote_cells {w : World} {vb o : Nat} {d : VoteD} {nv : Value} (hc : ∀ j, j < 14 → w.cell? ⟨vb, o + j, none⟩ = (d.cells nv)[j]?) :
    w.cell? ⟨vb, o, none⟩ = some (.int .i64 d.slot) ∧ w.cell? ⟨vb, o + 1, none⟩ = some (.int .i64 d.ballot) ∧ w.cell? ⟨vb, o + 2, none⟩ = some (.int .i64 d.cmd.id) ∧ w.cell? ⟨vb, o + 3, none⟩ = some (.int .i64 d.cmd.kind) ∧
    w.cell? ⟨vb, o + 4, none⟩ = some (.string d.cmd.key) ∧ w.cell? ⟨vb, o + 5, none⟩ = some (.int .i64 d.cmd.blob) ∧ w.cell? ⟨vb, o + 6, none⟩ = some (.int .i64 d.cmd.other) ∧ w.cell? ⟨vb, o + 7, none⟩ = some (.int .i64 d.cmd.index) ∧
    w.cell? ⟨vb, o + 8, none⟩ = some (.int .i64 d.cmd.node) ∧ w.cell? ⟨vb, o + 9, none⟩ = some (.int .i64 d.cmd.size) ∧ w.cell? ⟨vb, o + 10, none⟩ = some (.int .u32 d.cmd.sum) ∧ w.cell? ⟨vb, o + 11, none⟩ = some (.int .i64 d.cmd.k) ∧
    w.cell? ⟨vb, o + 12, none⟩ = some (.int .i64 d.cmd.m) ∧ w.cell? ⟨vb, o + 13, none⟩ = some nv :=
  ⟨hc 0 (by omega), hc 1 (by omega), hc 2 (by omega), hc 3 (by omega), hc 4 (by omega), hc 5 (by omega), hc 6 (by omega), hc 7 (by omega), hc 8 (by omega), hc 9 (by omega), hc 10 (by omega), hc 11 (by omega), hc 12 (by omega), hc 13 (by omega)⟩
/-- What is bound, as a function. -/
def Bound (w : World) (B : List (Int × Value)) (f : Int → Option VoteD) : Prop :=
  ∀ k, match f k with
    | none => aget B k = none
    | some d => ∃ nv, aget B k = some (.agg (d.cells nv)) ∧ d.slot = k ∧ Ints w nv d.cmd.nodes
/-- A vote is heard. -/
def hear (frm : Int) (f : Int → Option VoteD) (d : VoteD) : Int → Option VoteD :=
  if frm ≤ d.slot ∧ (f d.slot = none ∨ ∃ was, f d.slot = some was ∧ was.ballot < d.ballot) then (fun k => if k = d.slot then some d else f k) else f

theorem hear_yes {frm : Int} {f : Int → Option VoteD} {d : VoteD} (h : frm ≤ d.slot) (h' : f d.slot = none ∨ ∃ was, f d.slot = some was ∧ was.ballot < d.ballot) : hear frm f d = fun k => if k = d.slot then some d else f k := by
  unfold hear; rw [if_pos ⟨h, h'⟩]

theorem hear_no {frm : Int} {f : Int → Option VoteD} {d : VoteD} (h : ¬ (frm ≤ d.slot ∧ (f d.slot = none ∨ ∃ was, f d.slot = some was ∧ was.ballot < d.ballot))) : hear frm f d = f := by
  unfold hear; rw [if_neg h]

def PromisePost (w : World) (b m1 m2 m3 : Nat) (ballot frm : Int) (P _B O : List (Int × Value)) (f : Int → Option VoteD) (node : Int) (ds : List VoteD) (e : Ending) (w' : World) : Prop :=
  e = .returned (.int .i64 0) ∧ ∃ B', TryAt w' b m1 m2 m3 ballot frm (aput P node (.bool true)) B' O ∧ Bound w' B' (ds.foldl (hear frm) f) ∧ Upd (fun k => k = m1 ∨ k = m2) w w'

theorem Bound.upd {F : Nat → Prop} {w w' : World} {B : List (Int × Value)} {f : Int → Option VoteD} (h : Bound w B f) (u : Upd F w w') (hF : ∀ k, F k → (w.im k).isSome = true) : Bound w' B f := by
  intro k
  have := h k
  cases hf : f k with
  | none => rw [hf] at this; exact this
  | some d =>
    rw [hf] at this
    obtain ⟨nv, h1, h2, h3⟩ := this
    exact ⟨nv, h1, h2, h3.updM u hF⟩
theorem Bound.put {w : World} {B : List (Int × Value)} {f : Int → Option VoteD} (h : Bound w B f) (d : VoteD) (nv : Value) (hv : Ints w nv d.cmd.nodes) (m : Nat) (key : Value) (v : Value) :
    Bound (w.mput m key v) (aput B d.slot (.agg (d.cells nv))) (fun k => if k = d.slot then some d else f k) := by
  intro k
  show match (if k = d.slot then some d else f k) with | none => _ | some d' => _
  by_cases e : k = d.slot
  · subst e
    rw [if_pos rfl]
    exact ⟨nv, by rw [aget_aput, if_pos rfl], rfl, hv.mput _ _ _⟩
  · rw [if_neg e]
    have := h k
    cases hf : f k with
    | none => rw [hf] at this; simp only []; rw [aget_aput, if_neg e]; exact this
    | some x =>
      rw [hf] at this
      obtain ⟨nv', h1, h2, h3⟩ := this
      simp only []
      exact ⟨nv', by rw [aget_aput, if_neg e]; exact h1, h2, h3.mput _ _ _⟩

def PromiseRel (w : World) (b m1 m2 m3 : Nat) (ballot frm : Int) (P O : List (Int × Value)) (f : Int → Option VoteD) (ds : List VoteD) (i : Value) (wr : World) : Prop :=
  ∃ (k : Nat) (Bk : List (Int × Value)), k ≤ ds.length ∧ i = .int .i64 k ∧ TryAt wr b m1 m2 m3 ballot frm P Bk O ∧ Bound wr Bk ((ds.take k).foldl (hear frm) f) ∧ Upd (fun k => k = m1 ∨ k = m2) w wr

theorem take_hear (ds : List VoteD) (k : Nat) (h : k < ds.length) (frm : Int) (f : Int → Option VoteD) : (ds.take (k + 1)).foldl (hear frm) f = hear frm ((ds.take k).foldl (hear frm) f) (ds.getD k default) := by
  rw [List.take_succ_eq_append_getElem h, List.foldl_append, List.getD_eq_getElem?_getD, List.getElem?_eq_getElem h]
  rfl

theorem promise_skip {w wr w' : World} {b m1 m2 m3 : Nat} {ballot frm : Int} {P Bk O : List (Int × Value)} {f : Int → Option VoteD} {ds : List VoteD} {k : Nat}
    (hlt : k < ds.length) (hT : TryAt wr b m1 m2 m3 ballot frm P Bk O) (hB : Bound wr Bk ((ds.take k).foldl (hear frm) f)) (hU : Upd (fun k => k = m1 ∨ k = m2) w wr) (hW : Upd (fun _ => False) wr w')
    (hy : hear frm ((ds.take k).foldl (hear frm) f) (ds.getD k default) = (ds.take k).foldl (hear frm) f) :
    PromiseRel w b m1 m2 m3 ballot frm P O f ds (.int .i64 ((k : Int) + 1)) w' :=
  ⟨k + 1, Bk, hlt, by go_num, hT.upd hW (fun h => h) (fun h => h) (fun h => h) (fun h => h), by rw [take_hear ds k hlt, hy]; exact hB.upd hW (fun _ h => h.elim), hU.trans (hW.mono (fun _ _ h => h.elim))⟩

theorem promise_step {w wr w1 w2 w' : World} {b m1 m2 m3 : Nat} {ballot frm : Int} {P Bk O : List (Int × Value)} {f : Int → Option VoteD} {ds : List VoteD} {k : Nat} {d : VoteD} {nv : Value} {B0 : Nat}
    (hlt : k < ds.length) (hT : TryAt wr b m1 m2 m3 ballot frm P Bk O) (hB : Bound wr Bk ((ds.take k).foldl (hear frm) f)) (hU : Upd (fun k => k = m1 ∨ k = m2) w wr) (hW : Upd (fun _ => False) wr w1)
    (hv : Ints w1 nv d.cmd.nodes) (hf : Fresh B0 nv) (hB0 : wr.heap.size < B0) (hW2 : Upd (fun k => k = wr.heap.size) w1 w2) (hd : ds.getD k default = d)
    (hy : hear frm ((ds.take k).foldl (hear frm) f) d = fun k' => if k' = d.slot then some d else (ds.take k).foldl (hear frm) f k')
    (he : w' = (w2.mput m2 (.int .i64 d.slot) (.agg (d.cells nv))).drew) :
    PromiseRel w b m1 m2 m3 ballot frm P O f ds (.int .i64 ((k : Int) + 1)) w' := by
  subst he
  obtain ⟨l0, l1, l2, l3⟩ := hT.lts
  have hV2 : Upd (fun _ => False) wr w2 := hW.trans' hW2 (fun k hk e => by omega)
  refine ⟨k + 1, _, hlt, by go_num, ((hT.upd hV2 (fun h => h) (fun h => h) (fun h => h) (fun h => h)).put2 d.slot _).drew, ?_, ?_⟩
  · rw [take_hear ds k hlt, hd, hy]
    exact (hB.upd hV2 (fun _ h => h.elim)).put d nv (hv.upd hW2 (fun b' o n c hb _ e => by have := hf b' o n c hb; omega)) _ _ _
  · exact ((hU.trans (hV2.mono (fun _ _ h => h.elim))).mput (Or.inl (Or.inr rfl)) _ _).drew

set_option maxHeartbeats 1500000 in
theorem promise_new (node : Int) (w : World) (b m1 m2 m3 : Nat) (ballot frm : Int) (P B O : List (Int × Value)) (f : Int → Option VoteD) (v : Value) (ds : List VoteD) (hb : 1 ≤ ballot) (h : TryAt w b m1 m2 m3 ballot frm P B O)
    (hB : Bound w B f) (hv : Votes w v ds) (h0 : 0 ≤ node) (h1 : node < 16) (hp : aget P node = none) :
    Calls Try.prog 10 #[.pointer (some ⟨b, 0, none⟩), .int .i64 node, v] w (PromisePost w b m1 m2 m3 ballot frm P B O f node ds) := by
  have hs : stateR node = 0 := by rw [stateR, if_pos (by omega)]
  have hl := look_bool
  have hpu := put_bool
  have c2 := h.c2
  have i1 := h.i1
  obtain ⟨lb, l1, l2, l3⟩ := h.lts
  have hT1 := h.put1 node (.bool true)
  have hU1 : Upd (fun k => k = m1 ∨ k = m2) w (w.mput m1 (.int .i64 node) (.bool true)) := (Upd.refl _ _).mput (Or.inl (Or.inl rfl)) _ _
  have hB1 : Bound (w.mput m1 (.int .i64 node) (.bool true)) B f := hB.upd hU1 (fun k hk => by rcases hk with rfl | rfl; rw [h.i1]; rfl; rw [h.i2]; rfl)
  have HH := Lib.hid h
  have HT1 := Lib.hid hT1; clear hT1
  have HU1 := Lib.hid hU1; clear hU1
  have HB1 := Lib.hid hB1; clear hB1
  rcases hv with ⟨rfl, va, vc, rfl, _⟩ | ⟨vb, vo, vc, rfl, hlen, hel⟩
  · go_enter Try.func10, Try.ntmps10
    go_wp2_with (go_at_call 34; refine (state_any _ _ _ _ _ hb h.c0 h.c1).mono ?_; rintro e w' ⟨rfl, rfl⟩)
    refine wp_loop_rounds 1 ?_
    rw [rounds_succ]
    go_wp2
    go_ret
    exact ⟨rfl, B, HT1.out, HB1.out, HU1.out⟩
  · have HE := Lib.hid hel; clear hel
    have HB := Lib.hid hB; clear hB
    have HT := Lib.hid h
    go_enter Try.func10, Try.ntmps10
    go_wp2_with (go_at_call 34; refine (state_any _ _ _ _ _ hb h.c0 h.c1).mono ?_; rintro e w' ⟨rfl, rfl⟩)
    clear hl hpu c2 i1 h
    go_loopw [31] (fun i wr => PromiseRel w b m1 m2 m3 ballot frm (aput P node (.bool true)) O f ds i wr) (fun i _ => ds.length - (intOf i).toNat)
    case atStart => exact ⟨0, B, Nat.zero_le _, rfl, HT1.out, HB1.out, HU1.out⟩
    case round =>
      obtain ⟨k, Bk, hk, rfl, hTk, hBk, hUk⟩ := hrel
      by_cases hlt : k < ds.length
      · obtain ⟨nv, hnv, hc⟩ := HE.out k hlt
        generalize hd : ds.getD k default = d at hnv hc
        have hsl := Lib.hid hd; clear hd
        have HB' := Lib.hid hBk; clear hBk
        have HU' := Lib.hid hUk; clear hUk
        have HT' := Lib.hid hTk
        have HN := Lib.hid hnv; clear hnv
        have hvb : vb < w.heap.size := by have := World.block_lt_of_cell? _ _ (hc 0 (by omega)); simpa using this
        have hvi : w.im vb = none := cell_im (hc 0 (by omega))
        obtain ⟨d0, d1, d2, d3, d4, d5, d6, d7, d8, d9, d10, d11, d12, d13⟩ := vote_cells (w := wr) (fun j hj => (HU'.out.cell (p := ⟨vb, vo + k * 14 + j, none⟩) hvb (by
          intro e
          have e' : vb = m1 ∨ vb = m2 := e
          rcases e' with e' | e'
          · rw [e', HH.out.i1] at hvi; cases hvi
          · rw [e', HH.out.i2] at hvi; cases hvi)).trans (hc j hj))
        clear hc hvi
        have hnv : Ints wr nv d.cmd.nodes := HN.out.updM HU'.out (fun k hk => by rcases hk with rfl | rfl; rw [HH.out.i1]; rfl; rw [HH.out.i2]; rfl)
        obtain ⟨na, nc, rfl⟩ := HN.out.shape
        have tc3 := hTk.c3
        have tc1 := hTk.c1
        have ti2 := hTk.i2
        have lv := look_vote
        have lb' := hTk.lts.1
        have lm2 := hTk.lts.2.2.1
        clear hTk
        have pv := put_vote
        have hBs := HB'.out d.slot
        cases hfk : (ds.take k).foldl (hear frm) f d.slot with
        | none =>
          rw [hfk] at hBs
          simp only [] at hBs
          by_cases hge : frm ≤ d.slot
          · have hge' : decide (frm ≤ d.slot) = true := by simpa using hge
            have HY := Lib.hid (hear_yes (f := (ds.take k).foldl (hear frm) f) hge (Or.inl hfk))
            clear hfk
            go_wp2_with fail
            go_region
            go_wp2_with fail
            go_quiet (fail)
            go_wp2_with fail
            refine (own_any d.cmd _ _ ?_).mono ?_
            · exact hnv.old (((((Upd.refl (fun _ => False) _).alloc _).alloc _).drewN _))
            rintro e w' ⟨v', rfl, hv, hf, hn, hu⟩
            obtain ⟨va, vc', rfl⟩ := hv.shape
            have HV := Lib.hid hv; clear hv
            have HF := Lib.hid hf; clear hf
            have HN' := Lib.hid hn; clear hn
            have HU2 := Lib.hid hu
            obtain ⟨r1, r2, r3, r4⟩ := hu.old
            clear hu
            simp at r4
            have U3 : Upd (fun _ => False) wr w' := ((((Upd.refl _ _).alloc _).alloc _).drewN _).trans HU2.out
            have wc3 := (U3.cell (p := ⟨b, 3, none⟩) lb' (fun h => h)).trans tc3
            have wi2 := (U3.im lm2 (fun h => h)).trans ti2
            have HU3 := Lib.hid U3; clear U3
            simp only [CmdD.cells]
            go_wp2_with fail
            go_region
            go_wp2_with fail
            go_roundw
            case rel =>
              refine promise_step hlt HT'.out HB'.out HU'.out HU3.out HV.out HF.out ?_ ?_ hsl.out HY.out rfl
              · simp; omega
              · iterate 12 (refine Upd.setCell ?_ (by exact Or.inl rfl) _)
                exact Upd.refl _ _
            case measure => simp [intOf]; omega
          · have hge' : decide (frm ≤ d.slot) = false := by simpa using hge
            have HY : Hid (hear frm ((ds.take k).foldl (hear frm) f) (ds.getD k default) = (ds.take k).foldl (hear frm) f) := by
              unfold Hid; rw [hsl.out]; exact hear_no (fun h => hge h.1)
            clear hfk
            go_wp2_with fail
            go_region
            go_wp2_with fail
            go_quiet (fail)
            go_wp2_with fail
            go_roundw
            case rel => exact promise_skip hlt HT'.out HB'.out HU'.out ((((Upd.refl _ _).alloc _).alloc _).drewN _) HY.out
            case measure => simp [intOf]; omega
        | some wd =>
          rw [hfk] at hBs
          obtain ⟨wv, hg, _, hwi⟩ := hBs
          obtain ⟨wa, wc, rfl⟩ := hwi.shape
          clear hwi
          simp only [VoteD.cells] at hg
          by_cases hge : frm ≤ d.slot
          · have hge' : decide (frm ≤ d.slot) = true := by simpa using hge
            by_cases hgt : wd.ballot < d.ballot
            · have HY := Lib.hid (hear_yes (f := (ds.take k).foldl (hear frm) f) hge (Or.inr ⟨wd, hfk, hgt⟩))
              clear hfk
              go_wp2_with fail
              go_region
              go_wp2_with fail
              go_quiet (fail)
              go_wp2_with fail
              refine (own_any d.cmd _ _ ?_).mono ?_
              · exact hnv.old (((((Upd.refl (fun _ => False) _).alloc _).alloc _).drewN _))
              rintro e w' ⟨v', rfl, hv, hf, hn, hu⟩
              obtain ⟨va, vc', rfl⟩ := hv.shape
              have HV := Lib.hid hv; clear hv
              have HF := Lib.hid hf; clear hf
              have HN' := Lib.hid hn; clear hn
              have HU2 := Lib.hid hu
              obtain ⟨r1, r2, r3, r4⟩ := hu.old
              clear hu
              simp at r4
              have U3 : Upd (fun _ => False) wr w' := ((((Upd.refl _ _).alloc _).alloc _).drewN _).trans HU2.out
              have wc3 := (U3.cell (p := ⟨b, 3, none⟩) lb' (fun h => h)).trans tc3
              have wi2 := (U3.im lm2 (fun h => h)).trans ti2
              have HU3 := Lib.hid U3; clear U3
              simp only [CmdD.cells]
              go_wp2_with fail
              go_region
              go_wp2_with fail
              go_roundw
              case rel =>
                refine promise_step hlt HT'.out HB'.out HU'.out HU3.out HV.out HF.out ?_ ?_ hsl.out HY.out rfl
                · simp; omega
                · iterate 12 (refine Upd.setCell ?_ (by exact Or.inl rfl) _)
                  exact Upd.refl _ _
              case measure => simp [intOf]; omega
            · have HY : Hid (hear frm ((ds.take k).foldl (hear frm) f) (ds.getD k default) = (ds.take k).foldl (hear frm) f) := by
                unfold Hid; rw [hsl.out]; exact hear_no (fun h => by rcases h.2 with h | ⟨x, h, h'⟩; rw [hfk] at h; cases h; rw [hfk] at h; cases h; exact hgt h')
              clear hfk
              go_wp2_with fail
              go_region
              go_wp2_with fail
              go_quiet (fail)
              go_wp2_with fail
              go_roundw
              case rel => exact promise_skip hlt HT'.out HB'.out HU'.out ((((Upd.refl _ _).alloc _).alloc _).drewN _) HY.out
              case measure => simp [intOf]; omega
          · have hge' : decide (frm ≤ d.slot) = false := by simpa using hge
            have HY : Hid (hear frm ((ds.take k).foldl (hear frm) f) (ds.getD k default) = (ds.take k).foldl (hear frm) f) := by
              unfold Hid; rw [hsl.out]; exact hear_no (fun h => hge h.1)
            clear hfk
            go_wp2_with fail
            go_region
            go_wp2_with fail
            go_quiet (fail)
            go_wp2_with fail
            go_roundw
            case rel => exact promise_skip hlt HT'.out HB'.out HU'.out ((((Upd.refl _ _).alloc _).alloc _).drewN _) HY.out
            case measure => simp [intOf]; omega
      · go_wp2
        go_ret
        obtain rfl : k = ds.length := by omega
        rw [List.take_length] at hBk
        exact ⟨rfl, Bk, hTk, hBk, hUk⟩
end Go.Proofs.Ytlichkheakjkhaa
