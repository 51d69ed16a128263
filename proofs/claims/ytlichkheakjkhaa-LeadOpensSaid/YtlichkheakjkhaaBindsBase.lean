/-
  LeadBinds: what the walk's cuts and loops say.
-/
import Derived.Test.YtlichkheakjkhaaLeadRead
import Derived.Test.YtlichkheakjkhaaLead6
import Derived.Deep.DeepCutAuto
import Derived.Deep.CutBlock
import Derived.Deep.DeepMust
namespace Go.Proofs.Ytlichkheakjkhaa
open Go Go.RowKit

def un4 (x : Int) : Int := IntKind.u64.wrap x % 4
def un8 (x : Int) : Int := IntKind.u64.wrap x % 8
theorem un4_bd (x : Int) : 0 ≤ un4 x ∧ un4 x ≤ 3 := by unfold un4; omega
theorem un8_bd (x : Int) : 0 ≤ un8 x ∧ un8 x ≤ 7 := by unfold un8; omega
theorem u64_nn (x : Int) : 0 ≤ IntKind.u64.wrap x := by
  rw [IntKind.wrap_u64]; omega
theorem un4_is (x : Int) : wrap64 ((IntKind.u64.wrap x).tmod 4) = un4 x := by
  have h := u64_nn x
  unfold un4
  rw [Int.tmod_eq_emod_of_nonneg h]
  unfold wrap64; omega
theorem un4_add (x : Int) : wrap64 (1 + un4 x) = 1 + un4 x := by
  have := un4_bd x
  unfold wrap64; omega
theorem un8_is (x : Int) : wrap64 ((IntKind.u64.wrap x).tmod 8) = un8 x := by
  have h := u64_nn x
  unfold un8
  rw [Int.tmod_eq_emod_of_nonneg h]
  unfold wrap64; omega
theorem info_vote : (Try.prog.info? 38).map (fun i => (i.zero, i.size, i.bytes)) = some (some (.agg #[.int .i64 0, .int .i64 0, .int .i64 0, .int .i64 0, .string ⟨#[]⟩, .int .i64 0, .int .i64 0, .int .i64 0, .int .i64 0, .int .i64 0, .int .u32 0, .int .i64 0, .int .i64 0, .slice none 0 0]), 14, 136) := by kernel_rfl
/-- A vote as the law turns it. -/
def turned (v : VoteD) : VoteD := ⟨1 + un4 v.slot, un8 v.ballot, ⟨un8 v.ballot, 0, ⟨#[]⟩, 0, 0, 0, 0, 0, 0, 0, 0, []⟩⟩
theorem look_int (w : World) (b : Nat) (k : Int) (ok : Bool) : (Instr.lookup 27 (.map (some b)) (.int .i64 k) ok).run Try.prog w =
    lookR (.int .i64 0) w k (LookElse Try.prog 27 b k ok w) ok (w.im b) :=
  run_lookup_any Try.underlying27 Try.underlying3 (fun _ => by kernel_rfl) w b k ok
theorem put_int (w : World) (b : Nat) (k : Int) (v : Value) : (Instr.mapUpdate 27 (.map (some b)) (.int .i64 k) v).run Try.prog w = putR w b k v (PutElse Try.prog 27 b k v w) (w.im b) :=
  run_mapUpdate_any Try.underlying27 Try.underlying3 w b k v

theorem do_cells {w : World} {vb o : Nat} {d : DoD} {nv vv : Value} (hc : ∀ j, j < 16 → w.cell? ⟨vb, o + j, none⟩ = (d.cells nv vv)[j]?) :
    w.cell? ⟨vb, o, none⟩ = some (.int .i64 d.op) ∧ w.cell? ⟨vb, o + 1, none⟩ = some (.int .i64 d.node) ∧ w.cell? ⟨vb, o + 2, none⟩ = some (.int .i64 d.slot) ∧ w.cell? ⟨vb, o + 3, none⟩ = some (.int .i64 d.cmd.id) ∧ w.cell? ⟨vb, o + 4, none⟩ = some (.int .i64 d.cmd.kind) ∧
    w.cell? ⟨vb, o + 5, none⟩ = some (.string d.cmd.key) ∧ w.cell? ⟨vb, o + 6, none⟩ = some (.int .i64 d.cmd.blob) ∧ w.cell? ⟨vb, o + 7, none⟩ = some (.int .i64 d.cmd.other) ∧ w.cell? ⟨vb, o + 8, none⟩ = some (.int .i64 d.cmd.index) ∧
    w.cell? ⟨vb, o + 9, none⟩ = some (.int .i64 d.cmd.node) ∧ w.cell? ⟨vb, o + 10, none⟩ = some (.int .i64 d.cmd.size) ∧ w.cell? ⟨vb, o + 11, none⟩ = some (.int .u32 d.cmd.sum) ∧ w.cell? ⟨vb, o + 12, none⟩ = some (.int .i64 d.cmd.k) ∧
    w.cell? ⟨vb, o + 13, none⟩ = some (.int .i64 d.cmd.m) ∧ w.cell? ⟨vb, o + 14, none⟩ = some nv ∧ w.cell? ⟨vb, o + 15, none⟩ = some vv :=
  ⟨hc 0 (by omega), hc 1 (by omega), hc 2 (by omega), hc 3 (by omega), hc 4 (by omega), hc 5 (by omega), hc 6 (by omega), hc 7 (by omega), hc 8 (by omega), hc 9 (by omega), hc 10 (by omega), hc 11 (by omega), hc 12 (by omega), hc 13 (by omega), hc 14 (by omega), hc 15 (by omega)⟩
theorem Votes.shape {w : World} {v : Value} {ds : List VoteD} (h : Votes w v ds) : ∃ a c, v = .slice a ds.length c := by
  rcases h with ⟨rfl, a, c, hv, _⟩ | ⟨b, o, c, hv, _⟩
  · exact ⟨_, _, hv⟩
  · exact ⟨_, _, hv⟩
def promB (l : List DoD) (n : Int) : Bool := (l.any fun d => decide (d.node = n)) && decide (0 ≤ n ∧ n < 16)
/-- The law's own map says what is bound. -/
def Rel (f : Int → Option VoteD) (S : List (Int × Value)) : Prop :=
  ∀ s, match f s with | none => aget S s = none | some d => aget S s = some (.int .i64 d.ballot) ∧ d.cmd.id = d.ballot
structure Inv (w : World) (ds : List DoD) (b m1 m2 m3 mb : Nat) (k : Nat) (f : Int → Option VoteD) (P B S : List (Int × Value)) (wr : World) : Prop where
  try_ : TryAt wr b m1 m2 m3 9 1 P B []
  bound : Bound wr B f
  best : wr.im mb = some S
  prom : ∀ n, aget P n = if promB (ds.take k) n then some (.bool true) else none
  rel : Rel f S
  small : ∀ s, f s ≠ none → 1 ≤ s ∧ s ≤ 4
  up : Upd (fun _ => False) w wr
theorem Inv.old {w wr w' : World} {ds : List DoD} {b m1 m2 m3 mb k : Nat} {f : Int → Option VoteD} {P B S : List (Int × Value)} (h : Inv w ds b m1 m2 m3 mb k f P B S wr) (u : Upd (fun _ => False) wr w') : Inv w ds b m1 m2 m3 mb k f P B S w' :=
  ⟨h.try_.old u, h.bound.upd u (fun _ h => h.elim), (u.im (im_lt (w := wr) (by rw [h.best]; rfl)) (fun h => h)).trans h.best, h.prom, h.rel, h.small, h.up.trans u⟩
theorem Inv.smallB {w wr : World} {ds : List DoD} {b m1 m2 m3 mb k : Nat} {f : Int → Option VoteD} {P B S : List (Int × Value)} (h : Inv w ds b m1 m2 m3 mb k f P B S wr) : Go.Proofs.Ytlichkheakjkhaa.small B := by
  intro p hp
  have h1 : (aget B p.1).isSome = true := by
    rw [← ahas_aget]
    exact List.any_eq_true.2 ⟨p, hp, by simp⟩
  have h2 := h.bound p.1
  cases hf : f p.1 with
  | none => rw [hf] at h2; simp only [] at h2; rw [h2] at h1; cases h1
  | some d => have := h.small p.1 (by rw [hf]; simp); omega
/-- What stays over the whole call. -/
structure Lo (w : World) (b m1 m2 m3 mb : Nat) : Prop where
  nb : mb ≠ m1 ∧ mb ≠ m2 ∧ mb ≠ m3
  lo : w.heap.size ≤ b ∧ w.heap.size ≤ m1 ∧ w.heap.size ≤ m2 ∧ w.heap.size ≤ m3 ∧ w.heap.size ≤ mb

/-- The cells of the turned votes. -/
def flatV (l : List VoteD) : List Value := l.flatMap fun x => ((turned x).cells (.slice none 0 0)).toList
def CutA (wo : World) (d : DoD) (v : Value) (wc : World) : Prop :=
  wc.ownsRow (wo.heap.size + 1) 38 14 v d.votes.length (flatV d.votes) ∧ Upd (fun _ => False) wo wc ∧ wo.heap.size < wc.heap.size ∧ wc.cell? ⟨wo.heap.size, 1, none⟩ = some (.int .i64 d.node)
def LoopA (wo : World) (d : DoD) (v i : Value) (wr : World) : Prop :=
  ∃ q : Nat, q ≤ d.votes.length ∧ i = .int .i64 q ∧ wr.ownsRow (wo.heap.size + 1) 38 14 v q (flatV (d.votes.take q)) ∧ Upd (fun _ => False) wo wr ∧ wo.heap.size < wr.heap.size ∧ wr.cell? ⟨wo.heap.size, 1, none⟩ = some (.int .i64 d.node)
def LoopB (wc : World) (ds : List DoD) (d : DoD) (k : Nat) (fr i : Value) (wr : World) : Prop :=
  ∃ q : Nat, q ≤ k ∧ i = .int .i64 q ∧ fr = .bool ((ds.take q).all fun x => decide (x.node ≠ d.node)) ∧ Upd (fun _ => False) wc wr
theorem loopB_step {wc wr w' : World} {ds : List DoD} {d x : DoD} {k q : Nat} {bb : Bool} (hq : q < k) (hk : k < ds.length) (hx : ds.getD q default = x) (hb : ((ds.take q).all fun x => decide (x.node ≠ d.node)) = bb)
    (hu : Upd (fun _ => False) wc wr) (hw : Upd (fun _ => False) wr w') (c : Bool) (hc : c = (bb && (x.node != d.node))) : LoopB wc ds d k (.bool c) (.int .i64 ((q : Int) + 1)) w' := by
  refine ⟨q + 1, hq, by go_num, ?_, hu.trans hw⟩
  have hlt : q < ds.length := by omega
  rw [List.take_succ_eq_append_getElem hlt, List.all_append, hb, hc]
  rw [List.getD_eq_getElem?_getD, List.getElem?_eq_getElem hlt] at hx
  simp only [Option.getD_some] at hx
  rw [hx]
  simp [bne]
  rfl
theorem flatV_step (l : List VoteD) (q : Nat) (h : q < l.length) : flatV (l.take (q + 1)) = flatV (l.take q) ++ ((turned (l.getD q default)).cells (.slice none 0 0)).toList := by
  unfold flatV
  rw [List.take_succ_eq_append_getElem h, List.flatMap_append, List.getD_eq_getElem?_getD, List.getElem?_eq_getElem h]
  simp
theorem Upd.of_grown {w w' : World} {r : Option Nat} (h : w.grownBy w' r) : Upd (fun b => some b = r) w w' := ⟨h.os, h.tape, h.output, h.size, fun k hk hF => h.block k hk hF⟩
theorem loopA_step {wo wr W w' : World} {d : DoD} {q : Nat} {x : VoteD} {v v' : Value} (hq : q < d.votes.length) (hx : d.votes.getD q default = x) (hown : wr.ownsRow (wo.heap.size + 1) 38 14 v q (flatV (d.votes.take q)))
    (hown' : w'.ownsRow (wo.heap.size + 1) 38 14 v' (q + 1) (flatV (d.votes.take q) ++ ((turned x).cells (.slice none 0 0)).toList)) (hg : W.grownBy w' v.ownBlock) (hW : Upd (fun _ => False) wr W)
    (huq : Upd (fun _ => False) wo wr) (hsz : wo.heap.size < wr.heap.size) (hcn : wr.cell? ⟨wo.heap.size, 1, none⟩ = some (.int .i64 d.node)) : LoopA wo d v' (.int .i64 ((q : Int) + 1)) w' := by
  have hl := hown.lt
  have u1 : Upd (fun _ => False) wo W := huq.trans hW
  have u2 : Upd (fun _ => False) wo w' := u1.trans' (Upd.of_grown hg) (fun i hi e => by have := (hl i e.symm).1; omega)
  refine ⟨q + 1, hq, by go_num, ?_, u2, by have := hW.size; have := hg.size; omega, ?_⟩
  · rw [flatV_step _ _ hq, hx]; exact hown'
  · rw [(Upd.of_grown hg).cell (p := ⟨wo.heap.size, 1, none⟩) (by have := hW.size; show wo.heap.size < _; omega) (fun e => by have := (hl _ e.symm).1; simp only [] at this; omega), hW.cell (p := ⟨wo.heap.size, 1, none⟩) hsz (fun h => h)]
    exact hcn
theorem owns_upd {F : Nat → Prop} {w w' : World} {base : Nat} {e : TypeId} {k : Nat} {v : Value} {n : Nat} {xs : List Value} (h : w.ownsRow base e k v n xs) (u : Upd F w w') (hF : ∀ b, base ≤ b → b < w.heap.size → w.im b = none → ¬ F b) : w'.ownsRow base e k v n xs := by
  have hl := h.lt
  obtain ⟨h1, h2⟩ := h
  refine ⟨h1, h2.imp id ?_⟩
  rintro ⟨g, cap, cur, hv, hg, hh, r⟩
  have hlt : g < w.heap.size := (Array.getElem?_eq_some_iff.1 hh).1
  have hi : w.im g = none := by unfold World.im; rw [hh]
  exact ⟨g, cap, cur, hv, hg, (u.block g hlt (hF g hg hlt hi)).trans hh, r⟩
def CutB (wo : World) (d : DoD) (l : List DoD) (fr : Value) (v : Value) (wc : World) : Prop :=
  CutA wo d v wc ∧ fr = .bool (l.all fun x => decide (x.node ≠ d.node))

/-- Whether a promise is a new one. -/
def newB (l : List DoD) (d : DoD) : Bool := decide (0 ≤ d.node ∧ d.node < 16) && l.all fun x => decide (x.node ≠ d.node)
/-- Behind the promise. -/
def CutP (w _wo : World) (ds : List DoD) (b m1 m2 m3 mb : Nat) (k : Nat) (d : DoD) (f : Int → Option VoteD) (S : List (Int × Value)) (v c : Value) (wc : World) : Prop :=
  c = .bool (newB (ds.take k) d) ∧ ∃ P' B', TryAt wc b m1 m2 m3 9 1 P' B' [] ∧ Bound wc B' (if newB (ds.take k) d then (d.votes.map turned).foldl (hear 1) f else f) ∧ wc.im mb = some S ∧
    (∀ n, aget P' n = if promB (ds.take (k + 1)) n then some (.bool true) else none) ∧ Votes wc v (d.votes.map turned) ∧ Upd (fun _ => False) w wc
/-- Behind the votes. -/
def CutC (w : World) (ds : List DoD) (b m1 m2 m3 mb : Nat) (k : Nat) (wc : World) : Prop := ∃ f P B S, Inv w ds b m1 m2 m3 mb (k + 1) f P B S wc

theorem flat_get {α : Type} [Inhabited α] (g : α → List Value) (k : Nat) (hg : ∀ x, (g x).length = k) : ∀ (l : List α) (i j : Nat), i < l.length → j < k → (l.flatMap g)[i * k + j]? = (g (l.getD i default))[j]?
  | [], i, j, hi, _ => absurd hi (Nat.not_lt_zero i)
  | x :: r, 0, j, _, hj => by
    rw [List.flatMap_cons, List.getElem?_append_left (by rw [hg]; omega)]
    simp
  | x :: r, i + 1, j, hi, hj => by
    have hi' : i < r.length := by simpa using hi
    have := flat_get g k hg r i j hi' hj
    rw [List.flatMap_cons, List.getElem?_append_right (by rw [hg, Nat.succ_mul]; omega), hg]
    have e : (i + 1) * k + j - k = i * k + j := by rw [Nat.succ_mul]; omega
    rw [e, this]
    simp
theorem Votes.upd {F : Nat → Prop} {w w' : World} {v : Value} {ds : List VoteD} (h : Votes w v ds) (u : Upd F w w') (hF : ∀ k, F k → (w.im k).isSome = true) : Votes w' v ds := by
  rcases h with h | ⟨b, o, c, hv, hl, hi⟩
  · exact .inl h
  · refine .inr ⟨b, o, c, hv, hl, fun i hi' => ?_⟩
    obtain ⟨nv, h1, h2⟩ := hi i hi'
    refine ⟨nv, h1.updM u hF, fun j hj => ?_⟩
    have h3 := h2 j hj
    rw [← h3]
    have hj' : j < ((ds.getD i default).cells nv).size := hj
    rw [Array.getElem?_eq_getElem hj'] at h3
    exact u.cell (World.block_lt_of_cell? _ _ h3) (fun hf => by have := hF _ hf; rw [cell_im h3] at this; cases this)
theorem votes_of_owns {w : World} {base : Nat} {v : Value} {l : List VoteD} (h : w.ownsRow base 38 14 v l.length (flatV l)) : Votes w v (l.map turned) := by
  obtain ⟨hlen, ⟨rfl, h0⟩ | ⟨g, cap, cur, rfl, hg, hh, hn, hm, hs, ht⟩⟩ := h
  · exact .inl ⟨by rw [List.eq_nil_of_length_eq_zero h0]; rfl, _, _, rfl, fun _ => rfl⟩
  · refine .inr ⟨g, 0, cap, by simp, by unfold maxLen at hm; simp; omega, fun i hi => ?_⟩
    have hi' : i < l.length := by simpa using hi
    have e : (l.map turned).getD i default = turned (l.getD i default) := by
      rw [List.getD_eq_getElem?_getD, List.getD_eq_getElem?_getD, List.getElem?_map, List.getElem?_eq_getElem hi']; rfl
    refine ⟨.slice none 0 0, by rw [e]; exact Ints.nil w, fun j hj => ?_⟩
    rw [e]
    have h1 := flat_get (fun x => ((turned x).cells (.slice none 0 0)).toList) 14 (fun _ => rfl) l i j hi' hj
    have h2 : ((turned (l.getD i default)).cells (.slice none 0 0))[j]? = (flatV l)[i * 14 + j]? := by unfold flatV; rw [h1]; simp
    have hb : i * 14 + j < l.length * 14 := by omega
    rw [h2, ← ht, List.getElem?_take, if_pos hb]
    unfold World.cell?
    rw [hh]
    simp
theorem promB_step {ds : List DoD} {k : Nat} {d : DoD} (hk : k < ds.length) (hd : ds.getD k default = d) (n : Int) : promB (ds.take (k + 1)) n = (promB (ds.take k) n || (decide (d.node = n) && decide (0 ≤ n ∧ n < 16))) := by
  rw [List.getD_eq_getElem?_getD, List.getElem?_eq_getElem hk] at hd
  simp only [Option.getD_some] at hd
  unfold promB
  rw [List.take_succ_eq_append_getElem hk, List.any_append, hd]
  simp only [List.any_cons, List.any_nil, Bool.or_false]
  cases (ds.take k).any fun d => decide (d.node = n) <;> cases decide (d.node = n) <;> simp
theorem newB_prom {l : List DoD} {d : DoD} (h : newB l d = true) : 0 ≤ d.node ∧ d.node < 16 ∧ (l.all fun x => decide (x.node ≠ d.node)) = true ∧ promB l d.node = false := by
  unfold newB at h
  rw [Bool.and_eq_true, decide_eq_true_eq] at h
  refine ⟨h.1.1, h.1.2, h.2, ?_⟩
  unfold promB
  have : (l.any fun x => decide (x.node = d.node)) = false := by
    rw [List.any_eq_false]
    intro x hx
    have := List.all_eq_true.1 h.2 x hx
    simpa using this
  rw [this]; rfl
theorem newB_not {l : List DoD} {d : DoD} (h : newB l d = false) (h0 : 0 ≤ d.node) (h1 : d.node < 16) : (l.all fun x => decide (x.node ≠ d.node)) = false ∧ promB l d.node = true := by
  unfold newB at h
  rw [decide_eq_true ⟨h0, h1⟩, Bool.true_and] at h
  refine ⟨h, ?_⟩
  unfold promB
  obtain ⟨x, hx, hx'⟩ := List.all_eq_false.1 h
  rw [Bool.and_eq_true]
  exact ⟨List.any_eq_true.2 ⟨x, hx, by simpa using hx'⟩, by simp [h0, h1]⟩

def LoopC (wc : World) (d : DoD) (f : Int → Option VoteD) (mb : Nat) (i : Value) (wr : World) : Prop :=
  ∃ (q : Nat) (Sq : List (Int × Value)), q ≤ d.votes.length ∧ i = .int .i64 q ∧ wr.im mb = some Sq ∧ Rel (((d.votes.map turned).take q).foldl (hear 1) f) Sq ∧ Upd (fun b => b = mb) wc wr

theorem hear_small : ∀ (l : List VoteD) (f : Int → Option VoteD), (∀ s, f s ≠ none → 1 ≤ s ∧ s ≤ 4) → (∀ v ∈ l, 1 ≤ v.slot ∧ v.slot ≤ 4) → ∀ s, l.foldl (hear 1) f s ≠ none → 1 ≤ s ∧ s ≤ 4
  | [], f, hf, _, s, h => hf s h
  | v :: l, f, hf, hl, s, h => by
    refine hear_small l (hear 1 f v) (fun s hs => ?_) (fun u hu => hl u (.tail _ hu)) s h
    unfold hear at hs
    split at hs
    · by_cases e : s = v.slot
      · subst e; exact hl v (.head _)
      · simp only [e, if_false] at hs; exact hf s hs
    · exact hf s hs
theorem take_turned {d : DoD} {f : Int → Option VoteD} {q : Nat} {x : VoteD} (hq : q < d.votes.length) (hx : (d.votes.map turned).getD q default = x) : ((d.votes.map turned).take (q + 1)).foldl (hear 1) f = hear 1 (((d.votes.map turned).take q).foldl (hear 1) f) x := by
  rw [take_hear _ _ (by simpa using hq), hx]
theorem loopC_skip {wc wr W : World} {d : DoD} {f : Int → Option VoteD} {mb q : Nat} {Sq : List (Int × Value)} {x : VoteD} (hq : q < d.votes.length) (hx : (d.votes.map turned).getD q default = x) (hS : wr.im mb = some Sq)
    (hR : Rel (((d.votes.map turned).take q).foldl (hear 1) f) Sq) (hu : Upd (fun b => b = mb) wc wr) (hW : Upd (fun _ => False) wr W) (hy : hear 1 (((d.votes.map turned).take q).foldl (hear 1) f) x = ((d.votes.map turned).take q).foldl (hear 1) f) :
    LoopC wc d f mb (.int .i64 ((q : Int) + 1)) W :=
  ⟨q + 1, Sq, hq, by go_num, (hW.im (im_lt (w := wr) (by rw [hS]; rfl)) (fun h => h)).trans hS, by rw [take_turned hq hx, hy]; exact hR, hu.trans (hW.mono (fun _ _ h => h.elim))⟩
theorem loopC_put {wc wr W w' : World} {d : DoD} {f : Int → Option VoteD} {mb q : Nat} {Sq : List (Int × Value)} {x : VoteD} (hq : q < d.votes.length) (hx : (d.votes.map turned).getD q default = x) (hS : wr.im mb = some Sq)
    (hR : Rel (((d.votes.map turned).take q).foldl (hear 1) f) Sq) (hu : Upd (fun b => b = mb) wc wr) (hW : Upd (fun _ => False) wr W) (hy : hear 1 (((d.votes.map turned).take q).foldl (hear 1) f) x = fun k => if k = x.slot then some x else ((d.votes.map turned).take q).foldl (hear 1) f k)
    (hid : x.cmd.id = x.ballot) (he : w' = W.mput mb (.int .i64 x.slot) (.int .i64 x.ballot)) : LoopC wc d f mb (.int .i64 ((q : Int) + 1)) w' := by
  subst he
  have hS' := (hW.im (im_lt (w := wr) (by rw [hS]; rfl)) (fun h => h)).trans hS
  refine ⟨q + 1, _, hq, by go_num, im_mput_same hS' _, ?_, (hu.trans (hW.mono (fun _ _ h => h.elim))).mput (Or.inl rfl) _ _⟩
  rw [take_turned hq hx, hy]
  intro s
  have := hR s
  by_cases e : s = x.slot
  · simp only [e, if_true]
    exact ⟨by rw [aget_aput, if_pos rfl], hid⟩
  · simp only [e, if_false]
    cases hf : ((d.votes.map turned).take q).foldl (hear 1) f s with
    | none => rw [hf] at this; simp only []; rw [aget_aput, if_neg e]; exact this
    | some y => rw [hf] at this; simp only []; exact ⟨by rw [aget_aput, if_neg e]; exact this.1, this.2⟩

def InvEx (w : World) (ds : List DoD) (b m1 m2 m3 mb : Nat) (i : Value) (wr : World) : Prop :=
  ∃ (k : Nat) (f : Int → Option VoteD) (P B S : List (Int × Value)), k ≤ ds.length ∧ i = .int .i64 k ∧ Inv w ds b m1 m2 m3 mb k f P B S wr

def TruePost (w : World) (e : Ending) (w' : World) : Prop := e = .returned (.bool true) ∧ Upd (fun _ => False) w w'

/-- A statement of a function, found by its number. -/
def blockAt (n : Nat) : Code → Option Code
  | .block m c => if m = n then some (.block m c) else blockAt n c
  | .seq a b => match blockAt n a with
    | some c => some c
    | none => blockAt n b
  | .cond _ a b => match blockAt n a with
    | some c => some c
    | none => blockAt n b
  | .loop c => blockAt n c
  | .scope c => blockAt n c
  | _ => none
end Go.Proofs.Ytlichkheakjkhaa
