/-
  Words of this seat's proofs that hang on no program: what a call may have changed (Upd), maps with whole-number keys as lists (im, mput, mdel).
-/
import Derived.WalkKit
import Derived.MapKept
import Derived.Lib.Hide
import Derived.Deep.Draws
set_option linter.unusedVariables false
namespace Go.Proofs.YtmpjbolopgccpaaGreat
open Go Go.MapKept

/-- Of the blocks that were there, only those in F may have changed; the streams are as they were. -/
structure Upd (F : Nat → Prop) (w w' : World) : Prop where
  os : w'.os = w.os
  tape : w'.tape = w.tape
  output : w'.output = w.output
  size : w.heap.size ≤ w'.heap.size
  block : ∀ k, k < w.heap.size → ¬ F k → w'.heap[k]? = w.heap[k]?

theorem Upd.refl (F : Nat → Prop) (w : World) : Upd F w w := ⟨rfl, rfl, rfl, Nat.le_refl _, fun _ _ _ => rfl⟩
theorem Upd.trans {F : Nat → Prop} {a b c : World} (h : Upd F a b) (k : Upd F b c) : Upd F a c :=
  ⟨k.os.trans h.os, k.tape.trans h.tape, k.output.trans h.output, Nat.le_trans h.size k.size,
   fun i hi hF => (k.block i (Nat.lt_of_lt_of_le hi h.size) hF).trans (h.block i hi hF)⟩
/-- Two steps; what the second one may change was new. -/
theorem Upd.trans' {F G : Nat → Prop} {a b c : World} (h : Upd F a b) (k : Upd G b c) (hG : ∀ i, i < a.heap.size → ¬ G i) : Upd F a c :=
  ⟨k.os.trans h.os, k.tape.trans h.tape, k.output.trans h.output, Nat.le_trans h.size k.size,
   fun i hi hF => (k.block i (Nat.lt_of_lt_of_le hi h.size) (hG i hi)).trans (h.block i hi hF)⟩
theorem Upd.mono {F G : Nat → Prop} {a b : World} (h : Upd F a b) (hFG : ∀ k, k < a.heap.size → F k → G k) : Upd G a b :=
  ⟨h.os, h.tape, h.output, h.size, fun i hi hG => h.block i hi (fun hF => hG (hFG i hi hF))⟩
theorem Upd.cell {F : Nat → Prop} {w w' : World} (h : Upd F w w') {p : Addr} (hp : p.block < w.heap.size) (hF : ¬ F p.block) : w'.cell? p = w.cell? p :=
  World.cell?_of_block (w := w) (h.block p.block hp hF)
theorem Upd.frozen {F : Nat → Prop} {w w' : World} (h : Upd F w w') {p : Addr} (hp : p.block < w.heap.size) (hF : ¬ F p.block) : w'.frozen? p = w.frozen? p :=
  World.frozen?_of_block (w := w) (h.block p.block hp hF)
theorem Upd.alloc {F : Nat → Prop} {a w : World} (h : Upd F a w) (o : Obj) : Upd F a (w.alloc o) :=
  h.trans ⟨rfl, rfl, rfl, by simp, fun k hk _ => (heap_alloc w o).2 k hk⟩
theorem Upd.drew {F : Nat → Prop} {a w : World} (h : Upd F a w) : Upd F a w.drew := ⟨h.os, h.tape, h.output, h.size, h.block⟩
theorem Upd.drewN {F : Nat → Prop} {a w : World} (h : Upd F a w) (n : Nat) : Upd F a (w.drewN n) := ⟨h.os, h.tape, h.output, h.size, h.block⟩
theorem Upd.setCell {F : Nat → Prop} {a w : World} (h : Upd F a w) {p : Addr} (hp : F p.block ∨ a.heap.size ≤ p.block) (u : Value) : Upd F a (w.setCell p u) := by
  refine ⟨h.os, h.tape, h.output, by simpa using h.size, fun k hk hF => ?_⟩
  have hne : k ≠ p.block := by
    intro e; subst e
    rcases hp with hp | hp
    · exact hF hp
    · omega
  rw [← h.block k hk hF]
  simp only [World.setCell, Array.getElem?_modify]
  rw [if_neg (by omega)]

/-- A cell behind a store into it: the walk's rule. -/
@[go_sem] theorem cell_setCell_self {w : World} (a : Addr) (v : Value) : (w.setCell a v).cell? a = (w.cell? a).map fun _ => v := by
  unfold World.cell? World.setCell
  simp only [Array.getElem?_modify, if_true]
  cases hq : w.heap[a.block]? with
  | none => rfl
  | some o =>
    cases o <;> try rfl
    simp only [Option.map_some]
    by_cases hs : a.spot.isSome = true
    · simp [hs]
    · simp only [hs]
      by_cases hl : a.off < (by assumption : Array Value).size
      · simp [hl]
      · simp [hl]

/-! ### maps -/
def aget {K V : Type} [DecidableEq K] (l : List (K × V)) (k : K) : Option V := (l.find? (fun p => p.1 = k)).map (·.2)
def ahas {K V : Type} [DecidableEq K] (l : List (K × V)) (k : K) : Bool := l.any (fun p => p.1 = k)
def aput {K V : Type} [DecidableEq K] (l : List (K × V)) (k : K) (v : V) : List (K × V) :=
  if ahas l k then l.map (fun p => if p.1 = k then (p.1, v) else p) else l ++ [(k, v)]
def adel {K V : Type} [DecidableEq K] (l : List (K × V)) (k : K) : List (K × V) := l.filter (fun p => p.1 ≠ k)
theorem aget_cons {K V : Type} [DecidableEq K] (p : K × V) (l : List (K × V)) (k : K) : aget (p :: l) k = if p.1 = k then some p.2 else aget l k := by
  unfold aget
  rw [List.find?_cons]
  by_cases h : p.1 = k <;> simp [h]
theorem ahas_aget {K V : Type} [DecidableEq K] (l : List (K × V)) (k : K) : ahas l k = (aget l k).isSome := by
  induction l with
  | nil => rfl
  | cons p l ih =>
    rw [aget_cons]
    unfold ahas at ih ⊢
    rw [List.any_cons, ih]
    by_cases h : p.1 = k <;> simp [h]
theorem aget_append {K V : Type} [DecidableEq K] (l l' : List (K × V)) (k : K) : aget (l ++ l') k = (aget l k).or (aget l' k) := by
  induction l with
  | nil => simp [aget]
  | cons p l ih =>
    rw [List.cons_append, aget_cons, aget_cons, ih]
    split <;> simp
theorem aget_mapped {K V : Type} [DecidableEq K] (l : List (K × V)) (k k' : K) (v : V) : aget (l.map (fun p => if p.1 = k then (p.1, v) else p)) k' = if k' = k then (aget l k).map (fun _ => v) else aget l k' := by
  induction l with
  | nil => simp [aget]
  | cons p l ih =>
    rw [List.map_cons, aget_cons, aget_cons, aget_cons, ih]
    by_cases h : p.1 = k
    · by_cases h' : k' = k
      · subst h'; simp [h]
      · have : ¬ k = k' := fun e => h' e.symm
        simp [h, h', this]
    · by_cases h' : k' = k
      · subst h'; simp [h]
      · simp [h, h']
theorem aget_aput {K V : Type} [DecidableEq K] (l : List (K × V)) (k k' : K) (v : V) : aget (aput l k v) k' = if k' = k then some v else aget l k' := by
  unfold aput
  rw [ahas_aget]
  split
  · rename_i h
    rw [aget_mapped]
    obtain ⟨u, hu⟩ := Option.isSome_iff_exists.1 h
    simp [hu]
  · rename_i h
    have hn : aget l k = none := by simpa using h
    rw [aget_append, aget_cons]
    by_cases h' : k' = k
    · subst h'; simp [hn]
    · have : ¬ k = k' := fun e => h' e.symm
      simp [h', this]
      simp [aget]
theorem aget_adel {K V : Type} [DecidableEq K] (l : List (K × V)) (k k' : K) : aget (adel l k) k' = if k' = k then none else aget l k' := by
  induction l with
  | nil => simp [adel, aget]
  | cons p l ih =>
    unfold adel at ih ⊢
    rw [List.filter_cons]
    by_cases h : p.1 = k
    · rw [if_neg (by simp [h]), ih, aget_cons]
      by_cases h' : k' = k
      · simp [h']
      · have : ¬ k = k' := fun e => h' e.symm
        simp [h, h', this]
    · rw [if_pos (by simp [h]), aget_cons, ih, aget_cons]
      by_cases h' : k' = k
      · subst h'; simp [h]
      · simp [h']

/-- What an entry is to a map of int keys. -/
def ikey : Value → Int | .int .i64 k => k | _ => 0
def ient (e : MapEntry) : Int × Value := (ikey e.key, e.val)

open Classical in
/-- The entries of block b, a map with keys of int. -/
noncomputable def _root_.Go.World.im (w : World) (b : Nat) : Option (List (Int × Value)) :=
  match w.heap[b]? with
  | some (.map es c) => if Stamped es c ∧ ∀ x ∈ es.toList, IsKey (.int .i64) x.key then some (es.toList.map ient) else none
  | _ => none

/-- Entry k of block b is put. -/
noncomputable def putEntry (es : Array MapEntry) (c : Nat) (key v : Value) : Obj :=
  match Instr.findNow (.int .i64) key es.toList 0 with
  | some (some (i, _)) => .map (es.modify i fun e => { e with key, val := v }) c
  | _ => .map (es.push { key, val := v, born := c }) (c + 1)
noncomputable def _root_.Go.World.mput (w : World) (b : Nat) (key v : Value) : World :=
  { w with heap := w.heap.modify b fun | .map es c => putEntry es c key v | o => o }
/-- Entry k of block b is struck. -/
noncomputable def delEntry (es : Array MapEntry) (c : Nat) (key : Value) : Obj :=
  match Instr.findNow (.int .i64) key es.toList 0 with
  | some (some (i, _)) => .map (es.eraseIdxIfInBounds i) c
  | _ => .map es c
noncomputable def _root_.Go.World.mdel (w : World) (b : Nat) (key : Value) : World :=
  { w with heap := w.heap.modify b fun | .map es c => delEntry es c key | o => o }

theorem im_inv {w : World} {b : Nat} {l : List (Int × Value)} (h : w.im b = some l) :
    ∃ es c, w.heap[b]? = some (.map es c) ∧ Stamped es c ∧ (∀ x ∈ es.toList, IsKey (.int .i64) x.key) ∧ l = es.toList.map ient := by
  unfold World.im at h
  split at h
  · rename_i es c hb
    split at h
    · rename_i hs
      exact ⟨es, c, hb, hs.1, hs.2, by simpa using h.symm⟩
    · cases h
  · cases h
theorem im_intro {w : World} {b : Nat} {es : Array MapEntry} {c : Nat} (hb : w.heap[b]? = some (.map es c)) (hs : Stamped es c) (hk : ∀ x ∈ es.toList, IsKey (.int .i64) x.key) :
    w.im b = some (es.toList.map ient) := by
  unfold World.im
  rw [hb]
  simp only
  rw [if_pos ⟨hs, hk⟩]
theorem im_lt {w : World} {b : Nat} (h : (w.im b).isSome = true) : b < w.heap.size := by
  obtain ⟨l, hl⟩ := Option.isSome_iff_exists.1 h
  obtain ⟨es, c, hb, _⟩ := im_inv hl
  exact (Array.getElem?_eq_some_iff.1 hb).1
theorem im_of_block {w w' : World} {b : Nat} (h : w'.heap[b]? = w.heap[b]?) : w'.im b = w.im b := by
  unfold World.im; rw [h]
/-- What a walk takes of a call that leaves all old blocks alone. -/
theorem Upd.old {w w' : World} (u : Upd (fun _ => False) w w') : (∀ b o, b < w.heap.size → w'.cell? ⟨b, o, none⟩ = w.cell? ⟨b, o, none⟩) ∧
    (∀ b o, b < w.heap.size → w'.frozen? ⟨b, o, none⟩ = w.frozen? ⟨b, o, none⟩) ∧ (∀ b, b < w.heap.size → w'.im b = w.im b) ∧ w.heap.size ≤ w'.heap.size :=
  ⟨fun b o h => u.cell (p := ⟨b, o, none⟩) h (fun h => h), fun b o h => u.frozen (p := ⟨b, o, none⟩) h (fun h => h), fun b h => im_of_block (u.block b h (fun h => h)), u.size⟩
theorem Upd.im {F : Nat → Prop} {w w' : World} (h : Upd F w w') {b : Nat} (hp : b < w.heap.size) (hF : ¬ F b) : w'.im b = w.im b := im_of_block (h.block b hp hF)

theorem cell_im {w : World} {a : Addr} {v : Value} (h : w.cell? a = some v) : w.im a.block = none := by
  unfold World.cell? at h
  unfold World.im
  split at h <;> simp_all
theorem ikey_of {v : Value} (h : IsKey (.int .i64) v) : v = .int .i64 (ikey v) := by
  cases v <;> simp_all [IsKey, ikey]

theorem ient_key {e : MapEntry} (h : IsKey (.int .i64) e.key) : e.key = .int .i64 (ient e).1 := ikey_of h
theorem not_key {es : List MapEntry} {k : Int} (hk : ∀ x ∈ es, IsKey (.int .i64) x.key) (h : ∀ x ∈ es, x.key ≠ .int .i64 k) : ∀ p ∈ es.map ient, p.1 ≠ k := by
  intro p hp e
  obtain ⟨x, hx, rfl⟩ := List.mem_map.1 hp
  exact h x hx (by rw [ient_key (hk x hx), e])

theorem aget_none {K V : Type} [DecidableEq K] {l : List (K × V)} {k : K} (h : ∀ p ∈ l, p.1 ≠ k) : aget l k = none := by
  unfold aget
  rw [List.find?_eq_none.2 (by intro p hp; simpa using h p hp)]
  rfl
theorem ahas_false {K V : Type} [DecidableEq K] {l : List (K × V)} {k : K} (h : ∀ p ∈ l, p.1 ≠ k) : ahas l k = false := by
  unfold ahas
  rw [List.any_eq_false]
  intro p hp; simpa using h p hp
theorem map_other {K : Type} [DecidableEq K] {l : List (K × Value)} {k : K} (v : Value) (h : ∀ p ∈ l, p.1 ≠ k) : l.map (fun p => if p.1 = k then (p.1, v) else p) = l := by
  have : l.map (fun p => if p.1 = k then (p.1, v) else p) = l.map id := List.map_congr_left (fun p hp => by simp [h p hp])
  simpa using this
theorem filter_other {K : Type} [DecidableEq K] {l : List (K × Value)} {k : K} (h : ∀ p ∈ l, p.1 ≠ k) : l.filter (fun p => p.1 ≠ k) = l :=
  List.filter_eq_self.2 (by intro p hp; simpa using h p hp)

theorem hit_spec {k : Int} (v : Value) : ∀ {es : List MapEntry} {j : Nat} {e : MapEntry}, (∀ x ∈ es, IsKey (.int .i64) x.key) → (es.map (·.key)).Nodup → es[j]? = some e → e.key = .int .i64 k →
    aget (es.map ient) k = some e.val ∧ ahas (es.map ient) k = true ∧
    (es.modify j (fun e => { e with key := .int .i64 k, val := v })).map ient = (es.map ient).map (fun p => if p.1 = k then (p.1, v) else p) ∧
    (es.eraseIdx j).map ient = (es.map ient).filter (fun p => p.1 ≠ k)
  | [], j, e, _, _, h, _ => by simp at h
  | x :: r, 0, e, hk, hn, h, he => by
    simp only [List.getElem?_cons_zero, Option.some.injEq] at h
    subst h
    obtain ⟨n1, n2⟩ := List.nodup_cons.1 hn
    have hx : (ient x).1 = k := by have := ient_key (hk x (.head _)); rw [he] at this; simpa using this.symm
    have hr : ∀ p ∈ r.map ient, p.1 ≠ k := not_key (fun y hy => hk y (.tail _ hy)) (fun y hy e' => n1 (by
      show x.key ∈ _
      rw [he, ← e']; exact List.mem_map_of_mem hy))
    refine ⟨?_, by simp [ahas, hx], ?_, ?_⟩
    · simp only [aget, List.map_cons, List.find?_cons, hx, decide_true]; rfl
    · simp only [List.modify_zero_cons, List.map_cons, hx, if_true]
      rw [map_other v hr]
      rfl
    · simp only [List.eraseIdx_cons_zero, List.map_cons, List.filter_cons, hx, ne_eq, not_true, decide_false]
      exact (filter_other hr).symm
  | x :: r, j + 1, e, hk, hn, h, he => by
    obtain ⟨n1, n2⟩ := List.nodup_cons.1 hn
    simp only [List.getElem?_cons_succ] at h
    obtain ⟨i1, i2, i3, i4⟩ := hit_spec (k := k) v (fun y hy => hk y (.tail _ hy)) n2 h he
    have hx : (ient x).1 ≠ k := fun e' => n1 (by
      show x.key ∈ _
      rw [ient_key (hk x (.head _)), e', ← he]
      exact List.mem_map_of_mem (List.mem_of_getElem? h))
    refine ⟨?_, ?_, ?_, ?_⟩
    · rw [← i1]; simp only [aget, List.map_cons, List.find?_cons, hx, decide_false]
    · simp only [ahas, List.map_cons, List.any_cons, hx, decide_false, Bool.false_or]; exact i2
    · simp only [List.modify_succ_cons, List.map_cons, hx, if_false, i3]
    · simp only [List.eraseIdx_cons_succ, List.map_cons, List.filter_cons, hx, ne_eq, not_false_iff, decide_true, if_true, i4]

theorem im_find {w : World} {b : Nat} {l : List (Int × Value)} (h : w.im b = some l) (k : Int) : ∃ es c, w.heap[b]? = some (.map es c) ∧ Stamped es c ∧ (∀ x ∈ es.toList, IsKey (.int .i64) x.key) ∧ l = es.toList.map ient ∧
    ((Instr.findNow (.int .i64) (.int .i64 k) es.toList 0 = some none ∧ aget l k = none ∧ ahas l k = false ∧ (∀ x ∈ es.toList, x.key ≠ .int .i64 k)) ∨
      ∃ j e, Instr.findNow (.int .i64) (.int .i64 k) es.toList 0 = some (some (j, e.val)) ∧ es.toList[j]? = some e ∧ e.key = .int .i64 k ∧ aget l k = some e.val ∧ ahas l k = true) := by
  obtain ⟨es, c, hb, hs, hk, rfl⟩ := im_inv h
  refine ⟨es, c, hb, hs, hk, rfl, ?_⟩
  rcases findNow_spec (d := .int .i64) (k := .int .i64 k) rfl es.toList 0 hk with ⟨h1, h2⟩ | ⟨j, e, h1, h2, h3⟩
  · have := not_key hk h2
    exact .inl ⟨h1, aget_none this, ahas_false this, h2⟩
  · obtain ⟨i1, i2, _⟩ := hit_spec (k := k) e.val hk hs.2.2 h2 h3
    exact .inr ⟨j, e, by simpa using h1, h2, h3, i1, i2⟩

section
variable {P : Program} {w : World} {t kt et : TypeId} {b : Nat} {l : List (Int × Value)} {k : Int}

theorem run_lookup_im (ht : P.underlying t = some (.map kt et)) (hk : P.underlying kt = some (.int .i64)) {z : Value} (hz : (zeroValue et).run P w = .ok z w) (h : w.im b = some l) (ok : Bool) :
    (Instr.lookup t (.map (some b)) (.int .i64 k) ok).run P w = .ok (if ok then .tuple #[(aget l k).getD z, .bool (aget l k).isSome] else (aget l k).getD z) w := by
  obtain ⟨es, c, hb, hs, hks, rfl, hf⟩ := im_find h k
  rcases hf with ⟨h1, h2, _⟩ | ⟨j, e, h1, _, _, h2, _⟩
  · rw [h2]
    cases ok <;> simp [Instr.lookup, run_underlying ht, MapKept.run_getObj_map hb, run_checkKey hk (k := .int .i64 k) rfl, run_findKey hk h1, hz, Result.andThen]
  · rw [h2]
    cases ok <;> simp [Instr.lookup, run_underlying ht, MapKept.run_getObj_map hb, run_checkKey hk (k := .int .i64 k) rfl, run_findKey hk h1, Result.andThen]

theorem modify_set {w : World} {o o' : Obj} (hb : w.heap[b]? = some o) (f : Obj → Obj) (hf : f o = o') : { w with heap := w.heap.setIfInBounds b o' } = { w with heap := w.heap.modify b f } := by
  congr 1
  apply Array.ext_getElem?
  intro i
  rw [Array.getElem?_modify, Array.getElem?_setIfInBounds]
  by_cases hi : b = i
  · subst hi
    obtain ⟨hlt, _⟩ := Array.getElem?_eq_some_iff.1 hb
    have : w.heap[b] = o := by rw [Array.getElem?_eq_getElem hlt] at hb; exact Option.some.inj hb
    simp [hlt, this, hf]
  · simp [hi]

theorem run_mapUpdate_im (ht : P.underlying t = some (.map kt et)) (hk : P.underlying kt = some (.int .i64)) (h : (w.im b).isSome = true) (v : Value) :
    (Instr.mapUpdate t (.map (some b)) (.int .i64 k) v).run P w = .ok () (w.mput b (.int .i64 k) v) := by
  obtain ⟨l, hl⟩ := Option.isSome_iff_exists.1 h
  obtain ⟨es, c, hb, hs, hks, rfl, hf⟩ := im_find hl k
  rcases hf with ⟨h1, _⟩ | ⟨j, e, h1, hj, he, _⟩
  · have : putEntry es c (.int .i64 k) v = .map (es.push { key := .int .i64 k, val := v, born := c }) (c + 1) := by unfold putEntry; rw [h1]
    simp [Instr.mapUpdate, run_underlying ht, MapKept.run_getObj_map hb, run_checkKey hk (k := .int .i64 k) rfl, run_findKey hk h1, MapKept.run_setObj_map _ hb, Result.andThen]
    exact modify_set hb _ this
  · have : putEntry es c (.int .i64 k) v = .map (es.modify j fun e => { e with key := .int .i64 k, val := v }) c := by unfold putEntry; rw [h1]
    have hj' : es[j]? = some e := by simpa using hj
    simp [Instr.mapUpdate, run_underlying ht, MapKept.run_getObj_map hb, run_checkKey hk (k := .int .i64 k) rfl, run_findKey hk h1, MapKept.run_setObj_map _ hb, Result.andThen, hj', he, run_keyThatStays (d := .int .i64) (k := .int .i64 k) rfl]
    exact modify_set hb _ this

theorem im_mput_same (h : w.im b = some l) (v : Value) : (w.mput b (.int .i64 k) v).im b = some (aput l k v) := by
  obtain ⟨es, c, hb, hs, hks, rfl, hf⟩ := im_find h k
  have hb' : (w.mput b (.int .i64 k) v).heap[b]? = some (putEntry es c (.int .i64 k) v) := by
    simp [World.mput, Array.getElem?_modify, hb]
  rcases hf with ⟨h1, h2, h3, h4⟩ | ⟨j, e, h1, hj, he, h2, h3⟩
  · have : putEntry es c (.int .i64 k) v = .map (es.push { key := .int .i64 k, val := v, born := c }) (c + 1) := by unfold putEntry; rw [h1]
    rw [this] at hb'
    rw [im_intro hb' (stamped_push hs h4) (by intro x hx; simp at hx; rcases hx with hx | rfl; exact hks x (by simpa using hx); rfl)]
    unfold aput
    rw [h3]
    simp [ient, ikey]
  · have : putEntry es c (.int .i64 k) v = .map (es.modify j fun e => { e with key := .int .i64 k, val := v }) c := by unfold putEntry; rw [h1]
    rw [this] at hb'
    have hs' := stamped_modify hs j (fun e => { e with key := .int .i64 k, val := v }) (fun _ _ => rfl) (fun x _ hx => by
      have : es[j]? = some e := by simpa using hj
      rw [this] at hx; cases hx; exact he.symm)
    rw [im_intro hb' hs' (by
      intro x hx
      rw [Array.toList_modify] at hx
      rcases List.mem_iff_getElem?.1 hx with ⟨i, hi⟩
      rw [List.getElem?_modify] at hi
      split at hi
      · cases hq : es.toList[i]? with
        | none => rw [hq] at hi; cases hi
        | some y => rw [hq] at hi; cases hi; rfl
      · cases hq : es.toList[i]? with
        | none => rw [hq] at hi; cases hi
        | some y => rw [hq] at hi; cases hi; exact hks _ (List.mem_of_getElem? hq))]
    unfold aput
    rw [h3, Array.toList_modify, (hit_spec v hks hs.2.2 hj he).2.2.1]
    rfl

theorem putEntry_map (es : Array MapEntry) (c : Nat) (key v : Value) : ∃ es' c', putEntry es c key v = .map es' c' := by
  unfold putEntry; split <;> exact ⟨_, _, rfl⟩
theorem delEntry_map (es : Array MapEntry) (c : Nat) (key : Value) : ∃ es' c', delEntry es c key = .map es' c' := by
  unfold delEntry; split <;> exact ⟨_, _, rfl⟩
theorem heap_mput_other {b' : Nat} (key v : Value) (h : b' ≠ b) : (w.mput b key v).heap[b']? = w.heap[b']? := by
  simp only [World.mput, Array.getElem?_modify]
  rw [if_neg (fun e => h e.symm)]
@[go_sem] theorem im_mput_other {b' : Nat} (key v : Value) (h : b' ≠ b) : (w.mput b key v).im b' = w.im b' := im_of_block (heap_mput_other key v h)
@[go_sem] theorem size_mput (key v : Value) : (w.mput b key v).heap.size = w.heap.size := by simp [World.mput]
@[go_sem] theorem tape_mput (key v : Value) : (w.mput b key v).tape = w.tape := rfl
@[go_sem] theorem cell_mput (key v : Value) (a : Addr) : (w.mput b key v).cell? a = w.cell? a := by
  unfold World.cell? World.mput
  simp only [Array.getElem?_modify]
  by_cases e : b = a.block
  · simp only [e, if_true]
    cases hq : w.heap[a.block]? with
    | none => rfl
    | some o =>
      cases o <;> try rfl
      rename_i es c
      obtain ⟨es', c', he⟩ := putEntry_map es c key v
      simp [he]
  · simp [e]
@[go_sem] theorem frozen_mput (key v : Value) (a : Addr) : (w.mput b key v).frozen? a = w.frozen? a := by
  unfold World.frozen? World.mput
  simp only [Array.getElem?_modify]
  by_cases e : b = a.block
  · simp only [e, if_true]
    cases hq : w.heap[a.block]? with
    | none => rfl
    | some o =>
      cases o <;> try rfl
      rename_i es c
      obtain ⟨es', c', he⟩ := putEntry_map es c key v
      simp [he]
  · simp [e]
@[go_sem] theorem drew_mput (key v : Value) : w.drew.mput b key v = (w.mput b key v).drew := rfl
@[go_sem] theorem drewN_mput (key v : Value) (n : Nat) : (w.drewN n).mput b key v = (w.mput b key v).drewN n := rfl
theorem Upd.mput {F : Nat → Prop} {a w : World} (h : Upd F a w) (hb : F b ∨ a.heap.size ≤ b) (key v : Value) : Upd F a (w.mput b key v) :=
  ⟨h.os, h.tape, h.output, by rw [size_mput]; exact h.size, fun k hk hF => by
    rw [heap_mput_other key v (fun e => by subst e; rcases hb with hb | hb; exact hF hb; omega)]
    exact h.block k hk hF⟩

theorem im_alloc_old (o : Obj) (h : b < w.heap.size) : (w.alloc o).im b = w.im b := im_of_block ((heap_alloc w o).2 b h)
open Classical in
/-- What a block of its own is as a map. -/
noncomputable def imO : Obj → Option (List (Int × Value))
  | .map es c => if Stamped es c ∧ ∀ x ∈ es.toList, IsKey (.int .i64) x.key then some (es.toList.map ient) else none
  | _ => none
theorem im_eq (w : World) (b : Nat) : w.im b = (w.heap[b]?).bind imO := by
  unfold World.im imO
  cases w.heap[b]? with
  | none => rfl
  | some o => cases o <;> rfl
@[go_sem] theorem imO_made : imO (.map #[] 0) = some [] := by
  have h : (⟨#[.map #[] 0], fun _ _ => 0, 0, default, #[]⟩ : World).im 0 = some [] := by
    rw [im_intro (es := #[]) (c := 0) rfl (stamped_empty 0) (by simp)]; rfl
  rw [im_eq] at h
  exact h
@[go_sem] theorem imO_cells (c : Array Value) (t : TypeId) (f : Nat × Nat) : imO (.cells c t f) = none := rfl
@[go_sem] theorem im_past (n : Nat) : w.im (w.heap.size + n) = none := by
  rw [im_eq, Array.getElem?_eq_none (by omega)]; rfl
theorem im_past_le (h : w.heap.size ≤ b) : w.im b = none := by
  rw [im_eq, Array.getElem?_eq_none (by omega)]; rfl
@[go_sem] theorem im_past2 : w.im (w.heap.size + 1 + 1) = none := im_past_le (by omega)
@[go_sem] theorem im_past3 : w.im (w.heap.size + 1 + 1 + 1) = none := im_past_le (by omega)
@[go_sem] theorem im_past4 : w.im (w.heap.size + 1 + 1 + 1 + 1) = none := im_past_le (by omega)
@[go_sem] theorem im_past5 : w.im (w.heap.size + 1 + 1 + 1 + 1 + 1) = none := im_past_le (by omega)
@[go_sem] theorem im_past6 : w.im (w.heap.size + 1 + 1 + 1 + 1 + 1 + 1) = none := im_past_le (by omega)
@[go_sem] theorem past_ne2 (n : Nat) : (n + 1 + 1 = n) = False := by simp; omega
@[go_sem] theorem past_ne3 (n : Nat) : (n + 1 + 1 + 1 = n) = False := by simp; omega
@[go_sem] theorem past_ne4 (n : Nat) : (n + 1 + 1 + 1 + 1 = n) = False := by simp; omega
@[go_sem] theorem past_ne5 (n : Nat) : (n + 1 + 1 + 1 + 1 + 1 = n) = False := by simp; omega
@[go_sem] theorem im_past0 : w.im w.heap.size = none := im_past 0
/-- The walk's rule behind a new block: it asks nothing. -/
@[go_sem] theorem im_alloc (o : Obj) : (w.alloc o).im b = (w.im b).or (if b = w.heap.size then imO o else none) := by
  by_cases h : b < w.heap.size
  · rw [im_alloc_old o h, if_neg (by omega)]; simp
  · have : w.im b = none := by rw [im_eq, Array.getElem?_eq_none (by omega)]; rfl
    rw [this]
    by_cases e : b = w.heap.size
    · subst e
      rw [if_pos rfl, im_eq, (heap_alloc w o).1]; simp
    · rw [if_neg e, im_eq, Array.getElem?_eq_none (by simp; omega)]; rfl
attribute [go_sem] Option.some_or Option.none_or Option.getD_some Option.isSome_some Option.isSome_none
@[go_sem] theorem im_setCell (a : Addr) (v : Value) : (w.setCell a v).im b = w.im b := by
  unfold World.im World.setCell
  simp only [Array.getElem?_modify]
  by_cases e : a.block = b
  · simp only [e, if_true]
    cases hq : w.heap[b]? with
    | none => rfl
    | some o => cases o <;> rfl
  · simp [e]
@[go_sem] theorem im_drew : w.drew.im b = w.im b := rfl
@[go_sem] theorem im_drewN (n : Nat) : (w.drewN n).im b = w.im b := rfl
/-- The walk's rules for look-ups and stores: they ask nothing. -/
def LookElse (P : Program) (t : TypeId) (b : Nat) (k : Int) (ok : Bool) (w : World) : Result Value := (Instr.lookup t (.map (some b)) (.int .i64 k) ok).run P w
def lookR (z : Value) (w : World) (k : Int) (other : Result Value) : Bool → Option (List (Int × Value)) → Result Value
  | true, some l => .ok (.tuple #[(aget l k).getD z, .bool (aget l k).isSome]) w
  | false, some l => .ok ((aget l k).getD z) w
  | _, none => other
@[go_sem] theorem lookR_true (z : Value) (w : World) (k : Int) (other : Result Value) (l : List (Int × Value)) : lookR z w k other true (some l) = .ok (.tuple #[(aget l k).getD z, .bool (aget l k).isSome]) w := rfl
@[go_sem] theorem lookR_false (z : Value) (w : World) (k : Int) (other : Result Value) (l : List (Int × Value)) : lookR z w k other false (some l) = .ok ((aget l k).getD z) w := rfl
theorem run_lookup_any (ht : P.underlying t = some (.map kt et)) (hk : P.underlying kt = some (.int .i64)) {z : Value} (hz : ∀ w, (zeroValue et).run P w = .ok z w) (w : World) (b : Nat) (k : Int) (ok : Bool) :
    (Instr.lookup t (.map (some b)) (.int .i64 k) ok).run P w = lookR z w k (LookElse P t b k ok w) ok (w.im b) := by
  cases h : w.im b with
  | none => cases ok <;> rfl
  | some l =>
    rw [run_lookup_im ht hk (hz w) h]
    cases ok <;> rfl
def PutElse (P : Program) (t : TypeId) (b : Nat) (k : Int) (v : Value) (w : World) : Result Unit := (Instr.mapUpdate t (.map (some b)) (.int .i64 k) v).run P w
noncomputable def putR (w : World) (b : Nat) (k : Int) (v : Value) (other : Result Unit) : Option (List (Int × Value)) → Result Unit
  | some _ => .ok () (w.mput b (.int .i64 k) v)
  | none => other
@[go_sem] theorem putR_some (w : World) (b : Nat) (k : Int) (v : Value) (other : Result Unit) (l : List (Int × Value)) : putR w b k v other (some l) = .ok () (w.mput b (.int .i64 k) v) := rfl
theorem run_mapUpdate_any (ht : P.underlying t = some (.map kt et)) (hk : P.underlying kt = some (.int .i64)) (w : World) (b : Nat) (k : Int) (v : Value) :
    (Instr.mapUpdate t (.map (some b)) (.int .i64 k) v).run P w = putR w b k v (PutElse P t b k v w) (w.im b) := by
  cases h : w.im b with
  | none => rfl
  | some l => rw [run_mapUpdate_im ht hk (by rw [h]; rfl)]; rfl
@[go_sem] theorem im_mput_at (h : (w.im b).isSome = true) (v : Value) : (w.mput b (.int .i64 k) v).im b = some (aput ((w.im b).getD []) k v) := by
  obtain ⟨l, hl⟩ := Option.isSome_iff_exists.1 h
  rw [im_mput_same hl v, hl]; rfl
end
end Go.Proofs.YtmpjbolopgccpaaGreat
