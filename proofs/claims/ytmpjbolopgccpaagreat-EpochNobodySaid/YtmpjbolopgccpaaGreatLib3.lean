/-
  Ranging over a map with int keys: what is left of it, step by step, in whatever order.
-/
import Derived.Test.YtmpjbolopgccpaaGreatLib2
import Derived.Maps.RangeWalk
set_option linter.unusedVariables false
namespace Go.Proofs.YtmpjbolopgccpaaGreat
open Go Go.MapKept Go.ChangeMaps

/-- Block r ranges over map m, of which these entries are left. -/
def IterAt (w : World) (r m : Nat) (left : List (Int × Value)) : Prop :=
  ∃ es c since seen c0, w.heap[r]? = some (.mapIter (some m) since seen c0) ∧ w.heap[m]? = some (.map es c) ∧ Stamped es c ∧ (∀ x ∈ es.toList, IsKey (.int .i64) x.key) ∧
    (since ≤ c0 ∧ since ≤ c) ∧ (∀ x ∈ es.toList, x.born < since) ∧ left = (leftOf es seen).toList.map ient

theorem IterAt.upd {F : Nat → Prop} {w w' : World} {r m : Nat} {left : List (Int × Value)} (h : IterAt w r m left) (u : Upd F w w') (hr : ¬ F r) (hm : ¬ F m) : IterAt w' r m left := by
  obtain ⟨es, c, since, seen, c0, h1, h2, h3⟩ := h
  exact ⟨es, c, since, seen, c0, (u.block r (Array.getElem?_eq_some_iff.1 h1).1 hr).trans h1, (u.block m (Array.getElem?_eq_some_iff.1 h2).1 hm).trans h2, h3⟩
theorem IterAt.drew {w : World} {r m : Nat} {left : List (Int × Value)} (h : IterAt w r m left) : IterAt w.drew r m left := h
theorem IterAt.lt {w : World} {r m : Nat} {left : List (Int × Value)} (h : IterAt w r m left) : r < w.heap.size ∧ m < w.heap.size := by
  obtain ⟨es, c, since, seen, c0, h1, h2, _⟩ := h
  exact ⟨(Array.getElem?_eq_some_iff.1 h1).1, (Array.getElem?_eq_some_iff.1 h2).1⟩
theorem IterAt.imr {w : World} {r m : Nat} {left : List (Int × Value)} (h : IterAt w r m left) : w.im r = none := by
  obtain ⟨es, c, since, seen, c0, h1, _⟩ := h
  unfold World.im; rw [h1]

theorem iter_made {w : World} {m : Nat} {l : List (Int × Value)} (h : w.im m = some l) : ∃ c, (∀ P : Program, ∀ t kt et : TypeId, P.underlying t = some (.map kt et) →
    (Instr.range t (.map (some m))).run P w = .ok (.pointer (some ⟨w.heap.size, 0, none⟩)) (w.alloc (.mapIter (some m) c #[] c))) ∧ IterAt (w.alloc (.mapIter (some m) c #[] c)) w.heap.size m l := by
  obtain ⟨es, c, hb, hs, hk, rfl⟩ := im_inv h
  refine ⟨c, fun P t kt et ht => ?_, es, c, c, #[], c, (MapKept.heap_alloc w _).1, ((MapKept.heap_alloc w _).2 m (Array.getElem?_eq_some_iff.1 hb).1).trans hb, hs, hk, ⟨Nat.le_refl _, Nat.le_refl _⟩, hs.1, ?_⟩
  · simp [Instr.range, run_underlying ht, MapKept.run_getObj_map hb, Result.andThen]
  · congr 1
    unfold leftOf
    rw [Array.toList_filter]
    exact (List.filter_eq_self.2 (by intro x _; simp)).symm

theorem nodup_inj {α β : Type} (f : α → β) : ∀ {l : List α}, (l.map f).Nodup → ∀ {a b : α}, a ∈ l → b ∈ l → f a = f b → a = b
  | x :: r, hn, a, b, ha, hb, e => by
    obtain ⟨n1, n2⟩ := List.nodup_cons.1 hn
    rcases List.mem_cons.1 ha with ha' | ha'
    · rcases List.mem_cons.1 hb with hb' | hb'
      · rw [ha', hb']
      · exact absurd (by rw [← ha', e]; exact List.mem_map_of_mem hb') n1
    · rcases List.mem_cons.1 hb with hb' | hb'
      · exact absurd (by rw [← hb', ← e]; exact List.mem_map_of_mem ha') n1
      · exact nodup_inj f n2 ha' hb' e

theorem left_strike {es : Array MapEntry} {seen : Array Nat} {e : MapEntry} {c : Nat} (hs : Stamped es c) (hk : ∀ x ∈ es.toList, IsKey (.int .i64) x.key) (he : e ∈ es.toList) :
    (leftOf es (seen.push e.born)).toList.map ient = adel ((leftOf es seen).toList.map ient) (ient e).1 := by
  unfold leftOf adel
  simp only [Array.toList_filter]
  rw [List.filter_map, List.filter_filter]
  congr 1
  refine List.filter_congr fun x hx => ?_
  have h1 : (seen.push e.born).contains x.born = (seen.contains x.born || x.born == e.born) := by
    rw [Bool.eq_iff_iff, Bool.or_eq_true, beq_iff_eq, Array.contains_iff_mem, Array.contains_iff_mem, Array.mem_push]
  rw [h1]
  have h2 : (x.born == e.born) = decide ((ient x).1 = (ient e).1) := by
    rw [Bool.eq_iff_iff]
    simp only [beq_iff_eq, decide_eq_true_eq]
    constructor
    · intro hb
      rw [nodup_inj (·.born) hs.2.1 hx he hb]
    · intro hb
      rw [nodup_inj (·.key) hs.2.2 hx he (by show x.key = e.key; rw [ient_key (hk x hx), ient_key (hk e he), hb])]
  rw [h2]
  simp only [Function.comp, ne_eq, Bool.not_or]
  cases seen.contains x.born <;> simp

section
variable {P : Program} {w : World} {ops : Array Oper} {rest : List Oper} {o : Oper} {a : Act} {Q : Exit → Act → World → Prop}

/-- 'range m' at the operation. -/
theorem wpList_range_im (hg : o.guard = none) (x : Operand) (t kt et : TypeId) (hop : o.op = Op.range t x) (ht : P.underlying t = some (.map kt et)) (m : Nat) (l : List (Int × Value)) (hx : a.eval x = .map (some m)) (hm : w.im m = some l)
    (hK : ∀ w', IterAt w' w.heap.size m l → Upd (fun _ => False) w w' → w'.heap.size = w.heap.size + 1 → (∀ p, w'.cell? p = w.cell? p) → wpList P ops Q rest (a.put o.dst (.pointer (some ⟨w.heap.size, 0, none⟩))) w') :
    wpList P ops Q (o :: rest) a w := by
  refine wpList_plain hg fun K' hK' => ?_
  obtain ⟨c, hrun, hit⟩ := iter_made hm
  unfold Oper.wp
  simp [execOp, hop, hx, hrun P t kt et ht, Result.andThen]
  refine hK' _ _ (hK _ hit ((Upd.refl _ _).alloc _) (by simp) (fun p => ?_))
  by_cases h : p.block = w.heap.size
  · unfold World.cell?
    rw [h, (MapKept.heap_alloc w _).1, Array.getElem?_eq_none (by omega)]
  · exact World.cell?_alloc_old w _ p h

/-- 'next' at the operation: nothing is left, or an entry comes. -/
theorem wpList_next_im (hg : o.guard = none) (x : Operand) (hop : o.op = Op.next x false) (r m : Nat) (left : List (Int × Value)) (hx : a.eval x = .pointer (some ⟨r, 0, none⟩)) (hit : IterAt w r m left)
    (hDone : left = [] → wpList P ops Q rest (a.put o.dst (.tuple #[.bool false])) w)
    (hMore : ∀ (k : Int) (v : Value) (w' : World), (k, v) ∈ left → IterAt w' r m (adel left k) → (adel left k).length < left.length → Upd (fun b => b = r) w w' → w'.heap.size = w.heap.size → (∀ p, w'.cell? p = w.cell? p) → (∀ b, w'.im b = w.im b) →
      (Instr.entry (.pointer (some ⟨r, 0, none⟩))).run P w' = .ok (.tuple #[.int .i64 k, v]) w' → wpList P ops Q rest (a.put o.dst (.tuple #[.bool true, .int .i64 k, v])) w') :
    wpList P ops Q (o :: rest) a w := by
  refine wpList_plain hg fun K' hK' => ?_
  obtain ⟨es, c, since, seen, c0, h1, h2, hs, hk, hsc, hold, rfl⟩ := hit
  unfold Oper.wp
  rcases run_next_at (P := P) w o.type r m since c0 seen es c h1 h2 hold hsc.1 with ⟨h0, hrun⟩ | ⟨e, he, w1, hw1, hrun⟩
  · simp [execOp, hop, hx, hrun, Result.andThen]
    refine hK' _ _ (hDone ?_)
    rw [Array.eq_empty_of_size_eq_zero h0]; rfl
  · simp [execOp, hop, hx, hrun, Result.andThen]
    have hes : e ∈ es.toList := by
      unfold leftOf at he
      rw [Array.toList_filter] at he
      exact (List.mem_filter.1 he).1
    have hkey := ient_key (hk e hes)
    have hne : r ≠ m := by intro h; subst h; rw [h1] at h2; cases h2
    have hr1 : w1.heap = w.heap := by rcases hw1 with rfl | rfl <;> rfl
    have hblk : ∀ b, b ≠ r → (setBlock w1 r (.mapIter (some m) since (seen.push e.born) c)).heap[b]? = w.heap[b]? := by
      intro b hb
      unfold setBlock
      rw [Array.getElem?_setIfInBounds, if_neg (fun e => hb e.symm), hr1]
    have hrb : (setBlock w1 r (.mapIter (some m) since (seen.push e.born) c)).heap[r]? = some (.mapIter (some m) since (seen.push e.born) c) := by
      unfold setBlock
      rw [Array.getElem?_setIfInBounds, if_pos rfl, hr1, if_pos (Array.getElem?_eq_some_iff.1 h1).1]
    have hmb := (hblk m (fun e => hne e.symm)).trans h2
    rw [hkey]
    have hmem : (ient e) ∈ (leftOf es seen).toList.map ient := List.mem_map_of_mem he
    refine hK' _ _ (hMore (ient e).1 e.val _ hmem ?_ ?_ ?_ ?_ ?_ ?_ ?_)
    · refine ⟨es, c, since, seen.push e.born, c, hrb, hmb, hs, hk, ⟨hsc.2, hsc.2⟩, hold, (left_strike hs hk hes).symm⟩
    · unfold adel
      refine Nat.lt_of_le_of_ne (List.length_filter_le _ _) fun h => ?_
      have := List.length_filter_eq_length_iff.1 h _ hmem
      simp at this
    · have : w1.os = w.os ∧ w1.tape = w.tape ∧ w1.output = w.output := by rcases hw1 with rfl | rfl <;> exact ⟨rfl, rfl, rfl⟩
      exact ⟨this.1, this.2.1, this.2.2, by simp [setBlock, hr1], fun b _ hb => hblk b hb⟩
    · simp [setBlock, hr1]
    · intro p
      by_cases h : p.block = r
      · unfold World.cell?
        rw [h, hrb, h1]
      · exact World.cell?_of_block (w := w) (hblk p.block h)
    · intro b
      by_cases h : b = r
      · subst h
        unfold World.im; rw [hrb, h1]
      · exact im_of_block (hblk b h)
    · have := run_entry_at (P := P) (setBlock w1 r (.mapIter (some m) since (seen.push e.born) c)) r m since seen es c e hrb hmb hes hs.2.1
      rw [hkey] at this
      exact this
end
end Go.Proofs.YtmpjbolopgccpaaGreat
