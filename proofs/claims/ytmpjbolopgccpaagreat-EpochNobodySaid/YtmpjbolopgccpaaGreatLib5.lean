/-
  Maps with whole-number keys: delete and len.
-/
import Derived.Test.YtmpjbolopgccpaaGreatLib2
set_option linter.unusedVariables false
namespace Go.Proofs.YtmpjbolopgccpaaGreat
open Go Go.MapKept

section
variable {P : Program} {w : World} {t kt et : TypeId} {b : Nat} {l : List (Int × Value)} {k : Int}

theorem run_delete_im (ht : P.underlying t = some (.map kt et)) (hk : P.underlying kt = some (.int .i64)) (h : w.im b = some l) (ty : TypeId) :
    (Builtin.delete_ #[t, kt] ty #[.map (some b), .int .i64 k]).run P w = .ok (.tuple #[]) (w.mdel b (.int .i64 k)) := by
  obtain ⟨es, c, hb, hs, hks, rfl, hf⟩ := im_find h k
  rcases hf with ⟨h1, _⟩ | ⟨j, e, h1, hj, he, _⟩
  · have : delEntry es c (.int .i64 k) = .map es c := by unfold delEntry; rw [h1]
    simp [Builtin.delete_, run_underlying ht, MapKept.run_getObj_map hb, run_checkKey hk (k := .int .i64 k) rfl, run_findKey hk h1, MapKept.run_setObj_map _ hb, Result.andThen]
    exact modify_set hb _ this
  · have : delEntry es c (.int .i64 k) = .map (es.eraseIdxIfInBounds j) c := by unfold delEntry; rw [h1]
    simp [Builtin.delete_, run_underlying ht, MapKept.run_getObj_map hb, run_checkKey hk (k := .int .i64 k) rfl, run_findKey hk h1, MapKept.run_setObj_map _ hb, Result.andThen]
    exact modify_set hb _ this
theorem im_mdel_same (h : w.im b = some l) : (w.mdel b (.int .i64 k)).im b = some (adel l k) := by
  obtain ⟨es, c, hb, hs, hks, rfl, hf⟩ := im_find h k
  have hb' : (w.mdel b (.int .i64 k)).heap[b]? = some (delEntry es c (.int .i64 k)) := by
    simp [World.mdel, Array.getElem?_modify, hb]
  rcases hf with ⟨h1, h2, h3, h4⟩ | ⟨j, e, h1, hj, he, h2, h3⟩
  · have : delEntry es c (.int .i64 k) = .map es c := by unfold delEntry; rw [h1]
    rw [this] at hb'
    rw [im_intro hb' hs hks]
    unfold adel
    rw [filter_other (not_key hks h4)]
  · have : delEntry es c (.int .i64 k) = .map (es.eraseIdxIfInBounds j) c := by unfold delEntry; rw [h1]
    rw [this] at hb'
    have hl : (es.eraseIdxIfInBounds j).toList = es.toList.eraseIdx j := by
      have hlt : j < es.size := by
        have := (List.getElem?_eq_some_iff.1 hj).1
        simpa using this
      unfold Array.eraseIdxIfInBounds
      rw [dif_pos hlt, Array.toList_eraseIdx]
    rw [im_intro hb' (stamped_erase hs j) (by
      intro x hx
      rw [hl] at hx
      exact hks x (List.mem_of_mem_eraseIdx hx))]
    rw [hl, (hit_spec e.val hks hs.2.2 hj he).2.2.2]
    rfl
theorem heap_mdel_other {b' : Nat} (key : Value) (h : b' ≠ b) : (w.mdel b key).heap[b']? = w.heap[b']? := by
  simp only [World.mdel, Array.getElem?_modify]
  rw [if_neg (fun e => h e.symm)]
@[go_sem] theorem size_mdel (key : Value) : (w.mdel b key).heap.size = w.heap.size := by simp [World.mdel]
@[go_sem] theorem cell_mdel (key : Value) (a : Addr) : (w.mdel b key).cell? a = w.cell? a := by
  unfold World.cell? World.mdel
  simp only [Array.getElem?_modify]
  by_cases e : b = a.block
  · simp only [e, if_true]
    cases hq : w.heap[a.block]? with
    | none => rfl
    | some o =>
      cases o <;> try rfl
      rename_i es c
      obtain ⟨es', c', he⟩ := delEntry_map es c key
      simp [he]
  · simp [e]
@[go_sem] theorem frozen_mdel (key : Value) (a : Addr) : (w.mdel b key).frozen? a = w.frozen? a := by
  unfold World.frozen? World.mdel
  simp only [Array.getElem?_modify]
  by_cases e : b = a.block
  · simp only [e, if_true]
    cases hq : w.heap[a.block]? with
    | none => rfl
    | some o =>
      cases o <;> try rfl
      rename_i es c
      obtain ⟨es', c', he⟩ := delEntry_map es c key
      simp [he]
  · simp [e]
theorem Upd.mdel {F : Nat → Prop} {a w : World} (h : Upd F a w) (hb : F b ∨ a.heap.size ≤ b) (key : Value) : Upd F a (w.mdel b key) :=
  ⟨h.os, h.tape, h.output, by rw [size_mdel]; exact h.size, fun k hk hF => by
    rw [heap_mdel_other key (fun e => by subst e; rcases hb with hb | hb; exact hF hb; omega)]
    exact h.block k hk hF⟩
theorem run_len_im (ht : P.underlying t = some (.map kt et)) (h : w.im b = some l) (ty : TypeId) : (Builtin.len_ #[t] ty #[.map (some b)]).run P w = .ok (.int .i64 l.length) w := by
  obtain ⟨es, c, hb, hs, hks, rfl⟩ := im_inv h
  simp [Builtin.len_, run_underlying ht, MapKept.run_getObj_map hb, Result.andThen, goInt]
variable {ops : Array Oper} {rest : List Oper} {o : Oper} {a : Act} {Q : Exit → Act → World → Prop}
theorem wpList_delete_im (hg : o.guard = none) (m x : Operand) (hop : o.op = Op.call { callee := Callee.builtin Builtin.delete, args := #[m, x], argTypes := #[t, kt] })
    (ht : P.underlying t = some (.map kt et)) (hk : P.underlying kt = some (.int .i64)) (hm : a.eval m = .map (some b)) (h : w.im b = some l) (hx : a.eval x = .int .i64 k)
    (hK : wpList P ops Q rest (a.put o.dst (.tuple #[])) (w.mdel b (.int .i64 k))) : wpList P ops Q (o :: rest) a w := by
  refine wpList_plain hg fun K' hK' => ?_
  unfold Oper.wp
  simp [execOp, hop, resolve, invoke, builtin, hm, hx, run_delete_im ht hk h o.type, Result.andThen]
  exact hK' _ _ hK
theorem wpList_len_im (hg : o.guard = none) (m : Operand) (hop : o.op = Op.call { callee := Callee.builtin Builtin.len, args := #[m], argTypes := #[t] })
    (ht : P.underlying t = some (.map kt et)) (hm : a.eval m = .map (some b)) (h : w.im b = some l)
    (hK : wpList P ops Q rest (a.put o.dst (.int .i64 l.length)) w) : wpList P ops Q (o :: rest) a w := by
  refine wpList_plain hg fun K' hK' => ?_
  unfold Oper.wp
  simp [execOp, hop, resolve, invoke, builtin, hm, run_len_im ht h o.type, Result.andThen]
  exact hK' _ _ hK
end
theorem adel_length {l : List (Int × Value)} (hn : (l.map (·.1)).Nodup) {k : Int} {v : Value} (h : aget l k = some v) : (adel l k).length + 1 = l.length := by
  induction l with
  | nil => simp [aget] at h
  | cons p r ih =>
    obtain ⟨n1, n2⟩ := List.nodup_cons.1 hn
    rw [aget_cons] at h
    unfold adel
    by_cases e : p.1 = k
    · rw [List.filter_cons_of_neg (by simp [e])]
      have : r.filter (fun p => p.1 ≠ k) = r := filter_other (fun q hq e2 => n1 (by show p.1 ∈ _; rw [e, ← e2]; exact List.mem_map_of_mem hq))
      rw [this]; rfl
    · rw [if_neg e] at h
      rw [List.filter_cons_of_pos (by simpa using e)]
      have := ih n2 h
      unfold adel at this
      simp only [List.length_cons]
      omega
theorem adel_none {l : List (Int × Value)} {k : Int} (h : aget l k = none) : adel l k = l := by
  unfold adel
  refine List.filter_eq_self.2 (fun p hp => ?_)
  have hh : ahas l k = false := by rw [ahas_aget, h]; rfl
  unfold ahas at hh
  have := List.any_eq_false.1 hh p hp
  simpa using this
theorem aput_new {l : List (Int × Value)} {k : Int} (v : Value) (h : aget l k = none) : aput l k v = l ++ [(k, v)] := by
  unfold aput
  rw [ahas_aget, h]; rfl
/-- The keys of a map are unlike. -/
theorem im_nodup {w : World} {b : Nat} {l : List (Int × Value)} (h : w.im b = some l) : (l.map (·.1)).Nodup := by
  obtain ⟨es, c, hb, hs, hk, rfl⟩ := im_inv h
  rw [List.map_map]
  refine List.pairwise_map.2 ((List.pairwise_map.1 hs.2.2).imp_of_mem fun {x y} hx hy hne e => hne ?_)
  rw [ient_key (hk x hx), ient_key (hk y hy)]
  exact congrArg _ e
end Go.Proofs.YtmpjbolopgccpaaGreat
