/-
  Dirty: the sectors that are not durable, sorted.
  Ints of its own; one is appended.
-/
import Derived.Test.YtcmhcibkpmbnoaaCrashy
import Derived.Test.YtcmhcibkpmbnoaaSh3
import Derived.Shelf.Abstract
import Derived.OwnWalkIn
import Derived.Deep.RegionHeld3
import Derived.Deep.RegionLaw
import Derived.BigRegion
import Derived.WalkSmall
set_option linter.unusedVariables false
namespace Go.Proofs.Ytcmhcibkpmbnoaa
open Go Go.RowKit Go.Shelf Go.Sort Go.Maps Go.WideElems Go.MapKept Go.ChangeMaps

abbrev encI : Int → Value := Value.int .i64
def sorted (l : List Int) : List Int := l.mergeSort fun x y => decide (x ≤ y)
theorem sorted_length (l : List Int) : (sorted l).length = l.length := List.length_mergeSort _
theorem mem_sorted {n : Int} {l : List Int} : n ∈ sorted l ↔ n ∈ l := (List.mergeSort_perm _ _).mem_iff
def SortPost (w : World) (l : List Int) (e : Ending) (w' : World) : Prop :=
  ∃ v, e = .returned v ∧ w'.ownsRow w.heap.size 3 1 v l.length ((sorted l).map encI) ∧ (v = .slice none 0 0 ↔ l = []) ∧ Upd (fun _ => False) w w'
theorem insert_perm {H : Type} (x : Lit × DataW H) : ∀ (l : List (Lit × DataW H)), (DataW.insert x l).Perm (x :: l)
  | [] => .refl _
  | y :: r => by
    unfold DataW.insert
    split
    · exact .refl _
    · exact ((insert_perm x r).cons y).trans (.swap x y r)
theorem insertAll_perm {H : Type} : ∀ (l : List (Lit × DataW H)), (l.foldr DataW.insert []).Perm l
  | [] => .refl _
  | x :: r => (insert_perm x _).trans ((insertAll_perm r).cons x)
theorem keys_own {w : World} {b : Nat} {l : List (Int × Value)} (h : w.im b = some l) (hw : ∀ p ∈ l, (Lit.int .i64 p.1).wf = true) (hl : l.length ≤ maxLen) :
    ∃ D0 : DataW Unit, w.ownsMap Try.prog 3 (fun _ => some (.nil, [])) b l.length D0 ∧ (intKeys D0).Perm (l.map (·.1)) ∧ Maps.size D0 = l.length := by
  obtain ⟨es, c, h1, h2, h3, rfl⟩ := im_inv h
  have hrd : ∀ x ∈ es.toList, WideElems.rd (H := Unit) Try.prog 3 (fun _ => some (.nil, [])) x = some (.int .i64 (ient x).1, .nil) := fun x hx => by
    have hk := ient_key (h3 x hx)
    have hwx := hw (ient x) (List.mem_map_of_mem hx)
    unfold WideElems.rd
    rw [hk]
    simp [keyOf, Try.underlying3, mapKey, hwx]
  have hmap : es.toList.map (WideElems.rg (H := Unit) Try.prog 3 (fun _ => some (.nil, []))) = (es.toList.map ient).map fun p => (.int .i64 p.1, .nil) := by
    rw [List.map_map]
    refine List.map_congr_left fun x hx => ?_
    exact WideElems.rg_of (hrd x hx)
  refine ⟨.map ((es.toList.map (WideElems.rg Try.prog 3 (fun _ => some (.nil, [])))).foldr DataW.insert []), ⟨es, c, h1, ⟨by simpa using hl, h2, fun x hx => ⟨_, hrd x hx⟩⟩, by simp, rfl⟩, ?_, ?_⟩
  · show (((es.toList.map (WideElems.rg (H := Unit) Try.prog 3 (fun _ => some (.nil, [])))).foldr DataW.insert []).map fun p => Go.intOf p.1).Perm _
    refine ((insertAll_perm _).map _).trans ?_
    rw [hmap, List.map_map]
    exact .refl _
  · show ((es.toList.map (WideElems.rg (H := Unit) Try.prog 3 (fun _ => some (.nil, [])))).foldr DataW.insert []).length = _
    rw [(insertAll_perm _).length_eq]
    simp

theorem sortsA (m : Nat) : AnyZI.SortsIn Try.prog Try.sortedA_ren Fence.wide m :=
  ⟨fun blk off cap ss W hH hblk hsz => callsIn_wide.2 (Try.slices_Sort_int blk off cap ss W hH hblk hsz), fun p cap W => callsIn_wide.2 (Try.slices_Sort_int_none p cap W)⟩
theorem keys_any (mb : Option Nat) (w : World) : Calls Try.prog 49 #[.map mb] w fun e w' => e = .returned (.func (.func 55) #[] #[.pointer (some ⟨w.heap.size, 0, none⟩)]) ∧ w' = w.alloc (.cells #[.map mb] 53) := by
  have : CallsIn Fence.wide 5 Try.prog 49 #[.map mb] w fun e w' => e = .returned (.func (.func 55) #[] #[.pointer (some ⟨w.heap.size, 0, none⟩)]) ∧ w' = w.alloc (.cells #[.map mb] 53) :=
    AnyZI.keys_in Try.keysA Fence.wide 5 trivial rfl mb w
  exact callsIn_wide.1 this
theorem sort_keys (Bm m : Nat) (l : List (Int × Value)) (w : World) (hBm : Bm < w.heap.size) (hm : w.cell? ⟨Bm, 0, none⟩ = some (.map (some m))) (hi : w.im m = some l) (hw : ∀ p ∈ l, (Lit.int .i64 p.1).wf = true) (hl : l.length ≤ 8192) :
    Calls Try.prog 48 #[.func (.func 55) #[] #[.pointer (some ⟨Bm, 0, none⟩)]] w (SortPost w (l.map (·.1))) := by
  obtain ⟨D0, hown, hperm, hsize⟩ := keys_own hi hw (by unfold maxLen; omega)
  have hseq : SeqGives Fence.wide 2 Try.prog 55 #[.pointer (some ⟨Bm, 0, none⟩)] encZ (fun ss => ss.Perm (intKeys D0)) (Maps.size D0) w :=
    AnyZI.keys_gives (ρ := Try.keysA_ren) { Try.keysA with } Fence.wide _ trivial rfl (by omega) Bm m l.length D0 w hBm hm hown
  have cS := AnyZI.sorted_in Try.sortedA Fence.wide 5 trivial trivial trivial trivial rfl (by omega) (sortsA _) (enters_of Try.func54 (by kernel_rfl) rfl) 55 #[.pointer (some ⟨Bm, 0, none⟩)] trivial (enters_of Try.func55 (by kernel_rfl) rfl) _ _ (by rw [hsize]; unfold maxLen; omega) (by omega) _ hseq
  change CallsIn _ _ Try.prog 48 _ _ _ at cS
  refine (callsIn_wide.1 cS).mono ?_
  rintro e w' ⟨v, ss, rfl, hS, hrow, hnil, hb⟩
  have hp : ss.Perm (l.map (·.1)) := hS.trans hperm
  have hs : ss.mergeSort (fun x y => decide (x ≤ y)) = sorted (l.map (·.1)) := mergeSort_of_perm_i hp
  have hlen := hp.length_eq
  refine ⟨v, rfl, ?_, hnil.trans ⟨fun h => ?_, fun h => ?_⟩, Upd.of_below hb⟩
  · rw [← hlen, ← hs]; exact hrow
  · exact List.eq_nil_of_length_eq_zero (by rw [← hlen, h]; rfl)
  · exact List.eq_nil_of_length_eq_zero (by rw [hlen, h]; rfl)


theorem nodup_sub : ∀ (n : Nat) (l : List Int), l.Nodup → (∀ x ∈ l, 0 ≤ x ∧ x < n) → l.length ≤ n
  | 0, l, _, hx => by
    cases l with
    | nil => exact Nat.le_refl _
    | cons a r => have := hx a (.head _); omega
  | n + 1, l, hn, hx => by
    have h1 := nodup_sub n (l.erase (n : Int)) (hn.erase _) (fun x hx' => by
      have h2 := hn.mem_erase_iff.1 hx'
      have := hx x h2.2
      have := h2.1
      omega)
    rw [List.length_erase] at h1
    split at h1 <;> omega
def DirtyPost (w : World) (C : Int → Option (List Int)) (e : Ending) (w' : World) : Prop :=
  ∃ v ks, e = .returned v ∧ Ints w' v ks ∧ Fresh w.heap.size v ∧ ks.length ≤ 8192 ∧ (∀ i, i ∈ ks ↔ C i ≠ none) ∧ Upd (fun _ => False) w w'
/-- The same; in rising order. -/
def DirtyS (w : World) (C : Int → Option (List Int)) (e : Ending) (w' : World) : Prop :=
  ∃ v ks, e = .returned v ∧ Ints w' v ks ∧ Fresh w.heap.size v ∧ ks.length ≤ 8192 ∧ (∀ i, i ∈ ks ↔ C i ≠ none) ∧ Upd (fun _ => False) w w' ∧ ks.Nodup ∧ ks.Pairwise (fun x y => x ≤ y)
theorem sorted_rises (l : List Int) : (sorted l).Pairwise (fun x y => x ≤ y) := by
  have h := List.pairwise_mergeSort (le := fun x y : Int => decide (x ≤ y)) (fun a b c h1 h2 => by simp only [decide_eq_true_eq] at *; omega) (fun a b => by simp only [Bool.or_eq_true, decide_eq_true_eq]; omega) l
  exact h.imp (fun h => of_decide_eq_true h)
theorem dirty_srt (w : World) (b ab cm : Nat) (D : List (List Int)) (C : Int → Option (List Int)) (h : PlateAt w b ab cm D C) :
    Calls Try.prog 37 #[.pointer (some ⟨b, 0, none⟩)] w (DirtyS w C) := by
  have HST := Lib.hid (state_ok w b ab cm D C h)
  have c1 := h.c1
  obtain ⟨M, hm, hM⟩ := h.cache
  have lc := h.lt.2.2
  have hfew := h.few
  have hkeys : ∀ p ∈ M, 0 ≤ p.1 ∧ p.1 < D.length := fun p hp => by
    have hg := im_mem hm (k := p.1) (v := p.2) hp
    have := hM p.1
    cases hC : C p.1 with
    | none => rw [hC] at this; simp only [] at this; rw [hg] at this; cases this
    | some l => exact h.keys p.1 l hC
  have hnd : (M.map (·.1)).Nodup := by
    obtain ⟨es, c, hb, hs, hk, rfl⟩ := im_inv hm
    rw [List.map_map]
    refine List.pairwise_map.2 ((List.pairwise_map.1 hs.2.2).imp_of_mem fun {x y} hx hy hne e => hne ?_)
    rw [ient_key (hk x hx), ient_key (hk y hy)]
    exact congrArg _ e
  have hlen : M.length ≤ D.length := by
    have := nodup_sub D.length (M.map (·.1)) hnd (fun x hx => by obtain ⟨p, hp, rfl⟩ := List.mem_map.1 hx; exact hkeys p hp)
    simpa using this
  have hwf : ∀ p ∈ M, (Lit.int .i64 p.1).wf = true := fun p hp => by
    have := hkeys p hp
    simp [Lit.wf, IntKind.min, IntKind.max, IntKind.signed, IntKind.bits]
    omega
  have hmem : ∀ i, i ∈ M.map (·.1) ↔ C i ≠ none := fun i => by
    have := hM i
    constructor
    · intro hi hC
      obtain ⟨p, hp, rfl⟩ := List.mem_map.1 hi
      rw [hC] at this
      simp only [] at this
      rw [im_mem hm (k := p.1) (v := p.2) hp] at this; cases this
    · intro hC
      obtain ⟨l, hl⟩ := Option.ne_none_iff_exists'.1 hC
      rw [hl] at this
      obtain ⟨sv, k1, _⟩ := this
      unfold aget at k1
      obtain ⟨p, hp, hp2⟩ := Option.map_eq_some_iff.1 k1
      have h1 := List.mem_of_find?_eq_some hp
      have h2 := List.find?_some hp
      simp only [decide_eq_true_eq] at h2
      exact List.mem_map.2 ⟨p, h1, h2⟩
  have HMEM := Lib.hid hmem; clear hmem
  have HWF := Lib.hid hwf; clear hwf
  have HND := Lib.hid hnd
  clear hM hkeys hnd h
  go_enter Try.func37, Try.ntmps37
  go_wp2_with (first
    | (go_at_call 43; refine HST.out.mono ?_; rintro e w' ⟨rfl, rfl⟩)
    | (go_at_call 49; refine (keys_any _ _).mono ?_; rintro e w' ⟨rfl, rfl⟩)
    | (go_at_call 48; refine (sort_keys w.heap.size cm M _ (by simp) (by simp [go_sem]) (by rw [im_alloc_old _ lc]; exact hm) HWF.out (by omega)).mono ?_; rintro e w1 ⟨v1, rfl, ho, hnil, hu⟩; clear hnil))
  go_ret
  refine ⟨_, sorted (M.map (·.1)), rfl, ?_, ?_, ?_, fun i => by rw [mem_sorted]; exact HMEM.out i, ((Upd.refl _ _).alloc _).trans hu, (List.mergeSort_perm _ _).nodup_iff.2 HND.out, sorted_rises _⟩
  · refine Ints.of_owns (base := (w.alloc (.cells #[.map (some cm)] 53)).heap.size) (e := 3) ?_ ?_
    · rw [sorted_length, List.length_map]; omega
    · rw [sorted_length]; exact ho
  · intro kb o k c e
    have := Fresh.of_owns ho kb o k c e
    simp at this
    omega
  · rw [sorted_length, List.length_map]; omega
theorem dirty_any (w : World) (b ab cm : Nat) (D : List (List Int)) (C : Int → Option (List Int)) (h : PlateAt w b ab cm D C) :
    Calls Try.prog 37 #[.pointer (some ⟨b, 0, none⟩)] w (DirtyPost w C) := by
  refine (dirty_srt w b ab cm D C h).mono ?_
  rintro e w' ⟨v, ks, h1, h2, h3, h4, h5, h6, _⟩
  exact ⟨v, ks, h1, h2, h3, h4, h5, h6⟩
end Go.Proofs.Ytcmhcibkpmbnoaa
namespace Go.Proofs.Ytcmhcibkpmbnoaa
open Go Go.RowKit Go.MapKept Go.ChangeMaps

theorem info_int : (Try.prog.info? 3).map (fun i => (i.zero, i.size, i.bytes)) = some (some (.int .i64 0), 1, 8) := by kernel_rfl
/-- Ints of its own, so far. -/
def IOwn (B : Nat) (w : World) (v : Value) (l : List Int) : Prop := w.ownsRow B 3 1 v l.length (l.map encI)
theorem IOwn.shape {B : Nat} {w : World} {v : Value} {l : List Int} (h : IOwn B w v l) : ∃ a c, v = .slice a l.length c := by
  rcases h.2 with ⟨rfl, h0⟩ | ⟨g, cap, cur, rfl, _⟩
  · rw [h0]; exact ⟨_, _, rfl⟩
  · exact ⟨_, _, rfl⟩
theorem IOwn.upd {F : Nat → Prop} {B : Nat} {w w' : World} {v : Value} {l : List Int} (h : IOwn B w v l) (u : Upd F w w') (hF : ∀ b, B ≤ b → ¬ F b) : IOwn B w' v l := owns_upd h u hF
theorem IOwn.ints {B : Nat} {w : World} {v : Value} {l : List Int} (h : IOwn B w v l) (hl : l.length ≤ 8192) : Ints w v l := Ints.of_owns (by omega) h
theorem IOwn.ge {B : Nat} {w : World} {v : Value} {l : List Int} (h : IOwn B w v l) : ∀ k, some k = v.ownBlock → B ≤ k := by
  intro k hk
  rcases h.2 with ⟨rfl, _⟩ | ⟨g, cap, cur, rfl, hg, _⟩
  · cases hk
  · cases hk; exact hg
theorem IOwn.notB {B : Nat} {w : World} {v : Value} {l : List Int} (h : IOwn B w v l) : ∀ k, some k = v.ownBlock → NotB w k := by
  intro k hk
  rcases h.2 with ⟨rfl, _⟩ | ⟨g, cap, cur, rfl, hg, hh, _⟩
  · cases hk
  · cases hk
    intro cur' fr e
    rw [hh] at e; cases e
/-- Bytes are appended, at a step of a region that draws its order. -/
theorem bit01 {mask : Int} (h0 : 0 ≤ mask) (h1 : mask ≤ 18446744073709551615) (x : Nat) : bits BinOp.and IntKind.u64 (mask / 2 ^ x) 1 = 0 ∨ bits BinOp.and IntKind.u64 (mask / 2 ^ x) 1 = 1 := by
  have hp : (0 : Int) < 2 ^ x := Int.pow_pos (by decide)
  have a0 : 0 ≤ mask / 2 ^ x := Int.ediv_nonneg h0 (Int.le_of_lt hp)
  have a1 : mask / 2 ^ x ≤ 18446744073709551615 := Int.le_trans (Int.ediv_le_self _ h0) h1
  rw [and_one_u64 _ a0 a1]
  omega
/-- One number is appended to numbers of its own. -/
theorem wpList_append_int1 {ops : Array Oper} {rest : List Oper} {o : Oper} {a : Act} {Q : Exit → Act → World → Prop} {w : World} (hgd : o.guard = none) (s x : Operand)
    (ho : o.op = .call { callee := .builtin .append, args := #[s, x], argTypes := #[33, 33] })
    (B : Nat) (v : Value) (l : List Int) (n : Int) (b c : Nat) (hs : a.eval s = v) (hown : IOwn B w v l) (hx : a.eval x = .slice (some ⟨b, 0, none⟩) 1 c) (hb : w.cell? ⟨b, 0, none⟩ = some (encI n)) (hlen : l.length ≤ 1099511627776) (hB : B ≤ w.heap.size)
    (h : ∀ v' w', IOwn B w' v' (l ++ [n]) → Upd (fun k => some k = v.ownBlock) w w' → wpList Try.prog ops Q rest (a.put o.dst v') w') : wpList Try.prog ops Q (o :: rest) a w := by
  obtain ⟨i0, hi, hz0, hz1, hz2⟩ := info_parts info_int
  refine wpList_append_own _ hgd s x 33 ho B 3 i0 _ 1 8 Try.underlying33 hi hz0 hz1 hz2 rfl (by decide) v l.length (l.map encI) hs hown ⟨b, 0, none⟩ 1 c [encI n] hx rfl ?_ (by simp [Value.oneCell', encI]) (by unfold maxLen; omega) (by omega) hB ?_
  · intro j u hu
    cases j with
    | zero => cases hu; rw [Addr.add_lit]; exact hb
    | succ j => cases hu
  · intro v' w' h1 h2 _
    refine h v' w' ?_ (Upd.of_grown h2)
    unfold IOwn
    rw [List.length_append, List.map_append]
    exact h1
end Go.Proofs.Ytcmhcibkpmbnoaa
