/-
  Dirty: the sectors that are not durable, sorted.
  WalK: kept: some of the sectors named.
-/
import Derived.Test.YtchpekecgdbphaaCrashy
import Derived.Test.YtchpekecgdbphaaSh3
import Derived.Shelf.Abstract
import Derived.OwnWalkIn
import Derived.Deep.RegionHeld3
import Derived.Deep.RegionLaw
import Derived.BigRegion
import Derived.WalkSmall
set_option linter.unusedVariables false
namespace Go.Proofs.Ytchpekecgdbphaa
open Go Go.RowKit Go.Shelf Go.Sort Go.Maps Go.WideElems Go.MapKept Go.ChangeMaps

abbrev encI : Int → Value := Value.int .i64
def sorted (l : List Int) : List Int := l.mergeSort fun x y => decide (x ≤ y)
theorem sorted_length (l : List Int) : (sorted l).length = l.length := List.length_mergeSort _
theorem mem_sorted {n : Int} {l : List Int} : n ∈ sorted l ↔ n ∈ l := (List.mergeSort_perm _ _).mem_iff
def SortPost (w : World) (l : List Int) (e : Ending) (w' : World) : Prop :=
  ∃ v, e = .returned v ∧ w'.ownsRow w.heap.size 3 1 v l.length ((sorted l).map encI) ∧ (v = .slice none 0 0 ↔ l = []) ∧ Upd (fun _ => False) w w'
theorem insert_perm {H : Type} (x : Lit × DataW H) : ∀ (l : List (Lit × DataW H)), (DataW.insert x l).Perm (x :: l)
  | [] => .refl _
  | y :: r => by
    unfold DataW.insert
    split
    · exact .refl _
    · exact ((insert_perm x r).cons y).trans (.swap x y r)
theorem insertAll_perm {H : Type} : ∀ (l : List (Lit × DataW H)), (l.foldr DataW.insert []).Perm l
  | [] => .refl _
  | x :: r => (insert_perm x _).trans ((insertAll_perm r).cons x)
theorem keys_own {w : World} {b : Nat} {l : List (Int × Value)} (h : w.im b = some l) (hw : ∀ p ∈ l, (Lit.int .i64 p.1).wf = true) (hl : l.length ≤ maxLen) :
    ∃ D0 : DataW Unit, w.ownsMap Try.prog 3 (fun _ => some (.nil, [])) b l.length D0 ∧ (intKeys D0).Perm (l.map (·.1)) ∧ Maps.size D0 = l.length := by
  obtain ⟨es, c, h1, h2, h3, rfl⟩ := im_inv h
  have hrd : ∀ x ∈ es.toList, WideElems.rd (H := Unit) Try.prog 3 (fun _ => some (.nil, [])) x = some (.int .i64 (ient x).1, .nil) := fun x hx => by
    have hk := ient_key (h3 x hx)
    have hwx := hw (ient x) (List.mem_map_of_mem hx)
    unfold WideElems.rd
    rw [hk]
    simp [keyOf, Try.underlying3, mapKey, hwx]
  have hmap : es.toList.map (WideElems.rg (H := Unit) Try.prog 3 (fun _ => some (.nil, []))) = (es.toList.map ient).map fun p => (.int .i64 p.1, .nil) := by
    rw [List.map_map]
    refine List.map_congr_left fun x hx => ?_
    exact WideElems.rg_of (hrd x hx)
  refine ⟨.map ((es.toList.map (WideElems.rg Try.prog 3 (fun _ => some (.nil, [])))).foldr DataW.insert []), ⟨es, c, h1, ⟨by simpa using hl, h2, fun x hx => ⟨_, hrd x hx⟩⟩, by simp, rfl⟩, ?_, ?_⟩
  · show (((es.toList.map (WideElems.rg (H := Unit) Try.prog 3 (fun _ => some (.nil, [])))).foldr DataW.insert []).map fun p => Go.intOf p.1).Perm _
    refine ((insertAll_perm _).map _).trans ?_
    rw [hmap, List.map_map]
    exact .refl _
  · show ((es.toList.map (WideElems.rg (H := Unit) Try.prog 3 (fun _ => some (.nil, [])))).foldr DataW.insert []).length = _
    rw [(insertAll_perm _).length_eq]
    simp

theorem sortsA (m : Nat) : AnyZI.SortsIn Try.prog Try.sortedA_ren Fence.wide m :=
  ⟨fun blk off cap ss W hH hblk hsz => callsIn_wide.2 (Try.slices_Sort_int blk off cap ss W hH hblk hsz), fun p cap W => callsIn_wide.2 (Try.slices_Sort_int_none p cap W)⟩
theorem keys_any (mb : Option Nat) (w : World) : Calls Try.prog 41 #[.map mb] w fun e w' => e = .returned (.func (.func 53) #[] #[.pointer (some ⟨w.heap.size, 0, none⟩)]) ∧ w' = w.alloc (.cells #[.map mb] 55) := by
  have : CallsIn Fence.wide 5 Try.prog 41 #[.map mb] w fun e w' => e = .returned (.func (.func 53) #[] #[.pointer (some ⟨w.heap.size, 0, none⟩)]) ∧ w' = w.alloc (.cells #[.map mb] 55) :=
    AnyZI.keys_in Try.keysA Fence.wide 5 trivial rfl mb w
  exact callsIn_wide.1 this
theorem sort_keys (Bm m : Nat) (l : List (Int × Value)) (w : World) (hBm : Bm < w.heap.size) (hm : w.cell? ⟨Bm, 0, none⟩ = some (.map (some m))) (hi : w.im m = some l) (hw : ∀ p ∈ l, (Lit.int .i64 p.1).wf = true) (hl : l.length ≤ 8192) :
    Calls Try.prog 40 #[.func (.func 53) #[] #[.pointer (some ⟨Bm, 0, none⟩)]] w (SortPost w (l.map (·.1))) := by
  obtain ⟨D0, hown, hperm, hsize⟩ := keys_own hi hw (by unfold maxLen; omega)
  have hseq : SeqGives Fence.wide 2 Try.prog 53 #[.pointer (some ⟨Bm, 0, none⟩)] encZ (fun ss => ss.Perm (intKeys D0)) (Maps.size D0) w :=
    AnyZI.keys_gives (ρ := Try.keysA_ren) { Try.keysA with } Fence.wide _ trivial rfl (by omega) Bm m l.length D0 w hBm hm hown
  have cS := AnyZI.sorted_in Try.sortedA Fence.wide 5 trivial trivial trivial trivial rfl (by omega) (sortsA _) (enters_of Try.func52 (by kernel_rfl) rfl) 53 #[.pointer (some ⟨Bm, 0, none⟩)] trivial (enters_of Try.func53 (by kernel_rfl) rfl) _ _ (by rw [hsize]; unfold maxLen; omega) (by omega) _ hseq
  change CallsIn _ _ Try.prog 40 _ _ _ at cS
  refine (callsIn_wide.1 cS).mono ?_
  rintro e w' ⟨v, ss, rfl, hS, hrow, hnil, hb⟩
  have hp : ss.Perm (l.map (·.1)) := hS.trans hperm
  have hs : ss.mergeSort (fun x y => decide (x ≤ y)) = sorted (l.map (·.1)) := mergeSort_of_perm_i hp
  have hlen := hp.length_eq
  refine ⟨v, rfl, ?_, hnil.trans ⟨fun h => ?_, fun h => ?_⟩, Upd.of_below hb⟩
  · rw [← hlen, ← hs]; exact hrow
  · exact List.eq_nil_of_length_eq_zero (by rw [← hlen, h]; rfl)
  · exact List.eq_nil_of_length_eq_zero (by rw [hlen, h]; rfl)


theorem nodup_sub : ∀ (n : Nat) (l : List Int), l.Nodup → (∀ x ∈ l, 0 ≤ x ∧ x < n) → l.length ≤ n
  | 0, l, _, hx => by
    cases l with
    | nil => exact Nat.le_refl _
    | cons a r => have := hx a (.head _); omega
  | n + 1, l, hn, hx => by
    have h1 := nodup_sub n (l.erase (n : Int)) (hn.erase _) (fun x hx' => by
      have h2 := hn.mem_erase_iff.1 hx'
      have := hx x h2.2
      have := h2.1
      omega)
    rw [List.length_erase] at h1
    split at h1 <;> omega
def DirtyPost (w : World) (C : Int → Option (List Int)) (e : Ending) (w' : World) : Prop :=
  ∃ v ks, e = .returned v ∧ Ints w' v ks ∧ Fresh w.heap.size v ∧ ks.length ≤ 8192 ∧ (∀ i, i ∈ ks ↔ C i ≠ none) ∧ Upd (fun _ => False) w w'
theorem dirty_any (w : World) (b ab cm : Nat) (D : List (List Int)) (C : Int → Option (List Int)) (h : PlateAt w b ab cm D C) :
    Calls Try.prog 19 #[.pointer (some ⟨b, 0, none⟩)] w (DirtyPost w C) := by
  have HST := Lib.hid (state_ok w b ab cm D C h)
  have c1 := h.c1
  obtain ⟨M, hm, hM⟩ := h.cache
  have lc := h.lt.2.2
  have hfew := h.few
  have hkeys : ∀ p ∈ M, 0 ≤ p.1 ∧ p.1 < D.length := fun p hp => by
    have hg := im_mem hm (k := p.1) (v := p.2) hp
    have := hM p.1
    cases hC : C p.1 with
    | none => rw [hC] at this; simp only [] at this; rw [hg] at this; cases this
    | some l => exact h.keys p.1 l hC
  have hnd : (M.map (·.1)).Nodup := by
    obtain ⟨es, c, hb, hs, hk, rfl⟩ := im_inv hm
    rw [List.map_map]
    refine List.pairwise_map.2 ((List.pairwise_map.1 hs.2.2).imp_of_mem fun {x y} hx hy hne e => hne ?_)
    rw [ient_key (hk x hx), ient_key (hk y hy)]
    exact congrArg _ e
  have hlen : M.length ≤ D.length := by
    have := nodup_sub D.length (M.map (·.1)) hnd (fun x hx => by obtain ⟨p, hp, rfl⟩ := List.mem_map.1 hx; exact hkeys p hp)
    simpa using this
  have hwf : ∀ p ∈ M, (Lit.int .i64 p.1).wf = true := fun p hp => by
    have := hkeys p hp
    simp [Lit.wf, IntKind.min, IntKind.max, IntKind.signed, IntKind.bits]
    omega
  have hmem : ∀ i, i ∈ M.map (·.1) ↔ C i ≠ none := fun i => by
    have := hM i
    constructor
    · intro hi hC
      obtain ⟨p, hp, rfl⟩ := List.mem_map.1 hi
      rw [hC] at this
      simp only [] at this
      rw [im_mem hm (k := p.1) (v := p.2) hp] at this; cases this
    · intro hC
      obtain ⟨l, hl⟩ := Option.ne_none_iff_exists'.1 hC
      rw [hl] at this
      obtain ⟨sv, k1, _⟩ := this
      unfold aget at k1
      obtain ⟨p, hp, hp2⟩ := Option.map_eq_some_iff.1 k1
      have h1 := List.mem_of_find?_eq_some hp
      have h2 := List.find?_some hp
      simp only [decide_eq_true_eq] at h2
      exact List.mem_map.2 ⟨p, h1, h2⟩
  have HMEM := Lib.hid hmem; clear hmem
  have HWF := Lib.hid hwf; clear hwf
  clear hM hkeys hnd h
  go_enter Try.func19, Try.ntmps19
  go_wp2_with (first
    | (go_at_call 29; refine HST.out.mono ?_; rintro e w' ⟨rfl, rfl⟩)
    | (go_at_call 41; refine (keys_any _ _).mono ?_; rintro e w' ⟨rfl, rfl⟩)
    | (go_at_call 40; refine (sort_keys w.heap.size cm M _ (by simp) (by simp [go_sem]) (by rw [im_alloc_old _ lc]; exact hm) HWF.out (by omega)).mono ?_; rintro e w1 ⟨v1, rfl, ho, hnil, hu⟩; clear hnil))
  go_ret
  refine ⟨_, sorted (M.map (·.1)), rfl, ?_, ?_, ?_, fun i => by rw [mem_sorted]; exact HMEM.out i, ((Upd.refl _ _).alloc _).trans hu⟩
  · refine Ints.of_owns (base := (w.alloc (.cells #[.map (some cm)] 55)).heap.size) (e := 3) ?_ ?_
    · rw [sorted_length, List.length_map]; omega
    · rw [sorted_length]; exact ho
  · intro kb o k c e
    have := Fresh.of_owns ho kb o k c e
    simp at this
    omega
  · rw [sorted_length, List.length_map]; omega
end Go.Proofs.Ytchpekecgdbphaa
namespace Go.Proofs.Ytchpekecgdbphaa
open Go Go.RowKit Go.MapKept Go.ChangeMaps

theorem info_int : (Try.prog.info? 3).map (fun i => (i.zero, i.size, i.bytes)) = some (some (.int .i64 0), 1, 8) := by kernel_rfl
/-- Ints of its own, so far. -/
def IOwn (B : Nat) (w : World) (v : Value) (l : List Int) : Prop := w.ownsRow B 3 1 v l.length (l.map encI)
theorem IOwn.shape {B : Nat} {w : World} {v : Value} {l : List Int} (h : IOwn B w v l) : ∃ a c, v = .slice a l.length c := by
  rcases h.2 with ⟨rfl, h0⟩ | ⟨g, cap, cur, rfl, _⟩
  · rw [h0]; exact ⟨_, _, rfl⟩
  · exact ⟨_, _, rfl⟩
theorem IOwn.upd {F : Nat → Prop} {B : Nat} {w w' : World} {v : Value} {l : List Int} (h : IOwn B w v l) (u : Upd F w w') (hF : ∀ b, B ≤ b → ¬ F b) : IOwn B w' v l := owns_upd h u hF
theorem IOwn.ints {B : Nat} {w : World} {v : Value} {l : List Int} (h : IOwn B w v l) (hl : l.length ≤ 8192) : Ints w v l := Ints.of_owns (by omega) h
theorem IOwn.ge {B : Nat} {w : World} {v : Value} {l : List Int} (h : IOwn B w v l) : ∀ k, some k = v.ownBlock → B ≤ k := by
  intro k hk
  rcases h.2 with ⟨rfl, _⟩ | ⟨g, cap, cur, rfl, hg, _⟩
  · cases hk
  · cases hk; exact hg
theorem IOwn.notB {B : Nat} {w : World} {v : Value} {l : List Int} (h : IOwn B w v l) : ∀ k, some k = v.ownBlock → NotB w k := by
  intro k hk
  rcases h.2 with ⟨rfl, _⟩ | ⟨g, cap, cur, rfl, hg, hh, _⟩
  · cases hk
  · cases hk
    intro cur' fr e
    rw [hh] at e; cases e
/-- Bytes are appended, at a step of a region that draws its order. -/
theorem bit01 {mask : Int} (h0 : 0 ≤ mask) (h1 : mask ≤ 18446744073709551615) (x : Nat) : bits BinOp.and IntKind.u64 (mask / 2 ^ x) 1 = 0 ∨ bits BinOp.and IntKind.u64 (mask / 2 ^ x) 1 = 1 := by
  have hp : (0 : Int) < 2 ^ x := Int.pow_pos (by decide)
  have a0 : 0 ≤ mask / 2 ^ x := Int.ediv_nonneg h0 (Int.le_of_lt hp)
  have a1 : mask / 2 ^ x ≤ 18446744073709551615 := Int.le_trans (Int.ediv_le_self _ h0) h1
  rw [and_one_u64 _ a0 a1]
  omega
/-- One number is appended to numbers of its own. -/
theorem wpList_append_int1 {ops : Array Oper} {rest : List Oper} {o : Oper} {a : Act} {Q : Exit → Act → World → Prop} {w : World} (hgd : o.guard = none) (s x : Operand)
    (ho : o.op = .call { callee := .builtin .append, args := #[s, x], argTypes := #[44, 44] })
    (B : Nat) (v : Value) (l : List Int) (n : Int) (b c : Nat) (hs : a.eval s = v) (hown : IOwn B w v l) (hx : a.eval x = .slice (some ⟨b, 0, none⟩) 1 c) (hb : w.cell? ⟨b, 0, none⟩ = some (encI n)) (hlen : l.length ≤ 1099511627776) (hB : B ≤ w.heap.size)
    (h : ∀ v' w', IOwn B w' v' (l ++ [n]) → Upd (fun k => some k = v.ownBlock) w w' → wpList Try.prog ops Q rest (a.put o.dst v') w') : wpList Try.prog ops Q (o :: rest) a w := by
  obtain ⟨i0, hi, hz0, hz1, hz2⟩ := info_parts info_int
  refine wpList_append_own _ hgd s x 44 ho B 3 i0 _ 1 8 Try.underlying44 hi hz0 hz1 hz2 rfl (by decide) v l.length (l.map encI) hs hown ⟨b, 0, none⟩ 1 c [encI n] hx rfl ?_ (by simp [Value.oneCell', encI]) (by unfold maxLen; omega) (by omega) hB ?_
  · intro j u hu
    cases j with
    | zero => cases hu; rw [Addr.add_lit]; exact hb
    | succ j => cases hu
  · intro v' w' h1 h2 _
    refine h v' w' ?_ (Upd.of_grown h2)
    unfold IOwn
    rw [List.length_append, List.map_append]
    exact h1
/-- Whether a mask has a bit. -/
def KeptPost (w : World) (ks : List Int) (e : Ending) (w' : World) : Prop :=
  ∃ v K, e = .returned v ∧ Ints w' v K ∧ Fresh w.heap.size v ∧ K.length ≤ 8192 ∧ (∀ x, x ∈ K → x ∈ ks) ∧ Upd (fun _ => False) w w'
theorem kept_any (w : World) (kv : Value) (ks : List Int) (mask : Int) (hk : Ints w kv ks) (hl : ks.length ≤ 8192) (hm0 : 0 ≤ mask) (hm1 : mask ≤ 18446744073709551615) :
    Calls Try.prog 18 #[kv, .int .u64 mask] w (KeptPost w ks) := by
  obtain ⟨ka, kc, rfl⟩ := hk.shape
  have HK := Lib.hid hk; clear hk
  obtain ⟨i0, HI0', HZ0', HZ1', HZ2'⟩ : True ∧ True ∧ True ∧ True ∧ True := ⟨trivial, trivial, trivial, trivial, trivial⟩
  clear i0 HI0' HZ0' HZ1' HZ2'
  go_enter Try.func18, Try.ntmps18
  go_wp2_with fail
  go_loopw [5, 10] (fun out i wr => ∃ (q : Nat) (K : List Int), i = .int .i64 q ∧ q ≤ ks.length ∧ K.length ≤ q ∧ (∀ x, x ∈ K → x ∈ ks) ∧ IOwn w.heap.size wr out K ∧ Upd (fun _ => False) w wr) (fun _ i _ => ks.length - (intOf i).toNat)
  case atStart => exact ⟨0, [], rfl, by omega, Nat.le_refl _, (fun x hx => by cases hx), ⟨rfl, .inl ⟨rfl, rfl⟩⟩, Upd.refl _ _⟩
  case round =>
    obtain ⟨q, K, rfl, hq, hKq, hin, hown, hu⟩ := hrel
    obtain ⟨xa, xc, rfl⟩ := hown.shape
    have HOWN := Lib.hid hown; clear hown
    have HU := Lib.hid hu; clear hu
    have HIN := Lib.hid hin; clear hin
    by_cases hlt : q < ks.length
    · obtain ⟨bb, o, hka, hcell⟩ : ∃ bb o, ka = some ⟨bb, o, none⟩ ∧ wr.cell? ⟨bb, o + q, none⟩ = some (.int .i64 (ks.getD q 0)) := by
        rcases HK.out.cells with ⟨e, _⟩ | ⟨bb, o, c, e, _, hc⟩
        · rw [e] at hlt; exact absurd hlt (Nat.not_lt_zero _)
        · cases e
          have h1 := hc q hlt
          exact ⟨bb, o, rfl, (HU.out.cell (p := ⟨bb, o + q, none⟩) (World.block_lt_of_cell? _ _ h1) (fun h => h)).trans h1⟩
      subst hka
      have hmem : ks.getD q 0 ∈ ks := by rw [List.getD_eq_getElem?_getD, List.getElem?_eq_getElem hlt]; exact List.getElem_mem hlt
      generalize ks.getD q 0 = x at hcell hmem
      have HMEM := Lib.hid hmem; clear hmem
      cases hb : (bits BinOp.and IntKind.u64 (mask / 2 ^ (q % 64)) 1 == 1) with
      | false =>
        go_wp2_with fail
        go_roundw
        case rel => exact ⟨q + 1, K, rfl, hlt, by omega, HIN.out, HOWN.out, HU.out⟩
        case measure => simp [intOf]; omega
      | true =>
        go_wp2_with (at_builtin; go_must (refine wpList_append_int1 rfl _ _ rfl w.heap.size _ K x wr.heap.size 1 rfl ?hown rfl ?hcell ?hlen ?hB ?_))
        case hown => exact HOWN.out.upd ((Upd.refl (fun _ => False) _).alloc _) (fun _ _ h => h)
        case hcell => simp [go_sem, encI]
        case hlen => omega
        case hB => simp; have := HU.out.size; omega
        intro v' w3 hown3 hu3
        obtain ⟨ra', m', rc', rfl, hm'⟩ : ∃ a m c, v' = .slice a m c ∧ m = (K ++ [x]).length := by
          obtain ⟨a, c, e⟩ := hown3.shape
          exact ⟨a, _, c, e, rfl⟩
        clear hm'
        have HOWN3 := Lib.hid hown3; clear hown3
        have hge4 := HOWN.out.ge
        have HU3 := Lib.hid (HU.out.trans' ((((Upd.refl _ _).alloc _).trans hu3 : Upd (fun k => some k = (Value.slice xa K.length xc).ownBlock) wr w3)) (fun i hi e => by have := hge4 i e; omega))
        clear hge4 hu3
        go_wp2_with fail
        go_roundw
        case rel => exact ⟨q + 1, K ++ [x], rfl, hlt, by rw [List.length_append]; exact Nat.succ_le_succ hKq, (fun y hy => by rcases List.mem_append.1 hy with h | h; exact HIN.out y h; rw [List.mem_singleton.1 h]; exact HMEM.out), HOWN3.out, HU3.out⟩
        case measure => simp [intOf]; omega
    · go_wp2_with fail
      go_ret
      exact ⟨_, K, rfl, HOWN.out.ints (by omega), fun b o n c e => by cases e; exact HOWN.out.ge b rfl, by omega, HIN.out, HU.out⟩
end Go.Proofs.Ytchpekecgdbphaa
