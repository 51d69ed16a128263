/-
  Open: the slots that are proposed, sorted.
-/
import Derived.Test.YtlichkheakjkhaaLead9
namespace Go.Proofs.Ytlichkheakjkhaa
open Go Go.RowKit Go.Shelf Go.Sort Go.Maps Go.WideElems Go.MapKept Go.ChangeMaps

theorem insert_perm {H : Type} (x : Lit × DataW H) : ∀ (l : List (Lit × DataW H)), (DataW.insert x l).Perm (x :: l)
  | [] => .refl _
  | y :: r => by
    unfold DataW.insert
    split
    · exact .refl _
    · exact ((insert_perm x r).cons y).trans (.swap x y r)
theorem insertAll_perm {H : Type} : ∀ (l : List (Lit × DataW H)), (l.foldr DataW.insert []).Perm l
  | [] => .refl _
  | x :: r => (insert_perm x _).trans ((insertAll_perm r).cons x)
theorem keys_own {w : World} {b : Nat} {l : List (Int × Value)} (h : w.im b = some l) (hw : ∀ p ∈ l, (Lit.int .i64 p.1).wf = true) (hl : l.length ≤ maxLen) :
    ∃ D0 : DataW Unit, w.ownsMap Try.prog 3 (fun _ => some (.nil, [])) b l.length D0 ∧ (intKeys D0).Perm (l.map (·.1)) ∧ Maps.size D0 = l.length := by
  obtain ⟨es, c, h1, h2, h3, rfl⟩ := im_inv h
  have hrd : ∀ x ∈ es.toList, WideElems.rd (H := Unit) Try.prog 3 (fun _ => some (.nil, [])) x = some (.int .i64 (ient x).1, .nil) := fun x hx => by
    have hk := ient_key (h3 x hx)
    have hwx := hw (ient x) (List.mem_map_of_mem hx)
    unfold WideElems.rd
    rw [hk]
    simp [keyOf, Try.underlying3, mapKey, hwx]
  have hmap : es.toList.map (WideElems.rg (H := Unit) Try.prog 3 (fun _ => some (.nil, []))) = (es.toList.map ient).map fun p => (.int .i64 p.1, .nil) := by
    rw [List.map_map]
    refine List.map_congr_left fun x hx => ?_
    exact WideElems.rg_of (hrd x hx)
  refine ⟨.map ((es.toList.map (WideElems.rg Try.prog 3 (fun _ => some (.nil, [])))).foldr DataW.insert []), ⟨es, c, h1, ⟨by simpa using hl, h2, fun x hx => ⟨_, hrd x hx⟩⟩, by simp, rfl⟩, ?_, ?_⟩
  · show (((es.toList.map (WideElems.rg (H := Unit) Try.prog 3 (fun _ => some (.nil, [])))).foldr DataW.insert []).map fun p => Go.intOf p.1).Perm _
    refine ((insertAll_perm _).map _).trans ?_
    rw [hmap, List.map_map]
    exact .refl _
  · show ((es.toList.map (WideElems.rg (H := Unit) Try.prog 3 (fun _ => some (.nil, [])))).foldr DataW.insert []).length = _
    rw [(insertAll_perm _).length_eq]
    simp

theorem sortsA (m : Nat) : AnyZI.SortsIn Try.prog Try.sortedA_ren Fence.wide m :=
  ⟨fun blk off cap ss W hH hblk hsz => callsIn_wide.2 (Try.slices_Sort_int blk off cap ss W hH hblk hsz), fun p cap W => callsIn_wide.2 (Try.slices_Sort_int_none p cap W)⟩
theorem keys_any (mb : Option Nat) (w : World) : Calls Try.prog 37 #[.map mb] w fun e w' => e = .returned (.func (.func 48) #[] #[.pointer (some ⟨w.heap.size, 0, none⟩)]) ∧ w' = w.alloc (.cells #[.map mb] 58) := by
  have : CallsIn Fence.wide 5 Try.prog 37 #[.map mb] w fun e w' => e = .returned (.func (.func 48) #[] #[.pointer (some ⟨w.heap.size, 0, none⟩)]) ∧ w' = w.alloc (.cells #[.map mb] 58) :=
    AnyZI.keys_in Try.keysA Fence.wide 5 trivial rfl mb w
  exact callsIn_wide.1 this
theorem sort_keys (Bm m : Nat) (l : List (Int × Value)) (w : World) (hBm : Bm < w.heap.size) (hm : w.cell? ⟨Bm, 0, none⟩ = some (.map (some m))) (hi : w.im m = some l) (hw : ∀ p ∈ l, (Lit.int .i64 p.1).wf = true) (hl : l.length ≤ 1000) :
    Calls Try.prog 36 #[.func (.func 48) #[] #[.pointer (some ⟨Bm, 0, none⟩)]] w (SortPost w (l.map (·.1))) := by
  obtain ⟨D0, hown, hperm, hsize⟩ := keys_own hi hw (by unfold maxLen; omega)
  have hseq : SeqGives Fence.wide 2 Try.prog 48 #[.pointer (some ⟨Bm, 0, none⟩)] encZ (fun ss => ss.Perm (intKeys D0)) (Maps.size D0) w :=
    AnyZI.keys_gives (ρ := Try.keysA_ren) { Try.keysA with } Fence.wide _ trivial rfl (by omega) Bm m l.length D0 w hBm hm hown
  have cS := AnyZI.sorted_in Try.sortedA Fence.wide 5 trivial trivial trivial trivial rfl (by omega) (sortsA _) (enters_of Try.func47 (by kernel_rfl) rfl) 48 #[.pointer (some ⟨Bm, 0, none⟩)] trivial (enters_of Try.func48 (by kernel_rfl) rfl) _ _ (by rw [hsize]; unfold maxLen; omega) (by omega) _ hseq
  change CallsIn _ _ Try.prog 36 _ _ _ at cS
  refine (callsIn_wide.1 cS).mono ?_
  rintro e w' ⟨v, ss, rfl, hS, hrow, hnil, hb⟩
  have hp : ss.Perm (l.map (·.1)) := hS.trans hperm
  have hs : ss.mergeSort (fun x y => decide (x ≤ y)) = sorted (l.map (·.1)) := mergeSort_of_perm_i hp
  have hlen := hp.length_eq
  refine ⟨v, rfl, ?_, hnil.trans ⟨fun h => ?_, fun h => ?_⟩, Upd.of_below hb⟩
  · rw [← hlen, ← hs]; exact hrow
  · exact List.eq_nil_of_length_eq_zero (by rw [← hlen, h]; rfl)
  · exact List.eq_nil_of_length_eq_zero (by rw [hlen, h]; rfl)

def OpenPost (w : World) (ks : List Int) (e : Ending) (w' : World) : Prop := ∃ v, e = .returned v ∧ Ints w' v (sorted ks) ∧ Upd (fun _ => False) w w'
theorem open_any (w : World) (b m1 m2 m3 : Nat) (ballot frm : Int) (P B O : List (Int × Value)) (hb : 1 ≤ ballot) (h : TryAt w b m1 m2 m3 ballot frm P B O) (hw : ∀ p ∈ O, (Lit.int .i64 p.1).wf = true) (hl : O.length ≤ 1000) :
    Calls Try.prog 15 #[.pointer (some ⟨b, 0, none⟩)] w (OpenPost w (O.map (·.1))) := by
  have hs : stateR 0 = 0 := by rw [stateR, if_pos (by omega)]
  have c4 := h.c4
  have i3 := h.i3
  have l3 := h.lts.2.2.2
  have HH := Lib.hid h; clear h
  have HW := Lib.hid hw; clear hw
  go_enter Try.func15, Try.ntmps15
  go_wp2_with (first
    | (go_at_call 34; refine (state_try _ HH.out hb).mono ?_; rintro e w' ⟨rfl, rfl⟩)
    | (go_at_call 37; refine (keys_any _ _).mono ?_; rintro e w' ⟨rfl, rfl⟩)
    | (go_at_call 36; refine (sort_keys w.heap.size m3 O _ (by simp) (by simp [go_sem]) (by rw [im_alloc_old _ l3]; exact i3) HW.out hl).mono ?_; rintro e w1 ⟨v1, rfl, ho, hnil, hu⟩; clear hnil))
  go_ret
  refine ⟨_, rfl, ?_, ((Upd.refl _ _).alloc _).trans hu⟩
  have hlen : (sorted (O.map (·.1))).length = (O.map (·.1)).length := sorted_length _
  refine Ints.of_owns (base := (w.alloc (.cells #[.map (some m3)] 58)).heap.size) (e := 3) ?_ ?_
  · rw [hlen, List.length_map]; omega
  · rw [hlen]; exact ho
end Go.Proofs.Ytlichkheakjkhaa
