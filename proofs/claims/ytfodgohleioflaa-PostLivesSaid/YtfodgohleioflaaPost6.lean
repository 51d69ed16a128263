/-
  The keys of a post's map, sorted.
-/
import Derived.Test.YtfodgohleioflaaPost5
import Derived.Test.YtfodgohleioflaaSh3
import Derived.Shelf.Abstract
import Derived.OwnWalkIn
namespace Go.Proofs.Ytfodgohleioflaa
open Go Go.RowKit Go.Shelf Go.Sort Go.Maps Go.WideElems Go.MapKept Go.ChangeMaps

abbrev encI : Int → Value := Value.int .i64
def sorted (l : List Int) : List Int := l.mergeSort fun x y => decide (x ≤ y)
theorem sorted_length (l : List Int) : (sorted l).length = l.length := List.length_mergeSort _
theorem mem_sorted {n : Int} {l : List Int} : n ∈ sorted l ↔ n ∈ l := (List.mergeSort_perm _ _).mem_iff
def SortPost (w : World) (l : List Int) (e : Ending) (w' : World) : Prop :=
  ∃ v, e = .returned v ∧ w'.ownsRow w.heap.size 3 1 v l.length ((sorted l).map encI) ∧ (v = .slice none 0 0 ↔ l = []) ∧ Upd (fun _ => False) w w'
theorem insert_perm {H : Type} (x : Lit × DataW H) : ∀ (l : List (Lit × DataW H)), (DataW.insert x l).Perm (x :: l)
  | [] => .refl _
  | y :: r => by
    unfold DataW.insert
    split
    · exact .refl _
    · exact ((insert_perm x r).cons y).trans (.swap x y r)
theorem insertAll_perm {H : Type} : ∀ (l : List (Lit × DataW H)), (l.foldr DataW.insert []).Perm l
  | [] => .refl _
  | x :: r => (insert_perm x _).trans ((insertAll_perm r).cons x)
theorem keys_own {w : World} {b : Nat} {l : List (Int × Value)} (h : w.im b = some l) (hw : ∀ p ∈ l, (Lit.int .i64 p.1).wf = true) (hl : l.length ≤ maxLen) :
    ∃ D0 : DataW Unit, w.ownsMap Try.prog 3 (fun _ => some (.nil, [])) b l.length D0 ∧ (intKeys D0).Perm (l.map (·.1)) ∧ Maps.size D0 = l.length := by
  obtain ⟨es, c, h1, h2, h3, rfl⟩ := im_inv h
  have hrd : ∀ x ∈ es.toList, WideElems.rd (H := Unit) Try.prog 3 (fun _ => some (.nil, [])) x = some (.int .i64 (ient x).1, .nil) := fun x hx => by
    have hk := ient_key (h3 x hx)
    have hwx := hw (ient x) (List.mem_map_of_mem hx)
    unfold WideElems.rd
    rw [hk]
    simp [keyOf, Try.underlying3, mapKey, hwx]
  have hmap : es.toList.map (WideElems.rg (H := Unit) Try.prog 3 (fun _ => some (.nil, []))) = (es.toList.map ient).map fun p => (.int .i64 p.1, .nil) := by
    rw [List.map_map]
    refine List.map_congr_left fun x hx => ?_
    exact WideElems.rg_of (hrd x hx)
  refine ⟨.map ((es.toList.map (WideElems.rg Try.prog 3 (fun _ => some (.nil, [])))).foldr DataW.insert []), ⟨es, c, h1, ⟨by simpa using hl, h2, fun x hx => ⟨_, hrd x hx⟩⟩, by simp, rfl⟩, ?_, ?_⟩
  · show (((es.toList.map (WideElems.rg (H := Unit) Try.prog 3 (fun _ => some (.nil, [])))).foldr DataW.insert []).map fun p => Go.intOf p.1).Perm _
    refine ((insertAll_perm _).map _).trans ?_
    rw [hmap, List.map_map]
    exact .refl _
  · show ((es.toList.map (WideElems.rg (H := Unit) Try.prog 3 (fun _ => some (.nil, [])))).foldr DataW.insert []).length = _
    rw [(insertAll_perm _).length_eq]
    simp

theorem sortsA (m : Nat) : AnyZI.SortsIn Try.prog Try.sortedA_ren Fence.wide m :=
  ⟨fun blk off cap ss W hH hblk hsz => callsIn_wide.2 (Try.slices_Sort_int blk off cap ss W hH hblk hsz), fun p cap W => callsIn_wide.2 (Try.slices_Sort_int_none p cap W)⟩
theorem keys_any (mb : Option Nat) (w : World) : Calls Try.prog 24 #[.map mb] w fun e w' => e = .returned (.func (.func 38) #[] #[.pointer (some ⟨w.heap.size, 0, none⟩)]) ∧ w' = w.alloc (.cells #[.map mb] 58) := by
  have : CallsIn Fence.wide 5 Try.prog 24 #[.map mb] w fun e w' => e = .returned (.func (.func 38) #[] #[.pointer (some ⟨w.heap.size, 0, none⟩)]) ∧ w' = w.alloc (.cells #[.map mb] 58) :=
    AnyZI.keys_in Try.keysA Fence.wide 5 trivial rfl mb w
  exact callsIn_wide.1 this
theorem sort_keys (Bm m : Nat) (l : List (Int × Value)) (w : World) (hBm : Bm < w.heap.size) (hm : w.cell? ⟨Bm, 0, none⟩ = some (.map (some m))) (hi : w.im m = some l) (hw : ∀ p ∈ l, (Lit.int .i64 p.1).wf = true) (hl : l.length ≤ 8192) :
    Calls Try.prog 23 #[.func (.func 38) #[] #[.pointer (some ⟨Bm, 0, none⟩)]] w (SortPost w (l.map (·.1))) := by
  obtain ⟨D0, hown, hperm, hsize⟩ := keys_own hi hw (by unfold maxLen; omega)
  have hseq : SeqGives Fence.wide 2 Try.prog 38 #[.pointer (some ⟨Bm, 0, none⟩)] encZ (fun ss => ss.Perm (intKeys D0)) (Maps.size D0) w :=
    AnyZI.keys_gives (ρ := Try.keysA_ren) { Try.keysA with } Fence.wide _ trivial rfl (by omega) Bm m l.length D0 w hBm hm hown
  have cS := AnyZI.sorted_in Try.sortedA Fence.wide 5 trivial trivial trivial trivial rfl (by omega) (sortsA _) (enters_of Try.func37 (by kernel_rfl) rfl) 38 #[.pointer (some ⟨Bm, 0, none⟩)] trivial (enters_of Try.func38 (by kernel_rfl) rfl) _ _ (by rw [hsize]; unfold maxLen; omega) (by omega) _ hseq
  change CallsIn _ _ Try.prog 23 _ _ _ at cS
  refine (callsIn_wide.1 cS).mono ?_
  rintro e w' ⟨v, ss, rfl, hS, hrow, hnil, hb⟩
  have hp : ss.Perm (l.map (·.1)) := hS.trans hperm
  have hs : ss.mergeSort (fun x y => decide (x ≤ y)) = sorted (l.map (·.1)) := mergeSort_of_perm_i hp
  have hlen := hp.length_eq
  refine ⟨v, rfl, ?_, hnil.trans ⟨fun h => ?_, fun h => ?_⟩, Upd.of_below hb⟩
  · rw [← hlen, ← hs]; exact hrow
  · exact List.eq_nil_of_length_eq_zero (by rw [← hlen, h]; rfl)
  · exact List.eq_nil_of_length_eq_zero (by rw [hlen, h]; rfl)


end Go.Proofs.Ytfodgohleioflaa
