/-
  Over as many seeds in a row as there are members each one is chosen equally often: plain Lean.
-/
import Derived.Test.YtjocoaaeboapcaaPlaceLaw
namespace Go.Proofs.Ytjocoaaeboapcaa
open Heap

theorem rot_eq {s : List Int} {j : Nat} (hj : j < s.length) : rot s j = (List.range s.length).map (fun t => at0 s ((j + t) % s.length)) := by
  unfold rot
  apply List.ext_getElem
  · simp; omega
  · intro t h1 h2
    have ht : t < s.length := by simpa using h2
    have hm : (j + t) % s.length = if j + t < s.length then j + t else j + t - s.length := by
      by_cases e : j + t < s.length
      · rw [if_pos e, Nat.mod_eq_of_lt e]
      · rw [if_neg e, Nat.mod_eq_sub_mod (by omega), Nat.mod_eq_of_lt (by omega)]
    simp only [List.getElem_map, List.getElem_range]
    rw [hm]
    unfold at0
    by_cases e : j + t < s.length
    · rw [if_pos e, List.getElem_append_left (by rw [List.length_drop]; omega), List.getElem_drop, List.getD_eq_getElem?_getD, List.getElem?_eq_getElem e]; rfl
    · rw [if_neg e, List.getElem_append_right (by rw [List.length_drop]; omega), List.getElem_take, List.getD_eq_getElem?_getD, List.getElem?_eq_getElem (by omega)]
      simp only [List.length_drop, Option.getD_some]
      congr 1
      omega
/-- The one that is chosen at place t of round i. -/
def el (s : List Int) (S i t : Nat) : Int := at0 s ((S + i + t) % s.length)
/-- All that is chosen in q rounds. -/
def allC (s : List Int) (S N q : Nat) : List Int := (List.range q).flatMap (fun i => (List.range N).map (el s S i))
theorem round_is {s : List Int} {S i N : Nat} (hs : 0 < s.length) (hN : N ≤ s.length) : (rot s ((S + i) % s.length)).take N = (List.range N).map (el s S i) := by
  rw [rot_eq (Nat.mod_lt _ hs), ← List.map_take, List.take_range, Nat.min_eq_left hN]
  refine List.map_congr_left (fun t _ => ?_)
  unfold el
  rw [Nat.mod_add_mod]
theorem allC_succ (s : List Int) (S N q : Nat) : allC s S N (q + 1) = allC s S N q ++ (List.range N).map (el s S q) := by
  unfold allC; rw [List.range_succ, List.flatMap_append, List.flatMap_singleton]
theorem count_flat (x : Int) (f : Nat → List Int) (g : Nat → Int) : ∀ l : List Nat, (l.flatMap (fun i => f i ++ [g i])).count x = (l.flatMap f).count x + (l.map g).count x
  | [] => rfl
  | i :: l => by
    have h := count_flat x f g l
    have h2 : (List.map g (i :: l)).count x = (List.map g l).count x + [g i].count x := by
      rw [List.map_cons, List.count_cons, List.count_singleton]
    rw [List.flatMap_cons, List.flatMap_cons, List.count_append, List.count_append, List.count_append, h, h2]
    omega
theorem allC_count {s : List Int} (hs : s.Nodup) {x : Int} (hx : x ∈ s) (S : Nat) : ∀ N, (allC s S N s.length).count x = N
  | 0 => by
    have : allC s S 0 s.length = [] := by
      unfold allC
      rw [List.flatMap_eq_nil_iff]
      intro i _; rfl
    rw [this]; rfl
  | N + 1 => by
    have hpos : 0 < s.length := List.length_pos_of_mem hx
    have e1 : allC s S (N + 1) s.length = (List.range s.length).flatMap (fun i => (List.range N).map (el s S i) ++ [el s S i N]) := by
      unfold allC
      congr 1
      funext i
      rw [List.range_succ, List.map_append]; rfl
    have e2 : (List.range s.length).map (fun i => el s S i N) = rot s ((S + N) % s.length) := by
      rw [rot_eq (Nat.mod_lt _ hpos)]
      refine List.map_congr_left (fun i _ => ?_)
      unfold el
      rw [Nat.mod_add_mod]
      congr 2
      omega
    rw [e1, count_flat, e2, (rot_perm s _).count_eq, List.Nodup.count hs, if_pos hx]
    have := allC_count hs hx S N
    unfold allC at this
    rw [this]
theorem allC_le (s : List Int) (S N q : Nat) (x : Int) : (allC s S N q).count x ≤ q * N := by
  induction q with
  | zero => unfold allC; simp
  | succ q ih =>
    rw [allC_succ, List.count_append, Nat.succ_mul]
    have : ((List.range N).map (el s S q)).count x ≤ N := Nat.le_trans List.count_le_length (by simp)
    omega
theorem filt_mems (p : Int → Bool) : mems ((nums 16).filter p) = (nums 16).filter p := by
  refine sorted_ext (mems_sorted _) ((nums_sorted 16).filter _) (fun x => ?_)
  rw [mem_mems]
  constructor
  · exact fun h => h.1
  · exact fun h => ⟨h, mem_nums.1 (List.mem_filter.1 h).1⟩
end Go.Proofs.Ytjocoaaeboapcaa
