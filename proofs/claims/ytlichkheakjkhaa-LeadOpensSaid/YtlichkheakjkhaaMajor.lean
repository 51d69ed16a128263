/-
  majority: more than half of the voters, each counted once, are of a set.
-/
import Derived.Test.YtlichkheakjkhaaVals
import Derived.Test.YtlichkheakjkhaaLead7
import Derived.Test.YtlichkheakjkhaaShelf
namespace Go.Proofs.Ytlichkheakjkhaa
open Go Go.RowKit Go.Sort

/-- The voters, each once, in order. -/
def dist (l : List Int) : List Int := Lib.compact (sorted l)
/-- More than half of them are of the set. -/
def majB (acc : Int → Bool) (l : List Int) : Bool := decide (2 * ((dist l).filter acc).length > (dist l).length)

theorem compact_length_le (l : List Int) : (Lib.compact l).length ≤ l.length := by
  unfold Lib.compact Lib.compactUpTo
  rw [List.length_map]
  exact Nat.le_trans (List.length_filter_le _ _) (by simp)
theorem compact_nil : Lib.compact ([] : List Int) = [] := by
  have := compact_length_le []
  exact List.eq_nil_of_length_eq_zero (Nat.le_zero.1 this)
theorem sorted_length (l : List Int) : (sorted l).length = l.length := List.length_mergeSort _
theorem dist_length_le (l : List Int) : (dist l).length ≤ l.length := by
  unfold dist
  exact Nat.le_trans (compact_length_le _) (by rw [sorted_length]; exact Nat.le_refl _)

theorem Upd.ahead {F : Nat → Prop} {a w : World} (h : Upd F a w) (n : Nat) : Upd F a (Sort.ahead w n) := ⟨h.os, h.tape, h.output, h.size, h.block⟩
theorem Upd.putRow {F : Nat → Prop} {a w : World} (h : Upd F a w) {g : Nat} (hg : F g ∨ a.heap.size ≤ g) (enc : Int → Value) (off : Nat) (d : Array Int) : Upd F a (Go.Sort.putRow enc w g off d) := by
  refine ⟨h.os, h.tape, h.output, by rw [size_putRow]; exact h.size, fun k hk hF => ?_⟩
  have hne : g ≠ k := by
    rintro rfl
    rcases hg with hg | hg
    · exact hF hg
    · omega
  have : (Go.Sort.putRow enc w g off d).heap[k]? = w.heap[k]? := by
    simp [Go.Sort.putRow, mapBlock, Array.getElem?_modify, hne]
  rw [this]
  exact h.block k hk hF

/-- What Compact hands back: its cells. -/
def CompPost (W : World) (g : Nat) (zs : List Int) (e : Ending) (w' : World) : Prop :=
  ∃ cap, e = .returned (.slice (some ⟨g, 0, none⟩) (Lib.compact zs).length cap) ∧ Upd (fun b => b = g) W w' ∧ ∀ j, j < (Lib.compact zs).length → w'.cell? ⟨g, 0 + j, none⟩ = some (.int .i64 ((Lib.compact zs).getD j 0))
theorem compact_any (g cap : Nat) (zs : List Int) (W : World) (hsz : zs.length ≤ 9223372036854775807) (hcap : zs.length ≤ cap) (hH : Holds (Value.int .i64) W g 0 zs.toArray) :
    Calls Try.prog 50 #[.slice (some ⟨g, 0, none⟩) zs.length cap] W (CompPost W g zs) := by
  refine (Try.slices_Compact_int g 0 cap zs W hH hsz hcap).mono ?_
  rintro e w' ⟨rfl, q, rfl⟩
  have hle := compact_length_le zs
  refine ⟨cap, rfl, ((Upd.refl (fun b => b = g) _).ahead _).putRow (Or.inl rfl) _ _ _, fun j hj => ?_⟩
  have hH' : Holds (Value.int .i64) (Sort.ahead W q) g 0 zs.toArray := hH
  have := cell?_putRow (Value.int .i64) (Sort.ahead W q) g 0 zs.toArray (Lib.compact zs ++ List.replicate (zs.length - (Lib.compact zs).length) 0).toArray hH' (by simp; omega) j (by simp; omega)
  rw [this]
  congr 2
  rw [List.getElem!_toArray, List.getElem!_eq_getElem?_getD, List.getElem?_append_left hj, List.getD_eq_getElem?_getD]
  rfl

/-- The voters that are left, in memory. -/
def DistPost (w : World) (l : List Int) (v : Value) (w' : World) : Prop :=
  Upd (fun _ => False) w w' ∧ ∃ a cap, v = .slice a (dist l).length cap ∧ ∀ j, j < (dist l).length → ∃ g, a = some ⟨g, 0, none⟩ ∧ w'.cell? ⟨g, 0 + j, none⟩ = some (.int .i64 ((dist l).getD j 0))
def SortPost (w : World) (l : List Int) (e : Ending) (w' : World) : Prop :=
  ∃ v, e = .returned v ∧ w'.ownsRow w.heap.size 3 1 v l.length ((sorted l).map encI) ∧ (v = .slice none 0 0 ↔ l = []) ∧ Upd (fun _ => False) w w'
theorem sortVals (Bs n₀ : Nat) (sv : Value) (zs : List Int) (hreach : zs.length * 8 ≤ 140737488355328) (w : World) (hBs : Bs < w.heap.size) (hn₀ : n₀ ≤ w.heap.size) (hc : w.cell? ⟨Bs, 0, none⟩ = some sv) (hI : SvInts n₀ w sv zs) :
    Calls Try.prog 36 #[.func (.func 56) #[] #[.pointer (some ⟨Bs, 0, none⟩)]] w (SortPost w zs) := by
  refine ((callsIn_wide (n := 8)).1 (sortedVals_in 8 (by omega) Bs n₀ sv zs hreach w hBs hn₀ hc hI)).mono ?_
  rintro e w' ⟨v, rfl, h1, h2, h3⟩
  exact ⟨v, rfl, h1, h2, Upd.of_below h3⟩
theorem vals (a : Option Addr) (len cap : Nat) (w : World) :
    Calls Try.prog 51 #[.slice a len cap] w fun e w' => e = .returned (.func (.func 56) #[] #[.pointer (some ⟨w.heap.size, 0, none⟩)]) ∧ w' = w.alloc (.cells #[.slice a len cap] 31) :=
  (callsIn_wide (n := 8)).1 (values_in Fence.wide 8 trivial rfl a len cap w)
theorem comp_sorted (base : Nat) (v : Value) (l : List Int) (w W : World) (hw : Upd (fun _ => False) w W) (hb : w.heap.size ≤ base) (hl : l.length * 8 ≤ 140737488355328) (h : W.ownsRow base 3 1 v l.length ((sorted l).map encI)) :
    Calls Try.prog 50 #[v] W fun e w' => ∃ v', e = .returned v' ∧ DistPost w l v' w' := by
  rcases h.2 with ⟨rfl, hz⟩ | ⟨gb, cap, cur, rfl, hbase, hgb, r1, r2, r3, r4⟩
  · have hss : l = [] := List.eq_nil_of_length_eq_zero hz
    subst hss
    have hd : dist [] = [] := by unfold dist sorted; simp [compact_nil]
    refine (Try.slices_Compact_int_empty none 0 W).mono ?_
    rintro e w' ⟨rfl, rfl⟩
    exact ⟨_, rfl, hw, none, 0, by rw [hd]; rfl, fun j hj => by rw [hd] at hj; exact absurd hj (Nat.not_lt_zero _)⟩
  · have hlen := sorted_length l
    have hH : Holds (Value.int .i64) W gb 0 (sorted l).toArray := holds_of_block_i hgb (by rw [hlen]; simpa using r4)
    have := compact_any gb cap (sorted l) W (by rw [hlen]; omega) (by rw [hlen]; exact r1) hH
    rw [hlen] at this
    refine this.mono ?_
    rintro e w' ⟨cap', rfl, hu, hc⟩
    exact ⟨_, rfl, hw.trans' hu (fun i hi e => by subst e; omega), some ⟨gb, 0, none⟩, cap', rfl, fun j hj => ⟨gb, rfl, hc j hj⟩⟩

def BoolPost (w : World) (r : Bool) (e : Ending) (w' : World) : Prop := e = .returned (.bool r) ∧ Upd (fun _ => False) w w'
theorem filter_take_step (acc : Int → Bool) (l : List Int) (k : Nat) (h : k < l.length) : ((l.take (k + 1)).filter acc).length = ((l.take k).filter acc).length + (if acc (l.getD k 0) then 1 else 0) := by
  rw [List.take_succ_eq_append_getElem h, List.filter_append, List.length_append, List.getD_eq_getElem?_getD, List.getElem?_eq_getElem h]
  simp only [Option.getD_some]
  by_cases ha : acc l[k] <;> simp [ha]
def LoopM (W : World) (acc : Int → Bool) (l : List Int) (n i : Value) (wr : World) : Prop :=
  ∃ k : Nat, k ≤ (dist l).length ∧ i = .int .i64 k ∧ n = .int .i64 (((dist l).take k).filter acc).length ∧ Upd (fun _ => False) W wr
set_option maxHeartbeats 2000000 in
theorem major_any (m : Nat) (N : List (Int × Value)) (acc : Int → Bool) (v : Value) (l : List Int) (w : World) (hN : w.im m = some N) (hacc : ∀ n, aget N n = if acc n then some (.bool true) else none) (hv : Ints w v l) :
    Calls Try.prog 39 #[.map (some m), v] w (BoolPost w (majB acc l)) := by
  have lv := look_bool
  obtain ⟨va, vc, rfl⟩ := hv.shape
  have hlm := im_lt (w := w) (b := m) (by rw [hN]; rfl)
  have hd := dist_length_le l
  have hl8 := hv.2
  have HV := Lib.hid hv; clear hv
  have HA := Lib.hid hacc; clear hacc
  go_enter Try.func39, Try.ntmps39
  go_wp2_with (first
    | (go_at_call 51; refine (vals _ _ _ _).mono ?_; rintro e w' ⟨rfl, rfl⟩)
    | (go_at_call 36; refine (sortVals w.heap.size w.heap.size (.slice va l.length vc) l hl8 _ (by simp) (by simp) (by simp [go_sem]) ((SvInts.of_ints HV.out).below ((Below.refl _ w).alloc (Nat.le_refl _) _))).mono ?_; rintro e w1 ⟨v1, rfl, ho, hnil, hu⟩; clear hnil)
    | (go_at_call 50; refine (comp_sorted _ v1 l w w1 (((Upd.refl _ _).alloc _).trans hu) (by simp) hl8 ho).mono ?_; rintro e w2 ⟨v2, rfl, hu2, a2, cap2, rfl, hc2⟩; clear ho hu))
  have hN2 := (hu2.im hlm (fun h => h)).trans hN
  have HU := Lib.hid hu2; clear hu2
  have HC := Lib.hid hc2; clear hc2
  generalize hdl : (dist l).length = dl at hd HC
  have HD := Lib.hid hdl; clear hdl
  go_loopw [6, 15] (fun n i wr => LoopM w2 acc l n i wr) (fun _ i _ => dl - (intOf i).toNat)
  case atStart => exact ⟨0, Nat.zero_le _, rfl, by simp, Upd.refl _ _⟩
  case round =>
    obtain ⟨k, hk, rfl, rfl, hu⟩ := hrel
    rw [HD.out] at hk
    have hN3 := (hu.im (im_lt (w := w2) (b := m) (by rw [hN2]; rfl)) (fun h => h)).trans hN2
    have HU3 := Lib.hid hu; clear hu
    have hcb : (((dist l).take k).filter acc).length ≤ k := Nat.le_trans (List.length_filter_le _ _) (by rw [List.length_take]; omega)
    generalize hcn : (((dist l).take k).filter acc).length = cn at hcb
    have HCN := Lib.hid hcn; clear hcn
    by_cases hlt : k < dl
    · obtain ⟨g, rfl, hc⟩ := HC.out k hlt
      have hgl := World.block_lt_of_cell? _ _ hc
      have hc3 := (HU3.out.cell (p := ⟨g, 0 + k, none⟩) hgl (fun h => h)).trans hc
      have hA := HA.out ((dist l).getD k 0)
      have hst := filter_take_step acc (dist l) k (by rw [HD.out]; exact hlt)
      rw [HCN.out] at hst
      generalize (dist l).getD k 0 = x at hc hc3 hA hst
      have HST := Lib.hid hst; clear hst hc
      simp only [Nat.zero_add] at hc3
      cases hax : acc x with
      | true =>
        rw [hax, if_pos rfl] at hA
        go_wp2_with fail
        go_roundw
        case rel => exact ⟨k + 1, by rw [HD.out]; exact hlt, by go_num, by rw [HST.out, hax]; go_num, HU3.out⟩
        case measure => simp [intOf]; omega
      | false =>
        rw [hax, if_neg (by simp)] at hA
        go_wp2_with fail
        go_roundw
        case rel => exact ⟨k + 1, by rw [HD.out]; exact hlt, by go_num, by rw [HST.out, hax]; go_num, HU3.out⟩
        case measure => simp [intOf]; omega
    · have hke : k = dl := by omega
      have hB : majB acc l = decide (2 * cn > dl) := by
        unfold majB
        rw [HD.out, ← HCN.out, hke, ← HD.out, List.take_length]
      have HB := Lib.hid hB; clear hB
      go_wp2_with fail
      go_ret
      refine ⟨?_, HU.out.trans HU3.out⟩
      rw [HB.out]
      congr 2
      simp
      omega
end Go.Proofs.Ytlichkheakjkhaa
