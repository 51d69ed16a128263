/-
  LeadChooses: a command is chosen just when more than half of the voters accepted it. The walk.
-/
import Derived.Test.YtlichkheakjkhaaLead9
import Derived.Test.YtlichkheakjkhaaMeets
import Derived.WideLaws
import Derived.Deep.DeepCutAuto
import Derived.Deep.CutBlock
import Derived.Deep.DeepMust
namespace Go.Proofs.Ytlichkheakjkhaa
open Go Go.RowKit

theorem u64_nneg (x : Int) : 0 ≤ IntKind.u64.wrap x := by
  rw [IntKind.wrap_u64]; omega
def un15 (x : Int) : Int := IntKind.u64.wrap x % 15
def un16 (x : Int) : Int := IntKind.u64.wrap x % 16
theorem un15_is (x : Int) : wrap64 ((IntKind.u64.wrap x).tmod 15) = un15 x := by
  unfold un15
  rw [Int.tmod_eq_emod_of_nonneg (u64_nneg x)]
  unfold wrap64; omega
theorem un16_is (x : Int) : wrap64 ((IntKind.u64.wrap x).tmod 16) = un16 x := by
  unfold un16
  rw [Int.tmod_eq_emod_of_nonneg (u64_nneg x)]
  unfold wrap64; omega

/-- The voters, each twice; each once. -/
def twice (v : Nat) : List Int := (List.range v).flatMap fun n : Nat => [(n : Int), (n : Int)]
def rng (v : Nat) : List Int := (List.range v).map fun n : Nat => (n : Int)
theorem twice_succ (v : Nat) : twice (v + 1) = twice v ++ [(v : Int), (v : Int)] := by
  unfold twice; rw [List.range_succ, List.flatMap_append]; simp
theorem rng_length (v : Nat) : (rng v).length = v := by simp [rng]
theorem twice_length (v : Nat) : (twice v).length = v * 2 := by
  induction v with
  | zero => rfl
  | succ v ih => rw [twice_succ, List.length_append, ih]; simp; omega
theorem twice_sorted : ∀ v : Fin 16, (twice v).Pairwise (fun a b => decide (a ≤ b) = true) := by decide +kernel
theorem twice_compact : ∀ v : Fin 16, Lib.compact (twice v) = rng v := by decide +kernel
theorem dist_twice {v : Nat} (h : v < 16) : dist (twice v) = rng v := by
  unfold dist
  rw [sorted_of (twice_sorted ⟨v, h⟩)]
  exact twice_compact ⟨v, h⟩
theorem maj_twice {v : Nat} (h : v < 16) (acc : Int → Bool) : majB acc (twice v) = decide (2 * ((rng v).filter acc).length > v) := by
  unfold majB
  rw [dist_twice h, rng_length]
theorem rng_nodup (v : Nat) : (rng v).Nodup := by
  unfold rng
  exact List.pairwise_map.2 (List.nodup_range.imp (fun h e => h (by omega)))
theorem mem_rng {v : Nat} {n : Int} : n ∈ rng v ↔ 0 ≤ n ∧ n < v := by
  unfold rng
  simp only [List.mem_map, List.mem_range]
  constructor
  · rintro ⟨i, hi, rfl⟩; omega
  · rintro ⟨h1, h2⟩; exact ⟨n.toNat, by omega, by omega⟩
theorem filter_more (acc : Int → Bool) (x : Int) : ∀ (l : List Int), l.Nodup → acc x = false → (l.filter fun n => decide (n = x) || acc n).length = (l.filter acc).length + (if x ∈ l then 1 else 0)
  | [], _, _ => by simp
  | n :: r, hn, hx => by
    have ih := filter_more acc x r (List.nodup_cons.1 hn).2 hx
    have hnr := (List.nodup_cons.1 hn).1
    rw [List.filter_cons, List.filter_cons]
    by_cases e : n = x
    · subst e
      simp only [decide_true, Bool.true_or, if_true, hx, List.length_cons, ih]
      simp [hnr]
    · have e' : ¬ x = n := fun h => e h.symm
      cases acc n <;> simp [e, e', ih] <;> omega

theorem len_bool {w : World} {b : Nat} {l : List (Int × Value)} (h : w.im b = some l) : (Builtin.len_ #[51] 3 #[.map (some b)]).run Try.prog w = .ok (.int .i64 l.length) w := by
  obtain ⟨es, c, h1, h2⟩ := im_heap h
  rw [run_len_map _ _ _ _ es c (by kernel_rfl) h1, h2]
  rfl
abbrev cmd5 : CmdD := ⟨5, 0, ⟨#[]⟩, 0, 0, 0, 0, 0, 0, 0, 0, []⟩
abbrev cmd6 : CmdD := ⟨6, 0, ⟨#[]⟩, 0, 0, 0, 0, 0, 0, 0, 0, []⟩
/-- A round's state: who accepted; what the law has met. -/
structure ChooseI (w : World) (b m1 m2 m3 mm v : Nat) (a : Value) (O M : List (Int × Value)) (blk : Int → Nat × Nat) (acc : Int → Bool) (wr : World) : Prop where
  t : TryAt wr b m1 m2 m3 1 1 [] [] O
  g : Props wr m1 m2 m3 O blk (gput (fun _ => none) 3 ⟨cmd5, acc⟩)
  m : wr.im mm = some M
  has : ∀ n, aget M n = if acc n && decide (0 ≤ n ∧ n < v) then some (.bool true) else none
  len : M.length = ((rng v).filter acc).length
  ia : Ints wr a (twice v)
  up : Upd (fun _ => False) w wr
/-- What stays over the whole call. -/
structure ChooseLo (w : World) (b m1 m2 m3 mm : Nat) (blk : Int → Nat × Nat) : Prop where
  ne : mm ≠ b ∧ mm ≠ m1 ∧ mm ≠ m2 ∧ mm ≠ m3 ∧ mm ≠ (blk 3).2
  lo : w.heap.size ≤ mm ∧ w.heap.size ≤ (blk 3).2
def more (acc : Int → Bool) (x : Int) : Int → Bool := fun n => decide (n = x) || acc n
theorem heard_more (acc : Int → Bool) (x : Int) : (fun s => if s = 3 then some (PropD.heard ⟨cmd5, acc⟩ x) else gput (fun _ => none) 3 ⟨cmd5, acc⟩ s) = gput (fun _ => none) 3 ⟨cmd5, more acc x⟩ := by
  funext s
  unfold gput
  by_cases e : s = 3
  · simp only [e, if_true]; rfl
  · simp only [e, if_false]
/-- What an acceptance keeps. -/
theorem chooseI_kept {w : World} {b m1 m2 m3 mm v : Nat} {a : Value} {O M : List (Int × Value)} {blk : Int → Nat × Nat} {acc : Int → Bool} {wr w' : World} {x : Int} (h : ChooseI w b m1 m2 m3 mm v a O M blk acc wr) (hl : ChooseLo w b m1 m2 m3 mm blk)
    (ha : AccPost wr m1 m2 m3 O blk (gput (fun _ => none) 3 ⟨cmd5, acc⟩) 3 x ⟨cmd5, acc⟩ (.returned (.int .i64 0)) w') :
    TryAt w' b m1 m2 m3 1 1 [] [] O ∧ Props w' m1 m2 m3 O blk (gput (fun _ => none) 3 ⟨cmd5, more acc x⟩) ∧ w'.im mm = some M ∧ Ints w' a (twice v) ∧ Upd (fun _ => False) w w' := by
  obtain ⟨_, hp, hu, n1, n2, n3, n4⟩ := ha
  rw [heard_more] at hp
  have hnb : (blk 3).2 ≠ b := fun e => by
    have := cell_im h.t.c0
    simp only [] at this
    rw [e, this] at n4; cases n4
  exact ⟨h.t.upd hu (fun e => hnb e.symm) (fun e => n1 e.symm) (fun e => n2 e.symm) (fun e => n3 e.symm), hp, (hu.im (im_lt (w := wr) (by rw [h.m]; rfl)) hl.ne.2.2.2.2).trans h.m, h.ia.updM hu (fun k hk => by rw [hk]; exact n4), h.up.trans' hu (fun i hi e => by have := hl.lo.2; omega)⟩
theorem chooseI_out {w : World} {b m1 m2 m3 mm v : Nat} {a : Value} {O M : List (Int × Value)} {blk : Int → Nat × Nat} {acc : Int → Bool} {wr w' : World} {x : Int} (h : ChooseI w b m1 m2 m3 mm v a O M blk acc wr) (hl : ChooseLo w b m1 m2 m3 mm blk)
    (ha : AccPost wr m1 m2 m3 O blk (gput (fun _ => none) 3 ⟨cmd5, acc⟩) 3 x ⟨cmd5, acc⟩ (.returned (.int .i64 0)) w') (hx : ¬ x < v) : ChooseI w b m1 m2 m3 mm v a O M blk (more acc x) w' := by
  obtain ⟨k1, k2, k3, k5, k4⟩ := chooseI_kept h hl ha
  refine ⟨k1, k2, k3, fun n => ?_, ?_, k5, k4⟩
  · rw [h.has]
    unfold more
    by_cases e : n = x
    · subst e
      simp [hx]
    · simp [e]
  · rw [h.len]
    congr 1
    refine List.filter_congr fun n hn => ?_
    have := mem_rng.1 hn
    unfold more
    rw [decide_eq_false (show ¬ n = x by omega)]
    rfl
theorem chooseI_in {w : World} {b m1 m2 m3 mm v : Nat} {a : Value} {O M : List (Int × Value)} {blk : Int → Nat × Nat} {acc : Int → Bool} {wr w' : World} {x : Int} (h : ChooseI w b m1 m2 m3 mm v a O M blk acc wr) (hl : ChooseLo w b m1 m2 m3 mm blk)
    (ha : AccPost wr m1 m2 m3 O blk (gput (fun _ => none) 3 ⟨cmd5, acc⟩) 3 x ⟨cmd5, acc⟩ (.returned (.int .i64 0)) w') (h0 : 0 ≤ x) (hx : x < v) : ChooseI w b m1 m2 m3 mm v a O (aput M x (.bool true)) blk (more acc x) (w'.mput mm (.int .i64 x) (.bool true)) := by
  obtain ⟨k1, k2, k3, k5, k4⟩ := chooseI_kept h hl ha
  have hu : Upd (fun k => k = mm) w' (w'.mput mm (.int .i64 x) (.bool true)) := (Upd.refl (fun k => k = mm) _).mput (Or.inl rfl) _ _
  obtain ⟨e1, e2, e3, e4, e5⟩ := hl.ne
  refine ⟨k1.upd hu (fun e => e1 e.symm) (fun e => e2 e.symm) (fun e => e3 e.symm) (fun e => e4 e.symm), k2.upd hu (fun k hk => by rw [hk, k3]; rfl) (fun s hs => ?_), im_mput_same k3 _, fun n => ?_, ?_, k5.mput _ _ _, k4.trans' hu (fun i hi e => by have := hl.lo.1; omega)⟩
  · by_cases e : s = 3
    · subst e; exact fun h => e5 h.symm
    · unfold gput at hs; simp [e] at hs
  · rw [aget_aput, h.has]
    unfold more
    by_cases e : n = x
    · subst e
      simp [h0, hx]
    · simp [e]
  · rw [aput_length, h.has, h.len]
    have hm : x ∈ rng v := mem_rng.2 ⟨h0, hx⟩
    cases hax : acc x with
    | false =>
      simp only [Bool.false_and, Bool.false_eq_true, if_false, Option.isSome_none]
      have := filter_more acc x (rng v) (rng_nodup v) hax
      rw [if_pos hm] at this
      exact this.symm
    | true =>
      rw [decide_eq_true (show 0 ≤ x ∧ x < v from ⟨h0, hx⟩)]
      simp only [Bool.and_self, if_true, Option.isSome_some]
      congr 1
      refine List.filter_congr fun n _ => ?_
      unfold more
      by_cases e : n = x
      · subst e; simp [hax]
      · simp [e]
theorem ChooseI.old {w wr w' : World} {b m1 m2 m3 mm v : Nat} {a : Value} {O M : List (Int × Value)} {blk : Int → Nat × Nat} {acc : Int → Bool} (h : ChooseI w b m1 m2 m3 mm v a O M blk acc wr) (u : Upd (fun _ => False) wr w') : ChooseI w b m1 m2 m3 mm v a O M blk acc w' :=
  ⟨h.t.old u, h.g.old u, (u.im (im_lt (w := wr) (by rw [h.m]; rfl)) (fun h => h)).trans h.m, h.has, h.len, h.ia.old u, h.up.trans u⟩
def LoopT (w : World) (v : Nat) (i a : Value) (wr : World) : Prop :=
  ∃ k : Nat, k ≤ v ∧ i = .int .i64 k ∧ wr.ownsRow w.heap.size 3 1 a (k * 2) ((twice k).map encI) ∧ Upd (fun _ => False) w wr
theorem loopT_step {w wr W w' : World} {v k : Nat} {a a' : Value} (hk : k < v) (ho : wr.ownsRow w.heap.size 3 1 a (k * 2) ((twice k).map encI)) (hu : Upd (fun _ => False) w wr) (hW : Upd (fun _ => False) wr W)
    (ho' : w'.ownsRow w.heap.size 3 1 a' (k * 2 + 2) ((twice k).map encI ++ [.int .i64 k, .int .i64 k])) (hg : W.grownBy w' a.ownBlock) : LoopT w v (.int .i64 ((k : Int) + 1)) a' w' := by
  refine ⟨k + 1, hk, by go_num, ?_, (hu.trans hW).trans' ⟨hg.os, hg.tape, hg.output, hg.size, fun j hj hF => hg.block j hj hF⟩ (fun i hi e => ?_)⟩
  · rw [twice_succ, List.map_append, show (k + 1) * 2 = k * 2 + 2 by omega]
    exact ho'
  · have := (ho.lt i e.symm).1
    omega
def ChooseEx (w : World) (b m1 m2 m3 mm v : Nat) (a : Value) (O : List (Int × Value)) (blk : Int → Nat × Nat) (len : Nat) (i : Value) (wr : World) : Prop :=
  ∃ (k : Nat) (M : List (Int × Value)) (acc : Int → Bool), k ≤ len ∧ i = .int .i64 k ∧ ChooseI w b m1 m2 m3 mm v a O M blk acc wr
theorem there_56 (acc : Int → Bool) : thereR ⟨cmd5, acc⟩ cmd6 = 82 := by unfold thereR; rw [if_neg (show ¬ (5 : Int) = 6 by decide)]
theorem max_3 {pv : Value} {last : Int} (h : IsMax (fun k => keyIn ([] : List (Int × Value)) k ∨ keyIn (aput [] 3 pv) k) (1 - 1) last) : last = 3 := by
  refine h.unique ⟨by omega, ?_, Or.inr (Or.inr ⟨pv, by simp [aput, ahas]⟩)⟩
  rintro k (⟨u, hu⟩ | ⟨u, hu⟩)
  · cases hu
  · simp [aput, ahas] at hu; omega
theorem small_3 (pv : Value) : small (aput ([] : List (Int × Value)) 3 pv) := by
  intro p hp
  simp [aput, ahas] at hp
  subst hp
  exact ⟨by show (-9223372036854775808 : Int) ≤ 3; decide, by show (3 : Int) ≤ 9223372036854775807; decide⟩

set_option maxHeartbeats 8000000 in
set_option maxRecDepth 100000 in
theorem chooses_walk (w : World) (va : Option Addr) (vc : Nat) (l : List Int) (x : Int) (hv : Ints w (.slice va l.length vc) l) :
    Calls Try.prog 6 #[.slice va l.length vc, .int .i64 x] w (BoolPost w true) := by
  have hmm := @run_makeMap Try.prog
  have pb := put_bool
  obtain ⟨v, hv1, hv2, hv3⟩ : ∃ v : Nat, wrap64 (1 + un15 x) = (v : Int) ∧ 1 ≤ v ∧ v ≤ 15 := by
    have : 0 ≤ un15 x ∧ un15 x ≤ 14 := by unfold un15; omega
    exact ⟨(1 + un15 x).toNat, by unfold wrap64; omega, by omega, by omega⟩
  have s15 := un15_is x
  have hl8 := hv.2
  have HV := Lib.hid hv; clear hv
  go_enter Try.func6, Try.ntmps6
  go_wp2_with fail
  simp only [s15, hv1]
  clear s15 hv1
  go_loopw [18, 5] (fun i a wr => LoopT w v i a wr) (fun i _ _ => v - (intOf i).toNat)
  case atStart => exact ⟨0, Nat.zero_le _, rfl, ⟨rfl, .inl ⟨rfl, rfl⟩⟩, Upd.refl _ _⟩
  case round =>
    obtain ⟨k, hk, rfl, ho, hu⟩ := hrel
    have HO := Lib.hid ho; clear ho
    have HU := Lib.hid hu; clear hu
    by_cases hlt : k < v
    · --{A
      obtain ⟨i0, hi, hz0, hz1, hz2⟩ := info_parts info_int
      have HI0 := Lib.hid hi; clear hi
      have HZ0 := Lib.hid hz0; clear hz0
      have HZ1 := Lib.hid hz1; clear hz1
      have HZ2 := Lib.hid hz2; clear hz2
      go_wp2_with (at_builtin; go_must (refine wpList_append_own _ rfl _ _ 31 rfl w.heap.size 3 i0 _ 1 8 Try.underlying31 HI0.out HZ0.out HZ1.out HZ2.out rfl (by decide) _ (k * 2) ((twice k).map encI) rfl ?hown ⟨wr.heap.size, 0, none⟩ 2 2 [.int .i64 k, .int .i64 k] rfl rfl ?hcell ?hone ?hlen ?hbytes ?hbase ?_))
      case hown => exact HO.out.alloc _
      case hcell =>
        intro j u hu
        rw [Addr.add_lit]
        rw [World.cell?_alloc_at _ _ _ _ (by simp)]
        simpa using hu
      case hone => simp [Value.oneCell']
      case hlen => unfold maxLen; omega
      case hbytes => omega
      case hbase => have := HU.out.size; simp; omega
      intro v' w' hown' hg _
      have HG := Lib.hid hg; clear hg
      have HO' := Lib.hid hown'; clear hown'
      go_wp2_with fail
      go_roundw
      case rel => exact loopT_step hlt HO.out HU.out ((Upd.refl _ _).alloc _) HO'.out HG.out
      case measure => simp [intOf]; omega
      --}A
    · obtain rfl : k = v := by omega
      have HA : Hid (Ints wr u5 (twice k)) := Lib.hid (Ints.of_owns (base := w.heap.size) (e := 3) (by rw [twice_length]; omega) (by rw [twice_length]; exact HO.out))
      obtain ⟨aa, ac, rfl⟩ := HA.out.shape
      clear HO
      go_wp2_with fail
      refine (new_any 1 1 _ rfl).mono ?_
      rintro e w1 ⟨b, m1, m2, m3, rfl, hT, l0, l1, l2, l3, hu⟩
      have HT := Lib.hid hT; clear hT
      have HU1 := Lib.hid (HU.out.trans hu)
      have HA1 := Lib.hid (HA.out.old hu); clear hu
      go_wp2_with fail
      refine (propose_props 3 _ b m1 m2 m3 1 1 [] [] [] (fun _ => (0, 0)) (fun _ => none) cmd5 (.slice none 0 0) (by omega) HT.out (by omega) (by decide) (Ints.nil _) (props_nil _ _ _ _ _) rfl).mono ?_
      rintro e w2 ⟨rfl, pv, blk, hT2, hP2, ⟨hlb, _⟩, hu2⟩
      have HT2 := Lib.hid hT2; clear hT2
      have HP2 := Lib.hid hP2; clear hP2
      have HU2 := Lib.hid (HU1.out.trans' hu2 (fun i hi e => by have := HU.out.size; omega))
      have HA2 := Lib.hid (HA1.out.updM hu2 (fun k hk => by rw [hk, HT.out.i3]; rfl)); clear hu2
      go_wp2_with fail
      refine (propose_there 3 _ b m1 m2 m3 1 1 [] [] _ blk _ ⟨cmd5, fun _ => false⟩ cmd6 (.slice none 0 0) (by omega) HT2.out (by omega) (by decide) HP2.out rfl).mono ?_
      rintro e w3 ⟨rfl, hu3⟩
      rw [there_56]
      have HT3 := Lib.hid (HT2.out.old hu3)
      have HP3 := Lib.hid (HP2.out.old hu3)
      have HU3 := Lib.hid (HU2.out.trans hu3)
      have HA3 := Lib.hid (HA2.out.old hu3); clear hu3
      go_wp2_with fail
      have HLO : Hid (ChooseLo w b m1 m2 m3 w3.heap.size blk) := by
        have h1 := HT3.out.lts
        have h2 := HU3.out.size
        obtain ⟨_, nv, N, _, _, _, k4, _, e1, e2, e3⟩ := HP3.out.at (s := 3) rfl
        have h3 := im_lt (w := w3) (b := (blk 3).2) (by rw [k4]; rfl)
        have h4 := HU1.out.size
        exact Lib.hid ⟨by omega, by omega⟩
      clear hlb
      have hst : ChooseI w b m1 m2 m3 w3.heap.size k (.slice aa (twice k).length ac) (aput [] 3 pv) [] blk (fun _ => false) (w3.alloc (.map #[] 0)) :=
        ⟨HT3.out.old ((Upd.refl _ _).alloc _), HP3.out.old ((Upd.refl _ _).alloc _), by simp [go_sem], fun n => rfl, by rw [show (rng k).filter (fun _ => false) = [] from List.filter_eq_nil_iff.2 (fun _ _ h => by cases h)]; rfl, HA3.out.old ((Upd.refl _ _).alloc _), HU3.out.alloc _⟩
      have HST := Lib.hid hst; clear hst
      clear HA HA1 HA2 HA3 HT HT2 HT3 HP2 HP3 HU HU1 HU2
      clear l0 l1 l2 l3
      obtain ⟨mm, hmmd⟩ : ∃ mm, w3.heap.size = mm := ⟨_, rfl⟩
      obtain ⟨w4, hw4⟩ : ∃ w4, w3.alloc (.map #[] 0) = w4 := ⟨_, rfl⟩
      rw [hmmd] at HLO HST
      rw [hw4] at HST
      rw [hmmd, hw4]
      clear hmmd hw4 HU3 hmm
      go_loopw [48] (fun i wr => ChooseEx w b m1 m2 m3 mm k (.slice aa (twice k).length ac) (aput [] 3 pv) blk l.length i wr) (fun i _ => l.length - (intOf i).toNat)
      case atStart => exact ⟨0, [], _, Nat.zero_le _, rfl, HST.out⟩
      case round =>
        obtain ⟨q, M, acc, hq, rfl, hI⟩ := hrel
        have HI := Lib.hid hI; clear hI
        by_cases hql : q < l.length
        · obtain ⟨bb, o, hva, hcell⟩ : ∃ bb o, va = some ⟨bb, o, none⟩ ∧ wr.cell? ⟨bb, o + q, none⟩ = some (.int .i64 (l.getD q 0)) := by
            rcases (HV.out.old HI.out.up).cells with ⟨e, _⟩ | ⟨bb, o, c, e, _, hc⟩
            · rw [e] at hql; exact absurd hql (Nat.not_lt_zero _)
            · cases e; exact ⟨bb, o, rfl, hc q hql⟩
          subst hva
          generalize l.getD q 0 = n at hcell
          have s16 := un16_is n
          have hn0 : 0 ≤ un16 n ∧ un16 n < 16 := by unfold un16; omega
          generalize un16 n = y at s16 hn0
          obtain ⟨hy0, hy1⟩ := hn0
          go_wp2_with fail
          refine (accepted_some y 3 _ b m1 m2 m3 1 1 [] [] _ blk _ ⟨cmd5, acc⟩ (by omega) HI.out.t hy0 hy1 HI.out.g rfl).mono ?_
          rintro e w5 hacc
          obtain ⟨rfl, _⟩ := id hacc
          have HACC := Lib.hid hacc; clear hacc
          by_cases hyv : y < k
          · obtain ⟨h1, h2, h3, h4, h5⟩ := chooseI_kept HI.out HLO.out HACC.out
            have HI5 := Lib.hid (chooseI_in HI.out HLO.out HACC.out hy0 hyv)
            clear h1 h2 h4 h5
            go_wp2_with fail
            refine (chosen_some 3 _ b m1 m2 m3 1 1 [] [] _ blk _ ⟨cmd5, more acc y⟩ _ (twice k) (by omega) HI5.out.t HI5.out.g rfl HI5.out.ia).mono ?_
            rintro e w6 ⟨rfl, hu6⟩
            rw [maj_twice (by omega)]
            have hlen := HI5.out.len
            have hcn : ((rng k).filter (more acc y)).length ≤ k := Nat.le_trans (List.length_filter_le _ _) (by rw [rng_length]; exact Nat.le_refl _)
            have HI6 := Lib.hid (HI5.out.old hu6); clear hu6
            have hsz := len_bool HI6.out.m
            rw [hlen] at hsz
            clear hlen
            generalize ((rng k).filter (more acc y)).length = cn at hsz hcn
            by_cases hgt : 2 * cn > k
            all_goals
              first | rw [decide_eq_true hgt] | rw [decide_eq_false hgt]
              go_wp2_with fail
              refine (chosen_none 2 _ b m1 m2 m3 1 1 [] [] _ _ (twice k) (by omega) HI6.out.t (by rw [aget_aput]; simp [aget]) HI6.out.ia).mono ?_
              rintro e w7 ⟨rfl, hu7⟩
              have HI7 := Lib.hid (HI6.out.old hu7); clear hu7
              go_wp2_with fail
              go_roundw
              case rel => exact ⟨q + 1, _, _, hql, by go_num, HI7.out⟩
              case measure => simp [intOf]; omega
          · have HI5 := Lib.hid (chooseI_out HI.out HLO.out HACC.out hyv)
            go_wp2_with fail
            refine (chosen_some 3 _ b m1 m2 m3 1 1 [] [] _ blk _ ⟨cmd5, more acc y⟩ _ (twice k) (by omega) HI5.out.t HI5.out.g rfl HI5.out.ia).mono ?_
            rintro e w6 ⟨rfl, hu6⟩
            rw [maj_twice (by omega)]
            have hlen := HI5.out.len
            have hcn : ((rng k).filter (more acc y)).length ≤ k := Nat.le_trans (List.length_filter_le _ _) (by rw [rng_length]; exact Nat.le_refl _)
            have HI6 := Lib.hid (HI5.out.old hu6); clear hu6
            have hsz := len_bool HI6.out.m
            rw [hlen] at hsz
            clear hlen
            generalize ((rng k).filter (more acc y)).length = cn at hsz hcn
            by_cases hgt : 2 * cn > k
            all_goals
              first | rw [decide_eq_true hgt] | rw [decide_eq_false hgt]
              go_wp2_with fail
              refine (chosen_none 2 _ b m1 m2 m3 1 1 [] [] _ _ (twice k) (by omega) HI6.out.t (by rw [aget_aput]; simp [aget]) HI6.out.ia).mono ?_
              rintro e w7 ⟨rfl, hu7⟩
              have HI7 := Lib.hid (HI6.out.old hu7); clear hu7
              go_wp2_with fail
              go_roundw
              case rel => exact ⟨q + 1, _, _, hql, by go_num, HI7.out⟩
              case measure => simp [intOf]; omega
        · go_wp2_with fail
          refine (next_any _ b m1 m2 m3 1 1 [] [] (aput [] 3 pv) (by omega) HI.out.t (by omega) (by omega) (by intro p hp; cases hp) (small_3 pv)).mono ?_
          rintro e w6 ⟨last, hmx, rfl, hu6⟩
          obtain rfl := max_3 hmx
          have HU6 := Lib.hid hu6; clear hu6
          clear hmx
          go_wp2_with fail
          go_ret
          exact ⟨rfl, HI.out.up.trans HU6.out⟩
end Go.Proofs.Ytlichkheakjkhaa
