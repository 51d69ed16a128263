/-
  Packets: all messages, each in memory of its own.
-/
import Derived.Test.YtfodgohleioflaaPostSend
namespace Go.Proofs.Ytfodgohleioflaa
open Go Go.RowKit Go.MapKept Go.ChangeMaps
set_option linter.unusedVariables false

/-- A packet's cells. -/
def sentC (p : Int × MsgD) (C : Array Value) : List Value := .int .i64 p.1 :: C.toList
/-- A post with all its messages, in the order in which they were sent. -/
structure PostIs (S : Nat → Prop) (w : World) (b mb : Nat) (last : Int) (L : List (Int × MsgD)) (M : List (Int × Value)) : Prop where
  at' : PostAt w b mb last M
  len : M.length = L.length
  msg : ∀ i, i < L.length → ∃ C, M[i]? = some ((L.getD i default).1, .agg C) ∧ MsgAt S w C (L.getD i default).2
  keys : (L.map (·.1)).Pairwise (· < ·)
  low : ∀ p ∈ L, 1 ≤ p.1 ∧ p.1 ≤ last
  far : ∀ k, S k → ¬ (k = b ∨ k = mb)
theorem PostIs.old {S : Nat → Prop} {w w' : World} {b mb : Nat} {last : Int} {L : List (Int × MsgD)} {M : List (Int × Value)} (h : PostIs S w b mb last L M) (u : Upd (fun _ => False) w w') : PostIs S w' b mb last L M :=
  ⟨h.at'.old u, h.len, fun i hi => by obtain ⟨C, h1, h2⟩ := h.msg i hi; exact ⟨C, h1, h2.old u⟩, h.keys, h.low, h.far⟩
theorem PostIs.map {S : Nat → Prop} {w : World} {b mb : Nat} {last : Int} {L : List (Int × MsgD)} {M : List (Int × Value)} (h : PostIs S w b mb last L M) : M.map (·.1) = L.map (·.1) := by
  apply List.ext_getElem?
  intro i
  rw [List.getElem?_map, List.getElem?_map]
  by_cases hi : i < L.length
  · obtain ⟨C, h1, _⟩ := h.msg i hi
    rw [h1, List.getD_eq_getElem?_getD, List.getElem?_eq_getElem hi]; rfl
  · rw [List.getElem?_eq_none (by have := h.len; omega), List.getElem?_eq_none (by omega)]; rfl
theorem sorted_id {l : List Int} (h : l.Pairwise (· < ·)) : sorted l = l := by
  unfold sorted
  exact List.mergeSort_of_pairwise (h.imp (fun h => by simpa using Int.le_of_lt h))
/-- The packets of a slice. -/
def Sents (S : Nat → Prop) (w : World) (v : Value) (L : List (Int × MsgD)) : Prop :=
  ∃ Cs : List (Array Value), Cs.length = L.length ∧ Row w v 25 (List.zipWith sentC L Cs) ∧ ∀ i, i < L.length → MsgAt S w (Cs.getD i #[]) (L.getD i default).2
def PacksD (w : World) (L : List (Int × MsgD)) (e : Ending) (w' : World) : Prop := ∃ v, e = .returned v ∧ Sents (Mem w.heap.size w') w' v L ∧ Fresh w.heap.size v ∧ Upd (fun _ => False) w w'
/-- Behind q of them. -/
def PackD (w : World) (L : List (Int × MsgD)) (v i : Value) (wr : World) : Prop := ∃ (q : Nat) (Cs : List (Array Value)), q ≤ L.length ∧ i = .int .i64 (q : Int) ∧ Cs.length = q ∧ wr.ownsRow w.heap.size 56 25 v q (List.zipWith sentC (L.take q) Cs).flatten ∧
  (∀ j, j < q → MsgAt (Mem w.heap.size wr) wr (Cs.getD j #[]) (L.getD j default).2) ∧ Upd (fun _ => False) w wr
theorem not_mem_own {B : Nat} {w : World} {base n : Nat} {v : Value} {xs : List Value} (h : w.ownsRow base 56 25 v n xs) {k : Nat} (hk : Mem B w k) : ¬ some k = v.ownBlock := by
  intro e
  obtain ⟨_, ⟨rfl, _⟩ | ⟨g, cap, cur, rfl, hg, hh, _⟩⟩ := h
  · cases e
  · simp only [Value.ownBlock, Option.some.injEq] at e
    subst e
    obtain ⟨_, C, ty, fr, h2, h3⟩ := hk
    rw [hh] at h2
    injection h2 with h2
    injection h2 with _ h2
    subst h2
    rcases h3.1 with h3 | h3 | h3 <;> exact absurd h3 (by decide)
theorem MsgAt.form {S : Nat → Prop} {w : World} {C : Array Value} {d : MsgD} (h : MsgAt S w C d) : ∃ nv vv bv, C = msgC d nv vv bv := by
  obtain ⟨nv, vv, bv, e, _⟩ := h
  exact ⟨nv, vv, bv, e⟩
theorem msgC_len {S : Nat → Prop} {w : World} {C : Array Value} {d : MsgD} (h : MsgAt S w C d) : C.toList.length = 24 := by
  have := (msgC_one h).1
  simpa using this
theorem sentC_one {S : Nat → Prop} {w : World} {C : Array Value} {p : Int × MsgD} (h : MsgAt S w C p.2) : ∀ u ∈ sentC p C, u.oneCell' = true := fun u hu => by
  rcases List.mem_cons.1 hu with rfl | h'
  · rfl
  · exact (Array.all_eq_true_iff_forall_mem.1 (msgC_one h).2) u (by simpa using h')
theorem zip_snoc {L : List (Int × MsgD)} {Cs : List (Array Value)} {q : Nat} (hq : q < L.length) (hl : Cs.length = q) (C : Array Value) : List.zipWith sentC (L.take (q + 1)) (Cs ++ [C]) = List.zipWith sentC (L.take q) Cs ++ [sentC (L.getD q default) C] := by
  rw [List.take_succ_eq_append_getElem hq, List.zipWith_append (by simp; omega)]
  rw [List.getD_eq_getElem?_getD, List.getElem?_eq_getElem hq]
  rfl
theorem packD_step {w wr w2 w3 : World} {L : List (Int × MsgD)} {v v' : Value} {q : Nat} {Cs : List (Array Value)} {C : Array Value} {ty : TypeId} {X : Array Value} (hq : q < L.length) (hl : Cs.length = q)
    (ho : wr.ownsRow w.heap.size 56 25 v q (List.zipWith sentC (L.take q) Cs).flatten) (hm : ∀ j, j < q → MsgAt (Mem w.heap.size wr) wr (Cs.getD j #[]) (L.getD j default).2) (hu : Upd (fun _ => False) w wr)
    (hC : MsgAt (Mem wr.heap.size w2) w2 C (L.getD q default).2) (hu2 : Upd (fun _ => False) wr w2) (hg : (w2.alloc (.cells X ty)).grownBy w3 v.ownBlock)
    (ho' : w3.ownsRow w.heap.size 56 25 v' (q + 1) ((List.zipWith sentC (L.take q) Cs).flatten ++ sentC (L.getD q default) C)) : PackD w L v' (.int .i64 ((q : Int) + 1)) w3 := by
  have hua : Upd (fun _ => False) wr (w2.alloc (.cells X ty)) := hu2.alloc _
  have hoa := owns_upd ho hua (fun _ _ h => h)
  have hug := Upd.of_grown hg
  refine ⟨q + 1, Cs ++ [C], hq, by simp, by simp [hl], ?_, fun j hj => ?_, (hu.trans hua).trans' hug (fun i hi e => owns_far ho hi e)⟩
  · rw [zip_snoc hq hl, List.flatten_append]; simpa using ho'
  · by_cases e : j < q
    · rw [List.getD_eq_getElem?_getD, List.getElem?_append_left (by omega), ← List.getD_eq_getElem?_getD]
      refine (((hm j e).old hua).upd hug (fun k hk => not_mem_own ho hk)).mono (fun k hk => ?_)
      exact (hk.grow (Grow.old hua)).upd hug (not_mem_own ho hk)
    · obtain rfl : j = q := by omega
      rw [List.getD_eq_getElem?_getD, List.getElem?_append_right (by omega), hl, Nat.sub_self]
      show MsgAt _ _ C _
      have hma := hC.old (w' := w2.alloc (.cells X ty)) ((Upd.refl _ _).alloc _)
      have hga : Grow w2 (w2.alloc (.cells X ty)) := Grow.old ((Upd.refl _ _).alloc _)
      refine (hma.upd hug (fun k hk => not_mem_own hoa (hk.grow hga))).mono (fun k hk => ?_)
      exact ((hk.grow hga).upd hug (not_mem_own hoa (hk.grow hga))).low hu.size
theorem zipS_length {L : List (Int × MsgD)} {Cs : List (Array Value)} (h : Cs.length = L.length) : (List.zipWith sentC L Cs).length = L.length := by simp [h]
theorem zipS_get {L : List (Int × MsgD)} {Cs : List (Array Value)} (h : Cs.length = L.length) {i : Nat} (hi : i < L.length) : (List.zipWith sentC L Cs).getD i [] = sentC (L.getD i default) (Cs.getD i #[]) := by
  rw [List.getD_eq_getElem?_getD, List.getD_eq_getElem?_getD, List.getD_eq_getElem?_getD, List.getElem?_zipWith, List.getElem?_eq_getElem hi, List.getElem?_eq_getElem (by omega)]
  rfl
theorem zipS_all {L : List (Int × MsgD)} {Cs : List (Array Value)} (h : Cs.length = L.length) {p : List Value → Prop} (hp : ∀ i, i < L.length → p (sentC (L.getD i default) (Cs.getD i #[]))) : ∀ r ∈ List.zipWith sentC L Cs, p r := by
  intro r hr
  obtain ⟨i, e⟩ := List.mem_iff_getElem?.1 hr
  have hi := (List.getElem?_eq_some_iff.1 e).1
  rw [zipS_length h] at hi
  have := zipS_get h hi
  rw [List.getD_eq_getElem?_getD, e] at this
  simp only [Option.getD_some] at this
  rw [this]; exact hp i hi
set_option maxRecDepth 100000 in
set_option maxHeartbeats 800000 in
theorem packets_all (w : World) (S : Nat → Prop) (b mb : Nat) (last : Int) (L : List (Int × MsgD)) (M : List (Int × Value)) (hP : PostIs S w b mb last L M) (hM : L.length ≤ 4000) (hlast : last ≤ 1000000) :
    Calls Try.prog 12 #[.pointer (some ⟨b, 0, none⟩)] w (PacksD w L) := by
  have h := hP.at'
  have hML := hP.len
  have hmap := hP.map
  have hkeys := sorted_id hP.keys
  have c0 := h.c0
  have hm := h.m
  obtain ⟨lb, lm, lne⟩ := h.lt
  have hwf : ∀ p ∈ M, (Lit.int .i64 p.1).wf = true := fun p hp => by
    have : p.1 ∈ L.map (·.1) := by rw [← hmap]; exact List.mem_map_of_mem hp
    obtain ⟨p', hp', he⟩ := List.mem_map.1 this
    have := hP.low p' hp'
    simp [Lit.wf, IntKind.min, IntKind.max, IntKind.signed, IntKind.bits]
    omega
  have HWF := Lib.hid hwf; clear hwf
  have HST := Lib.hid (fun w' (u : Upd (fun _ => False) w w') => state_ok w' b mb last M (h.old u))
  have HH := Lib.hid h; clear h
  have HP := Lib.hid hP; clear hP
  have HMAP := Lib.hid hmap; clear hmap
  have HKEYS := Lib.hid hkeys; clear hkeys
  go_enter Try.func12, Try.ntmps12
  go_wp2_with (first
    | (go_at_call 21; refine (HST.out _ (by first | exact Upd.refl _ _ | exact (Upd.refl _ _).alloc _)).mono ?_; rintro e w' ⟨rfl, rfl⟩)
    | (go_at_call 24; refine (keys_any _ _).mono ?_; rintro e w' ⟨rfl, rfl⟩)
    | (go_at_call 23; refine (sort_keys w.heap.size mb M _ (by simp) (by simp [go_sem]) (by rw [im_alloc_old _ lm]; exact hm) HWF.out (by omega)).mono ?_; rintro e w1 ⟨v1, rfl, ho, hnil, hu⟩; clear hnil
       obtain ⟨sa, sc, rfl, hi⟩ := Packs_shape (by omega) ho; clear ho
       have HI := Lib.hid hi; clear hi; have HU := Lib.hid (((Upd.refl _ _).alloc _).trans hu); clear hu))
  rw [HMAP.out, HKEYS.out] at HI
  go_loopw [3, 16] (fun v i wr => PackD w1 L v i wr) (fun _ i _ => L.length - (intOf i).toNat)
  case atStart => exact ⟨0, [], Nat.zero_le _, rfl, rfl, ⟨rfl, .inl ⟨rfl, rfl⟩⟩, fun j hj => absurd hj (Nat.not_lt_zero j), Upd.refl _ _⟩
  case round =>
    obtain ⟨q, Cs, hq, rfl, hcl, ho, hms, hu⟩ := hrel
    have HO := Lib.hid ho; clear ho
    have HMS := Lib.hid hms; clear hms
    have HUR := Lib.hid hu; clear hu
    have hpr := HH.out.old (HU.out.trans HUR.out)
    have c0 := hpr.c0
    have hm := hpr.m
    have hlts := hpr.lt
    have HPR := Lib.hid hpr; clear hpr
    by_cases hlt : q < L.length
    · obtain ⟨C, hMq, hmsg⟩ := HP.out.msg q hlt
      have hlow := HP.out.low (L.getD q default) (by rw [List.getD_eq_getElem?_getD, List.getElem?_eq_getElem hlt]; exact List.getElem_mem hlt)
      have hget := aget_of_mem (im_nodup hm) (List.mem_of_getElem? hMq)
      clear hMq
      have HMSG := Lib.hid (hmsg.old (HU.out.trans HUR.out)); clear hmsg
      obtain ⟨ib, io, rfl, hc⟩ := (HI.out.old HUR.out).cellAt (by rw [List.length_map]; exact hlt)
      have hkq : (L.map (·.1)).getD q 0 = (L.getD q default).1 := by rw [List.getD_eq_getElem?_getD, List.getD_eq_getElem?_getD, List.getElem?_map, List.getElem?_eq_getElem hlt]; rfl
      rw [hkq] at hc
      clear hkq
      have HSTEP := Lib.hid (fun (w2 w3 : World) (v' : Value) (C2 X : Array Value) (ty : TypeId) (hC : MsgAt (Mem wr.heap.size w2) w2 C2 (L.getD q default).2) (hu2 : Upd (fun _ => False) wr w2) => packD_step (w3 := w3) (v' := v') (ty := ty) (X := X) hlt hcl HO.out HMS.out HUR.out hC hu2)
      generalize hpq : L.getD q default = pq at hlow hget hc HMSG HSTEP
      clear hpq
      generalize (List.zipWith sentC (L.take q) Cs).flatten = xs at HO HSTEP
      obtain ⟨i0, hi, hz0, hz1, hz2⟩ := info_parts info_sent
      have HI0 := Lib.hid hi; clear hi
      have HZ0 := Lib.hid hz0; clear hz0
      have HZ1 := Lib.hid hz1; clear hz1
      have HZ2 := Lib.hid hz2; clear hz2
      have look := look_msg
      go_wp2_with (first
        | (go_at_call 22; refine (own_any _ S C pq.2 HMSG.out).mono ?_; rintro e w2 ⟨C2, rfl, hm2, hu2⟩; obtain ⟨nv2, vv2, bv2, rfl⟩ := hm2.form; have hln : (sentC pq (msgC pq.2 nv2 vv2 bv2)).length = 1 * 25 := (by unfold sentC; rw [List.length_cons, msgC_len hm2]); have HM2 := Lib.hid hm2; clear hm2; have HU2 := Lib.hid hu2; clear hu2; have HLN := Lib.hid hln; clear hln)
        | (refine wpList_buildTo rfl 56 _ rfl _ rfl (sentC pq (msgC pq.2 nv2 vv2 bv2)).toArray (by kernel_rfl) ?_)
        | (refine wpList_buildSlice rfl 45 56 1 _ rfl (sentC pq (msgC pq.2 nv2 vv2 bv2)).toArray i0 _ Try.underlying45 HI0.out HZ0.out (by rw [HZ1.out]; decide) (by rw [HZ1.out]; decide) (by rw [HZ1.out]; kernel_rfl) ?_)
        | (at_builtin; go_must (refine wpList_append_own _ rfl _ _ 45 rfl w1.heap.size 56 i0 _ 25 256 Try.underlying45 HI0.out HZ0.out HZ1.out HZ2.out rfl (by decide) _ q xs rfl ?hown ⟨w2.heap.size, 0, none⟩ 1 1 (sentC pq (msgC pq.2 nv2 vv2 bv2)) rfl HLN.out ?hcell ?hone ?hlen ?hbytes ?hbase ?_)))
      case hown => exact owns_upd HO.out (HU2.out.alloc _) (fun _ _ h => h)
      case hcell =>
        intro j u hu
        rw [add_lit0, Nat.zero_add, cell_block (MapKept.heap_alloc w2 _).1]
        simpa using hu
      case hone => exact sentC_one HM2.out
      case hlen => unfold maxLen; omega
      case hbytes => omega
      case hbase => have := HUR.out.size; have := HU2.out.size; simp; omega
      intro v' w' hown' hg _
      have HG := Lib.hid hg; clear hg
      have HO' := Lib.hid hown'; clear hown'
      go_wp2_with fail
      go_roundw
      case rel => exact HSTEP.out _ _ _ _ _ _ HM2.out HU2.out HG.out HO'.out
      case measure => simp [intOf]; omega
    · have hql : q = L.length := by omega
      subst hql
      rw [List.take_length] at HO
      go_wp2_with fail
      go_ret
      have hus := HU.out.size
      refine ⟨_, rfl, ⟨Cs, hcl, ?_, fun i hi => (HMS.out i hi).mono (fun k hk => hk.low hus)⟩, ?_, HU.out.trans HUR.out⟩
      · refine Row.of_clone ?_ (by rw [zipS_length hcl]; exact HO.out)
        intro r hr
        exact zipS_all (p := fun r => r.length = 25) hcl (fun i hi => by show (sentC _ _).length = 25; unfold sentC; rw [List.length_cons, msgC_len (HMS.out i hi)]) r hr
      · have := Fresh.of_owns HO.out
        intro b o n c e
        have := this b o n c e
        omega
end Go.Proofs.Ytfodgohleioflaa
