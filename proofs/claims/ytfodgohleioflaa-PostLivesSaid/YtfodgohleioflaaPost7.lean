/-
  Packets: as many as there are in the map.
-/
import Derived.Test.YtfodgohleioflaaPost6
import Derived.Great.BuildSlice
namespace Go.Proofs.Ytfodgohleioflaa
open Go Go.RowKit Go.MapKept Go.ChangeMaps

def Bare (M : List (Int × Value)) : Prop := ∀ p ∈ M, 0 ≤ p.1 ∧ p.1 ≤ 1000000 ∧ ∃ q, p.2 = .agg (msgN q)
/-- A packet of a message of which only the ID stands. -/
def sentN (n id : Int) : List Value := .int .i64 n :: (msgN id).toList
theorem info_sent : (Try.prog.info? 56).map (fun i => (i.zero, i.size, i.bytes)) = some (some (.agg (sentN 0 0).toArray), 25, 256) := by kernel_rfl
def PacksP (w : World) (M : List (Int × Value)) (e : Ending) (w' : World) : Prop := ∃ base v xs, e = .returned v ∧ w.heap.size ≤ base ∧ w'.ownsRow base 56 25 v M.length xs ∧ Upd (fun _ => False) w w'
def PackRel (w : World) (n : Nat) (v i : Value) (wr : World) : Prop := ∃ q xs, q ≤ n ∧ i = .int .i64 ((q : Nat) : Int) ∧ wr.ownsRow w.heap.size 56 25 v q xs ∧ Upd (fun _ => False) w wr
theorem owns_upd {F : Nat → Prop} {w w' : World} {base : Nat} {e : TypeId} {k : Nat} {v : Value} {n : Nat} {xs : List Value} (h : w.ownsRow base e k v n xs) (u : Upd F w w') (hF : ∀ b, base ≤ b → ¬ F b) : w'.ownsRow base e k v n xs := by
  obtain ⟨h1, h2⟩ := h
  refine ⟨h1, h2.imp id ?_⟩
  rintro ⟨g, cap, cur, hv, hg, hh, r⟩
  have hlt : g < w.heap.size := (Array.getElem?_eq_some_iff.1 hh).1
  exact ⟨g, cap, cur, hv, hg, (u.block g hlt (hF g hg)).trans hh, r⟩
theorem Upd.of_grown {w w' : World} {r : Option Nat} (h : w.grownBy w' r) : Upd (fun b => some b = r) w w' := ⟨h.os, h.tape, h.output, h.size, fun k hk hF => h.block k hk hF⟩
theorem Ints.cellAt {w : World} {a : Option Addr} {n c q : Nat} {l : List Int} (h : Ints w (.slice a n c) l) (hq : q < l.length) : ∃ b o, a = some ⟨b, o, none⟩ ∧ w.cell? ⟨b, o + q, none⟩ = some (.int .i64 (l.getD q 0)) := by
  rcases h.cells with ⟨rfl, _⟩ | ⟨b, o, cap, e, hl, hc⟩
  · exact absurd hq (Nat.not_lt_zero _)
  · cases e
    exact ⟨b, o, rfl, hc q hq⟩
theorem aget_of_mem : ∀ {l : List (Int × Value)} {k : Int} {v : Value}, (l.map (·.1)).Nodup → (k, v) ∈ l → aget l k = some v
  | p :: r, k, v, hn, h => by
    obtain ⟨n1, n2⟩ := List.nodup_cons.1 hn
    rw [aget_cons]
    rcases List.mem_cons.1 h with h | h
    · subst h; rw [if_pos rfl]
    · rw [if_neg (fun e => n1 (by have h2 := List.mem_map_of_mem (f := (·.1)) h; rw [← e] at h2; exact h2))]
      exact aget_of_mem n2 h
theorem sentN_one (n id : Int) : ∀ u ∈ sentN n id, u.oneCell' = true := fun u hu => by
  rcases List.mem_cons.1 hu with rfl | h
  · rfl
  · exact (Array.all_eq_true_iff_forall_mem.1 (msgN_one id)) u (by simpa using h)
theorem owns_far {w : World} {base : Nat} {e : TypeId} {k n : Nat} {v : Value} {xs : List Value} (h : w.ownsRow base e k v n xs) {i : Nat} (hi : i < base) (he : some i = v.ownBlock) : False := by
  obtain ⟨_, ⟨rfl, _⟩ | ⟨g, cap, cur, rfl, hg, _⟩⟩ := h
  · cases he
  · simp [Value.ownBlock] at he
    omega
theorem Packs_shape {w : World} {base : Nat} {v : Value} {M : List (Int × Value)} (hM : M.length ≤ 4000) (h : w.ownsRow base 3 1 v (M.map (·.1)).length ((sorted (M.map (·.1))).map encI)) : ∃ a c, v = .slice a M.length c ∧ Ints w (.slice a M.length c) (sorted (M.map (·.1))) := by
  have hl : (sorted (M.map (·.1))).length = M.length := by rw [sorted_length, List.length_map]
  have hi : Ints w v (sorted (M.map (·.1))) := Ints.of_owns (base := base) (e := 3) (by omega) (by rw [hl]; rw [List.length_map] at h; exact h)
  obtain ⟨a, c, e⟩ := hi.shape
  rw [hl] at e
  exact ⟨a, c, e, e ▸ hi⟩
theorem packed_key {M : List (Int × Value)} {q : Nat} (hq : q < M.length) (_ : (M.map (·.1)).Nodup) (hb : Bare M) : ∃ d, 0 ≤ (sorted (M.map (·.1))).getD q 0 ∧ (sorted (M.map (·.1))).getD q 0 ≤ 1000000 ∧ ((sorted (M.map (·.1))).getD q 0, Value.agg (msgN d)) ∈ M := by
  have hl : (sorted (M.map (·.1))).length = M.length := by rw [sorted_length, List.length_map]
  have hm : (sorted (M.map (·.1))).getD q 0 ∈ sorted (M.map (·.1)) := by
    rw [List.getD_eq_getElem?_getD, List.getElem?_eq_getElem (by omega)]
    exact List.getElem_mem _
  obtain ⟨p, hp, he⟩ := List.mem_map.1 (mem_sorted.1 hm)
  obtain ⟨h1, h2, d, hd⟩ := hb p hp
  rw [← he]
  exact ⟨d, h1, h2, by rw [← hd]; exact hp⟩
set_option maxRecDepth 100000 in
set_option maxHeartbeats 800000 in
theorem packets_any (w : World) (b mb : Nat) (last : Int) (M : List (Int × Value)) (h : PostAt w b mb last M) (hM : M.length ≤ 4000) (hbare : Bare M) :
    Calls Try.prog 12 #[.pointer (some ⟨b, 0, none⟩)] w (PacksP w M) := by
  have c0 := h.c0
  have hm := h.m
  obtain ⟨lb, lm, lne⟩ := h.lt
  have hwf : ∀ p ∈ M, (Lit.int .i64 p.1).wf = true := fun p hp => by
    have := hbare p hp
    simp [Lit.wf, IntKind.min, IntKind.max, IntKind.signed, IntKind.bits]
    omega
  have HWF := Lib.hid hwf; clear hwf
  have HST := Lib.hid (fun w' (u : Upd (fun _ => False) w w') => state_ok w' b mb last M (h.old u))
  have HH := Lib.hid h; clear h
  go_enter Try.func12, Try.ntmps12
  go_wp2_with (first
    | (go_at_call 21; refine (HST.out _ (by first | exact Upd.refl _ _ | exact (Upd.refl _ _).alloc _)).mono ?_; rintro e w' ⟨rfl, rfl⟩)
    | (go_at_call 24; refine (keys_any _ _).mono ?_; rintro e w' ⟨rfl, rfl⟩)
    | (go_at_call 23; refine (sort_keys w.heap.size mb M _ (by simp) (by simp [go_sem]) (by rw [im_alloc_old _ lm]; exact hm) HWF.out (by omega)).mono ?_; rintro e w1 ⟨v1, rfl, ho, hnil, hu⟩; clear hnil
       obtain ⟨sa, sc, rfl, hi⟩ := Packs_shape hM ho; clear ho
       have HI := Lib.hid hi; clear hi; have HU := Lib.hid (((Upd.refl _ _).alloc _).trans hu); clear hu))
  go_loopw [3, 16] (fun v i wr => PackRel w1 M.length v i wr) (fun _ i _ => M.length - (intOf i).toNat)
  case atStart => exact ⟨0, [], Nat.zero_le _, rfl, ⟨rfl, .inl ⟨rfl, rfl⟩⟩, Upd.refl _ _⟩
  case round =>
    obtain ⟨q, xs, hq, rfl, ho, hu⟩ := hrel
    have HO := Lib.hid ho; clear ho
    have HUR := Lib.hid hu; clear hu
    have hpr := HH.out.old (HU.out.trans HUR.out)
    have c0 := hpr.c0
    have hm := hpr.m
    have hlts := hpr.lt
    have HPR := Lib.hid hpr; clear hpr
    by_cases hlt : q < M.length
    · obtain ⟨d, hk0, hk1, hkm⟩ := packed_key hlt (im_nodup hm) hbare
      have hget := aget_of_mem (im_nodup hm) hkm
      clear hkm
      obtain ⟨ib, io, rfl, hc⟩ := (HI.out.old HUR.out).cellAt (by rw [sorted_length, List.length_map]; exact hlt)
      generalize (sorted (M.map (·.1))).getD q 0 = key at hk0 hk1 hget hc
      obtain ⟨i0, hi, hz0, hz1, hz2⟩ := info_parts info_sent
      have HI0 := Lib.hid hi; clear hi
      have HZ0 := Lib.hid hz0; clear hz0
      have HZ1 := Lib.hid hz1; clear hz1
      have HZ2 := Lib.hid hz2; clear hz2
      have look := look_msg
      go_wp2_with (first
        | (go_at_call 22; refine (own_nil _ d).mono ?_; rintro e w2 ⟨rfl, hu2⟩; have HU2 := Lib.hid hu2; clear hu2)
        | (refine wpList_buildTo rfl 56 _ rfl _ rfl (sentN key d).toArray (by kernel_rfl) ?_)
        | (refine wpList_buildSlice rfl 45 56 1 _ rfl (sentN key d).toArray i0 _ Try.underlying45 HI0.out HZ0.out (by rw [HZ1.out]; decide) (by rw [HZ1.out]; decide) (by rw [HZ1.out]; kernel_rfl) ?_)
        | (at_builtin; go_must (refine wpList_append_own _ rfl _ _ 45 rfl w1.heap.size 56 i0 _ 25 256 Try.underlying45 HI0.out HZ0.out HZ1.out HZ2.out rfl (by decide) _ q xs rfl ?hown ⟨w2.heap.size, 0, none⟩ 1 1 (sentN key d) rfl rfl ?hcell ?hone ?hlen ?hbytes ?hbase ?_)))
      case hown => exact owns_upd HO.out (HU2.out.alloc _) (fun _ _ h => h)
      case hcell =>
        intro j u hu
        rw [add_lit0, Nat.zero_add, cell_block (MapKept.heap_alloc w2 _).1]
        simpa using hu
      case hone => exact sentN_one key d
      case hlen => unfold maxLen; omega
      case hbytes => omega
      case hbase => have := HUR.out.size; have := HU2.out.size; simp; omega
      intro v' w' hown' hg _
      have HG := Lib.hid hg; clear hg
      have HO' := Lib.hid hown'; clear hown'
      go_wp2_with fail
      go_roundw
      case rel => exact ⟨q + 1, _, hlt, by simp, HO'.out, (HUR.out.trans (HU2.out.alloc _)).trans' (Upd.of_grown HG.out) (fun i hi e => owns_far HO.out hi e)⟩
      case measure => simp [intOf]; omega
    · have hql : q = M.length := by omega
      go_wp2_with fail
      go_ret
      exact ⟨w1.heap.size, _, xs, rfl, HU.out.size, hql ▸ HO.out, HU.out.trans HUR.out⟩
end Go.Proofs.Ytfodgohleioflaa
