/-
  Clones of sectors: clone, Image, Texts.
  Of, New: plates are made.
  Repeat, New.
  Spoil; Equal.
-/
import Derived.Test.YtcmhcibkpmbnoaaPlateA
import Derived.Test.YtcmhcibkpmbnoaaSh2
import Derived.Laws.CopyOwn
import Derived.Laws.CopyRow
import Derived.RegionTactic
import Derived.BigRegion
set_option linter.unusedVariables false
namespace Go.Proofs.Ytcmhcibkpmbnoaa
open Go Go.RowKit Go.MapKept Go.ChangeMaps

theorem info_sl : (Try.prog.info? 32).map (fun i => (i.zero, i.size, i.bytes)) = some (some (.slice none 0 0), 1, 24) := by kernel_rfl
theorem Upd.of_grown {w w' : World} {r : Option Nat} (h : w.grownBy w' r) : Upd (fun b => some b = r) w w' := ⟨h.os, h.tape, h.output, h.size, fun k hk hF => h.block k hk hF⟩
theorem owns_notB {w : World} {base : Nat} {v : Value} {n : Nat} {xs : List Value} (h : w.ownsRow base 32 1 v n xs) : ∀ k, some k = v.ownBlock → NotB w k := by
  intro k hk cur fr e
  rcases h.2 with ⟨rfl, _⟩ | ⟨g, cap, cur', rfl, _, hh, _⟩
  · cases hk
  · have : k = g := by simpa [Value.ownBlock] using hk
    subst this
    rw [hh] at e; cases e
theorem owns_upd {F : Nat → Prop} {w w' : World} {base : Nat} {e : TypeId} {k : Nat} {v : Value} {n : Nat} {xs : List Value} (h : w.ownsRow base e k v n xs) (u : Upd F w w') (hF : ∀ b, base ≤ b → ¬ F b) : w'.ownsRow base e k v n xs := by
  obtain ⟨h1, h2⟩ := h
  refine ⟨h1, h2.imp id ?_⟩
  rintro ⟨g, cap, cur, hv, hg, hh, r⟩
  have hlt : g < w.heap.size := (Array.getElem?_eq_some_iff.1 hh).1
  exact ⟨g, cap, cur, hv, hg, (u.block g hlt (hF g hg)).trans hh, r⟩
/-- q clones are there. -/
def CloneRel (w : World) (L : List (List Int)) (v i : Value) (wr : World) : Prop :=
  ∃ (q : Nat) (xs : List Value), q ≤ L.length ∧ i = .int .i64 q ∧ xs.length = q ∧ wr.ownsRow w.heap.size 32 1 v q xs ∧ (∀ j, j < q → ∃ sv, xs[j]? = some sv ∧ Sec wr sv (L.getD j [])) ∧ Upd (fun _ => False) w wr
theorem clone_step {w wr w1 w2 : World} {L : List (List Int)} {v v' nv : Value} {q : Nat} {xs : List Value} {o : Obj} (hq : q < L.length) (hl : xs.length = q) (ho : wr.ownsRow w.heap.size 32 1 v q xs) (hs : ∀ j, j < q → ∃ sv, xs[j]? = some sv ∧ Sec wr sv (L.getD j []))
    (hu : Upd (fun _ => False) w wr) (hu1 : Upd (fun _ => False) wr w1) (hn : Sec w1 nv (L.getD q [])) (ho' : w2.ownsRow w.heap.size 32 1 v' (q + 1) (xs ++ [nv])) (hg : (w1.alloc o).grownBy w2 v.ownBlock) : CloneRel w L v' (.int .i64 ((q : Int) + 1)) w2 := by
  have hnb := owns_notB ho
  have u1 : Upd (fun _ => False) wr (w1.alloc o) := hu1.alloc _
  have hnb1 : ∀ k, some k = v.ownBlock → NotB (w1.alloc o) k := owns_notB (owns_upd ho u1 (fun _ _ h => h))
  have u2 := Upd.of_grown hg
  refine ⟨q + 1, xs ++ [nv], hq, by go_num, by simp [hl], ho', fun j hj => ?_, (hu.trans u1).trans' u2 (fun i hi e => by have := (ho.lt i e.symm).1; omega)⟩
  by_cases e : j = q
  · subst e
    exact ⟨nv, by rw [List.getElem?_append_right (by omega), hl]; simp, (hn.old ((Upd.refl _ _).alloc _)).upd u2 hnb1⟩
  · obtain ⟨sv, k1, k2⟩ := hs j (by omega)
    exact ⟨sv, by rw [List.getElem?_append_left (by omega)]; exact k1, (k2.old u1).upd u2 hnb1⟩
/-- New sectors that read so. -/
def SecsPost (w : World) (L : List (List Int)) (e : Ending) (w' : World) : Prop := ∃ v h, e = .returned v ∧ Secs w' v h L ∧ w.heap.size ≤ h ∧ Upd (fun _ => False) w w'
theorem clone_done {w wr : World} {L : List (List Int)} {v : Value} {xs : List Value} {q : Nat} (hp : 0 < L.length) (hq : q = L.length) (hl : xs.length = q) (ho : wr.ownsRow w.heap.size 32 1 v q xs) (hs : ∀ j, j < q → ∃ sv, xs[j]? = some sv ∧ Sec wr sv (L.getD j [])) :
    ∃ h, Secs wr v h L ∧ w.heap.size ≤ h := by
  subst hq
  obtain ⟨_, ⟨_, h0⟩ | ⟨g, cap, cur, rfl, hg, hh, hn, hm, hsz, ht⟩⟩ := ho
  · omega
  · refine ⟨g, ⟨cap, cur, rfl, hn, hh, fun i hi => ?_⟩, hg⟩
    obtain ⟨sv, k1, k2⟩ := hs i hi
    refine ⟨sv, ?_, k2⟩
    unfold World.cell?
    rw [hh]
    simp only [Option.isSome_none, Bool.false_eq_true, if_false]
    have h1 : (cur.toList.take (L.length * 1))[i]? = xs[i]? := by rw [ht]
    rw [List.getElem?_take_of_lt (by omega), k1] at h1
    rw [← Array.getElem?_toList, h1]
set_option maxHeartbeats 2000000 in
theorem clone_any (w : World) (pb h : Nat) (v : Value) (L : List (List Int)) (h0 : w.cell? ⟨pb, 0, none⟩ = some v) (hs : Secs w v h L) (hp : 0 < L.length) (hf : L.length ≤ 8192) :
    Calls Try.prog 19 #[.pointer (some ⟨pb, 0, none⟩)] w (SecsPost w L) := by
  have lpb := World.block_lt_of_cell? _ _ h0
  simp only [] at lpb
  have hs' := hs
  obtain ⟨vc, _, rfl, _, _, _⟩ := hs'
  have HS := Lib.hid hs; clear hs
  go_enter Try.func19, Try.ntmps19
  go_wp2_with fail
  go_loopw [3, 11] (fun v i wr => CloneRel w L v i wr) (fun _ i _ => L.length - (intOf i).toNat)
  case atStart => exact ⟨0, [], Nat.zero_le _, rfl, rfl, ⟨rfl, .inl ⟨rfl, rfl⟩⟩, fun j hj => absurd hj (Nat.not_lt_zero _), Upd.refl _ _⟩
  case round =>
    obtain ⟨q, xs, hq, rfl, hxl, ho, hsec, hu⟩ := hrel
    have HO := Lib.hid ho; clear ho
    have HSEC := Lib.hid hsec; clear hsec
    have HU := Lib.hid hu; clear hu
    by_cases hlt : q < L.length
    · obtain ⟨sv, hc, hsv, _⟩ := (HS.out.old HU.out).cellAt hlt
      obtain ⟨sk, so, sc, rfl, _⟩ := hsv.shape
      have HSV := Lib.hid hsv; clear hsv
      obtain ⟨i0, hi, hz0, hz1, hz2⟩ := info_parts info_sl
      have HI0 := Lib.hid hi; clear hi
      have HZ0 := Lib.hid hz0; clear hz0
      have HZ1 := Lib.hid hz1; clear hz1
      have HZ2 := Lib.hid hz2; clear hz2
      go_wp2_with fail
      refine (clone_sec _ _ _ HSV.out).mono ?_
      rintro e w1 ⟨nv, rfl, hnv, hfr, hu1⟩
      obtain ⟨nk, no, nc, rfl, _⟩ := hnv.shape
      have HNV := Lib.hid hnv; clear hnv
      have HU1 := Lib.hid hu1; clear hu1
      clear hfr
      go_wp2_with (at_builtin; go_must (refine wpList_append_own _ rfl _ _ 22 rfl w.heap.size 32 i0 _ 1 24 Try.underlying22 HI0.out HZ0.out HZ1.out HZ2.out rfl (by decide) _ q xs rfl ?hown ⟨w1.heap.size, 0, none⟩ 1 1 [.slice (some ⟨nk, no, none⟩) 64 nc] rfl rfl ?hcell ?hone ?hlen ?hbytes ?hbase ?_))
      case hown => exact owns_upd HO.out (HU1.out.alloc _) (fun _ _ h => h)
      case hcell =>
        intro j u hu
        rw [Addr.add_lit]
        rw [World.cell?_alloc_at _ _ _ _ (by simp)]
        simpa using hu
      case hone => simp [Value.oneCell']
      case hlen => unfold maxLen; omega
      case hbytes => omega
      case hbase => have := HU.out.size; have := HU1.out.size; simp; omega
      intro v' w' hown' hg _
      have HG := Lib.hid hg; clear hg
      have HO' := Lib.hid hown'; clear hown'
      go_wp2_with fail
      go_roundw
      case rel => exact clone_step hlt hxl HO.out HSEC.out HU.out HU1.out HNV.out HO'.out HG.out
      case measure => simp [intOf]; omega
    · have hql : q = L.length := by omega
      obtain ⟨h', hs', hh'⟩ := clone_done hp hql hxl HO.out HSEC.out
      go_wp2_with fail
      go_ret
      exact ⟨_, h', rfl, hs', hh', HU.out⟩
end Go.Proofs.Ytcmhcibkpmbnoaa
namespace Go.Proofs.Ytcmhcibkpmbnoaa
open Go Go.RowKit Go.MapKept Go.ChangeMaps

theorem odd_sec (w : World) (v : Value) (l : List Int) (h : Sec w v l) : Calls Try.prog 17 #[v] w (Same w (.bool false)) := by
  obtain ⟨k, o, c, rfl, _⟩ := h.shape
  clear h
  go_enter Try.func17, Try.ntmps17
  go_wp2
  go_ret
  exact ⟨rfl, rfl⟩
theorem index_odd (w : World) (h : Nat) (v : Value) (L : List (List Int)) (hs : Secs w v h L) (hf : L.length ≤ 8192) :
    Calls Try.prog 41 #[v, .func (.func 17) #[] #[]] w (Same w (.int .i64 (-1))) := by
  have hs' := hs
  obtain ⟨vc, _, rfl, _, _, _⟩ := hs'
  have HS := Lib.hid hs; clear hs
  go_enter Try.func41, Try.ntmps41
  go_wp2
  go_loop [8] (fun i => ∃ k : Nat, k ≤ L.length ∧ i = .int .i64 k) (fun i => L.length - (intOf i).toNat)
  case atStart => exact ⟨0, Nat.zero_le _, rfl⟩
  case round =>
    obtain ⟨k, hk, rfl⟩ := hrel
    by_cases hlt : k < L.length
    · obtain ⟨sv, hc, hsv, _⟩ := HS.out.cellAt hlt
      obtain ⟨sk, so, sc, rfl, _⟩ := hsv.shape
      have HSV := Lib.hid hsv; clear hsv
      go_wp2_with (go_at_call 17; refine (odd_sec _ _ _ HSV.out).mono ?_; rintro e w' ⟨rfl, rfl⟩)
      go_round
      case rel => exact ⟨k + 1, by omega, by go_num⟩
      case measure => simp [intOf]; omega
    · go_wp2
      go_ret
      exact ⟨rfl, rfl⟩
theorem contains_odd (w : World) (h : Nat) (v : Value) (L : List (List Int)) (hs : Secs w v h L) (hf : L.length ≤ 8192) :
    Calls Try.prog 18 #[v, .func (.func 17) #[] #[]] w (Same w (.bool false)) := by
  have hs' := hs
  obtain ⟨vc, _, rfl, _, _, _⟩ := hs'
  have HS := Lib.hid hs; clear hs
  go_enter Try.func18, Try.ntmps18
  go_wp2_with (go_at_call 41; refine (index_odd _ h _ L HS.out hf).mono ?_; rintro e w' ⟨rfl, rfl⟩)
  go_ret
  exact ⟨rfl, rfl⟩
/-- A plate that was made. -/
def MadePost (w : World) (L : List (List Int)) (e : Ending) (w' : World) : Prop :=
  ∃ b ab cm, e = .returned (.tuple #[.pointer (some ⟨b, 0, none⟩), .int .i64 0]) ∧ PlateAt w' b ab cm L (fun _ => none) ∧ w.heap.size ≤ b ∧ w.heap.size ≤ ab ∧ w.heap.size ≤ cm ∧ Upd (fun _ => False) w w'
theorem of_any (w : World) (h : Nat) (v : Value) (L : List (List Int)) (hs : Secs w v h L) (hp : 0 < L.length) (hf : L.length ≤ 8192) :
    Calls Try.prog 6 #[v] w (MadePost w L) := by
  have hmm := @run_makeMap Try.prog
  have hs' := hs
  obtain ⟨vc, _, rfl, _, _, _⟩ := hs'
  have HS := Lib.hid hs; clear hs
  go_enter Try.func6, Try.ntmps6
  go_wp2_with (first
    | (go_at_call 18; refine (contains_odd _ h _ L HS.out hf).mono ?_; rintro e w' ⟨rfl, rfl⟩)
    | (go_at_call 19; refine (clone_any _ w.heap.size h (.slice (some ⟨h, 0, none⟩) L.length vc) L (by simp [go_sem]) (HS.out.old ((Upd.refl _ _).alloc _)) hp hf).mono ?_; rintro e w1 ⟨v1, h1, rfl, hs1, hh1, hu1⟩; have hs1' := hs1; obtain ⟨vc1, _, rfl, _, _, _⟩ := hs1'))
  go_ret2
  have u : Upd (fun _ => False) w w1 := ((Upd.refl _ _).alloc _).trans hu1
  have u2 : Upd (fun _ => False) w1 ((w1.alloc (.map #[] 0)).alloc (.cells #[.slice (some ⟨h1, 0, none⟩) L.length vc1, .map (some w1.heap.size), .int .i64 L.length, .bool false] 55)) := ((Upd.refl _ _).alloc _).alloc _
  have ht := (MapKept.heap_alloc (w1.alloc (.map #[] 0)) (.cells #[.slice (some ⟨h1, 0, none⟩) L.length vc1, .map (some w1.heap.size), .int .i64 L.length, .bool false] 55)).1
  have hsz : (w1.alloc (.map #[] 0)).heap.size = w1.heap.size + 1 := by simp
  rw [hsz] at ht
  refine ⟨w1.heap.size + 1, h1, w1.heap.size, rfl, ⟨⟨_, by simp [go_sem], hs1.old u2⟩, by simp [go_sem], by simp [go_sem], by simp [go_sem], ⟨_, ht⟩,
    ⟨[], by simp [go_sem], fun i => rfl⟩, fun i l h => (by cases h), hp, hf⟩, ?_, ?_, ?_, u.trans u2⟩
  · have := u.size; omega
  · simp at hh1; omega
  · exact u.size
end Go.Proofs.Ytcmhcibkpmbnoaa
namespace Go.Proofs.Ytcmhcibkpmbnoaa
open Go Go.RowKit Go.MapKept Go.ChangeMaps

theorem mul_one_n (n : Nat) (hn : n ≤ 8192) (w : World) : Calls Try.prog 47 #[.int .u64 1, .int .u64 n] w fun e w' => e = .returned (.tuple #[.int .u64 0, .int .u64 n]) ∧ w = w' := by
  have h := Try.bits_Mul 1 n (by omega) (by omega) w
  have h1 : (1 * n / 18446744073709551616 : Nat) = 0 := by omega
  have h2 : (1 * n % 18446744073709551616 : Nat) = n := by omega
  rw [h1, h2] at h
  refine h.mono ?_
  rintro e w' ⟨rfl, rfl⟩
  exact ⟨rfl, rfl⟩
/-- Cells are copied within memory. -/
theorem copy_cells (w : World) (g o dLen dCap : Nat) (ad : Addr) (sLen sCap : Nat) (cur : Array Value) (cs : List Value) (hg : w.heap[g]? = some (.cells cur 32 (0, 0))) (hn : cs.length = Nat.min sLen dLen)
    (hsrc : ∀ j v, cs[j]? = some v → w.cell? (ad.add j) = some v) (hfit : o + cs.length ≤ cur.size) (h1 : ∀ v ∈ cs, v.oneCell' = true) :
    ∃ w' cur', (∀ k, (Builtin.copy_ #[22, 22] 3 #[.slice (some ⟨g, o, none⟩) dLen dCap, .slice (some ad) sLen sCap]).run Try.prog (w.drewN k) = .ok (.int .i64 cs.length) (w'.drewN k)) ∧
      w'.heap[g]? = some (.cells cur' 32 (0, 0)) ∧ cur'.size = cur.size ∧ (∀ j, j < o → cur'[j]? = cur[j]?) ∧ (∀ j, j < cs.length → cur'[o + j]? = cs[j]?) ∧ Upd (fun k => k = g) w w' := by
  refine ⟨w.setRow g (cur.toList.take o ++ cs ++ cur.toList.drop (o + cs.length)).toArray, _, fun k => ?_, setRow_heap w g cur _ _ _ hg, ?_, fun j hj => ?_, fun j hj => ?_, ⟨rfl, rfl, rfl, by rw [size_setRow]; exact Nat.le_refl _, fun k _ hk => setRow_other w g k _ hk⟩⟩
  · exact run_copy_row (P := Try.prog) (w.drewN k) 22 22 3 32 g o dLen dCap ad sLen sCap cur 32 cs Try.underlying22 (by kernel_rfl) hg hn hsrc hfit h1
  · simp; omega
  · rw [List.getElem?_toArray, List.append_assoc, List.getElem?_append_left (by simp; omega), List.getElem?_take_of_lt hj, Array.getElem?_toList]
  · have hl : (cur.toList.take o).length = o := by simp; omega
    rw [List.getElem?_toArray, List.append_assoc, List.getElem?_append_right (by omega), hl, List.getElem?_append_left (by omega)]
    congr 1
    omega
/-- The first r of a row are there. -/
def RepRel (w : World) (g n : Nat) (sv : Value) (i : Value) (wr : World) : Prop :=
  ∃ (r : Nat) (cur : Array Value), 1 ≤ r ∧ r ≤ n ∧ i = .int .i64 r ∧ wr.heap[g]? = some (.cells cur 32 (0, 0)) ∧ cur.size = n ∧ (∀ j, j < r → cur[j]? = some sv) ∧ Upd (fun _ => False) w wr
set_option maxRecDepth 100000 in
set_option maxHeartbeats 2000000 in
theorem repeat_any (w : World) (h n : Nat) (v : Value) (l : List Int) (hs : Secs w v h [l]) (hn : 0 < n) (hf : n ≤ 8192) :
    Calls Try.prog 34 #[v, .int .i64 n] w (SecsPost w (List.replicate n l)) := by
  obtain ⟨sv, hc, hsv, _⟩ := hs.cellAt (i := 0) (by simp)
  obtain ⟨sk, so, sc, rfl, _⟩ := hsv.shape
  have lh := hs.lt
  have hs' := hs
  obtain ⟨vc, _, hv, _, _, _⟩ := hs'
  have hv1 : v = .slice (some ⟨h, 0, none⟩) 1 vc := hv
  clear hv
  subst hv1
  have HS := Lib.hid hs; clear hs
  have HSV := Lib.hid hsv; clear hsv
  obtain ⟨i0, hi, hz0, hz1, hz2⟩ := info_parts info_sl
  obtain ⟨w1, hmk, ho, hg⟩ := run_makeSlice_full (P := Try.prog) (w := w) w.heap.size 22 32 i0 _ 1 Try.underlying22 hi hz0 hz1 .i64 .i64 n (by omega) (by rw [hz2]; omega) (by unfold maxLen; omega) (Nat.le_refl _)
  clear hi hz0 hz1 hz2
  obtain ⟨cur, hcur, hcs⟩ : ∃ cur, w1.heap[w.heap.size]? = some (.cells cur 32 (0, 0)) ∧ cur.size = n := by
    obtain ⟨_, ⟨e, _⟩ | ⟨g, cap, cur, e, _, hh, hn1, _, hsz, _⟩⟩ := ho
    · cases e
    · cases e; exact ⟨cur, hh, by omega⟩
  clear ho
  have hu1 := Upd.of_grown hg
  have hU1 : Upd (fun _ => False) w w1 := hu1.mono (fun k _ h => by cases h)
  clear hg hu1
  have hc1 := (hU1.cell (p := ⟨h, 0, none⟩) lh (fun h => h)).trans hc
  have HU1 := Lib.hid hU1; clear hU1
  obtain ⟨w2, cur2, hcp0, hg2, hs2, _, hj2, hu2⟩ := copy_cells w1 w.heap.size 0 n n ⟨h, 0, none⟩ 1 vc cur [.slice (some ⟨sk, so, none⟩) 64 sc] hcur (by show _ = min 1 n; simp; omega) (by
    intro j u hu
    rw [Addr.add_lit]
    have : j = 0 := by
      rcases Nat.eq_zero_or_pos j with h | h
      · exact h
      · rw [List.getElem?_eq_none (by simp; omega)] at hu; cases hu
    subst this
    simp only [List.getElem?_cons_zero, Option.some.injEq] at hu
    subst hu
    exact hc1) (by simp; omega) (by simp [Value.oneCell'])
  have hcp : (Builtin.copy_ #[22, 22] 3 #[.slice (some ⟨w.heap.size, 0, none⟩) n n, .slice (some ⟨h, 0, none⟩) 1 vc]).run Try.prog w1 = .ok (.int .i64 1) w2 := hcp0 0
  have hst : RepRel w w.heap.size n (.slice (some ⟨sk, so, none⟩) 64 sc) (.int .i64 1) w2 := by
    refine ⟨1, cur2, Nat.le_refl _, hn, rfl, hg2, by omega, fun j hj => ?_, HU1.out.trans' hu2 (fun i hi e => by omega)⟩
    obtain rfl : j = 0 := by omega
    have := hj2 0 (by simp)
    simpa using this
  have HST := Lib.hid hst; clear hst
  clear hcp0 hg2 hs2 hj2 hu2 hcur hcs hc1
  go_enter Try.func34, Try.ntmps34
  go_wp2_with fail
  refine (mul_one_n n hf _).mono ?_
  rintro e w' ⟨rfl, rfl⟩
  go_wp2_with fail
  go_loopw [8] (fun i wr => RepRel w w.heap.size n (.slice (some ⟨sk, so, none⟩) 64 sc) i wr) (fun i _ => n - (intOf i).toNat)
  case atStart => exact HST.out
  case round =>
    obtain ⟨r, cr, hr1, hr2, rfl, hgr, hcs, hfill, hu⟩ := hrel
    have HU := Lib.hid hu; clear hu
    have HFILL := Lib.hid hfill; clear hfill
    by_cases hlt : r < n
    · obtain ⟨w', cr', hcpr, hgr', hcs', hold', hnew', hu'⟩ := copy_cells wr w.heap.size r (n - r) (n - r) ⟨w.heap.size, 0, none⟩ r n cr (List.replicate (min r (n - r)) (.slice (some ⟨sk, so, none⟩) 64 sc)) hgr (by rw [List.length_replicate]) (by
        intro j u hu
        rw [List.getElem?_replicate] at hu
        split at hu
        · cases hu
          rw [Addr.add_lit]
          unfold World.cell?
          rw [hgr]
          simp only [Option.isSome_none, Bool.false_eq_true, if_false, Nat.zero_add]
          exact HFILL.out j (by omega)
        · cases hu) (by rw [List.length_replicate]; omega) (by intro v hv; rw [(List.mem_replicate.1 hv).2]; rfl)
      rw [List.length_replicate] at hcpr
      have hcpr1 : (Builtin.copy_ #[22, 22] 3 #[.slice (some ⟨w.heap.size, r, none⟩) (n - r) (n - r), .slice (some ⟨w.heap.size, 0, none⟩) r n]).run Try.prog wr.drew = .ok (.int .i64 (min r (n - r) : Nat)) w'.drew := hcpr 1
      go_wp2_with fail
      go_region
      go_wp2_with fail
      go_roundw
      case rel =>
        refine ⟨r + min r (n - r), cr', by omega, by omega, by go_num, hgr', by omega, fun j hj => ?_, ((HU.out.trans' hu' (fun i hi e => by omega))).drew⟩
        by_cases hjr : j < r
        · rw [hold' j hjr]; exact HFILL.out j hjr
        · have := hnew' (j - r) (by rw [List.length_replicate]; omega)
          rw [show r + (j - r) = j by omega, List.getElem?_replicate, if_pos (by omega)] at this
          exact this
      case measure => simp [intOf]; omega
    · obtain rfl : r = n := by omega
      go_wp2_with fail
      go_ret
      refine ⟨.slice (some ⟨w.heap.size, 0, none⟩) r r, w.heap.size, rfl, ⟨r, cr, by rw [List.length_replicate], by rw [List.length_replicate]; exact Nat.le_refl _, hgr, fun i hi => ?_⟩, Nat.le_refl _, HU.out⟩
      rw [List.length_replicate] at hi
      refine ⟨.slice (some ⟨sk, so, none⟩) 64 sc, ?_, ?_⟩
      · unfold World.cell?
        rw [hgr]
        simp only [Option.isSome_none, Bool.false_eq_true, if_false]
        exact HFILL.out i hi
      · rw [List.getD_eq_getElem?_getD, List.getElem?_replicate, if_pos hi]
        exact HSV.out.old HU.out

theorem info_u8 : (Try.prog.info? 5).map (fun i => (i.zero, i.size, i.bytes)) = some (some (.int .u8 0), 1, 1) := by kernel_rfl
def zeros : List Int := List.replicate 64 0
/-- Sixty-four noughts are made. -/
theorem make_sec (w : World) : ∃ w', (Instr.makeSlice 32 (.int .i64 64) (.int .i64 64)).run Try.prog w = .ok (.slice (some ⟨w.heap.size, 0, none⟩) 64 64) w' ∧ Sec w' (.slice (some ⟨w.heap.size, 0, none⟩) 64 64) zeros ∧ Upd (fun _ => False) w w' ∧ w'.heap.size = w.heap.size + 1 := by
  obtain ⟨i0, hi, hz0, hz1, hz2⟩ := info_parts info_u8
  have h0 := run_make (P := Try.prog) w 32 5 i0 _ Try.underlying32 hi hz0 .i64 .i64 64 64 (by omega) (by omega) (by rw [hz2]; omega) (by omega)
  rw [hz1] at h0
  have hmk : (Instr.makeSlice 32 (.int .i64 64) (.int .i64 64)).run Try.prog w = .ok (.slice (some ⟨w.heap.size, 0, none⟩) 64 64) (w.alloc (.cells (madeCells #[.int .u8 0] 64) 5)) := h0
  refine ⟨_, hmk, ⟨w.heap.size, 0, 0, _, rfl, by simp [zeros], (MapKept.heap_alloc w _).1, fun j hj => ?_⟩, (Upd.refl _ _).alloc _, by simp⟩
  rw [World.cell?_alloc_at _ _ _ _ (by simp)]
  have h1 : zeros.getD j 0 = 0 := by
    unfold zeros
    rw [List.getD_eq_getElem?_getD, List.getElem?_replicate, if_pos hj]
    rfl
  rw [h1]
  simp [madeCells, hj, Nat.mod_one]
set_option maxRecDepth 100000 in
theorem new_any (n : Nat) (w : World) (hn : 0 < n) (hf : n ≤ 8192) : Calls Try.prog 11 #[.int .i64 n] w (MadePost w (List.replicate n zeros)) := by
  obtain ⟨w1, hmk, hs1, hu1, hz1⟩ := make_sec w
  have hlen : (List.replicate n zeros).length = n := List.length_replicate
  have hrep := fun (w : World) (h : Nat) (v : Value) (hs : Secs w v h [zeros]) => repeat_any w h n v zeros hs hn hf
  generalize List.replicate n zeros = L at hlen hrep ⊢
  generalize zeros = Z at hs1 hrep
  have HREP := Lib.hid hrep; clear hrep
  have HS1 := Lib.hid hs1; clear hs1
  have HU1 := Lib.hid hu1; clear hu1
  go_enter Try.func11, Try.ntmps11
  have hs2 : Secs (w1.alloc (.cells #[.slice (some ⟨w.heap.size, 0, none⟩) 64 64] 32)) (.slice (some ⟨w.heap.size + 1, 0, none⟩) 1 1) (w.heap.size + 1) [Z] := by
    rw [← hz1]
    refine ⟨1, _, rfl, Nat.le_refl _, (MapKept.heap_alloc w1 _).1, fun i hi => ?_⟩
    obtain rfl : i = 0 := by simpa using hi
    exact ⟨_, by rw [World.cell?_alloc_at _ _ _ _ rfl]; rfl, HS1.out.old ((Upd.refl _ _).alloc _)⟩
  have HS2 := Lib.hid hs2; clear hs2
  go_wp2_with fail
  refine (HREP.out _ (w.heap.size + 1) _ HS2.out).mono ?_
  rintro e w2 ⟨v2, h2, rfl, hs2, hh2, hu2⟩
  have hs2' := hs2
  obtain ⟨vc2, _, hv2, _, _, _⟩ := hs2'
  rw [hlen] at hv2
  subst hv2
  have HS3 := Lib.hid hs2; clear hs2
  have HU2 := Lib.hid hu2; clear hu2
  go_wp2_with fail
  refine (of_any _ h2 _ L HS3.out (by omega) (by omega)).mono ?_
  rintro e w3 ⟨b, ab, cm, rfl, hp, l1, l2, l3, hu3⟩
  have HP := Lib.hid hp; clear hp
  have HU3 := Lib.hid hu3; clear hu3
  go_wp2_with fail
  go_ret2
  have k1 := HU1.out.size
  have k2 := HU2.out.size
  simp at k2
  exact ⟨b, ab, cm, rfl, HP.out, by omega, by omega, by omega, ((HU1.out.alloc _).trans HU2.out).trans HU3.out⟩
end Go.Proofs.Ytcmhcibkpmbnoaa
namespace Go.Proofs.Ytcmhcibkpmbnoaa
open Go Go.RowKit Go.MapKept Go.ChangeMaps

theorem equal_sec (w : World) (v v' : Value) (l : List Int) (h : Sec w v l) (h' : Sec w v' l) : Calls Try.prog 32 #[v, v'] w (Same w (.bool true)) := by
  obtain ⟨k, o, c, cur, rfl, hl, _, hc⟩ := h
  obtain ⟨k', o', c', cur', rfl, _, _, hc'⟩ := h'
  refine (Try.bytes_Equal_all (some ⟨k, o, none⟩) (some ⟨k', o', none⟩) 64 (64 + c) 64 (64 + c') l l w hl hl ?_ ?_).mono ?_
  · exact fun _ => ⟨k, o, rfl, hc⟩
  · exact fun _ => ⟨k', o', rfl, hc'⟩
  · rintro e w' ⟨rfl, rfl⟩
    exact ⟨by simp, rfl⟩
end Go.Proofs.Ytcmhcibkpmbnoaa
