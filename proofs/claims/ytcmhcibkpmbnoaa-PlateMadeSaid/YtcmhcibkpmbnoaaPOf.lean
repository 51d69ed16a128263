/-
  A plate of any texts; what is no image is refused.
-/
import Derived.Test.YtcmhcibkpmbnoaaPSpoil
set_option linter.unusedVariables false
namespace Go.Proofs.Ytcmhcibkpmbnoaa
open Go Go.RowKit Go.MapKept Go.ChangeMaps

/-- All texts are sectors. -/
abbrev AllS (L : List (List Int)) : Prop := ∀ i, i < L.length → (L.getD i []).length = 64
set_option maxHeartbeats 2000000 in
theorem clone_txt (w : World) (pb : Nat) (v : Value) (L : List (List Int)) (h0 : w.cell? ⟨pb, 0, none⟩ = some v) (hs : Txt w v L) (h64 : AllS L) (hp : 0 < L.length) (hf : L.length ≤ 8192) :
    Calls Try.prog 19 #[.pointer (some ⟨pb, 0, none⟩)] w (SecsPost w L) := by
  have lpb := World.block_lt_of_cell? _ _ h0
  simp only [] at lpb
  obtain ⟨va, vc, rfl⟩ := hs.sl
  have HS := Lib.hid hs; clear hs
  have H64 := Lib.hid h64; clear h64
  go_enter Try.func19, Try.ntmps19
  go_wp2_with fail
  go_loopw [3, 11] (fun v i wr => CloneRel w L v i wr) (fun _ i _ => L.length - (intOf i).toNat)
  case atStart => exact ⟨0, [], Nat.zero_le _, rfl, rfl, ⟨rfl, .inl ⟨rfl, rfl⟩⟩, fun j hj => absurd hj (Nat.not_lt_zero _), Upd.refl _ _⟩
  case round =>
    obtain ⟨q, xs, hq, rfl, hxl, ho, hsec, hu⟩ := hrel
    have HO := Lib.hid ho; clear ho
    have HSEC := Lib.hid hsec; clear hsec
    have HU := Lib.hid hu; clear hu
    by_cases hlt : q < L.length
    · obtain ⟨th, tp, tc, sv, e, hc, hsv⟩ := (HS.out.old HU.out).at_ q hlt
      cases e
      have hl64 := H64.out q hlt
      obtain ⟨sa, sc, hsh⟩ := hsv.shape
      rw [hl64] at hsh
      subst hsh
      have HSV := Lib.hid (clone_b64 _ _ _ hsv hl64); clear hsv
      obtain ⟨i0, hi, hz0, hz1, hz2⟩ := info_parts info_sl
      have HI0 := Lib.hid hi; clear hi
      have HZ0 := Lib.hid hz0; clear hz0
      have HZ1 := Lib.hid hz1; clear hz1
      have HZ2 := Lib.hid hz2; clear hz2
      go_wp2_with fail
      refine HSV.out.mono ?_
      rintro e w1 ⟨nv, rfl, hnv, hfr, hu1⟩
      obtain ⟨nk, no, nc, rfl, _⟩ := hnv.shape
      have HNV := Lib.hid hnv; clear hnv
      have HU1 := Lib.hid hu1; clear hu1
      clear hfr HSV
      go_wp2_with (at_builtin; go_must (refine wpList_append_own _ rfl _ _ 22 rfl w.heap.size 32 i0 _ 1 24 Try.underlying22 HI0.out HZ0.out HZ1.out HZ2.out rfl (by decide) _ q xs rfl ?hown ⟨w1.heap.size, 0, none⟩ 1 1 [.slice (some ⟨nk, no, none⟩) 64 nc] rfl rfl ?hcell ?hone ?hlen ?hbytes ?hbase ?_))
      case hown => exact owns_upd HO.out (HU1.out.alloc _) (fun _ _ h => h)
      case hcell =>
        intro j u hu
        rw [Addr.add_lit]
        rw [World.cell?_alloc_at _ _ _ _ (by simp)]
        simpa using hu
      case hone => simp [Value.oneCell']
      case hlen => unfold maxLen; omega
      case hbytes => omega
      case hbase => have := HU.out.size; have := HU1.out.size; simp; omega
      intro v' w' hown' hg _
      have HG := Lib.hid hg; clear hg
      have HO' := Lib.hid hown'; clear hown'
      go_wp2_with fail
      go_roundw
      case rel => exact clone_step hlt hxl HO.out HSEC.out HU.out HU1.out HNV.out HO'.out HG.out
      case measure => simp [intOf]; omega
    · have hql : q = L.length := by omega
      obtain ⟨h', hs', hh'⟩ := clone_done hp hql hxl HO.out HSEC.out
      go_wp2_with fail
      go_ret
      exact ⟨_, h', rfl, hs', hh', HU.out⟩
theorem odd_byt (w : World) (a : Option Addr) (n c : Nat) (hn : n ≤ 140737488355328) : Calls Try.prog 17 #[.slice a n c] w (Same w (.bool (!decide (n = 64)))) := by
  by_cases h : n = 64
  · subst h
    go_enter Try.func17, Try.ntmps17
    go_wp2
    go_ret
    exact ⟨rfl, rfl⟩
  · rw [decide_eq_false h]
    have q1 : ((n : Int) != 64) = true := bne_iff_ne.2 (by omega)
    go_enter Try.func17, Try.ntmps17
    go_wp2
    go_ret
    exact ⟨rfl, rfl⟩
def IdxP (w : World) (L : List (List Int)) (e : Ending) (w' : World) : Prop := w = w' ∧ ((e = .returned (.int .i64 (-1)) ∧ AllS L) ∨ ∃ q : Nat, q < L.length ∧ e = .returned (.int .i64 q) ∧ (L.getD q []).length ≠ 64)
theorem index_txt (w : World) (v : Value) (L : List (List Int)) (hs : Txt w v L) (hf : L.length ≤ 140737488355328) (hl : ∀ i, i < L.length → (L.getD i []).length ≤ 140737488355328) :
    Calls Try.prog 41 #[v, .func (.func 17) #[] #[]] w (IdxP w L) := by
  obtain ⟨va, vc, rfl⟩ := hs.sl
  have HS := Lib.hid hs; clear hs
  have HL := Lib.hid hl; clear hl
  go_enter Try.func41, Try.ntmps41
  go_wp2_with fail
  go_loopw [8] (fun i wr => ∃ k : Nat, k ≤ L.length ∧ i = .int .i64 k ∧ (∀ j, j < k → (L.getD j []).length = 64) ∧ wr = w) (fun i _ => L.length - (intOf i).toNat)
  case atStart => exact ⟨0, Nat.zero_le _, rfl, fun j hj => absurd hj (Nat.not_lt_zero _), rfl⟩
  case round =>
    obtain ⟨k, hk, rfl, h64, rfl⟩ := hrel
    have H64 := Lib.hid h64; clear h64
    by_cases hlt : k < L.length
    · obtain ⟨th, tp, tc, sv, e, hc, hsv⟩ := HS.out.at_ k hlt
      cases e
      obtain ⟨sa, sc, rfl⟩ := hsv.shape
      clear hsv
      have HO := Lib.hid (odd_byt wr sa (L.getD k []).length sc (HL.out k hlt))
      have HNX : Hid ((L.getD k []).length = 64 → ∀ j, j < k + 1 → (L.getD j []).length = 64) := Lib.hid fun h j hj => by
        by_cases e : j = k
        · rw [e]; exact h
        · exact H64.out j (by omega)
      have HNE : Hid ((L.getD k []).length ≠ 64 → (L.getD k []).length ≠ 64) := Lib.hid id
      generalize hln : (L.getD k []).length = len at hc HO HNX
      have HLN := Lib.hid hln; clear hln HNE
      by_cases h : len = 64
      · rw [decide_eq_true h] at HO
        have HNY := Lib.hid (HNX.out h)
        clear HNX HLN
        subst h
        go_wp2_with (go_at_call 17; refine HO.out.mono ?_; rintro e w' ⟨rfl, rfl⟩)
        go_roundw
        case rel => exact ⟨k + 1, by omega, by go_num, HNY.out, by trivial⟩
        case measure => simp [intOf]; omega
      · rw [decide_eq_false h] at HO
        go_wp2_with (go_at_call 17; refine HO.out.mono ?_; rintro e w' ⟨rfl, rfl⟩)
        go_ret
        exact ⟨rfl, .inr ⟨k, hlt, rfl, by rw [HLN.out]; exact h⟩⟩
    · obtain rfl : k = L.length := by omega
      go_wp2_with fail
      go_ret
      exact ⟨rfl, .inl ⟨rfl, H64.out⟩⟩
open Classical in
theorem contains_txt (w : World) (v : Value) (L : List (List Int)) (hs : Txt w v L) (hf : L.length ≤ 140737488355328) (hl : ∀ i, i < L.length → (L.getD i []).length ≤ 140737488355328) :
    Calls Try.prog 18 #[v, .func (.func 17) #[] #[]] w (Same w (.bool (decide (∃ i, ∃ _ : i < L.length, (L.getD i []).length ≠ 64)))) := by
  obtain ⟨va, vc, rfl⟩ := hs.sl
  have HI := Lib.hid (index_txt w _ L hs hf hl)
  clear hs hl
  go_enter Try.func18, Try.ntmps18
  go_wp2_with fail
  refine HI.out.mono ?_
  rintro e w' ⟨rfl, ⟨rfl, h64⟩ | ⟨q, hq, rfl, hne⟩⟩
  · have HD : Hid (decide (∃ i, ∃ _ : i < L.length, (L.getD i []).length ≠ 64) = false) := Lib.hid (decide_eq_false (fun h => by obtain ⟨i, hi, hne⟩ := h; exact hne (h64 i hi)))
    clear h64
    go_wp2_with fail
    go_ret
    exact ⟨by rw [HD.out]; rfl, rfl⟩
  · have HD : Hid (decide (∃ i, ∃ _ : i < L.length, (L.getD i []).length ≠ 64) = true) := Lib.hid (decide_eq_true ⟨q, hq, hne⟩)
    clear hne
    have q1 : (0 : Int) ≤ (q : Int) := by omega
    go_wp2_with fail
    go_ret
    exact ⟨by rw [HD.out]; rfl, rfl⟩
open Classical in
theorem of_txt (w : World) (v : Value) (L : List (List Int)) (hs : Txt w v L) (h64 : AllS L) (hp : 0 < L.length) (hf : L.length ≤ 8192) :
    Calls Try.prog 6 #[v] w (MadePost w L) := by
  have hmm := @run_makeMap Try.prog
  obtain ⟨va, vc, rfl⟩ := hs.sl
  have HODD := Lib.hid (contains_txt w _ L hs (by omega) (fun i hi => by rw [h64 i hi]; omega))
  rw [decide_eq_false (fun h => by obtain ⟨i, hi, hne⟩ := h; exact hne (h64 i hi))] at HODD
  have H64 := Lib.hid h64; clear h64
  have HS := Lib.hid hs; clear hs
  go_enter Try.func6, Try.ntmps6
  go_wp2_with (first
    | (go_at_call 18; refine HODD.out.mono ?_; rintro e w' ⟨rfl, rfl⟩)
    | (go_at_call 19; refine (clone_txt _ w.heap.size (.slice va L.length vc) L (by simp [go_sem]) (HS.out.old ((Upd.refl _ _).alloc _)) H64.out hp hf).mono ?_; rintro e w1 ⟨v1, h1, rfl, hs1, hh1, hu1⟩; have hs1' := hs1; obtain ⟨vc1, _, rfl, _, _, _⟩ := hs1'))
  go_ret2
  have u : Upd (fun _ => False) w w1 := ((Upd.refl _ _).alloc _).trans hu1
  have u2 : Upd (fun _ => False) w1 ((w1.alloc (.map #[] 0)).alloc (.cells #[.slice (some ⟨h1, 0, none⟩) L.length vc1, .map (some w1.heap.size), .int .i64 L.length, .bool false] 55)) := ((Upd.refl _ _).alloc _).alloc _
  have ht := (MapKept.heap_alloc (w1.alloc (.map #[] 0)) (.cells #[.slice (some ⟨h1, 0, none⟩) L.length vc1, .map (some w1.heap.size), .int .i64 L.length, .bool false] 55)).1
  have hsz : (w1.alloc (.map #[] 0)).heap.size = w1.heap.size + 1 := by simp
  rw [hsz] at ht
  refine ⟨w1.heap.size + 1, h1, w1.heap.size, rfl, ⟨⟨_, by simp [go_sem], hs1.old u2⟩, by simp [go_sem], by simp [go_sem], by simp [go_sem], ⟨_, ht⟩,
    ⟨[], by simp [go_sem], fun i => rfl⟩, fun i l h => (by cases h), hp, hf⟩, ?_, ?_, ?_, u.trans u2⟩
  · have := u.size; omega
  · simp at hh1; omega
  · exact u.size
open Classical in
theorem of_bad (w : World) (v : Value) (L : List (List Int)) (hs : Txt w v L) (hf : L.length ≤ 140737488355328) (hl : ∀ i, i < L.length → (L.getD i []).length ≤ 140737488355328) (hbad : ¬ (0 < L.length ∧ L.length ≤ 8192 ∧ AllS L)) : Calls Try.prog 6 #[v] w (Same w (.tuple #[.pointer none, .int .i64 1])) := by
  obtain ⟨va, vc, rfl⟩ := hs.sl
  have HODD := Lib.hid (contains_txt w _ L hs hf hl)
  clear hs hl
  by_cases h1 : 0 < L.length
  · by_cases h2 : L.length ≤ 8192
    · have hb : ∃ i, ∃ _ : i < L.length, (L.getD i []).length ≠ 64 := Classical.byContradiction fun h => hbad ⟨h1, h2, fun i hi => Classical.byContradiction fun hne => h ⟨i, hi, hne⟩⟩
      rw [decide_eq_true hb] at HODD
      clear hb hbad
      go_enter Try.func6, Try.ntmps6
      go_wp2_with (go_at_call 18; refine HODD.out.mono ?_; rintro e w' ⟨rfl, rfl⟩)
      go_ret2
      exact ⟨rfl, rfl⟩
    · have q1 : ¬ (L.length : Int) ≤ 8192 := by omega
      clear hbad HODD
      go_enter Try.func6, Try.ntmps6
      go_wp2_with fail
      go_ret2
      exact ⟨rfl, rfl⟩
  · have h0 : L.length = 0 := by omega
    clear hbad HODD
    rw [h0]
    go_enter Try.func6, Try.ntmps6
    go_wp2_with fail
    go_ret2
    exact ⟨rfl, rfl⟩
theorem new_bad (n : Int) (w : World) (hn : ¬ (1 ≤ n ∧ n ≤ 8192)) : Calls Try.prog 11 #[.int .i64 n] w (Same w (.tuple #[.pointer none, .int .i64 1])) := by
  by_cases h1 : n < 1
  · go_enter Try.func11, Try.ntmps11
    go_wp2_with fail
    go_ret2
    exact ⟨rfl, rfl⟩
  · have h2 : 8192 < n := by omega
    go_enter Try.func11, Try.ntmps11
    go_wp2_with fail
    go_ret2
    exact ⟨rfl, rfl⟩
end Go.Proofs.Ytcmhcibkpmbnoaa
