/-
  Texts: clones of any texts.
-/
import Derived.Test.YtcmhcibkpmbnoaaPPlayW
set_option linter.unusedVariables false
namespace Go.Proofs.Ytcmhcibkpmbnoaa
open Go Go.RowKit Go.MapKept Go.ChangeMaps

theorem own_keep {F : Nat → Prop} {B : Nat} {w w' : World} {v : Value} {l : List Int} (h : Own B w v l) (u : Upd F w w') (hF : ∀ k, F k → NotB w k) : Own B w' v l := by
  obtain ⟨h1, h2⟩ := h
  refine ⟨h1, h2.imp id ?_⟩
  rintro ⟨k, cap, cur, hv, hk, hh, r⟩
  have hlt : k < w.heap.size := (Array.getElem?_eq_some_iff.1 hh).1
  exact ⟨k, cap, cur, hv, hk, (u.block k hlt (fun e => hF k e cur (0, 0) hh)).trans hh, r⟩
/-- q clones are there. -/
def TextsR (w : World) (L : List (List Int)) (v i : Value) (wr : World) : Prop :=
  ∃ (q : Nat) (xs : List Value), q ≤ L.length ∧ i = .int .i64 q ∧ xs.length = q ∧ wr.ownsRow w.heap.size 32 1 v q xs ∧ (∀ j, j < q → ∃ sv, xs[j]? = some sv ∧ Own w.heap.size wr sv (L.getD j [])) ∧ Upd (fun _ => False) w wr
theorem txt_done {w wr : World} {L : List (List Int)} {v : Value} {xs : List Value} (hl : xs.length = L.length) (ho : wr.ownsRow w.heap.size 32 1 v L.length xs) (hs : ∀ j, j < L.length → ∃ sv, xs[j]? = some sv ∧ Own w.heap.size wr sv (L.getD j [])) : Txt wr v L := by
  obtain ⟨_, ⟨rfl, h0⟩ | ⟨g, cap, cur, rfl, hg, hh, hn, hm, hsz, ht⟩⟩ := ho
  · exact ⟨⟨_, _, by rw [h0]⟩, fun i hi => by omega⟩
  · refine ⟨⟨_, _, rfl⟩, fun i hi => ?_⟩
    obtain ⟨sv, k1, k2⟩ := hs i hi
    refine ⟨g, 0, cap, sv, rfl, ?_, k2.byt⟩
    unfold World.cell?
    rw [hh]
    simp only [Option.isSome_none, Bool.false_eq_true, if_false, Nat.zero_add]
    have h1 : (cur.toList.take (L.length * 1))[i]? = xs[i]? := by rw [ht]
    rw [List.getElem?_take_of_lt (by omega), k1] at h1
    rw [← Array.getElem?_toList, h1]
def TextsP (w : World) (L : List (List Int)) (e : Ending) (w' : World) : Prop := ∃ v, e = .returned v ∧ Txt w' v L ∧ Upd (fun _ => False) w w'
set_option maxHeartbeats 2000000 in
theorem texts_txt (w : World) (v : Value) (L : List (List Int)) (hs : Txt w v L) (hL : L.length * 24 ≤ 140737488355328) (hl : ∀ i, i < L.length → (L.getD i []).length ≤ 140737488355328) :
    Calls Try.prog 5 #[v] w (TextsP w L) := by
  obtain ⟨va, vc, rfl⟩ := hs.sl
  have HS := Lib.hid hs; clear hs
  have HL := Lib.hid hl; clear hl
  go_enter Try.func5, Try.ntmps5
  go_wp2_with fail
  go_loopw [3, 8] (fun v i wr => TextsR w L v i wr) (fun _ i _ => L.length - (intOf i).toNat)
  case atStart => exact ⟨0, [], Nat.zero_le _, rfl, rfl, ⟨rfl, .inl ⟨rfl, rfl⟩⟩, fun j hj => absurd hj (Nat.not_lt_zero _), Upd.refl _ _⟩
  case round =>
    obtain ⟨q, xs, hq, rfl, hxl, ho, hsec, hu⟩ := hrel
    have HO := Lib.hid ho; clear ho
    have HSEC := Lib.hid hsec; clear hsec
    have HU := Lib.hid hu; clear hu
    by_cases hlt : q < L.length
    · obtain ⟨th, tp, tc, sv, e, hc, hsv⟩ := (HS.out.old HU.out).at_ q hlt
      cases e
      obtain ⟨sa, sc, rfl⟩ := hsv.shape
      have HSV := Lib.hid (clone_byts _ _ _ hsv (HL.out q hlt)); clear hsv
      obtain ⟨i0, hi, hz0, hz1, hz2⟩ := info_parts info_sl
      have HI0 := Lib.hid hi; clear hi
      have HZ0 := Lib.hid hz0; clear hz0
      have HZ1 := Lib.hid hz1; clear hz1
      have HZ2 := Lib.hid hz2; clear hz2
      have HR : Hid (∀ (wq : World) (nv : Value), Own w.heap.size wq nv (L.getD q []) → xs.length = q → ∀ j, j < q + 1 → (∀ j, j < q → ∃ sv, xs[j]? = some sv ∧ Own w.heap.size wq sv (L.getD j [])) → ∃ sv, (xs ++ [nv])[j]? = some sv ∧ Own w.heap.size wq sv (L.getD j [])) := Lib.hid fun wq nv hn hx j hj hold => by
        by_cases e : j = q
        · subst e
          exact ⟨nv, by rw [List.getElem?_append_right (by omega), hx]; simp, hn⟩
        · obtain ⟨sv, k1, k2⟩ := hold j (by omega)
          exact ⟨sv, by rw [List.getElem?_append_left (by omega)]; exact k1, k2⟩
      generalize hr : L.getD q [] = r at hc HSV HR
      have HRR := Lib.hid hr; clear hr
      go_wp2_with fail
      refine HSV.out.mono ?_
      rintro e w1 ⟨⟨nv, rfl, hnv⟩, hu1⟩
      obtain ⟨na, nc, rfl⟩ := hnv.shape
      have HNV := Lib.hid (hnv.lower (B' := w.heap.size) HU.out.size); clear hnv
      have HU1 := Lib.hid hu1; clear hu1
      clear HSV
      go_wp2_with (at_builtin; go_must (refine wpList_append_own _ rfl _ _ 22 rfl w.heap.size 32 i0 _ 1 24 Try.underlying22 HI0.out HZ0.out HZ1.out HZ2.out rfl (by decide) _ q xs rfl ?hown ⟨w1.heap.size, 0, none⟩ 1 1 [.slice na r.length nc] rfl rfl ?hcell ?hone ?hlen ?hbytes ?hbase ?_))
      case hown => exact owns_upd HO.out (HU1.out.alloc _) (fun _ _ h => h)
      case hcell =>
        intro j u hu
        rw [Addr.add_lit]
        rw [World.cell?_alloc_at _ _ _ _ (by simp)]
        simpa using hu
      case hone => simp [Value.oneCell']
      case hlen => unfold maxLen; omega
      case hbytes => omega
      case hbase => have := HU.out.size; have := HU1.out.size; simp; omega
      intro v' w' hown' hg _
      have hlto := HO.out.lt
      have hnb := owns_notB HO.out
      have u1 : Upd (fun _ => False) wr (w1.alloc (.cells #[.slice na r.length nc] 32)) := HU1.out.alloc _
      have hnb1 : ∀ k, some k = Value.ownBlock _ → NotB (w1.alloc (.cells #[.slice na r.length nc] 32)) k := owns_notB (owns_upd HO.out u1 (fun _ _ h => h))
      have u2 := Upd.of_grown hg
      have HG : Hid (Upd (fun _ => False) w w') := Lib.hid ((HU.out.trans u1).trans' u2 (fun i hi e => by have := (hlto i e.symm).1; omega))
      have HN2 := Lib.hid (own_keep (HNV.out.old ((Upd.refl _ _).alloc _)) u2 hnb1)
      have HOLD : Hid (∀ j, j < q → ∃ sv, xs[j]? = some sv ∧ Own w.heap.size w' sv (L.getD j [])) := Lib.hid fun j hj => by
        obtain ⟨sv, k1, k2⟩ := HSEC.out j hj
        exact ⟨sv, k1, own_keep (k2.old u1) u2 hnb1⟩
      have HO' := Lib.hid hown'; clear hown' hg hlto hnb hnb1 u1 u2
      go_wp2_with fail
      go_roundw
      case rel => exact ⟨q + 1, xs ++ [.slice na r.length nc], hlt, by go_num, by simp [hxl], HO'.out, fun j hj => HR.out _ _ HN2.out hxl j hj HOLD.out, HG.out⟩
      case measure => simp [intOf]; omega
    · have hql : q = L.length := by omega
      subst hql
      have HE : Hid (Txt wr _ L) := Lib.hid (txt_done hxl HO.out HSEC.out)
      obtain ⟨ea, ec, hsh⟩ := HE.out.sl
      go_wp2_with fail
      go_ret
      exact ⟨_, rfl, HE.out, HU.out⟩
end Go.Proofs.Ytcmhcibkpmbnoaa
