/-
  Write, Sync.
-/
import Derived.Test.YtchpekecgdbphaaPlate1
import Derived.Deep.DeepCutAuto
import Derived.Deep.CutBlock
import Derived.Deep.DeepMust
import Derived.Deep.RegionWith
namespace Go.Proofs.Ytchpekecgdbphaa
open Go Go.RowKit Go.MapKept Go.ChangeMaps

/-- Behind the store into the cache. -/
def CutW (w : World) (cm : Nat) (M : List (Int × Value)) (i : Int) (l : List Int) (wc : World) : Prop :=
  ∃ sv, wc.im cm = some (aput M i sv) ∧ Sec wc sv l ∧ Upd (fun k => k = cm) w wc
def cput (C : Int → Option (List Int)) (i : Nat) (l : List Int) : Int → Option (List Int) := fun j => if j = i then some l else C j
def WritePost (w : World) (b ab cm : Nat) (D : List (List Int)) (C : Int → Option (List Int)) (i : Nat) (l : List Int) (e : Ending) (w' : World) : Prop :=
  e = .returned (.int .i64 0) ∧ PlateAt w' b ab cm D (cput C i l) ∧ Upd (fun k => k = cm) w w'
theorem plate_put {w wc : World} {b ab cm : Nat} {D : List (List Int)} {C : Int → Option (List Int)} {i : Nat} {l : List Int} {M : List (Int × Value)} (h : PlateAt w b ab cm D C) (hi : i < D.length) (hm : w.im cm = some M) (hc : CutW w cm M i l wc) : PlateAt wc b ab cm D (cput C i l) := by
  obtain ⟨sv, h1, h2, hu⟩ := hc
  obtain ⟨lb, la, lc⟩ := h.lt
  obtain ⟨v, h0, hs⟩ := h.c0
  obtain ⟨cur, ht⟩ := h.tag
  obtain ⟨M', hm', hM⟩ := h.cache
  obtain rfl : M' = M := by rw [hm] at hm'; cases hm'; rfl
  have hF : ∀ k, k = cm → NotB w k := fun k e => by rw [e]; exact im_notB (by rw [hm]; rfl)
  have hbc : b ≠ cm := fun e => by have := cell_im h.c1; simp only [] at this; rw [e, hm] at this; cases this
  have hac : ab ≠ cm := fun e => by
    obtain ⟨c, cur, _, _, hk, _⟩ := hs
    unfold World.im at hm
    rw [← e, hk] at hm; cases hm
  refine ⟨⟨v, (hu.cell (p := ⟨b, 0, none⟩) lb hbc).trans h0, hs.upd hu hac hF⟩, (hu.cell (p := ⟨b, 1, none⟩) lb hbc).trans h.c1, (hu.cell (p := ⟨b, 2, none⟩) lb hbc).trans h.c2, (hu.cell (p := ⟨b, 3, none⟩) lb hbc).trans h.c3, ⟨cur, (hu.block b lb hbc).trans ht⟩,
    ⟨_, h1, fun j => ?_⟩, fun j l' hj => ?_, h.pos, h.few⟩
  · unfold cput
    by_cases e : j = i
    · simp only [e, if_true]
      exact ⟨sv, by rw [aget_aput, if_pos rfl], h2⟩
    · simp only [e, if_false]
      have := hM j
      cases hC : C j with
      | none => rw [hC] at this; simp only []; rw [aget_aput, if_neg e]; exact this
      | some l' =>
        rw [hC] at this
        obtain ⟨sv', k1, k2⟩ := this
        exact ⟨sv', by rw [aget_aput, if_neg e]; exact k1, k2.upd hu hF⟩
  · unfold cput at hj
    by_cases e : j = i
    · omega
    · simp only [e, if_false] at hj
      exact h.keys j l' hj
theorem write_any (i : Nat) (w : World) (b ab cm : Nat) (D : List (List Int)) (C : Int → Option (List Int)) (v : Value) (l : List Int) (h : PlateAt w b ab cm D C) (hi : i < D.length) (hv : Sec w v l) :
    Calls Try.prog 25 #[.pointer (some ⟨b, 0, none⟩), .int .i64 i, v] w (WritePost w b ab cm D C i l) := by
  have pv := put_sec
  have c1 := h.c1
  have hh := has_any i w b ab cm D C h
  rw [decide_eq_true (by omega)] at hh
  obtain ⟨M, hm, _⟩ := h.cache
  obtain ⟨lb, la, lc⟩ := h.lt
  have HST := Lib.hid (state_ok w b ab cm D C h)
  have HHH := Lib.hid hh; clear hh
  have HH := Lib.hid h; clear h
  obtain ⟨k, o, c, rfl, hk⟩ := hv.shape
  have HV := Lib.hid hv; clear hv
  go_enter Try.func25, Try.ntmps25
  go_upto_region 6 with (first
    | (go_at_call 29; refine HST.out.mono ?_; rintro e w' ⟨rfl, rfl⟩)
    | (go_at_call 44; refine HHH.out.mono ?_; rintro e w' ⟨rfl, rfl⟩))
  go_cut [] (fun wc => CutW w cm M i l wc)
  case first =>
    go_region_with (go_at_call 12; refine (clone_sec _ _ l (by exact HV.out)).mono ?_; rintro e w' ⟨v', rfl, hv', hf', hu'⟩; obtain ⟨k', o', c', rfl, hk'⟩ := hv'.shape; have U3 : Upd (fun _ => False) w w' := ((Upd.refl (fun _ => False) _).drew).trans hu'; have wc1 := (U3.cell (p := ⟨b, 1, none⟩) lb (fun h => h)).trans c1; have wim := (U3.im lc (fun h => h)).trans hm; have lbw : b < w'.heap.size := (by have := U3.size; omega); have HV' := Lib.hid hv'; clear hv'; clear hf' hu'; have HU3 := Lib.hid U3; clear U3)
    all_goals
      go_wp2_with fail
      go_meet
      case rel => exact ⟨_, im_mput_same wim _, HV'.out.upd ((Upd.refl (fun k => k = cm) w').mput (Or.inl rfl) _ _) (fun k e => by rw [e]; exact im_notB (by rw [wim]; rfl)), (HU3.out.mono (G := fun k => k = cm) (fun _ _ h => h.elim)).mput (by exact Or.inl rfl) _ _⟩
  case rest =>
    have HC := Lib.hid hcut; clear hcut
    go_wp2_with fail
    go_ret
    exact ⟨rfl, plate_put HH.out hi hm HC.out, by obtain ⟨_, _, _, hu⟩ := HC.out; exact hu⟩

theorem clear_im {w : World} {b : Nat} {l : List (Int × Value)} (h : w.im b = some l) : ∃ w', (Builtin.clear_ #[55] 0 #[.map (some b)]).run Try.prog w = .ok (.tuple #[]) w' ∧ w'.im b = some [] ∧ Upd (fun k => k = b) w w' := by
  obtain ⟨es, c, hb, hs, hk, _⟩ := im_inv h
  have hlt := (Array.getElem?_eq_some_iff.1 hb).1
  refine ⟨{ w with heap := w.heap.setIfInBounds b (.map #[] c) }, ?_, ?_, ⟨rfl, rfl, rfl, by simp, fun k hk hne => ?_⟩⟩
  · simp [Builtin.clear_, run_underlying Try.underlying55, MapKept.run_getObj_map hb, MapKept.run_setObj_map _ hb, Result.andThen]
  · have := im_intro (w := { w with heap := w.heap.setIfInBounds b (.map #[] c) }) (b := b) (es := #[]) (c := c) (by simp [hlt]) (stamped_empty c) (by simp)
    simpa using this
  · have : b ≠ k := fun e => hne e.symm
    simp [this]
theorem aget_of_mem : ∀ {l : List (Int × Value)} {k : Int} {v : Value}, (l.map (·.1)).Nodup → (k, v) ∈ l → aget l k = some v
  | p :: r, k, v, hn, h => by
    obtain ⟨n1, n2⟩ := List.nodup_cons.1 hn
    rw [aget_cons]
    rcases List.mem_cons.1 h with h | h
    · subst h; rw [if_pos rfl]
    · rw [if_neg (fun e => n1 (by have h2 := List.mem_map_of_mem (f := (·.1)) h; rw [← e] at h2; exact h2))]
      exact aget_of_mem n2 h
theorem im_mem {w : World} {b : Nat} {l : List (Int × Value)} (h : w.im b = some l) {k : Int} {v : Value} (hm : (k, v) ∈ l) : aget l k = some v := by
  obtain ⟨es, c, hb, hs, hk, rfl⟩ := im_inv h
  obtain ⟨e, he, hek⟩ := List.mem_map.1 hm
  have hn : ((es.toList.map ient).map (·.1)).Nodup := by
    rw [List.map_map]
    refine List.pairwise_map.2 ((List.pairwise_map.1 hs.2.2).imp_of_mem fun {x y} hx hy hne e => hne ?_)
    rw [ient_key (hk x hx), ient_key (hk y hy)]
    exact congrArg _ e
  exact aget_of_mem hn hm
end Go.Proofs.Ytchpekecgdbphaa
