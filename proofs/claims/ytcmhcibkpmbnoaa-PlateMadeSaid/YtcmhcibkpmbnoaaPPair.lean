/-
  A plate of the program beside one of the document; SamePlates.
-/
import Derived.Test.YtcmhcibkpmbnoaaRPlateD
import Derived.Test.YtcmhcibkpmbnoaaPlateCopy
import Derived.Test.YtcmhcibkpmbnoaaPOf
set_option linter.unusedVariables false
namespace Go.Proofs.Ytcmhcibkpmbnoaa
open Go Go.RowKit Go.MapKept Go.ChangeMaps

/-- What is now. -/
def nowV (B : Nat → List Int) (C : Int → Option (List Int)) : Nat → List Int := fun i => (C i).getD (B i)
def nowT (C : Int → Option (List Int)) : Nat → Bool := fun i => (C i).isSome
/-- Both live, and have the same. -/
structure PairL (w : World) (b ab cm x hb hw hd N : Nat) (B : Nat → List Int) (C : Int → Option (List Int)) : Prop where
  p : PlateAt w b ab cm (rowL B N) C
  r : RAt w x hb hw hd N B (nowV B C) (nowT C)
  ne : ab ≠ hb ∧ ab ≠ hw
/-- Both failed. -/
structure PairD (w : World) (b x N : Nat) : Prop where
  p : DeadAt w b N
  r : RDead w x N
theorem viewL_row {B : Nat → List Int} {C : Int → Option (List Int)} {N : Nat} : viewL (rowL B N) C = rowL (nowV B C) N := by
  unfold viewL
  rw [rowL_length]
  unfold rowL
  refine List.map_congr_left fun i hi => ?_
  have hi' := List.mem_range.1 hi
  unfold view nowV
  congr 1
  rw [List.getD_eq_getElem?_getD, List.getElem?_map, List.getElem?_range hi']
  rfl
theorem view_row {B : Nat → List Int} {C : Int → Option (List Int)} {N i : Nat} (hi : i < N) : view (rowL B N) C i = nowV B C i := by
  unfold view nowV
  rw [rowL_get hi]
theorem rowL_cong {B B' : Nat → List Int} {N : Nat} (h : ∀ i, i < N → B i = B' i) : rowL B N = rowL B' N := List.map_congr_left fun i hi => h i (List.mem_range.1 hi)
theorem dl_nodup (T : Nat → Bool) (N : Nat) : (dl T N).Nodup ∧ (dl T N).Pairwise (fun x y => x ≤ y) := by
  induction N with
  | zero => exact ⟨List.Pairwise.nil, List.Pairwise.nil⟩
  | succ N ih =>
    unfold dl
    by_cases e : T N = true
    · rw [if_pos e]
      refine ⟨List.pairwise_append.2 ⟨ih.1, List.pairwise_singleton _ _, fun a ha b hb => ?_⟩, List.pairwise_append.2 ⟨ih.2, List.pairwise_singleton _ _, fun a ha b hb => ?_⟩⟩
      · obtain ⟨j, rfl, h1, _⟩ := (mem_dl T N a).1 ha
        rw [List.mem_singleton.1 hb]
        omega
      · obtain ⟨j, rfl, h1, _⟩ := (mem_dl T N a).1 ha
        rw [List.mem_singleton.1 hb]
        omega
    · rw [if_neg e]; exact ih
theorem dirty_is {ks : List Int} {C : Int → Option (List Int)} {N : Nat} (hm : ∀ i, i ∈ ks ↔ C i ≠ none) (hk : ∀ i l, C i = some l → 0 ≤ i ∧ i < N) (hn : ks.Nodup) (hs : ks.Pairwise (fun x y => x ≤ y)) : ks = dl (nowT C) N := by
  obtain ⟨d1, d2⟩ := dl_nodup (nowT C) N
  refine List.Perm.eq_of_pairwise (le := fun x y : Int => x ≤ y) (fun a b _ _ h1 h2 => by omega) hs d2 ((List.perm_ext_iff_of_nodup hn d1).2 fun i => ?_)
  rw [hm, mem_dl]
  constructor
  · intro h
    obtain ⟨l, hl⟩ := Option.ne_none_iff_exists'.1 h
    obtain ⟨h1, h2⟩ := hk i l hl
    exact ⟨i.toNat, by omega, by omega, by unfold nowT; rw [Int.toNat_of_nonneg h1, hl]; rfl⟩
  · rintro ⟨j, rfl, h1, h2⟩ h3
    unfold nowT at h2
    rw [h3] at h2
    cases h2
theorem equal_ints (w : World) (v v' : Value) (l : List Int) (h : Ints w v l) (h' : Ints w v' l) : Calls Try.prog 36 #[v, v'] w (Only0 w (.bool true)) := by
  have hfew := h.2
  rcases h.cells with ⟨rfl, a, c, rfl, _⟩ | ⟨b, o, c, rfl, hl, hc⟩
  · rcases h'.cells with ⟨_, a', c', rfl, _⟩ | ⟨b', o', c', rfl, _, _⟩
    · refine (Try.slices_Equal_int_empty a a' c 0 c' w (by omega)).mono ?_
      rintro e w' ⟨rfl, rfl⟩
      exact ⟨rfl, Upd.refl _ _⟩
    · refine (Try.slices_Equal_int_empty a _ c _ c' w (by simp)).mono ?_
      rintro e w' ⟨rfl, rfl⟩
      exact ⟨rfl, Upd.refl _ _⟩
  · rcases h'.cells with ⟨h0, a', c', rfl, _⟩ | ⟨b', o', c', rfl, hl', hc'⟩
    · subst h0
      refine (Try.slices_Equal_int_empty _ a' c 0 c' w (by omega)).mono ?_
      rintro e w' ⟨rfl, rfl⟩
      exact ⟨rfl, Upd.refl _ _⟩
    · refine (Try.slices_Equal_int b o l.length c b' o' l.length c' l l w (Nat.le_refl _) (Nat.le_refl _) (by omega) (by omega) hc hc').mono ?_
      rintro e w' ⟨rfl, q, rfl⟩
      exact ⟨by rw [beq_self_eq_true], (Upd.refl _ _).drewN q⟩
theorem sameTexts_N (w : World) (a a' : Option Addr) (c c' N : Nat) (L : List (List Int)) (hN : L.length = N) (hs : Txt w (.slice a N c) L) (hs' : Txt w (.slice a' N c') L) (hf : N ≤ 1099511627776) :
    Calls Try.prog 9 #[.slice a N c, .slice a' N c'] w (Only0 w (.bool true)) := sameTexts_eq w _ _ L hs hs' (by omega)
theorem Secs.txtN {w : World} {h N c : Nat} {L : List (List Int)} (H : Secs w (.slice (some ⟨h, 0, none⟩) L.length c) h L) (hN : L.length = N) : Txt w (.slice (some ⟨h, 0, none⟩) N c) L := by
  subst hN
  exact H.txt
theorem image_any (w : World) (b ab cm : Nat) (D : List (List Int)) (C : Int → Option (List Int)) (h : PlateAt w b ab cm D C) :
    Calls Try.prog 39 #[.pointer (some ⟨b, 0, none⟩)] w (SecsPost w D) := by
  obtain ⟨v, h0, hs⟩ := h.c0
  have HST := Lib.hid (state_ok w b ab cm D C h)
  have HC := Lib.hid (clone_any w b ab v D h0 hs h.pos h.few)
  go_enter Try.func39, Try.ntmps39
  go_wp2_with (first
    | (go_at_call 43; refine HST.out.mono ?_; rintro e w' ⟨rfl, rfl⟩)
    | (go_at_call 19; refine HC.out.mono ?_; rintro e w' ⟨v', h', rfl, hs', hh', hu'⟩))
  go_ret
  exact ⟨_, h', rfl, hs', hh', hu'⟩
def DirtyK (w : World) (K : List Int) (e : Ending) (w' : World) : Prop := ∃ v, e = .returned v ∧ Ints w' v K ∧ Upd (fun _ => False) w w'
section
variable {w w' : World} {b ab cm x hb hw hd N : Nat} {B : Nat → List Int} {C : Int → Option (List Int)}
theorem PairL.old (h : PairL w b ab cm x hb hw hd N B C) (u : Upd (fun _ => False) w w') : PairL w' b ab cm x hb hw hd N B C := ⟨h.p.old u, h.r.old u, h.ne⟩
theorem PairD.old (h : PairD w b x N) (u : Upd (fun _ => False) w w') : PairD w' b x N := ⟨h.p.old u, h.r.old u⟩
set_option maxRecDepth 100000 in
set_option maxHeartbeats 4000000 in
theorem same_live (h : PairL w b ab cm x hb hw hd N B C) : Calls Try.prog 15 #[.pointer (some ⟨b, 0, none⟩), .pointer (some ⟨x, 0, none⟩)] w (Only0 w (.bool true)) := by
  obtain ⟨d1, c1⟩ := h.r.c1
  have c3 := h.r.c3
  have lx := h.r.lt.1
  have hf := h.r.few
  have hpos := h.r.pos
  have p2 := h.p.c2
  rw [rowL_length] at p2
  have p3 := h.p.c3
  have lb := h.p.lt.1
  have hdl := dl_length (nowT C) N
  have hkeys := h.p.keys
  rw [rowL_length] at hkeys
  have HSEC : Hid (∀ W, Upd (fun _ => False) w W → Calls Try.prog 10 #[.pointer (some ⟨b, 0, none⟩)] W (Same W (.int .i64 N))) := Lib.hid fun W u => sectors_p W b N ((u.cell (p := ⟨b, 2, none⟩) lb (fun h => h)).trans p2)
  have HFA : Hid (∀ W, Upd (fun _ => False) w W → Calls Try.prog 35 #[.pointer (some ⟨b, 0, none⟩)] W (Same W (.bool false))) := Lib.hid fun W u => failed_p W b false ((u.cell (p := ⟨b, 3, none⟩) lb (fun h => h)).trans p3)
  have HDI : Hid (∀ W, Upd (fun _ => False) w W → Calls Try.prog 37 #[.pointer (some ⟨b, 0, none⟩)] W (DirtyK W (dl (nowT C) N))) := Lib.hid fun W u => (dirty_srt W b ab cm _ C (h.p.old u)).mono (by
    rintro e w' ⟨v, ks, rfl, h2, _, _, h5, h6, h7, h8⟩
    exact ⟨v, rfl, by rw [← dirty_is h5 hkeys h7 h8]; exact h2, h6⟩)
  have HRD : Hid (∀ W, Upd (fun _ => False) w W → Calls Try.prog 38 #[.pointer (some ⟨x, 0, none⟩)] W (DirtyK W (dl (nowT C) N))) := Lib.hid fun W u => (rdirty_any W x hb hw hd N B _ _ (h.r.old u)).mono (by
    rintro e w' ⟨v, rfl, ho, hu⟩
    exact ⟨v, rfl, ho.ints (by omega), hu⟩)
  have HIM : Hid (∀ W, Upd (fun _ => False) w W → Calls Try.prog 39 #[.pointer (some ⟨b, 0, none⟩)] W (SecsPost W (rowL B N))) := Lib.hid fun W u => image_any W b ab cm _ C (h.p.old u)
  have HRI : Hid (∀ W, Upd (fun _ => False) w W → Calls Try.prog 40 #[.pointer (some ⟨x, 0, none⟩)] W (SecsPost W (rowL B N))) := Lib.hid fun W u => rimage_any W x hb hw hd N B _ _ (h.r.old u)
  have hrl := rowL_length B N
  generalize dl (nowT C) N = K at HDI HRD hdl
  generalize rowL B N = L at HIM HRI hrl
  clear h p2 p3 hkeys
  go_enter Try.func15, Try.ntmps15
  go_wp2_with fail
  go_region_held3 (fun w' => w'.cell? ⟨x, 1, none⟩ = some (.slice (some ⟨hw, 0, none⟩) N (N + d1)) ∧ w'.cell? ⟨x, 3, none⟩ = some (.bool false))
    (first | exact ⟨c1, c3⟩ | exact ⟨(Upd.cell (F := fun _ => False) (p := ⟨x, 1, none⟩) (by repeat (first | exact Upd.refl _ _ | exact U6.out | exact U5.out | exact U4.out | exact U3.out | exact U2.out | exact U1.out | apply Upd.drew | apply Upd.drewN | apply Upd.alloc)) lx (fun h => h)).trans c1, (Upd.cell (F := fun _ => False) (p := ⟨x, 3, none⟩) (by repeat (first | exact Upd.refl _ _ | exact U6.out | exact U5.out | exact U4.out | exact U3.out | exact U2.out | exact U1.out | apply Upd.drew | apply Upd.drewN | apply Upd.alloc)) lx (fun h => h)).trans c3⟩)
    (first
      | ((go_at_call 10; (with_reducible refine (HSEC.out _ (by repeat (first | exact Upd.refl _ _ | exact U5.out | exact U4.out | exact U3.out | exact U2.out | exact U1.out | apply Upd.drew | apply Upd.drewN | apply Upd.alloc))).mono ?_); rintro e w0 ⟨rfl, rfl⟩))
      | ((go_at_call 35; (with_reducible refine (HFA.out _ (by repeat (first | exact Upd.refl _ _ | exact U5.out | exact U4.out | exact U3.out | exact U2.out | exact U1.out | apply Upd.drew | apply Upd.drewN | apply Upd.alloc))).mono ?_); rintro e w0 ⟨rfl, rfl⟩))
      | ((go_at_call 37; (with_reducible refine (HDI.out _ (by repeat (first | exact Upd.refl _ _ | exact U5.out | exact U4.out | exact U3.out | exact U2.out | exact U1.out | apply Upd.drew | apply Upd.drewN | apply Upd.alloc))).mono ?_); rintro e w1 ⟨v1, rfl, hi1, hu1⟩; obtain ⟨a1, c1', rfl⟩ := hi1.shape; have HI1 := Lib.hid hi1; have U1 : Hid (Upd (fun _ => False) w w1) := Lib.hid (Upd.trans (by repeat (first | exact Upd.refl _ _ | exact U5.out | exact U4.out | exact U3.out | exact U2.out | exact U1.out | apply Upd.drew | apply Upd.drewN | apply Upd.alloc)) hu1); clear hi1 hu1))
      | ((go_at_call 38; (with_reducible refine (HRD.out _ (by repeat (first | exact Upd.refl _ _ | exact U5.out | exact U4.out | exact U3.out | exact U2.out | exact U1.out | apply Upd.drew | apply Upd.drewN | apply Upd.alloc))).mono ?_); rintro e w2 ⟨v2, rfl, hi2, hu2⟩; obtain ⟨a2, c2', rfl⟩ := hi2.shape; have HI2 := Lib.hid hi2; have HI1' := Lib.hid (HI1.out.old (Upd.trans (by repeat (first | exact Upd.refl _ _ | apply Upd.drew)) hu2)); have U2 : Hid (Upd (fun _ => False) w w2) := Lib.hid (Upd.trans (by repeat (first | exact Upd.refl _ _ | exact U5.out | exact U4.out | exact U3.out | exact U2.out | exact U1.out | apply Upd.drew | apply Upd.drewN | apply Upd.alloc)) hu2); clear hi2 hu2))
      | ((go_at_call 36; (with_reducible refine (equal_ints _ _ _ K (HI1'.out.old (by repeat (first | exact Upd.refl _ _ | apply Upd.drew))) (HI2.out.old (by repeat (first | exact Upd.refl _ _ | apply Upd.drew)))).mono ?_); rintro e w3 ⟨rfl, hu3⟩; have U3 : Hid (Upd (fun _ => False) w w3) := Lib.hid (Upd.trans (by repeat (first | exact Upd.refl _ _ | exact U5.out | exact U4.out | exact U3.out | exact U2.out | exact U1.out | apply Upd.drew | apply Upd.drewN | apply Upd.alloc)) hu3); clear hu3))
      | ((go_at_call 39; (with_reducible refine (HIM.out _ (by repeat (first | exact Upd.refl _ _ | exact U5.out | exact U4.out | exact U3.out | exact U2.out | exact U1.out | apply Upd.drew | apply Upd.drewN | apply Upd.alloc))).mono ?_); rintro e w4 ⟨v4, h4, rfl, hs4, hh4, hu4⟩; obtain ⟨c4', _, rfl, _, _, _⟩ := id hs4; have HS4 := Lib.hid hs4; have U4 : Hid (Upd (fun _ => False) w w4) := Lib.hid (Upd.trans (by repeat (first | exact Upd.refl _ _ | exact U5.out | exact U4.out | exact U3.out | exact U2.out | exact U1.out | apply Upd.drew | apply Upd.drewN | apply Upd.alloc)) hu4); clear hs4 hh4 hu4))
      | ((go_at_call 40; (with_reducible refine (HRI.out _ (by repeat (first | exact Upd.refl _ _ | exact U5.out | exact U4.out | exact U3.out | exact U2.out | exact U1.out | apply Upd.drew | apply Upd.drewN | apply Upd.alloc))).mono ?_); rintro e w5 ⟨v5, h5, rfl, hs5, hh5, hu5⟩; obtain ⟨c5', _, rfl, _, _, _⟩ := id hs5; have HS5 := Lib.hid hs5; have HS4' := Lib.hid (HS4.out.old (Upd.trans (by repeat (first | exact Upd.refl _ _ | apply Upd.drew)) hu5)); have U5 : Hid (Upd (fun _ => False) w w5) := Lib.hid (Upd.trans (by repeat (first | exact Upd.refl _ _ | exact U5.out | exact U4.out | exact U3.out | exact U2.out | exact U1.out | apply Upd.drew | apply Upd.drewN | apply Upd.alloc)) hu5); clear hs5 hh5 hu5))
      | ((go_at_call 9; (with_reducible refine (sameTexts_N _ _ _ _ _ N L hrl ((HS4'.out.old (by repeat (first | exact Upd.refl _ _ | apply Upd.drew))).txtN hrl) ((HS5.out.old (by repeat (first | exact Upd.refl _ _ | apply Upd.drew))).txtN hrl) (by omega)).mono ?_); rintro e w6 ⟨rfl, hu6⟩; have U6 : Hid (Upd (fun _ => False) w w6) := Lib.hid (Upd.trans (by repeat (first | exact Upd.refl _ _ | exact U5.out | exact U4.out | exact U3.out | exact U2.out | exact U1.out | apply Upd.drew | apply Upd.drewN | apply Upd.alloc)) hu6); clear hu6)))
  all_goals
    go_wp2_with fail
    go_ret
    exact ⟨rfl, U6.out⟩
end
end Go.Proofs.Ytcmhcibkpmbnoaa
