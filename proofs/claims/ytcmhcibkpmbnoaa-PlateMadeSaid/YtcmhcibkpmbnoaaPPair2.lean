/-
  SamePlates of two that failed; what each call makes of a pair.
-/
import Derived.Test.YtcmhcibkpmbnoaaPPair
set_option linter.unusedVariables false
namespace Go.Proofs.Ytcmhcibkpmbnoaa
open Go Go.RowKit Go.MapKept Go.ChangeMaps

theorem equal_nils (w : World) : Calls Try.prog 36 #[.slice none 0 0, .slice none 0 0] w (Same w (.bool true)) := by
  refine (Try.slices_Equal_int_empty none none 0 0 0 w (by omega)).mono ?_
  rintro e w' ⟨rfl, rfl⟩
  exact ⟨rfl, rfl⟩
theorem txt_nil (w : World) : Txt w (.slice none 0 0) [] := ⟨⟨_, _, rfl⟩, fun i hi => absurd hi (Nat.not_lt_zero _)⟩
set_option maxRecDepth 100000 in
set_option maxHeartbeats 4000000 in
theorem same_dead {w : World} {b x N : Nat} (h : PairD w b x N) : Calls Try.prog 15 #[.pointer (some ⟨b, 0, none⟩), .pointer (some ⟨x, 0, none⟩)] w (Only0 w (.bool true)) := by
  obtain ⟨hw, d1, cur, c1, _, _⟩ := h.r.c1
  have c3 := h.r.c3
  have lx := tag_lt h.r.tag
  have HD := Lib.hid h.p
  have HR := Lib.hid h.r
  clear h
  go_enter Try.func15, Try.ntmps15
  go_wp2_with fail
  go_region_held3 (fun w' => w'.cell? ⟨x, 1, none⟩ = some (.slice (some ⟨hw, 0, none⟩) N (N + d1)) ∧ w'.cell? ⟨x, 3, none⟩ = some (.bool true))
    (first | exact ⟨c1, c3⟩ | exact ⟨(Upd.cell (F := fun _ => False) (p := ⟨x, 1, none⟩) (by repeat (first | exact Upd.refl _ _ | exact U6.out | apply Upd.drew)) lx (fun h => h)).trans c1, (Upd.cell (F := fun _ => False) (p := ⟨x, 3, none⟩) (by repeat (first | exact Upd.refl _ _ | exact U6.out | apply Upd.drew)) lx (fun h => h)).trans c3⟩)
    (first
      | ((go_at_call 10; (with_reducible refine (sectors_p _ b N (HD.out.old (by repeat (first | exact Upd.refl _ _ | apply Upd.drew))).c2).mono ?_); rintro e w0 ⟨rfl, rfl⟩))
      | ((go_at_call 35; (with_reducible refine (failed_p _ b true (HD.out.old (by repeat (first | exact Upd.refl _ _ | apply Upd.drew))).c3).mono ?_); rintro e w0 ⟨rfl, rfl⟩))
      | ((go_at_call 37; (with_reducible refine (dirty_st _ _ 60 (Or.inr rfl) (HD.out.old (by repeat (first | exact Upd.refl _ _ | apply Upd.drew))).st).mono ?_); rintro e w0 ⟨rfl, rfl⟩))
      | ((go_at_call 38; (with_reducible refine (rdirty_dead (HR.out.old (by repeat (first | exact Upd.refl _ _ | apply Upd.drew)))).mono ?_); rintro e w0 ⟨rfl, rfl⟩))
      | ((go_at_call 36; (with_reducible refine (equal_nils _).mono ?_); rintro e w0 ⟨rfl, rfl⟩))
      | ((go_at_call 39; (with_reducible refine (image_st _ _ 60 (Or.inr rfl) (HD.out.old (by repeat (first | exact Upd.refl _ _ | apply Upd.drew))).st).mono ?_); rintro e w0 ⟨rfl, rfl⟩))
      | ((go_at_call 40; (with_reducible refine (rimage_dead (HR.out.old (by repeat (first | exact Upd.refl _ _ | apply Upd.drew)))).mono ?_); rintro e w0 ⟨rfl, rfl⟩))
      | ((go_at_call 9; (with_reducible refine (sameTexts_eq _ _ _ [] (txt_nil _) (txt_nil _) (by simp)).mono ?_); rintro e w6 ⟨rfl, hu6⟩; have U6 : Hid (Upd (fun _ => False) w w6) := Lib.hid (Upd.trans (by repeat (first | exact Upd.refl _ _ | apply Upd.drew)) hu6); clear hu6)))
  all_goals
    go_wp2_with fail
    go_ret
    exact ⟨rfl, U6.out⟩
/-- A pair, living or not; its blocks satisfy G. -/
inductive PairAt (G : Nat → Prop) (w : World) (b x N : Nat) : Prop
  | live (ab cm hb hw hd : Nat) (B : Nat → List Int) (C : Int → Option (List Int)) (h : PairL w b ab cm x hb hw hd N B C) (g : G b ∧ G ab ∧ G cm ∧ G x ∧ G hb ∧ G hw ∧ G hd) : PairAt G w b x N
  | dead (h : PairD w b x N) (g : G b ∧ G x) (gm : ∀ m, w.cell? ⟨b, 1, none⟩ = some (.map (some m)) → G m) (gr : ∀ m, w.cell? ⟨x, 1, none⟩ = some m → ∀ k o n c, m = .slice (some ⟨k, o, none⟩) n c → G k) : PairAt G w b x N
theorem PairAt.mono {G G' : Nat → Prop} {w : World} {b x N : Nat} (h : PairAt G w b x N) (hG : ∀ k, G k → G' k) : PairAt G' w b x N := by
  cases h with
  | live ab cm hb hw hd B C h g =>
    obtain ⟨g1, g2, g3, g4, g5, g6, g7⟩ := g
    exact .live ab cm hb hw hd B C h ⟨hG _ g1, hG _ g2, hG _ g3, hG _ g4, hG _ g5, hG _ g6, hG _ g7⟩
  | dead h g gm gr => exact .dead h ⟨hG _ g.1, hG _ g.2⟩ (fun m e => hG _ (gm m e)) (fun m e k o n c e2 => hG _ (gr m e k o n c e2))
theorem PairL.upd {F : Nat → Prop} {w w' : World} {b ab cm x hb hw hd N : Nat} {B : Nat → List Int} {C : Int → Option (List Int)} (h : PairL w b ab cm x hb hw hd N B C) (u : Upd F w w') (hF : ∀ k, k = b ∨ k = ab ∨ k = cm ∨ k = x ∨ k = hb ∨ k = hw ∨ k = hd → ¬ F k) (hB : ∀ k, F k → NotB w k) : PairL w' b ab cm x hb hw hd N B C :=
  ⟨h.p.upd u (hF b (by simp)) (hF ab (by simp)) (hF cm (by simp)) hB, h.r.upd u (hF x (by simp)) (hF hb (by simp)) (hF hw (by simp)) (hF hd (by simp)) hB, h.ne⟩
theorem PairAt.old {G : Nat → Prop} {w w' : World} {b x N : Nat} (h : PairAt G w b x N) (u : Upd (fun _ => False) w w') : PairAt G w' b x N := by
  cases h with
  | live ab cm hb hw hd B C h g => exact .live ab cm hb hw hd B C (h.old u) g
  | dead h g gm gr => exact .dead (h.old u) g (fun m e => gm m ((u.cell (p := ⟨b, 1, none⟩) h.p.lt (fun h => h)).symm.trans e)) (fun m e => gr m ((u.cell (p := ⟨x, 1, none⟩) (tag_lt h.r.tag) (fun h => h)).symm.trans e))
/-- What others do leaves a pair. -/
theorem PairAt.upd {F G : Nat → Prop} {w w' : World} {b x N : Nat} (h : PairAt G w b x N) (u : Upd F w w') (hF : ∀ k, G k → ¬ F k) (hB : ∀ k, F k → NotB w k) : PairAt G w' b x N := by
  cases h with
  | live ab cm hb hw hd B C h g =>
    obtain ⟨g1, g2, g3, g4, g5, g6, g7⟩ := g
    exact .live ab cm hb hw hd B C (h.upd u (fun k e => by rcases e with rfl | rfl | rfl | rfl | rfl | rfl | rfl <;> exact hF _ (by assumption)) hB) ⟨g1, g2, g3, g4, g5, g6, g7⟩
  | dead h g gm gr =>
    have lx := tag_lt h.r.tag
    obtain ⟨hw, d1, cur, c1, k2, k3⟩ := h.r.c1
    have gw := gr _ c1 hw 0 _ _ rfl
    have lw := (Array.getElem?_eq_some_iff.1 k2).1
    have nx := hF _ g.2
    have cx : ∀ o, w'.cell? ⟨x, o, none⟩ = w.cell? ⟨x, o, none⟩ := fun o => u.cell (p := ⟨x, o, none⟩) lx nx
    obtain ⟨a2, e2, j2⟩ := h.r.c2
    have cb : ∀ o, w'.cell? ⟨b, o, none⟩ = w.cell? ⟨b, o, none⟩ := fun o => u.cell (p := ⟨b, o, none⟩) h.p.lt (hF _ g.1)
    refine .dead ⟨h.p.upd u (hF _ g.1) (fun m e => hF _ (gm m e)), ⟨(cx 0).trans h.r.c0, ⟨hw, d1, cur, (cx 1).trans c1, (u.block hw lw (hF _ gw)).trans k2, fun i hi => ?_⟩, ⟨a2, e2, (cx 2).trans j2⟩, (cx 3).trans h.r.c3, tag_upd h.r.tag u nx, h.r.pos, h.r.few⟩⟩ g (fun m e => gm m ((cb 1).symm.trans e)) (fun m e => gr m ((cx 1).symm.trans e))
    obtain ⟨a, d, k4⟩ := k3 i hi
    exact ⟨a, d, (u.cell (p := ⟨hw, i, none⟩) lw (hF _ gw)).trans k4⟩
theorem same_any {G : Nat → Prop} {w : World} {b x N : Nat} (h : PairAt G w b x N) : Calls Try.prog 15 #[.pointer (some ⟨b, 0, none⟩), .pointer (some ⟨x, 0, none⟩)] w (Only0 w (.bool true)) := by
  cases h with
  | live ab cm hb hw hd B C h g => exact same_live h
  | dead h g gm gr => exact same_dead h
end Go.Proofs.Ytcmhcibkpmbnoaa
