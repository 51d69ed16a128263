/-
  A turn (members as they come from a place on): its methods.
-/
import Derived.Test.YtjocoaaeboapcaaShelf
import Derived.Test.YtjocoaaeboapcaaLib2
import Derived.Test.YtjocoaaeboapcaaPlaceLaw
import Derived.RegionTactic
import Derived.ChangeAlike
import Derived.BigRegion
import Derived.BigQuiet
import Derived.Deep.QuietTactic
import Derived.Deep.RegionWith
import Derived.Deep.DeepCutAuto
import Derived.Deep.CutBlock
import Derived.Deep.DeepMust
import Derived.Deep.Upon
namespace Go.Proofs.Ytjocoaaeboapcaa
open Go Go.RowKit Go.MapKept Go.ChangeMaps Heap

def Same (w : World) (v : Value) (e : Ending) (w' : World) : Prop := e = .returned v ∧ w = w'
/-- It only reads. -/
def Quiet (w : World) (v : Value) (e : Ending) (w' : World) : Prop := e = .returned v ∧ ∃ m, w' = w.drewN m
/-- Block b is a turn of the members l, which lie in block g from o on. -/
structure TurnAt (w : World) (b g o cap : Nat) (fr : Int) (l : List Int) : Prop where
  c0 : w.cell? ⟨b, 0, none⟩ = some (.slice (some ⟨g, o, none⟩) l.length cap)
  c1 : w.cell? ⟨b, 1, none⟩ = some (.int .i64 fr)
  c2 : w.cell? ⟨b, 2, none⟩ = some (.int .i64 16)
  f0 : w.frozen? ⟨b, 0, none⟩ = false
  ne : b ≠ g
  le : l.length ≤ cap
  few : l.length ≤ 16
  cell : ∀ j, j < l.length → w.cell? ⟨g, o + j, none⟩ = some (.int .i64 (at0 l j)) ∧ w.frozen? ⟨g, o + j, none⟩ = false
  fr0 : 0 ≤ fr ∧ fr < 16
  mem : ∀ x ∈ l, 0 ≤ x ∧ x < 16
theorem TurnAt.upd {F : Nat → Prop} {w w' : World} {b g o cap : Nat} {fr : Int} {l : List Int} (h : TurnAt w b g o cap fr l) (u : Upd F w w') (hb : ¬ F b) (hg : ¬ F g) : TurnAt w' b g o cap fr l := by
  have lb := World.block_lt_of_cell? _ _ h.c0
  refine ⟨(u.cell (p := ⟨b, 0, none⟩) lb hb).trans h.c0, (u.cell (p := ⟨b, 1, none⟩) lb hb).trans h.c1, (u.cell (p := ⟨b, 2, none⟩) lb hb).trans h.c2, (u.frozen (p := ⟨b, 0, none⟩) lb hb).trans h.f0, h.ne, h.le, h.few, fun j hj => ?_, h.fr0, h.mem⟩
  obtain ⟨k1, k2⟩ := h.cell j hj
  have lg := World.block_lt_of_cell? _ _ k1
  exact ⟨(u.cell (p := ⟨g, o + j, none⟩) lg hg).trans k1, (u.frozen (p := ⟨g, o + j, none⟩) lg hg).trans k2⟩
theorem TurnAt.drewN {w : World} {b g o cap : Nat} {fr : Int} {l : List Int} (h : TurnAt w b g o cap fr l) (n : Nat) : TurnAt (w.drewN n) b g o cap fr l := ⟨h.c0, h.c1, h.c2, h.f0, h.ne, h.le, h.few, h.cell, h.fr0, h.mem⟩
theorem TurnAt.drew {w : World} {b g o cap : Nat} {fr : Int} {l : List Int} (h : TurnAt w b g o cap fr l) : TurnAt w.drew b g o cap fr l := ⟨h.c0, h.c1, h.c2, h.f0, h.ne, h.le, h.few, h.cell, h.fr0, h.mem⟩
theorem TurnAt.at {w : World} {b g o cap : Nat} {fr : Int} {l : List Int} (h : TurnAt w b g o cap fr l) {i : Nat} (hi : i < l.length) : 0 ≤ at0 l i ∧ at0 l i < 16 := h.mem _ (at0_mem hi)
theorem TurnAt.put {w w' : World} {b g o cap : Nat} {fr : Int} {l : List Int} (h : TurnAt w b g o cap fr l) (i j : Nat) (hi : i < l.length) (hj : j < l.length)
    (u : Upd (fun k => k = g) w w') (hc : ∀ k, k < l.length → w'.cell? ⟨g, o + k, none⟩ = some (.int .i64 (at0 (swp l i j) k)) ∧ w'.frozen? ⟨g, o + k, none⟩ = false) : TurnAt w' b g o cap fr (swp l i j) := by
  have lb := World.block_lt_of_cell? _ _ h.c0
  refine ⟨by rw [swp_length]; exact (u.cell (p := ⟨b, 0, none⟩) lb h.ne).trans h.c0, (u.cell (p := ⟨b, 1, none⟩) lb h.ne).trans h.c1, (u.cell (p := ⟨b, 2, none⟩) lb h.ne).trans h.c2, (u.frozen (p := ⟨b, 0, none⟩) lb h.ne).trans h.f0, h.ne, by rw [swp_length]; exact h.le, by rw [swp_length]; exact h.few, fun k hk => hc k (by rw [swp_length] at hk; exact hk), h.fr0, fun x hx => h.mem x ((swp_perm l i j hi hj).mem_iff.1 hx)⟩

theorem len_any (w : World) (b g o cap : Nat) (fr : Int) (l : List Int) (h : TurnAt w b g o cap fr l) : Calls Try.prog 65 #[.pointer (some ⟨b, 0, none⟩)] w (Same w (.int .i64 l.length)) := by
  have c0 := h.c0
  have hf := h.few
  have HH := Lib.hid h; clear h
  go_enter Try.func65, Try.ntmps65
  go_wp2
  go_ret
  exact ⟨rfl, rfl⟩
theorem rank_any (w : World) (b : Nat) (fr m : Int) (c1 : w.cell? ⟨b, 1, none⟩ = some (.int .i64 fr)) (c2 : w.cell? ⟨b, 2, none⟩ = some (.int .i64 16)) (hf0 : 0 ≤ fr) (hf1 : fr < 16) (hm0 : 0 ≤ m) (hm1 : m < 16) :
    Calls Try.prog 70 #[.pointer (some ⟨b, 0, none⟩), .int .i64 m] w (Quiet w (.int .i64 (rk fr m))) := by
  go_enter Try.func70, Try.ntmps70
  go_wp2
  go_quiet (fail)
  go_wp2
  go_ret
  exact ⟨rfl, _, rfl⟩
theorem less_any (w : World) (b g o cap : Nat) (fr : Int) (l : List Int) (h : TurnAt w b g o cap fr l) (i j : Nat) (hi : i < l.length) (hj : j < l.length) :
    Calls Try.prog 66 #[.pointer (some ⟨b, 0, none⟩), .int .i64 i, .int .i64 j] w (Quiet w (.bool (decide (rk fr (at0 l i) < rk fr (at0 l j))))) := by
  have c0 := h.c0
  have c1 := h.c1
  have c2 := h.c2
  have hf := h.few
  have hcap := h.le
  have hci := (h.cell i hi).1
  have hcj := (h.cell j hj).1
  obtain ⟨f0, f1⟩ := h.fr0
  obtain ⟨i0, i1⟩ := h.at hi
  obtain ⟨j0, j1⟩ := h.at hj
  have HH := Lib.hid h; clear h
  generalize at0 l i = x at hci i0 i1 ⊢
  generalize at0 l j = y at hcj j0 j1 ⊢
  go_enter Try.func66, Try.ntmps66
  go_wp2
  go_quiet ((go_at_call 70; exact Calls.quiet_of (rank_any _ _ _ _ (by first | exact c1 | simp [go_sem, c1]) (by first | exact c2 | simp [go_sem, c2]) (by omega) (by omega) (by omega) (by omega))))
  go_wp2
  go_ret
  exact ⟨rfl, _, rfl⟩
def SwapPost (w : World) (b g o cap : Nat) (fr : Int) (l' : List Int) (e : Ending) (w' : World) : Prop := e = .returned (.tuple #[]) ∧ TurnAt w' b g o cap fr l' ∧ Upd (fun k => k = g) w w'
theorem swap_cells {w w' : World} {g o : Nat} {l : List Int} {i j : Nat} (hi : i < l.length) (hj : j < l.length) (hc : ∀ k, k < l.length → w.cell? ⟨g, o + k, none⟩ = some (.int .i64 (at0 l k)) ∧ w.frozen? ⟨g, o + k, none⟩ = false)
    (e : ∀ a, w'.cell? a = ((w.setCell ⟨g, o + i, none⟩ (.int .i64 (at0 l j))).setCell ⟨g, o + j, none⟩ (.int .i64 (at0 l i))).cell? a) (f : ∀ a, w'.frozen? a = w.frozen? a) :
    ∀ k, k < l.length → w'.cell? ⟨g, o + k, none⟩ = some (.int .i64 (at0 (swp l i j) k)) ∧ w'.frozen? ⟨g, o + k, none⟩ = false := fun k hk => by
  rw [e, f]
  refine ⟨?_, (hc k hk).2⟩
  rw [swp_at l i j k hi hj]
  by_cases h1 : k = j
  · subst h1
    rw [if_pos rfl, cell_setCell_self]
    by_cases h2 : i = k
    · subst h2; rw [cell_setCell_self, (hc i hk).1]; rfl
    · rw [World.cell?_setCell_other _ _ _ _ (fun e => by injection e; omega), (hc k hk).1]; rfl
  · rw [if_neg h1, World.cell?_setCell_other _ _ _ _ (fun e => by injection e; omega)]
    by_cases h2 : k = i
    · subst h2; rw [if_pos rfl, cell_setCell_self, (hc k hk).1]; rfl
    · rw [if_neg h2, World.cell?_setCell_other _ _ _ _ (fun e => by injection e; omega), (hc k hk).1]
theorem swap_any (w : World) (b g o cap : Nat) (fr : Int) (l : List Int) (h : TurnAt w b g o cap fr l) (i j : Nat) (hi : i < l.length) (hj : j < l.length) :
    Calls Try.prog 69 #[.pointer (some ⟨b, 0, none⟩), .int .i64 i, .int .i64 j] w (SwapPost w b g o cap fr (swp l i j)) := by
  have c0 := h.c0
  have hf := h.few
  have hcap := h.le
  have hne := h.ne
  obtain ⟨hci, hfi⟩ := h.cell i hi
  obtain ⟨hcj, hfj⟩ := h.cell j hj
  have hx : ∀ w', Upd (fun k => k = g) w w' → (∀ a, w'.cell? a = ((w.setCell ⟨g, o + i, none⟩ (.int .i64 (at0 l j))).setCell ⟨g, o + j, none⟩ (.int .i64 (at0 l i))).cell? a) → (∀ a, w'.frozen? a = w.frozen? a) → SwapPost w b g o cap fr (swp l i j) (.returned (.tuple #[])) w' := fun w' u e f =>
    ⟨rfl, h.put i j hi hj u (swap_cells hi hj h.cell e f), u⟩
  have HX := Lib.hid hx; clear hx
  have HH := Lib.hid h; clear h
  generalize at0 l i = x at hci HX
  generalize at0 l j = y at hcj HX
  obtain ⟨v1, hs1⟩ : ∃ v, (w.setCell ⟨g, o + i, none⟩ (.int .i64 y)).cell? ⟨g, o + j, none⟩ = some v := by
    by_cases e : i = j
    · subst e; exact ⟨_, by rw [cell_setCell_self, hci]; rfl⟩
    · exact ⟨_, by rw [World.cell?_setCell_other _ _ _ _ (fun e' => by injection e'; omega), hcj]⟩
  go_enter Try.func69, Try.ntmps69
  go_wp2
  go_region
  all_goals
    go_wp2
    go_end0
    exact HX.out _ ((((Upd.refl (fun k => k = g) _).setCell (by exact Or.inl rfl) _).setCell (by exact Or.inl rfl) _).drew) (fun _ => rfl) (fun _ => by simp [go_sem])
def PopPost (w : World) (b g o cap : Nat) (fr x : Int) (l' : List Int) (e : Ending) (w' : World) : Prop := e = .returned (.iface 3 (.int .i64 x)) ∧ TurnAt w' b g o cap fr l' ∧ Upd (fun k => k = b) w w'
theorem pop_any (w : World) (b g o cap n : Nat) (fr : Int) (l : List Int) (h : TurnAt w b g o cap fr l) (hl : l.length = n + 1) :
    Calls Try.prog 67 #[.pointer (some ⟨b, 0, none⟩)] w (PopPost w b g o cap fr (at0 l n) (l.take n)) := by
  have c0 := h.c0
  have hf := h.few
  have hcap := h.le
  have f0 := h.f0
  have hcn := (h.cell n (by omega)).1
  have hx : ∀ w', Upd (fun k => k = b) w w' → w'.cell? ⟨b, 0, none⟩ = some (.slice (some ⟨g, o, none⟩) n cap) → w'.cell? ⟨b, 1, none⟩ = w.cell? ⟨b, 1, none⟩ → w'.cell? ⟨b, 2, none⟩ = w.cell? ⟨b, 2, none⟩ → w'.frozen? ⟨b, 0, none⟩ = w.frozen? ⟨b, 0, none⟩ → PopPost w b g o cap fr (at0 l n) (l.take n) (.returned (.iface 3 (.int .i64 (at0 l n)))) w' := fun w' u e0 e1 e2 e3 =>
    ⟨rfl, ⟨by rw [e0, List.length_take, hl, Nat.min_eq_left (by omega)], e1.trans h.c1, e2.trans h.c2, e3.trans h.f0, h.ne, by rw [List.length_take]; omega, by rw [List.length_take]; omega, fun j hj => by
      rw [List.length_take] at hj
      obtain ⟨k1, k2⟩ := h.cell j (by omega)
      have lg := World.block_lt_of_cell? _ _ k1
      rw [show at0 (l.take n) j = at0 l j from by unfold at0; rw [List.getD_eq_getElem?_getD, List.getD_eq_getElem?_getD, List.getElem?_take_of_lt (by omega)]]
      exact ⟨(u.cell (p := ⟨g, o + j, none⟩) lg (fun e => h.ne e.symm)).trans k1, (u.frozen (p := ⟨g, o + j, none⟩) lg (fun e => h.ne e.symm)).trans k2⟩, h.fr0, fun x hx => h.mem x (List.mem_of_mem_take hx)⟩, u⟩
  have HX := Lib.hid hx; clear hx
  have HH := Lib.hid h; clear h
  generalize at0 l n = x at hcn HX
  rw [hl] at c0
  have HL := Lib.hid hl
  have hn : n ≤ 15 := by omega
  have hc : n < cap := by omega
  clear hl hf hcap
  go_enter Try.func67, Try.ntmps67
  go_wp2
  go_region
  go_wp2
  go_region
  all_goals
    go_wp2
    go_ret
    exact HX.out _ (((Upd.refl (fun k => k = b) _).setCell (by exact Or.inl rfl) _).drew.drew) (by simp [go_sem, c0]) (by simp [go_sem]) (by simp [go_sem]) (by simp [go_sem])
theorem less_yes (w : World) (b g o cap : Nat) (fr : Int) (l : List Int) (h : TurnAt w b g o cap fr l) (x y : Int) (i j : Nat) (ei : x = i) (ej : y = j) (hi : i < l.length) (hj : j < l.length) (hlt : rk fr (at0 l i) < rk fr (at0 l j)) :
    Calls Try.prog 66 #[.pointer (some ⟨b, 0, none⟩), .int .i64 x, .int .i64 y] w (Quiet w (.bool true)) := by
  subst ei ej
  have := less_any w b g o cap fr l h i j hi hj
  rw [decide_eq_true hlt] at this
  exact this
theorem less_no (w : World) (b g o cap : Nat) (fr : Int) (l : List Int) (h : TurnAt w b g o cap fr l) (x y : Int) (i j : Nat) (ei : x = i) (ej : y = j) (hi : i < l.length) (hj : j < l.length) (hlt : rk fr (at0 l j) ≤ rk fr (at0 l i)) :
    Calls Try.prog 66 #[.pointer (some ⟨b, 0, none⟩), .int .i64 x, .int .i64 y] w (Quiet w (.bool false)) := by
  subst ei ej
  have := less_any w b g o cap fr l h i j hi hj
  rw [decide_eq_false (by omega)] at this
  exact this
theorem swap_at (w : World) (b g o cap : Nat) (fr : Int) (l : List Int) (h : TurnAt w b g o cap fr l) (x y : Int) (i j : Nat) (ei : x = i) (ej : y = j) (hi : i < l.length) (hj : j < l.length) :
    Calls Try.prog 69 #[.pointer (some ⟨b, 0, none⟩), .int .i64 x, .int .i64 y] w (SwapPost w b g o cap fr (swp l i j)) := by
  subst ei ej
  exact swap_any w b g o cap fr l h i j hi hj
/-! the methods, as an interface finds them -/
theorem m_len (w : World) (b : Nat) : (method 197 49 (.pointer (some ⟨b, 0, none⟩)) "Len").run Try.prog w = .ok (65, .pointer (some ⟨b, 0, none⟩)) w := by kernel_rfl
theorem m_less (w : World) (b : Nat) : (method 197 49 (.pointer (some ⟨b, 0, none⟩)) "Less").run Try.prog w = .ok (66, .pointer (some ⟨b, 0, none⟩)) w := by kernel_rfl
theorem m_swap (w : World) (b : Nat) : (method 197 49 (.pointer (some ⟨b, 0, none⟩)) "Swap").run Try.prog w = .ok (69, .pointer (some ⟨b, 0, none⟩)) w := by kernel_rfl
theorem m_pop (w : World) (b : Nat) : (method 197 49 (.pointer (some ⟨b, 0, none⟩)) "Pop").run Try.prog w = .ok (67, .pointer (some ⟨b, 0, none⟩)) w := by kernel_rfl
def pv (b : Nat) : Value := .iface 49 (.pointer (some ⟨b, 0, none⟩))
structure DownPost (w : World) (b g o cap : Nat) (fr : Int) (l : List Int) (i0 n : Nat) (e : Ending) (w' : World) : Prop where
  e : ∃ r, e = .returned (.bool r)
  t : ∃ l', TurnAt w' b g o cap fr l' ∧ l'.Perm l ∧ (∀ k, n ≤ k → at0 l' k = at0 l k) ∧ From (rk fr) l' i0 n
  u : Upd (fun k => k = g) w w'
def DownI (w : World) (b g o cap : Nat) (fr : Int) (l : List Int) (i0 n k : Nat) (wr : World) : Prop := ∃ lk, Sift (rk fr) l lk i0 n k ∧ TurnAt wr b g o cap fr lk ∧ Upd (fun k => k = g) w wr
set_option maxHeartbeats 2000000 in
theorem down_any (w : World) (b g o cap : Nat) (fr : Int) (l : List Int) (i0 n : Nat) (h : TurnAt w b g o cap fr l) (hn : n ≤ l.length) (hi : i0 ≤ 16) (hF : From (rk fr) l (i0 + 1) n) :
    Calls Try.prog 26 #[.iface 49 (.pointer (some ⟨b, 0, none⟩)), .int .i64 i0, .int .i64 n] w (DownPost w b g o cap fr l i0 n) := by
  have mless := m_less
  have mswap := m_swap
  have hst : DownI w b g o cap fr l i0 n i0 w := ⟨l, Sift.start hF hn, h, Upd.refl _ _⟩
  have hf := h.few
  have HST := Lib.hid hst; clear hst
  have HF := Lib.hid hF; clear hF
  have HH := Lib.hid h; clear h
  go_enter Try.func26, Try.ntmps26
  go_wp2_with fail
  go_loopw [7] (fun i wr => ∃ k : Nat, i = .int .i64 k ∧ k ≤ 16 ∧ DownI w b g o cap fr l i0 n k wr) (fun i _ => n - (intOf i).toNat)
  case atStart => exact ⟨i0, rfl, hi, HST.out⟩
  case round =>
    obtain ⟨k, rfl, hk, lk, hs, ht, hu⟩ := hrel
    have hlen : lk.length = l.length := hs.perm.length_eq
    have hge := hs.ge
    have HS := Lib.hid hs; clear hs
    have HT := Lib.hid ht; clear ht
    have HU := Lib.hid hu; clear hu
    have HLEN := Lib.hid hlen; clear hlen
    by_cases c1 : 2 * k + 1 < n
    · by_cases c2 : 2 * k + 2 < n
      · by_cases d1 : rk fr (at0 lk (2 * k + 2)) < rk fr (at0 lk (2 * k + 1))
        · have D1 := Lib.hid d1; clear d1
          have MN := Lib.hid (min_right (n := n) D1.out)
          by_cases d2 : rk fr (at0 lk (2 * k + 2)) < rk fr (at0 lk k)
          · have D2 := Lib.hid d2; clear d2
            go_wp2_with fail
            refine (less_yes _ b g o cap fr lk HT.out _ _ (2 * k + 2) (2 * k + 1) (by omega) (by omega) (by rw [HLEN.out]; omega) (by rw [HLEN.out]; omega) D1.out).mono ?_
            rintro e w' ⟨rfl, m1, rfl⟩
            go_wp2_with fail
            refine (less_yes _ b g o cap fr lk (HT.out.drewN m1) _ _ (2 * k + 2) k (by omega) (by omega) (by rw [HLEN.out]; omega) (by rw [HLEN.out]; omega) D2.out).mono ?_
            rintro e w' ⟨rfl, m2, rfl⟩
            go_wp2_with fail
            refine (swap_at _ b g o cap fr lk (HT.out.drewN _) _ _ k (2 * k + 2) (by omega) (by omega) (by rw [HLEN.out]; omega) (by rw [HLEN.out]; omega)).mono ?_
            rintro e w' ⟨rfl, ht', hu'⟩
            have HT' := Lib.hid ht'; clear ht'
            have HU' := Lib.hid hu'; clear hu'
            go_wp2_with fail
            go_roundw
            case rel => exact ⟨2 * k + 2, by go_num, by omega, _, HS.out.step (by omega) (by omega) (by omega) D2.out MN.out, HT'.out, (HU.out.drewN _).trans HU'.out⟩
            case measure => simp [intOf]; omega
          · have D2 := Lib.hid (Int.not_lt.1 d2); clear d2
            go_wp2_with fail
            refine (less_yes _ b g o cap fr lk HT.out _ _ (2 * k + 2) (2 * k + 1) (by omega) (by omega) (by rw [HLEN.out]; omega) (by rw [HLEN.out]; omega) D1.out).mono ?_
            rintro e w' ⟨rfl, m1, rfl⟩
            go_wp2_with fail
            refine (less_no _ b g o cap fr lk (HT.out.drewN m1) _ _ (2 * k + 2) k (by omega) (by omega) (by rw [HLEN.out]; omega) (by rw [HLEN.out]; omega) D2.out).mono ?_
            rintro e w' ⟨rfl, m2, rfl⟩
            go_wp2_with fail
            go_ret
            exact ⟨⟨_, rfl⟩, ⟨lk, HT.out.drewN _, HS.out.perm, HS.out.past, HS.out.done (min_done D2.out MN.out)⟩, HU.out.drewN _⟩
        · have D1 := Lib.hid (Int.not_lt.1 d1); clear d1
          have MN := Lib.hid (min_left (n := n) D1.out)
          by_cases d2 : rk fr (at0 lk (2 * k + 1)) < rk fr (at0 lk k)
          · have D2 := Lib.hid d2; clear d2
            go_wp2_with fail
            refine (less_no _ b g o cap fr lk HT.out _ _ (2 * k + 2) (2 * k + 1) (by omega) (by omega) (by rw [HLEN.out]; omega) (by rw [HLEN.out]; omega) D1.out).mono ?_
            rintro e w' ⟨rfl, m1, rfl⟩
            go_wp2_with fail
            refine (less_yes _ b g o cap fr lk (HT.out.drewN m1) _ _ (2 * k + 1) k (by omega) (by omega) (by rw [HLEN.out]; omega) (by rw [HLEN.out]; omega) D2.out).mono ?_
            rintro e w' ⟨rfl, m2, rfl⟩
            go_wp2_with fail
            refine (swap_at _ b g o cap fr lk (HT.out.drewN _) _ _ k (2 * k + 1) (by omega) (by omega) (by rw [HLEN.out]; omega) (by rw [HLEN.out]; omega)).mono ?_
            rintro e w' ⟨rfl, ht', hu'⟩
            have HT' := Lib.hid ht'; clear ht'
            have HU' := Lib.hid hu'; clear hu'
            go_wp2_with fail
            go_roundw
            case rel => exact ⟨2 * k + 1, by go_num, by omega, _, HS.out.step (by omega) (by omega) (by omega) D2.out MN.out, HT'.out, (HU.out.drewN _).trans HU'.out⟩
            case measure => simp [intOf]; omega
          · have D2 := Lib.hid (Int.not_lt.1 d2); clear d2
            go_wp2_with fail
            refine (less_no _ b g o cap fr lk HT.out _ _ (2 * k + 2) (2 * k + 1) (by omega) (by omega) (by rw [HLEN.out]; omega) (by rw [HLEN.out]; omega) D1.out).mono ?_
            rintro e w' ⟨rfl, m1, rfl⟩
            go_wp2_with fail
            refine (less_no _ b g o cap fr lk (HT.out.drewN m1) _ _ (2 * k + 1) k (by omega) (by omega) (by rw [HLEN.out]; omega) (by rw [HLEN.out]; omega) D2.out).mono ?_
            rintro e w' ⟨rfl, m2, rfl⟩
            go_wp2_with fail
            go_ret
            exact ⟨⟨_, rfl⟩, ⟨lk, HT.out.drewN _, HS.out.perm, HS.out.past, HS.out.done (min_done D2.out MN.out)⟩, HU.out.drewN _⟩
      · have MN := Lib.hid (min_one (rk := rk fr) (l := lk) c2)
        by_cases d2 : rk fr (at0 lk (2 * k + 1)) < rk fr (at0 lk k)
        · have D2 := Lib.hid d2; clear d2
          go_wp2_with fail
          refine (less_yes _ b g o cap fr lk (HT.out) _ _ (2 * k + 1) k (by omega) (by omega) (by rw [HLEN.out]; omega) (by rw [HLEN.out]; omega) D2.out).mono ?_
          rintro e w' ⟨rfl, m2, rfl⟩
          go_wp2_with fail
          refine (swap_at _ b g o cap fr lk (HT.out.drewN _) _ _ k (2 * k + 1) (by omega) (by omega) (by rw [HLEN.out]; omega) (by rw [HLEN.out]; omega)).mono ?_
          rintro e w' ⟨rfl, ht', hu'⟩
          have HT' := Lib.hid ht'; clear ht'
          have HU' := Lib.hid hu'; clear hu'
          go_wp2_with fail
          go_roundw
          case rel => exact ⟨2 * k + 1, by go_num, by omega, _, HS.out.step (by omega) (by omega) (by omega) D2.out MN.out, HT'.out, (HU.out.drewN _).trans HU'.out⟩
          case measure => simp [intOf]; omega
        · have D2 := Lib.hid (Int.not_lt.1 d2); clear d2
          go_wp2_with fail
          refine (less_no _ b g o cap fr lk (HT.out) _ _ (2 * k + 1) k (by omega) (by omega) (by rw [HLEN.out]; omega) (by rw [HLEN.out]; omega) D2.out).mono ?_
          rintro e w' ⟨rfl, m2, rfl⟩
          go_wp2_with fail
          go_ret
          exact ⟨⟨_, rfl⟩, ⟨lk, HT.out.drewN _, HS.out.perm, HS.out.past, HS.out.done (min_done D2.out MN.out)⟩, HU.out.drewN _⟩
    · go_wp2_with fail
      go_ret
      exact ⟨⟨_, rfl⟩, ⟨lk, HT.out, HS.out.perm, HS.out.past, HS.out.done (fun c h1 h2 h3 => by omega)⟩, HU.out⟩
end Go.Proofs.Ytjocoaaeboapcaa
