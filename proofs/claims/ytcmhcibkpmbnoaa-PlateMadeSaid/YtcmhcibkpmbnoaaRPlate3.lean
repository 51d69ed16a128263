/-
  The reference's plate: Write.
-/
import Derived.Test.YtcmhcibkpmbnoaaRPlate2
set_option linter.unusedVariables false
namespace Go.Proofs.Ytcmhcibkpmbnoaa
open Go Go.RowKit Go.MapKept Go.ChangeMaps

/-- No sector of a row lies in block g. -/
def Off (w : World) (h N g : Nat) : Prop := ∀ i, i < N → ∀ k o n c, w.cell? ⟨h, i, none⟩ = some (.slice (some ⟨k, o, none⟩) n c) → k ≠ g
theorem Off.upd {F : Nat → Prop} {w w' : World} {h N g : Nat} (k : Off w h N g) (u : Upd F w w') (hh : h < w.heap.size) (hF : ¬ F h) : Off w' h N g := fun i hi a o n c e => k i hi a o n c ((u.cell (p := ⟨h, i, none⟩) hh hF).symm.trans e)
theorem Off.put {w : World} {h N g i : Nat} {v : Value} (k : Off w h N g) (hs : (w.cell? ⟨h, i, none⟩).isSome = true) (hv : ∀ a o n c, v = .slice (some ⟨a, o, none⟩) n c → a ≠ g) : Off (w.setCell ⟨h, i, none⟩ v) h N g := fun j hj a o n c e => by
  by_cases e' : j = i
  · subst e'
    rw [World.cell?_setCell_same' _ _ _ hs] at e
    cases e
    exact hv a o n c rfl
  · rw [World.cell?_setCell_other _ _ _ _ (fun e2 => by simp only [Addr.mk.injEq] at e2; omega)] at e
    exact k j hj a o n c e
section
variable {w w' : World} {x hb hw hd N : Nat} {B V : Nat → List Int} {T : Nat → Bool}
theorem RAt.off (h : RAt w x hb hw hd N B V T) {g : Nat} (hg : w.heap.size ≤ g) : Off w hb N g ∧ Off w hw N g := by
  refine ⟨fun i hi k o n c e => ?_, fun i hi k o n c e => ?_⟩
  · obtain ⟨sv, k1, k2⟩ := h.sb i hi
    rw [k1] at e; cases e
    obtain ⟨_, _, _, _, e2, _, hk, _⟩ := k2
    cases e2
    have := (Array.getElem?_eq_some_iff.1 hk).1
    omega
  · obtain ⟨sv, k1, k2⟩ := h.sw i hi
    rw [k1] at e; cases e
    obtain ⟨_, _, _, _, e2, _, hk, _⟩ := k2
    cases e2
    have := (Array.getElem?_eq_some_iff.1 hk).1
    omega
theorem sec_spoil {w w' : World} {sv : Value} {l : List Int} {g : Nat} (h : Sec w sv l) (u : Upd (fun k => k = g) w w') (hg : ∀ k o n c, sv = .slice (some ⟨k, o, none⟩) n c → k ≠ g) : Sec w' sv l := by
  obtain ⟨k, o, c, cur, hv, hl, hk, hc⟩ := h
  have hlt := (Array.getElem?_eq_some_iff.1 hk).1
  have hne := hg k o _ _ hv
  exact ⟨k, o, c, cur, hv, hl, (u.block k hlt hne).trans hk, fun j hj => (u.cell (p := ⟨k, o + j, none⟩) hlt hne).trans (hc j hj)⟩
theorem RAt.spoil (h : RAt w x hb hw hd N B V T) {g : Nat} (o1 : Off w hb N g) (o2 : Off w hw N g) (u : Upd (fun k => k = g) w w') (n0 : x ≠ g) (n1 : hb ≠ g) (n2 : hw ≠ g) (n3 : hd ≠ g) : RAt w' x hb hw hd N B V T := by
  obtain ⟨l0, l1, l2, l3⟩ := h.lt
  obtain ⟨d0, c0⟩ := h.c0
  obtain ⟨d1, c1⟩ := h.c1
  obtain ⟨d2, c2⟩ := h.c2
  refine ⟨tag_upd h.tag u n0, ⟨d0, (u.cell (p := ⟨x, 0, none⟩) l0 n0).trans c0⟩, ⟨d1, (u.cell (p := ⟨x, 1, none⟩) l0 n0).trans c1⟩, ⟨d2, (u.cell (p := ⟨x, 2, none⟩) l0 n0).trans c2⟩, (u.cell (p := ⟨x, 3, none⟩) l0 n0).trans h.c3,
    tag_upd h.tb u n1, tag_upd h.tw u n2, tag_upd h.td u n3, fun i hi => ?_, fun i hi => ?_, fun i hi => (u.cell (p := ⟨hd, i, none⟩) l3 n3).trans (h.sd i hi), h.ne, h.pos, h.few⟩
  · obtain ⟨sv, k1, k2⟩ := h.sb i hi
    exact ⟨sv, (u.cell (p := ⟨hb, i, none⟩) l1 n1).trans k1, sec_spoil k2 u (fun k o n c e => o1 i hi k o n c (by rw [k1, e]))⟩
  · obtain ⟨sv, k1, k2⟩ := h.sw i hi
    exact ⟨sv, (u.cell (p := ⟨hw, i, none⟩) l2 n2).trans k1, sec_spoil k2 u (fun k o n c e => o2 i hi k o n c (by rw [k1, e]))⟩
end
theorem RAt.wcell {w : World} {x hb hw hd N : Nat} {B V : Nat → List Int} {T : Nat → Bool} (h : RAt w x hb hw hd N B V T) {i : Nat} (hi : i < N) : ∃ u, w.cell? ⟨hw, i, none⟩ = some u := by
  obtain ⟨sv, k, _⟩ := h.sw i hi
  exact ⟨sv, k⟩
theorem RAt.bcell {w : World} {x hb hw hd N : Nat} {B V : Nat → List Int} {T : Nat → Bool} (h : RAt w x hb hw hd N B V T) {i : Nat} (hi : i < N) : ∃ u, w.cell? ⟨hb, i, none⟩ = some u := by
  obtain ⟨sv, k, _⟩ := h.sb i hi
  exact ⟨sv, k⟩
def RWriteP (w : World) (x hb hw hd N : Nat) (B V : Nat → List Int) (T : Nat → Bool) (i : Nat) (l : List Int) (e : Ending) (w' : World) : Prop :=
  e = .returned (.int .i64 0) ∧ RAt w' x hb hw hd N B (fset V i l) (fset T i true) ∧ Upd (fun k => k = hw ∨ k = hd) w w' ∧ ∀ g, g < w.heap.size → Off w hw N g → Off w' hw N g
/-- Behind the two stores of a write. -/
structure CutRW (w : World) (x hb hw hd N : Nat) (B V : Nat → List Int) (T : Nat → Bool) (i : Nat) (l : List Int) (t : Bool) (w' : World) : Prop where
  r : RAt w' x hb hw hd N B (fset V i l) (fset T i t)
  up : Upd (fun k => k = hw ∨ k = hd) w w'
  off : ∀ g, g < w.heap.size → Off w hw N g → Off w' hw N g
theorem cutRW {w w1 : World} {x hb hw hd N : Nat} {B V : Nat → List Int} {T : Nat → Bool} {i : Nat} {l : List Int} {sv : Value} (t : Bool) (h : RAt w1 x hb hw hd N B V T) (u : Upd (fun _ => False) w w1) (hi : i < N) (hs : Sec w1 sv l) (hf : Fresh w.heap.size sv) (hlw : hw < w.heap.size) :
    CutRW w x hb hw hd N B V T i l t ((w1.setCell ⟨hw, i, none⟩ sv).setCell ⟨hd, i, none⟩ (.bool t)) ∧ CutRW w x hb hw hd N B V T i l t ((w1.setCell ⟨hd, i, none⟩ (.bool t)).setCell ⟨hw, i, none⟩ sv) := by
  obtain ⟨a1, a2, a3, a4, a5⟩ := h.apart
  have hn := h.notB hd (by simp)
  have ho : ∀ g, g < w.heap.size → ∀ a o n c, sv = .slice (some ⟨a, o, none⟩) n c → a ≠ g := fun g hg a o n c e => by have := hf a o n c e; omega
  have hss : (w1.cell? ⟨hw, i, none⟩).isSome = true := by
    obtain ⟨sv', k1, _⟩ := h.sw i hi
    rw [k1]; rfl
  have u0 : Upd (fun k => k = hw ∨ k = hd) w w1 := u.mono (fun _ _ h => h.elim)
  have l3 := h.lt.2.2.2
  refine ⟨⟨(h.setW hi hs).setD hi, (u0.setCell (p := ⟨hw, i, none⟩) (Or.inl (Or.inl rfl)) _).setCell (p := ⟨hd, i, none⟩) (Or.inl (Or.inr rfl)) _, fun g hg k => ?_⟩, ⟨(h.setD hi).setW hi (sec_put hs hn), (u0.setCell (p := ⟨hd, i, none⟩) (Or.inl (Or.inr rfl)) _).setCell (p := ⟨hw, i, none⟩) (Or.inl (Or.inl rfl)) _, fun g hg k => ?_⟩⟩
  · have h1 := (k.upd u hlw (fun h => h)).put hss (ho g hg)
    exact h1.upd ((Upd.refl (fun j => j = hd) _).setCell (p := ⟨hd, i, none⟩) (Or.inl rfl) _) (by simpa using h.lt.2.2.1) a5
  · have h1 := (k.upd u hlw (fun h => h)).upd ((Upd.refl (fun j => j = hd) w1).setCell (p := ⟨hd, i, none⟩) (Or.inl rfl) (.bool t)) h.lt.2.2.1 a5
    refine h1.put ?_ (ho g hg)
    rw [World.cell?_setCell_other _ _ _ _ (fun e2 => by simp only [Addr.mk.injEq] at e2; omega)]
    exact hss
set_option maxRecDepth 100000 in
set_option maxHeartbeats 4000000 in
theorem rwrite_ok (i : Nat) (w : World) (x hb hw hd N : Nat) (B V : Nat → List Int) (T : Nat → Bool) (v : Value) (l : List Int) (h : RAt w x hb hw hd N B V T) (hi : i < N) (hv : BytV w v l) (hl : l.length = 64) :
    Calls Try.prog 22 #[.pointer (some ⟨x, 0, none⟩), .int .i64 i, v] w (RWriteP w x hb hw hd N B V T i l) := by
  have ht := rthere i w x hb hw hd N B V T h
  rw [decide_eq_true (by omega)] at ht
  have HT := Lib.hid ht; clear ht
  have c3 := h.c3
  obtain ⟨d1, c1⟩ := h.c1
  obtain ⟨d2, c2⟩ := h.c2
  obtain ⟨l0, l1, l2, l3⟩ := h.lt
  obtain ⟨a1, a2, a3, a4, a5⟩ := h.apart
  have hnx : ¬ (x = hw ∨ x = hd) := by omega
  have HR := Lib.hid h; clear h
  have hi0 : (0 : Int) ≤ (i : Int) := by omega
  have hi2 : (i : Int) < (N : Int) := by omega
  obtain ⟨va, vc, rfl⟩ := hv.shape
  rw [hl] at hv ⊢
  have HO : Hid (∀ W, Upd (fun _ => False) w W → Calls Try.prog 42 #[.slice va 64 vc] W (ClonePost W l)) := Lib.hid fun W u => rown_sec W _ l (hv.old u) hl
  clear hv
  go_enter Try.func22, Try.ntmps22
  go_wp2_with (go_at_call 45; refine HT.out.mono ?_; rintro e w' ⟨rfl, rfl⟩)
  go_region_held3 (fun w' => w'.cell? ⟨x, 1, none⟩ = some (.slice (some ⟨hw, 0, none⟩) N (N + d1)) ∧ w'.cell? ⟨x, 2, none⟩ = some (.slice (some ⟨hd, 0, none⟩) N (N + d2)))
    (first | exact ⟨c1, c2⟩ | exact ⟨(Upd.cell (F := fun k => k = hw ∨ k = hd) (p := ⟨x, 1, none⟩) (by repeat (first | exact Upd.refl _ _ | exact U1.out.mono (fun _ _ h => h.elim) | apply Upd.drew | apply Upd.alloc | refine Upd.setCell ?_ (by first | exact Or.inl (Or.inl rfl) | exact Or.inl (Or.inr rfl)) _)) l0 hnx).trans c1, (Upd.cell (F := fun k => k = hw ∨ k = hd) (p := ⟨x, 2, none⟩) (by repeat (first | exact Upd.refl _ _ | exact U1.out.mono (fun _ _ h => h.elim) | apply Upd.drew | apply Upd.alloc | refine Upd.setCell ?_ (by first | exact Or.inl (Or.inl rfl) | exact Or.inl (Or.inr rfl)) _)) l0 hnx).trans c2⟩)
    ((go_at_call 42; (with_reducible refine (HO.out _ (by repeat (first | exact Upd.refl _ _ | apply Upd.drew | apply Upd.alloc))).mono ?_); rintro e w1 ⟨v1, rfl, hs1, hf1, hu1⟩; obtain ⟨k1, o1, cc1, rfl, _⟩ := hs1.shape; have HS1 := Lib.hid hs1; have HF1 := Lib.hid hf1; have U1 : Hid (Upd (fun _ => False) w w1) := Lib.hid (Upd.trans (by repeat (first | exact Upd.refl _ _ | apply Upd.drew | apply Upd.alloc)) hu1); have HR1 := Lib.hid (HR.out.old U1.out); obtain ⟨su, sw1⟩ := HR1.out.wcell hi; have sd1 := HR1.out.sd i hi; have fw := tag_frozen HR1.out.tw; have fd := tag_frozen HR1.out.td; clear hs1 hf1 hu1))
  all_goals
    have HC := Lib.hid (cutRW true HR1.out U1.out hi HS1.out HF1.out l2)
    clear sw1 sd1 fw fd
    go_wp2_with fail
    go_ret
    first
      | exact ⟨rfl, HC.out.1.r, HC.out.1.up, HC.out.1.off⟩
      | exact ⟨rfl, HC.out.2.r, HC.out.2.up, HC.out.2.off⟩
theorem rwrite_no (i : Int) (w : World) (x hb hw hd N : Nat) (B V : Nat → List Int) (T : Nat → Bool) (v : Value) (l : List Int) (h : RAt w x hb hw hd N B V T) (hv : BytV w v l) (hl : l.length ≤ 140737488355328) (hbad : ¬ (0 ≤ i ∧ i < N) ∨ l.length ≠ 64) :
    Calls Try.prog 22 #[.pointer (some ⟨x, 0, none⟩), .int .i64 i, v] w (Same w (.int .i64 1)) := by
  have ht := rthere i w x hb hw hd N B V T h
  have c3 := h.c3
  obtain ⟨va, vc, rfl⟩ := hv.shape
  clear h hv
  by_cases hi : 0 ≤ i ∧ i < N
  · have hl2 : l.length ≠ 64 := hbad.resolve_left (fun h => h hi)
    rw [decide_eq_true hi] at ht
    have HT := Lib.hid ht; clear ht
    have q1 : ((l.length : Int) == 64) = false := beq_eq_false_iff_ne.2 (by omega)
    go_enter Try.func22, Try.ntmps22
    go_wp2_with (go_at_call 45; refine HT.out.mono ?_; rintro e w' ⟨rfl, rfl⟩)
    go_ret
    exact ⟨rfl, rfl⟩
  · rw [decide_eq_false hi] at ht
    have HT := Lib.hid ht; clear ht
    go_enter Try.func22, Try.ntmps22
    go_wp2_with (go_at_call 45; refine HT.out.mono ?_; rintro e w' ⟨rfl, rfl⟩)
    go_ret
    exact ⟨rfl, rfl⟩
end Go.Proofs.Ytcmhcibkpmbnoaa
