/-
  The reference's plate: Copy.
-/
import Derived.Test.YtcmhcibkpmbnoaaRPlate8
set_option linter.unusedVariables false
namespace Go.Proofs.Ytcmhcibkpmbnoaa
open Go Go.RowKit Go.MapKept Go.ChangeMaps

/-- Marks are appended to none, at a step of a region that draws its order. -/
theorem step_append_marks {ops : Array Oper} {o : Oper} {a : Act} {K : Act → World → Prop} {Q : Exit → Act → World → Prop} {E : Prop} {w : World} (hgd : o.guard = none) (s x : Operand)
    (ho : o.op = .call { callee := .builtin .append, args := #[s, x], argTypes := #[56, 56] })
    (B g h N c : Nat) (T : Nat → Bool) (hs : a.eval s = .slice (some ⟨g, 0, none⟩) 0 0) (hown : w.ownsRow B 4 1 (.slice (some ⟨g, 0, none⟩) 0 0) 0 []) (hx : a.eval x = .slice (some ⟨h, 0, none⟩) N c) (hm : Marks w h N T) (hN : 0 < N) (hf : N ≤ 8192) (hB : B ≤ w.heap.size)
    (hk : ∀ h' c' w', Marks w' h' N T → B ≤ h' → N ≤ c' → Upd (fun k => k = g) w w' → (∃ cur, w.heap[g]? = some (.cells cur 4 (0, 0))) → B ≤ g → K (a.put o.dst (.slice (some ⟨h', 0, none⟩) N c')) w') : if Region.wanted o (yielded ops a.tmps) = true then Oper.wp Try.prog o a w K Q else E := by
  have hw : Region.wanted o (yielded ops a.tmps) = true := by simp [Region.wanted, hgd]
  rw [if_pos hw]
  obtain ⟨i0, hi, hz0, hz1, hz2⟩ := info_parts info_bool
  have hl : ((List.range N).map fun i => Value.bool (T i)).length = N := by simp
  refine wp_append_own _ s x 56 ho B 4 i0 _ 1 1 Try.underlying56 hi hz0 hz1 hz2 rfl (by decide) _ 0 [] hs hown ⟨h, 0, none⟩ N c ((List.range N).map fun i => Value.bool (T i)) hx (by simp) ?_ ?_ (by unfold maxLen; omega) (by omega) hB ?_
  · intro j u hu
    rw [List.getElem?_map] at hu
    cases hq : (List.range N)[j]? with
    | none => rw [hq] at hu; cases hu
    | some y =>
      rw [hq] at hu
      cases hu
      obtain ⟨hj, rfl⟩ := List.getElem?_eq_some_iff.1 hq
      simp only [List.length_range] at hj
      rw [Addr.add_lit, Nat.zero_add, hm.cell j hj]
      simp
  · intro u hu
    obtain ⟨y, _, rfl⟩ := List.mem_map.1 hu
    rfl
  · intro v' w' h1 h2 _
    rw [List.nil_append, Nat.zero_add] at h1
    have hu : Upd (fun k => k = g) w w' := (Upd.of_grown h2).mono (fun k _ e => by cases e; rfl)
    have hgt : (∃ cur, w.heap[g]? = some (.cells cur 4 (0, 0))) ∧ B ≤ g := by
      rcases hown.2 with ⟨e2, _⟩ | ⟨g', cap, cur, e2, hg, hh, _⟩
      · cases e2
      · cases e2; exact ⟨⟨cur, hh⟩, hg⟩
    obtain ⟨_, ⟨_, h0⟩ | ⟨g', cap, cur, rfl, hg, hh, hn, hmm, hsz, ht⟩⟩ := h1
    · omega
    · refine hk g' cap w' ⟨⟨cur, hh⟩, fun i hi2 => ?_⟩ hg hn hu hgt.1 hgt.2
      unfold World.cell?
      rw [hh]
      simp only [Option.isSome_none, Bool.false_eq_true, if_false]
      have h3 : (cur.toList.take (N * 1))[i]? = ((List.range N).map fun i => Value.bool (T i))[i]? := by rw [ht]
      rw [List.getElem?_take_of_lt (by omega), List.getElem?_map, List.getElem?_range hi2] at h3
      rw [← Array.getElem?_toList, h3]
      rfl
theorem secs_past {w w' : World} {v : Value} {h g : Nat} {L : List (List Int)} (H : Secs w v h L) (hg : ∃ cur, w.heap[g]? = some (.cells cur 4 (0, 0))) (u : Upd (fun k => k = g) w w') : Secs w' v h L := by
  have ht : ∃ cur, w.heap[h]? = some (.cells cur 32 (0, 0)) := by
    obtain ⟨c, cur, _, _, hk, _⟩ := H
    exact ⟨cur, hk⟩
  exact H.upd u (tag_ne ht hg (by decide)) (fun k e => by rw [e]; exact tag_notB hg (by decide))
def RCopyP (w : World) (N : Nat) (B V : Nat → List Int) (T : Nat → Bool) (e : Ending) (w' : World) : Prop :=
  ∃ x hb hw hd, e = .returned (.pointer (some ⟨x, 0, none⟩)) ∧ RAt w' x hb hw hd N B V T ∧ (w.heap.size ≤ x ∧ w.heap.size ≤ hb ∧ w.heap.size ≤ hw ∧ w.heap.size ≤ hd) ∧ Upd (fun _ => False) w w'
set_option maxRecDepth 100000 in
set_option maxHeartbeats 4000000 in
theorem rcopy_ok (w : World) (x hb hw hd N : Nat) (B V : Nat → List Int) (T : Nat → Bool) (h : RAt w x hb hw hd N B V T) :
    Calls Try.prog 14 #[.pointer (some ⟨x, 0, none⟩)] w (RCopyP w N B V T) := by
  have c3 := h.c3
  obtain ⟨d2, c2⟩ := h.c2
  have hp := h.pos
  have hf := h.few
  have lx := h.lt.1
  obtain ⟨bv, c0, hsb⟩ := h.rowB
  obtain ⟨wv, c1, hsw⟩ := h.rowW
  have HAB : Hid (∀ W, Upd (fun _ => False) w W → Calls Try.prog 20 #[bv] W (SecsPost W (rowL B N))) := Lib.hid fun W u => rall_secs W _ _ _ (hsb.old u) (by rw [rowL_length]; exact hp) (by rw [rowL_length]; exact hf)
  have HAW : Hid (∀ W, Upd (fun _ => False) w W → Calls Try.prog 20 #[wv] W (SecsPost W (rowL V N))) := Lib.hid fun W u => rall_secs W _ _ _ (hsw.old u) (by rw [rowL_length]; exact hp) (by rw [rowL_length]; exact hf)
  have HMK : Hid (Marks w hd N T) := Lib.hid ⟨h.td, h.sd⟩
  obtain ⟨cb, _, rfl, _, _, _⟩ := hsb
  obtain ⟨cw, _, rfl, _, _, _⟩ := hsw
  rw [rowL_length] at c0 HAB c1 HAW
  clear h
  go_enter Try.func14, Try.ntmps14
  go_wp2_with fail
  go_region_held3 (fun w' => w'.cell? ⟨x, 0, none⟩ = some (.slice (some ⟨hb, 0, none⟩) N cb) ∧ w'.cell? ⟨x, 1, none⟩ = some (.slice (some ⟨hw, 0, none⟩) N cw) ∧ w'.cell? ⟨x, 2, none⟩ = some (.slice (some ⟨hd, 0, none⟩) N (N + d2)) ∧ w'.cell? ⟨x, 3, none⟩ = some (.bool false))
    (first | exact ⟨c0, c1, c2, c3⟩ | exact ⟨(Upd.cell (F := fun _ => False) (p := ⟨x, 0, none⟩) (by repeat (first | exact Upd.refl _ _ | exact U3.out | exact U2.out | exact U1.out | apply Upd.drew | apply Upd.alloc)) lx (fun h => h)).trans c0, (Upd.cell (F := fun _ => False) (p := ⟨x, 1, none⟩) (by repeat (first | exact Upd.refl _ _ | exact U3.out | exact U2.out | exact U1.out | apply Upd.drew | apply Upd.alloc)) lx (fun h => h)).trans c1, (Upd.cell (F := fun _ => False) (p := ⟨x, 2, none⟩) (by repeat (first | exact Upd.refl _ _ | exact U3.out | exact U2.out | exact U1.out | apply Upd.drew | apply Upd.alloc)) lx (fun h => h)).trans c2, (Upd.cell (F := fun _ => False) (p := ⟨x, 3, none⟩) (by repeat (first | exact Upd.refl _ _ | exact U3.out | exact U2.out | exact U1.out | apply Upd.drew | apply Upd.alloc)) lx (fun h => h)).trans c3⟩)
    (first
      | ((go_at_call 20; (with_reducible refine (HAB.out _ (by repeat (first | exact Upd.refl _ _ | apply Upd.drew | apply Upd.alloc))).mono ?_); rintro e w1 ⟨v1, h1, rfl, hs1, hh1, hu1⟩; obtain ⟨c1', _, rfl, _, _, _⟩ := id hs1; have HS1 := Lib.hid hs1; have HH1 := Lib.hid hh1; have U1 : Hid (Upd (fun _ => False) w w1) := Lib.hid (Upd.trans (by repeat (first | exact Upd.refl _ _ | apply Upd.drew | apply Upd.alloc)) hu1); have HU1 := Lib.hid hu1; clear hs1 hh1 hu1))
      | ((go_at_call 20; (with_reducible refine (HAW.out _ (by repeat (first | exact Upd.refl _ _ | exact U1.out | apply Upd.drew | apply Upd.alloc))).mono ?_); rintro e w2 ⟨v2, h2, rfl, hs2, hh2, hu2⟩; obtain ⟨c2', _, rfl, _, _, _⟩ := id hs2; have HS2 := Lib.hid hs2; have HH2 := Lib.hid hh2; have U12 : Hid (Upd (fun _ => False) w1 w2) := Lib.hid (Upd.trans (by repeat (first | exact Upd.refl _ _ | apply Upd.drew | apply Upd.alloc)) hu2); have U2 := Lib.hid (U1.out.trans U12.out); have HU2 := Lib.hid hu2; clear hs2 hh2 hu2))
      | ((refine step_append_marks (by rfl) _ _ (by rfl) w.heap.size _ hd N _ T (by rfl) (by first | exact (World.ownsRow_made _ (base := w.heap.size) (e := 4) (size := 1) #[] 0 (Upd.size (F := fun _ => False) (by repeat (first | exact Upd.refl _ _ | exact U2.out | exact U1.out | apply Upd.drew | apply Upd.alloc))) (Nat.zero_le _) (by simp)) | exact owns_upd (owns_upd (owns_upd (World.ownsRow_made _ (base := w.heap.size) (e := 4) (size := 1) #[] 0 (Upd.size (F := fun _ => False) (by repeat (first | exact Upd.refl _ _ | exact U2.out | exact U1.out | apply Upd.drew | apply Upd.alloc))) (Nat.zero_le _) (by simp)) ((Upd.refl (fun _ => False) _).drew) (fun _ _ h => h)) HU1.out (fun _ _ h => h)) U12.out (fun _ _ h => h) | exact owns_upd (owns_upd (World.ownsRow_made _ (base := w.heap.size) (e := 4) (size := 1) #[] 0 (Upd.size (F := fun _ => False) (by repeat (first | exact Upd.refl _ _ | exact U2.out | exact U1.out | apply Upd.drew | apply Upd.alloc))) (Nat.zero_le _) (by simp)) ((Upd.refl (fun _ => False) _).drew) (fun _ _ h => h)) HU2.out (fun _ _ h => h) | exact owns_upd (World.ownsRow_made _ (base := w.heap.size) (e := 4) (size := 1) #[] 0 (Upd.size (F := fun _ => False) (by repeat (first | exact Upd.refl _ _ | exact U2.out | exact U1.out | apply Upd.drew | apply Upd.alloc))) (Nat.zero_le _) (by simp)) HU2.out (fun _ _ h => h) | exact owns_upd (owns_upd (World.ownsRow_made _ (base := w.heap.size) (e := 4) (size := 1) #[] 0 (Upd.size (F := fun _ => False) (by repeat (first | exact Upd.refl _ _ | exact U2.out | exact U1.out | apply Upd.drew | apply Upd.alloc))) (Nat.zero_le _) (by simp)) HU1.out (fun _ _ h => h)) U12.out (fun _ _ h => h) | exact owns_upd (World.ownsRow_made _ (base := w.heap.size) (e := 4) (size := 1) #[] 0 (Upd.size (F := fun _ => False) (by repeat (first | exact Upd.refl _ _ | exact U2.out | exact U1.out | apply Upd.drew | apply Upd.alloc))) (Nat.zero_le _) (by simp)) HU1.out (fun _ _ h => h)) (by rfl) (HMK.out.old (by repeat (first | exact Upd.refl _ _ | exact U2.out | exact U1.out | apply Upd.drew | apply Upd.alloc))) hp hf (Upd.size (F := fun _ => False) (by repeat (first | exact Upd.refl _ _ | exact U2.out | exact U1.out | apply Upd.drew | apply Upd.alloc))) ?_; intro h3 c3' w3 hm3 hge3 hcap3 hu3 hgt3 hgg3; have U3 : Hid (Upd (fun _ => False) w w3) := Lib.hid (Upd.trans' (by repeat (first | exact Upd.refl _ _ | exact U2.out | exact U1.out | apply Upd.drew | apply Upd.alloc)) hu3 (fun i hi e => by omega)); have HM3 := Lib.hid hm3; have HS13 := Lib.hid (secs_past (HS1.out.old (Upd.trans U12.out (by repeat (first | exact Upd.refl _ _ | apply Upd.drew | apply Upd.alloc)))) hgt3 hu3); have HS23 := Lib.hid (secs_past (HS2.out.old (by repeat (first | exact Upd.refl _ _ | apply Upd.drew | apply Upd.alloc))) hgt3 hu3); clear hm3 hu3 hgt3)))
  all_goals
    go_wp2_with fail
    have hl1 := HS1.out.lt
    have hh2 := HH2.out
    have hh1 := HH1.out
    have hz1 : w1.heap.size ≤ h2 := Nat.le_trans (by first | exact Nat.le_refl _ | exact Upd.size (F := fun _ => False) (by repeat (first | exact Upd.refl _ _ | apply Upd.drew | apply Upd.alloc))) hh2
    have hz0 : w.heap.size ≤ h1 := Nat.le_trans (Upd.size (F := fun _ => False) (by repeat (first | exact Upd.refl _ _ | apply Upd.drew | apply Upd.alloc))) hh1
    have hz2 := U1.out.size
    have hz3 := U3.out.size
    have hs13 := HS13.out
    have hs23 := HS23.out
    rw [rowL_length] at hs13 hs23
    have hr := r_made hs13 hs23 (rowL_length _ _) (rowL_length _ _) (by omega) HM3.out hcap3 hp hf
    rw [rowL_length, rowL_length]
    go_ret
    exact ⟨_, _, _, _, rfl, hr.cong (fun i hi => (rowL_get hi).symm) (fun i hi => (rowL_get hi).symm) (fun _ _ => rfl), ⟨by omega, by omega, by omega, hge3⟩, U3.out.alloc _⟩
end Go.Proofs.Ytcmhcibkpmbnoaa
