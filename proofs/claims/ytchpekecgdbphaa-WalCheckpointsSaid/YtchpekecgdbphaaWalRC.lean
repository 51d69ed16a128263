/-
  record: the record at a place.
  clean: free sectors are cleaned.
  fresh: a log of a plate of noughts.
-/
import Derived.Test.YtchpekecgdbphaaWalPP
import Derived.IntWalk
set_option linter.unusedVariables false
namespace Go.Proofs.Ytchpekecgdbphaa
open Go Go.RowKit Go.MapKept Go.ChangeMaps

section
variable {V : Nat → List Int} {size place used : Nat} {num : Int} {k : Nat} {acc b : List Int}
theorem fail_range (h : Pre V size place num used k acc) (hb : b = V (atS size place (used + k))) (hx : b.getD 9 0 < 1 ∨ 40 < b.getD 9 0 ∨ (b.getD 9 0 < 40 ∧ b.getD 11 0 ≠ 1)) (r : List Int) : ¬ IsRec V size place num used r := fun hr => by
  obtain ⟨a1, a2, a3⟩ := h.reads hr hb
  obtain ⟨b1, b2, b3, b4, b5, b6⟩ := h.piece hr
  rw [a1, a2] at hx
  rcases hx with hx | hx | ⟨hx, hy⟩
  · omega
  · omega
  · rw [decide_eq_true (b4 (by omega))] at hy
    exact hy rfl
theorem fail_long {m : Nat} (h : Pre V size place num used k acc) (hb : b = V (atS size place (used + k))) (hm : b.getD 9 0 = m) (hx : 2000 < acc.length + m) (r : List Int) : ¬ IsRec V size place num used r := fun hr => by
  obtain ⟨a1, a2, a3⟩ := h.reads hr hb
  obtain ⟨b1, b2, b3, b4, b5, b6⟩ := h.piece hr
  omega
theorem fail_eq {m : Nat} {last : Bool} (h : Pre V size place num used k acc) (hb : b = V (atS size place (used + k))) (hm : b.getD 9 0 = m) (hlast : (b.getD 11 0 == 1) = last) (hx : ¬ b = pieceB num ((b.drop 12).take m) (decide (k = 0)) last) (r : List Int) : ¬ IsRec V size place num used r := fun hr => by
  obtain ⟨a1, a2, a3⟩ := h.reads hr hb
  obtain ⟨b1, b2, b3, b4, b5, b6⟩ := h.piece hr
  have e : m = (partB r k).length := by omega
  have e2 : last = decide (k + 1 = needB r) := by
    rw [← hlast, a2]
    cases decide (k + 1 = needB r) <;> rfl
  rw [e, a3, e2] at hx
  exact hx (hb.trans b1)
theorem fail_end (h : Pre V size place num used k acc) (hx : ¬ used + k < size) (r : List Int) : ¬ IsRec V size place num used r := fun hr => hx (h.room' hr)
end
/-- A part of a sector. -/
theorem Sec.part {w : World} {k o c c' : Nat} {l : List Int} (h : Sec w (.slice (some ⟨k, o, none⟩) 64 c) l) {a m : Nat} (hm : a + m ≤ 64) : BytV w (.slice (some ⟨k, o + a, none⟩) m c') ((l.drop a).take m) := by
  obtain ⟨k', o', c'', cur, e, hl, hk, hc⟩ := h
  obtain ⟨rfl, rfl⟩ : k = k' ∧ o = o' := by simp at e; omega
  have hlen : ((l.drop a).take m).length = m := by rw [List.length_take, List.length_drop]; omega
  refine .inr ⟨k, o + a, c', by rw [hlen], fun j hj => ?_⟩
  rw [hlen] at hj
  rw [Nat.add_assoc, hc (a + j) (by omega), List.getD_eq_getElem?_getD, List.getD_eq_getElem?_getD, List.getElem?_take_of_lt hj, List.getElem?_drop]
theorem Sec.cell {w : World} {k o c : Nat} {l : List Int} (h : Sec w (.slice (some ⟨k, o, none⟩) 64 c) l) {j : Nat} (hj : j < 64) : w.cell? ⟨k, o + j, none⟩ = some (.int .u8 (l.getD j 0)) := by
  obtain ⟨k', o', c'', cur, e, hl, hk, hc⟩ := h
  obtain ⟨rfl, rfl⟩ : k = k' ∧ o = o' := by simp at e; omega
  exact hc j hj
theorem BytV.to {w : World} {k o o' n n' c c' : Nat} {l : List Int} (h : BytV w (.slice (some ⟨k, o, none⟩) n c) l) (ho : o' = o) (hn : n' = n) : BytV w (.slice (some ⟨k, o', none⟩) n' c') l := by
  subst ho hn
  rcases h with ⟨rfl, a, c1, e⟩ | ⟨k1, o1, c1, e, hc⟩
  · cases e; exact .inl ⟨rfl, _, _, rfl⟩
  · cases e; exact .inr ⟨_, _, _, rfl, hc⟩
def RecPost (w : World) (V : Nat → List Int) (size place : Nat) (num : Int) (used : Nat) (e : Ending) (w' : World) : Prop := Upd (fun _ => False) w w' ∧
  ((∃ r v, IsRec V size place num used r ∧ IsB r ∧ e = .returned (.tuple #[v, .int .i64 0]) ∧ Own w.heap.size w' v r) ∨ ((∀ r, ¬ IsRec V size place num used r) ∧ e = .returned (.tuple #[.slice none 0 0, .int .i64 0])))
theorem RecPost.no {w w' : World} {V : Nat → List Int} {size place used : Nat} {num : Int} (u : Upd (fun _ => False) w w') (h : ∀ r, ¬ IsRec V size place num used r) : RecPost w V size place num used (.returned (.tuple #[.slice none 0 0, .int .i64 0])) w' := ⟨u, .inr ⟨h, rfl⟩⟩
set_option maxRecDepth 100000 in
set_option maxHeartbeats 8000000 in
theorem record_any (w : World) (wb b ab cm : Nat) (size place used : Nat) (n l f num uc : Int) (D : List (List Int)) (C : Int → Option (List Int)) (hw : WalAt w wb b size n l place f num uc) (hp : PlateAt w b ab cm D C) (hd : D.length = size + 2) (h0 : 0 < size) (h1 : size ≤ 8190) (h2 : place < size) (h3 : used ≤ size)
    (hB : ∀ i, i < D.length → IsB (view D C i)) :
    Calls Try.prog 35 #[.pointer (some ⟨wb, 0, none⟩), .int .i64 used] w (RecPost w (view D C) size place num used) := by
  have c0 := hw.c0
  have c1 := hw.c1
  have c6 := hw.c6
  have lw := hw.lt
  have HW := Lib.hid hw; clear hw
  have HP := Lib.hid hp; clear hp
  have HD := Lib.hid hd; clear hd
  have HB := Lib.hid hB; clear hB
  go_enter Try.func35, Try.ntmps35
  go_wp2_with fail
  clear c0 c1 c6
  go_loopw [6, 7] (fun rec i wr => ∃ (k : Nat) (acc : List Int), i = .int .i64 (used + k : Nat) ∧ Own w.heap.size wr rec acc ∧ IsB acc ∧ Pre (view D C) size place num used k acc ∧ Upd (fun _ => False) w wr ∧ 40 * k ≤ 2000) (fun _ i _ => size - (intOf i).toNat)
  case atStart => exact ⟨0, [], rfl, Own.nil _ _, IsB.nil, Pre.zero h3, Upd.refl _ _, by omega⟩
  case round =>
    obtain ⟨k, acc, rfl, ho, hBa, hpre, hu, hk⟩ := hrel
    obtain ⟨va, vc, rfl⟩ := ho.shape
    have HO := Lib.hid ho; clear ho
    have HBA := Lib.hid hBa; clear hBa
    have HPR := Lib.hid hpre; clear hpre
    have HU := Lib.hid hu; clear hu
    have HWR := Lib.hid (HW.out.old HU.out)
    have HPP := Lib.hid (HP.out.old HU.out)
    have c0 := HWR.out.c0
    have c1 := HWR.out.c1
    have c6 := HWR.out.c6
    by_cases hlt : used + k < size
    · go_wp2_with fail
      go_region_held3 (fun w' => w'.cell? ⟨wb, 0, none⟩ = some (.pointer (some ⟨b, 0, none⟩))) (first | exact c0 | exact (HWR.out.old (by repeat (first | exact Upd.refl _ _ | exact U1.out | apply Upd.drew | apply Upd.alloc))).c0)
        (first
          | (go_at_call 26; refine (sector_any (used + k) _ wb b size place n l f num uc (HWR.out.old (by repeat (first | exact Upd.refl _ _ | apply Upd.drew | apply Upd.alloc))) h0 h1 h2 (by omega)).mono ?_; rintro e w0 ⟨rfl, rfl⟩)
          | (go_at_call 32; refine (read_any (atS size place (used + k)) _ b ab cm D C (HPP.out.old (by repeat (first | exact Upd.refl _ _ | apply Upd.drew | apply Upd.alloc))) (by rw [HD.out]; exact atS_lt h0)).mono ?_; rintro e w1 ⟨v1, rfl, hs1, hf1, hu1⟩; obtain ⟨k1, o1, cc0, rfl, _⟩ := hs1.shape; have hcap := hs1.cap; obtain ⟨cc1, rfl⟩ : ∃ cc, cc0 = 64 + cc := ⟨cc0 - 64, by omega⟩; clear hcap; have S1 := Lib.hid hs1; have F1 : Hid (Fresh wr.heap.size _) := Lib.hid (fresh_le hf1 (by simp)); have U1 : Hid (Upd (fun _ => False) wr w1) := Lib.hid (Upd.trans (by repeat (first | exact Upd.refl _ _ | apply Upd.drew | apply Upd.alloc)) hu1); clear hs1 hf1 hu1))
      all_goals
        have hb : ∃ bl, bl = view D C (atS size place (used + k)) := ⟨_, rfl⟩
        obtain ⟨bl, hbl⟩ := hb
        rw [← hbl] at S1
        have hBb : IsB bl := by rw [hbl]; exact HB.out _ (by rw [HD.out]; exact atS_lt h0)
        have x9 := S1.out.cell (j := 9) (by omega)
        have x11 := S1.out.cell (j := 11) (by omega)
        obtain ⟨p0, p1⟩ := hBb.at 9
        have hlast : ∃ last, (bl.getD 11 0 == 1) = last := ⟨_, rfl⟩
        obtain ⟨last, hlast⟩ := hlast
        have hm : ∃ m : Nat, bl.getD 9 0 = m := ⟨(bl.getD 9 0).toNat, by omega⟩
        obtain ⟨m, hm⟩ := hm
        rw [hm] at x9 p0 p1
        have HX := Lib.hid hlast
        have HM := Lib.hid hm; clear hm
        have HBL := Lib.hid hbl; clear hbl
        have HBb := Lib.hid hBb; clear hBb
        generalize bl.getD 11 0 = y11 at x11 hlast
        have HW1 := Lib.hid (HWR.out.old U1.out)
        have hsz : bl.length = 64 := S1.out.len
        have HSZ := Lib.hid hsz; clear hsz
        have hkk : ∃ kz, ((used : Int) + k == used) = kz := ⟨_, rfl⟩
        obtain ⟨kz, hkk⟩ := hkk
        have hkz : kz = decide (k = 0) := by
          rw [← hkk]
          by_cases e : k = 0
          · rw [decide_eq_true e, e]; simp
          · rw [decide_eq_false e, beq_eq_false_iff_ne]; omega
        have HKZ := Lib.hid hkz; clear hkz
        have UA := Lib.hid (HU.out.trans U1.out)
        clear c0 c1 c6
        go_wp2_with fail
        go_region
        all_goals
          by_cases g1 : m < 1
          · go_wp2_with fail
            go_ret2
            exact RecPost.no UA.out.drew (fail_range HPR.out HBL.out (Or.inl (by rw [HM.out]; omega)))
          · by_cases g2 : 40 < m
            · go_wp2_with fail
              go_ret2
              exact RecPost.no UA.out.drew (fail_range HPR.out HBL.out (Or.inr (Or.inl (by rw [HM.out]; omega))))
            · have q1 : ¬ (m : Int) < 1 := by omega
              have q2 : ¬ (40 : Int) < (m : Int) := by omega
              by_cases g3 : m < 40 ∧ last = false
              · obtain ⟨g3, rfl⟩ := g3
                have q3 : (m : Int) < 40 := by omega
                go_wp2_with fail
                go_ret2
                exact RecPost.no UA.out.drew (fail_range HPR.out HBL.out (Or.inr (Or.inr ⟨by rw [HM.out]; omega, by have := HX.out; simpa using this⟩)))
              · have hlb : ((bl.drop 12).take m).length = m := by rw [List.length_take, List.length_drop, HSZ.out]; omega
                have HSB := Lib.hid (S1.out.part (c' := 64 + cc1 - 12) (a := 12) (m := m) (by omega))
                have HLN := Lib.hid (HPR.out.len)
                have h40 : m = 40 ∨ last = true := by
                  cases last
                  · left; simp at g3; omega
                  · right; rfl
                have HFL := Lib.hid (fun (h : 2000 < acc.length + m) => fail_long HPR.out HBL.out HM.out h)
                have HFE := Lib.hid (fun h => fail_eq HPR.out HBL.out HM.out HX.out h)
                have HNX := Lib.hid (fun (h : m = 40) => HPR.out.next HBL.out hlt h hlb)
                have HDN := Lib.hid (fun h => HPR.out.done HBL.out hlt (by omega) (by omega) hlb h)
                have HLB2 : Hid (IsB ((bl.drop 12).take m)) := Lib.hid ((HBb.out.drop 12).take m)
                rw [← HKZ.out] at HFE HNX HDN
                generalize hld : (bl.drop 12).take m = load at hlb HSB HFE HNX HDN HLB2
                have HLD := Lib.hid hld; clear hld
                have HLB := Lib.hid hlb; clear hlb
                have e12 : 12 + m - 12 = m := by omega
                have HTE : Hid (last = false → m = 40) := Lib.hid (fun e => by rcases h40 with h | h; exact h; rw [e] at h; cases h)
                have hgo : ¬ ((m : Int) < 40) ∨ ((m : Int) < 40 ∧ last = true) := by
                  rcases h40 with h | h
                  · left; omega
                  · by_cases e : (m : Int) < 40
                    · exact Or.inr ⟨e, h⟩
                    · exact Or.inl e
                clear h40 g3 g1 g2
                have HBX : Hid (∃ bb : Bool, bb = decide (bl = pieceB num load kz last) ∧ ∀ w v v', BytV w v bl → BytV w v' (pieceB num load kz last) → Calls Try.prog 39 #[v, v'] w (Same w (.bool bb))) :=
                  Lib.hid ⟨_, rfl, fun w v v' h h' => equal_byt w v v' _ _ h h' HBb.out (isB_piece (by rw [HLB.out]; omega) HLB2.out)⟩
                have hs1 : IntKind.i64.wrap (12 + (m : Int)) = 12 + (m : Int) := IntWalk.i64_in _ (by omega)
                have hs2 : (12 : Int) ≤ 12 + (m : Int) := by omega
                have hs3 : 12 + (m : Int) ≤ ((64 + cc1 : Nat) : Int) := by omega
                have hs3' : 12 + (m : Int) ≤ 64 + (cc1 : Int) := by omega
                have hs4 : (12 + (m : Int)).toNat = 12 + m := by omega
                have hs5 : (0 : Int) ≤ 12 + (m : Int) := by omega
                have hs6 : ¬ 64 + cc1 = 12 := by omega
                rcases hgo with q3 | ⟨q3, q4⟩
                all_goals
                  try subst q4
                  go_wp2_with (at_builtin; go_must (refine wpList_append_byt2 rfl _ _ rfl w.heap.size _ (.slice (some ⟨k1, o1 + 12, none⟩) m (64 + cc1 - 12)) acc load rfl (HO.out.upd (U1.out.drew) (fun _ _ h => h)) (by first | rfl | (simp [Act.eval, e12]; done) | (simp [Act.eval]; trace_state; sorry)) HSB.out (by rw [HLN.out, HLB.out]; omega) (by have := UA.out.size; simpa using this) ?_))
                  intro v2 w2 ho2 hu2
                  obtain ⟨va2, vc2, hv2⟩ := ho2.shape
                  obtain ⟨N, hN⟩ : ∃ N, N = (acc ++ load).length := ⟨_, rfl⟩
                  rw [← hN] at hv2
                  subst hv2
                  rw [List.length_append] at hN
                  have HN := Lib.hid hN
                  have hN2 : N ≤ 2040 := by rw [hN, HLN.out, HLB.out]; omega
                  clear hN
                  have U2 : Hid (Upd (fun _ => False) w w2) := Lib.hid (UA.out.drew.trans' hu2 (fun i hi e => by have := HO.out.ge i e; omega))
                  have S2 := Lib.hid ((S1.out.old (Upd.refl _ _).drew).updFresh F1.out hu2 (fun q e => HO.out.lt q e))
                  have HO2 := Lib.hid ho2; clear ho2 hu2
                  have W2 := Lib.hid (HW.out.old U2.out)
                  have c6 := W2.out.c6
                  by_cases g4 : 2000 < N
                  · have q5 : decide ((2000 : Int) < (N : Int)) = true := decide_eq_true (by omega)
                    go_wp2_with fail
                    go_region
                    go_wp2_with fail
                    go_ret2
                    exact RecPost.no U2.out.drew (HFL.out (by rw [HN.out, HLB.out] at g4; exact g4))
                  · obtain ⟨bb, hbb, heq⟩ := HBX.out
                    have HBB := Lib.hid hbb; clear hbb
                    have HEQ := Lib.hid heq; clear heq
                    have HPC : Hid (∀ W la, Upd (fun _ => False) w2 W → Calls Try.prog 27 #[.int .i64 num, .slice (some ⟨k1, o1 + 12, none⟩) m (64 + cc1 - 12), .bool kz, .bool la] W (ClonePost W (pieceB num load kz la))) :=
                      Lib.hid fun W la u => piece_any num _ load kz la W (BytV.old (by rw [← HLD.out]; exact S2.out.part (by omega)) u) (by rw [HLB.out]; omega)
                    have q5 : decide ((2000 : Int) < (N : Int)) = false := decide_eq_false (by omega)
                    go_wp2_with fail
                    go_region_held3 (fun w' => w'.cell? ⟨wb, 6, none⟩ = some (.int .i64 num)) (first | exact c6 | exact (W2.out.old (by repeat (first | exact Upd.refl _ _ | exact U3.out | apply Upd.drew | apply Upd.alloc))).c6)
                      (first
                        | (go_at_call 27; (with_reducible refine (HPC.out _ _ (Upd.refl _ _).drew).mono ?_); rintro e w3 ⟨v3, rfl, hs3, hf3, hu3⟩; obtain ⟨k3, o3, cc3, rfl, _⟩ := hs3.shape; have S3 := Lib.hid hs3; have U3 : Hid (Upd (fun _ => False) w2 w3) := Lib.hid (Upd.trans (by repeat (first | exact Upd.refl _ _ | apply Upd.drew | apply Upd.alloc)) hu3); clear hs3 hf3 hu3)
                        | (go_at_call 39; refine (HEQ.out _ _ _ ((S2.out.old (by repeat (first | exact Upd.refl _ _ | exact U3.out | apply Upd.drew | apply Upd.alloc))).byt) ((S3.out.old (by repeat (first | exact Upd.refl _ _ | apply Upd.drew | apply Upd.alloc))).byt)).mono ?_; rintro e w4 ⟨rfl, rfl⟩))
                    all_goals
                      have U4 := Lib.hid (U2.out.trans U3.out)
                      have HN5 : Hid (acc.length + load.length ≤ 2000) := Lib.hid (by have := of_decide_eq_false q5; have := HN.out; omega)
                      cases bb
                      · go_wp2_with fail
                        go_ret2
                        exact RecPost.no U4.out (HFE.out (of_decide_eq_false HBB.out.symm))
                      · have HE := Lib.hid (of_decide_eq_true HBB.out.symm)
                        have HO4 := Lib.hid (HO2.out.old U3.out)
                        first | cases last | skip
                        all_goals
                          first
                            | (have HDD := Lib.hid (HDN.out (by have := HN5.out; rw [HLB.out] at this; exact this) HE.out)
                               go_wp2_with fail
                               go_ret2
                               exact ⟨U4.out, .inl ⟨_, _, HDD.out, HBA.out.append HLB2.out, rfl, HO4.out⟩⟩)
                            | (have H40 := HTE.out rfl
                               have HPN := Lib.hid (HNX.out H40 HE.out)
                               have HK := Lib.hid (show 40 * (k + 1) ≤ 2000 by have := HN5.out; rw [HLN.out, HLB.out, H40] at this; omega)
                               go_wp2_with fail
                               go_roundw
                               case rel => exact ⟨k + 1, _, by go_num, HO4.out, HBA.out.append HLB2.out, HPN.out, U4.out, HK.out⟩
                               case measure => simp [intOf]; omega)
    · go_wp2_with fail
      go_ret2
      exact RecPost.no HU.out (fail_end HPR.out hlt)
end Go.Proofs.Ytchpekecgdbphaa
namespace Go.Proofs.Ytchpekecgdbphaa
open Go Go.RowKit Go.MapKept Go.ChangeMaps

/-- The cache, behind the cleaning of ring places used .. used + k - 1. -/
structure Cleaned (V : Nat → List Int) (C : Int → Option (List Int)) (D : List (List Int)) (size place used k : Nat) (C' : Int → Option (List Int)) : Prop where
  done : ∀ q, used ≤ q → q < used + k → view D C' (atS size place q) = zeros
  rest : ∀ i, i < size + 2 → (∀ q, used ≤ q → q < used + k → i ≠ atS size place q) → view D C' i = V i
section
variable {V : Nat → List Int} {C C' : Int → Option (List Int)} {D : List (List Int)} {size place used k : Nat}
theorem Cleaned.zero (h : ∀ i, V i = view D C i) : Cleaned V C D size place used 0 C := ⟨fun q h1 h2 => by omega, fun i _ _ => (h i).symm⟩
theorem Cleaned.at (h : Cleaned V C D size place used k C') (hs : 0 < size) (hk : used + k < size) : view D C' (atS size place (used + k)) = V (atS size place (used + k)) :=
  h.rest _ (atS_lt hs) (fun q h1 h2 e => by have := atS_inj hk (by omega) e; omega)
theorem Cleaned.skip (h : Cleaned V C D size place used k C') (hs : 0 < size) (hk : used + k < size) (hz : V (atS size place (used + k)) = zeros) : Cleaned V C D size place used (k + 1) C' := by
  refine ⟨fun q h1 h2 => ?_, fun i hi hq => h.rest i hi (fun q h1 h2 => hq q h1 (by omega))⟩
  by_cases e : q = used + k
  · subst e; rw [h.at hs hk, hz]
  · exact h.done q h1 (by omega)
theorem Cleaned.put (h : Cleaned V C D size place used k C') (hk : used + k < size) : Cleaned V C D size place used (k + 1) (cput C' (atS size place (used + k)) zeros) := by
  refine ⟨fun q h1 h2 => ?_, fun i hi hq => ?_⟩
  · by_cases e : q = used + k
    · subst e; unfold view cput; rw [if_pos rfl]; rfl
    · have := h.done q h1 (by omega)
      unfold view cput at *
      rw [if_neg (by intro e'; exact e (atS_inj (by omega) hk (Int.ofNat.inj e'))), this]
  · have := h.rest i hi (fun q h1 h2 => hq q h1 (by omega))
    have hne := hq (used + k) (by omega) (by omega)
    unfold view cput at *
    rw [if_neg (by intro e'; exact hne (Int.ofNat.inj e')), this]
end
/-- What a cleaning leaves. -/
structure CleanIs (V : Nat → List Int) (size place used : Nat) (D' : List (List Int)) : Prop where
  len : D'.length = size + 2
  free : ∀ q, used ≤ q → q < size → D'.getD (atS size place q) [] = zeros
  rest : ∀ i, i < size + 2 → (∀ q, used ≤ q → q < size → i ≠ atS size place q) → D'.getD i [] = V i
def CleanPost (w : World) (b ab cm : Nat) (V : Nat → List Int) (size place used : Nat) (e : Ending) (w' : World) : Prop :=
  e = .returned (.int .i64 0) ∧ (∃ D', PlateAt w' b ab cm D' (fun _ => none) ∧ CleanIs V size place used D') ∧ Upd (fun k => k = ab ∨ k = cm) w w'
theorem nought_dec (w : World) (v : Value) (l : List Int) (h : Sec w v l) (hB : IsB l) : Calls Try.prog 49 #[v] w (fun e w' => e = .returned (.bool (decide (l = zeros))) ∧ Upd (fun _ => False) w w') := by
  refine (nought_any w v l h).mono ?_
  rintro e w' ⟨rfl, hu⟩
  exact ⟨by rw [bytesOf_inj hB isB_zeros], hu⟩
noncomputable def z64 : Array Value := madeCells #[.int .u8 0] 64
theorem run_make64 (w : World) : (Instr.makeSlice 28 (.int .i64 64) (.int .i64 64)).run Try.prog w = .ok (.slice (some ⟨w.heap.size, 0, none⟩) 64 64) (w.alloc (.cells z64 5)) := by
  obtain ⟨i0, hi, hz0, hz1, hz2⟩ := info_parts info_u8
  have h0 := run_make (P := Try.prog) w 28 5 i0 _ Try.underlying28 hi hz0 .i64 .i64 64 64 (by omega) (by omega) (by rw [hz2]; omega) (by omega)
  rw [hz1] at h0
  exact h0
theorem sec_z64 (w : World) : Sec (w.alloc (.cells z64 5)) (.slice (some ⟨w.heap.size, 0, none⟩) 64 64) zeros := by
  refine ⟨w.heap.size, 0, 0, _, rfl, by simp [zeros], (MapKept.heap_alloc w _).1, fun j hj => ?_⟩
  rw [World.cell?_alloc_at _ _ _ _ (by simp)]
  have h1 : zeros.getD j 0 = 0 := by
    unfold zeros
    rw [List.getD_eq_getElem?_getD, List.getElem?_replicate, if_pos hj]
    rfl
  rw [h1]
  simp [z64, madeCells, hj, Nat.mod_one]
set_option maxRecDepth 100000 in
set_option maxHeartbeats 8000000 in
theorem clean_any (w : World) (wb b ab cm : Nat) (size place used : Nat) (n l f num : Int) (D : List (List Int)) (C : Int → Option (List Int)) (hw : WalAt w wb b size n l place f num used) (hp : PlateAt w b ab cm D C) (hd : D.length = size + 2) (h0 : 0 < size) (h1 : size ≤ 8190) (h2 : place < size) (h3 : used ≤ size)
    (hB : ∀ i, i < D.length → IsB (view D C i)) :
    Calls Try.prog 36 #[.pointer (some ⟨wb, 0, none⟩)] w (CleanPost w b ab cm (view D C) size place used) := by
  have c0 := hw.c0
  have c1 := hw.c1
  have c7 := hw.c7
  obtain ⟨n1, n2, n3⟩ := hw.apart hp
  have lw := hw.lt
  have hlp := hp.lt
  have HW := Lib.hid hw; clear hw
  have HP := Lib.hid hp; clear hp
  have HD := Lib.hid hd; clear hd
  have HB := Lib.hid hB; clear hB
  go_enter Try.func36, Try.ntmps36
  go_wp2_with fail
  clear c0 c1 c7
  go_loopw [3] (fun i wr => ∃ (k : Nat) (C' : Int → Option (List Int)), i = .int .i64 (used + k : Nat) ∧ used + k ≤ size ∧ PlateAt wr b ab cm D C' ∧ Cleaned (view D C) C D size place used k C' ∧ Upd (fun k => k = cm) w wr) (fun i _ => size - (intOf i).toNat)
  case atStart => exact ⟨0, C, rfl, h3, HP.out, Cleaned.zero (fun _ => rfl), Upd.refl _ _⟩
  case round =>
    obtain ⟨k, C', rfl, hk, hp, hcl, hu⟩ := hrel
    have HPR := Lib.hid hp; clear hp
    have HCL := Lib.hid hcl; clear hcl
    have HU := Lib.hid hu; clear hu
    have HWR := Lib.hid (HW.out.upd HU.out n3)
    have c0 := HWR.out.c0
    have c1 := HWR.out.c1
    by_cases hlt : used + k < size
    · have hsl : atS size place (used + k) < D.length := by rw [HD.out]; exact atS_lt h0
      have hra := read_any (atS size place (used + k)) 
      go_wp2_with fail
      go_region_held3 (fun w' => w'.cell? ⟨wb, 0, none⟩ = some (.pointer (some ⟨b, 0, none⟩))) (first | exact c0 | exact (HWR.out.old (by repeat (first | exact Upd.refl _ _ | exact U1.out | apply Upd.drew | apply Upd.alloc))).c0)
        (first
          | (go_at_call 26; refine (sector_any (used + k) _ wb b size place n l f num used (HWR.out.old (by repeat (first | exact Upd.refl _ _ | apply Upd.drew | apply Upd.alloc))) h0 h1 h2 (by omega)).mono ?_; rintro e w0 ⟨rfl, rfl⟩)
          | (go_at_call 32; refine (read_any (atS size place (used + k)) _ b ab cm D C' (HPR.out.old (by repeat (first | exact Upd.refl _ _ | apply Upd.drew | apply Upd.alloc))) hsl).mono ?_; rintro e w1 ⟨v1, rfl, hs1, hf1, hu1⟩; obtain ⟨k1, o1, cc1, rfl, _⟩ := hs1.shape; have S1 := Lib.hid hs1; have U1 : Hid (Upd (fun _ => False) wr w1) := Lib.hid (Upd.trans (by repeat (first | exact Upd.refl _ _ | apply Upd.drew | apply Upd.alloc)) hu1); clear hs1 hf1 hu1))
      all_goals
        have hv := HCL.out.at h0 hlt
        rw [hv] at S1
        have hBb := HB.out _ hsl
        have HSK := Lib.hid (fun h => HCL.out.skip h0 hlt h)
        have HPT := Lib.hid (HCL.out.put hlt)
        clear hv
        generalize view D C (atS size place (used + k)) = bl at S1 hBb HSK
        have HBb := Lib.hid hBb; clear hBb
        obtain ⟨nz, hnz⟩ : ∃ nz, nz = decide (bl = zeros) := ⟨_, rfl⟩
        have HND : Hid (∀ W v, Sec W v bl → Calls Try.prog 49 #[v] W (fun e w' => e = .returned (.bool nz) ∧ Upd (fun _ => False) W w')) := Lib.hid fun W v h => by rw [hnz]; exact nought_dec W v bl h HBb.out
        have HNZ := Lib.hid hnz; clear hnz
        have HWR1 := Lib.hid (HWR.out.old U1.out)
        have HPR1 := Lib.hid (HPR.out.old U1.out)
        clear c0 c1
        cases nz
        · go_wp2_with (go_at_call 49; refine (HND.out _ _ S1.out).mono ?_; rintro e w2 ⟨rfl, hu2⟩; have U2 := Lib.hid hu2; clear hu2)
          have HWR2 := Lib.hid (HWR1.out.old U2.out)
          have HPR2 := Lib.hid (HPR1.out.old U2.out)
          have c0 := HWR2.out.c0
          have c1 := HWR2.out.c1
          have hmk := run_make64
          go_region_held3 (fun w' => w'.cell? ⟨wb, 0, none⟩ = some (.pointer (some ⟨b, 0, none⟩))) (first | exact c0 | exact (HWR2.out.upd U3.out n3).c0 | exact (HWR2.out.old (by repeat (first | exact Upd.refl _ _ | apply Upd.drew | apply Upd.alloc))).c0)
            (first
              | (go_at_call 26; refine (sector_any (used + k) _ wb b size place n l f num used (HWR2.out.old (by repeat (first | exact Upd.refl _ _ | apply Upd.drew | apply Upd.alloc))) h0 h1 h2 (by omega)).mono ?_; rintro e w0 ⟨rfl, rfl⟩)
              | (go_at_call 25; refine (write_any (atS size place (used + k)) _ b ab cm D C' _ zeros (HPR2.out.old (by repeat (first | exact Upd.refl _ _ | apply Upd.drew | apply Upd.alloc))) hsl (by first | exact sec_z64 _ | exact (sec_z64 _).old (by repeat (first | exact Upd.refl _ _ | apply Upd.drew | apply Upd.alloc)))).mono ?_; rintro e w3 ⟨rfl, hp3, hu3⟩; have HP3 := Lib.hid hp3; have U3 : Hid (Upd (fun q => q = cm) w2 w3) := Lib.hid (Upd.trans (by repeat (first | exact Upd.refl _ _ | apply Upd.drew | apply Upd.alloc)) hu3); clear hp3 hu3))
          all_goals
            go_wp2_with fail
            go_roundw
            case rel => exact ⟨k + 1, _, by go_num, by omega, HP3.out, HPT.out, (HU.out.trans (U1.out.mono (fun _ _ h => h.elim))).trans ((U2.out.mono (fun _ _ h => h.elim)).trans U3.out)⟩
            case measure => simp [intOf]; omega
        · go_wp2_with (go_at_call 49; refine (HND.out _ _ S1.out).mono ?_; rintro e w2 ⟨rfl, hu2⟩; have U2 := Lib.hid hu2; clear hu2)
          go_roundw
          case rel => exact ⟨k + 1, C', by go_num, by omega, HPR1.out.old U2.out, HSK.out (of_decide_eq_true HNZ.out.symm), (HU.out.trans (U1.out.mono (fun _ _ h => h.elim))).trans (U2.out.mono (fun _ _ h => h.elim))⟩
          case measure => simp [intOf]; omega
    · have HE := Lib.hid (show used + k = size by omega)
      go_wp2_with fail
      refine (sync_any _ b ab cm D C' HPR.out).mono ?_
      rintro e w1 ⟨rfl, hp1, hu1⟩
      have HP1 := Lib.hid hp1; clear hp1
      have U1 := Lib.hid hu1; clear hu1
      go_wp2_with fail
      go_ret
      refine ⟨rfl, ⟨_, HP1.out, ⟨by rw [viewL_length, HD.out], fun q q1 q2 => ?_, fun i hi hq => ?_⟩⟩, (HU.out.mono (fun _ _ h => Or.inr h)).trans U1.out⟩
      · rw [viewL_get (by rw [HD.out]; exact atS_lt h0)]
        exact HCL.out.done q q1 (by rw [HE.out]; exact q2)
      · rw [viewL_get (by rw [HD.out]; exact hi)]
        exact HCL.out.rest i hi (fun q h1 h2 => hq q h1 (by rw [HE.out] at h2; exact h2))
end Go.Proofs.Ytchpekecgdbphaa
namespace Go.Proofs.Ytchpekecgdbphaa
open Go Go.RowKit Go.MapKept Go.ChangeMaps

theorem sectors_any (w : World) (b n : Nat) (h2 : w.cell? ⟨b, 2, none⟩ = some (.int .i64 n)) : Calls Try.prog 8 #[.pointer (some ⟨b, 0, none⟩)] w (Same w (.int .i64 n)) := by
  go_enter Try.func8, Try.ntmps8
  go_wp2
  go_ret
  exact ⟨rfl, rfl⟩
theorem failed_any (w : World) (b : Nat) (x : Bool) (h3 : w.cell? ⟨b, 3, none⟩ = some (.bool x)) : Calls Try.prog 31 #[.pointer (some ⟨b, 0, none⟩)] w (Same w (.bool x)) := by
  go_enter Try.func31, Try.ntmps31
  go_wp2
  go_ret
  exact ⟨rfl, rfl⟩
/-- What a head's writing leaves. -/
def headed (D : List (List Int)) (q : Nat) (h : List Int) : List (List Int) := viewL (viewL D (cput (fun _ => none) q zeros)) (cput (fun _ => none) q h)
theorem headed_length (D : List (List Int)) (q : Nat) (h : List Int) : (headed D q h).length = D.length := by simp [headed, viewL_length]
theorem headed_at {D : List (List Int)} {q : Nat} {h : List Int} (hq : q < D.length) : (headed D q h).getD q [] = h := by
  unfold headed
  rw [viewL_get (by rw [viewL_length]; exact hq)]
  unfold view cput
  rw [if_pos rfl]; rfl
theorem headed_other {D : List (List Int)} {q i : Nat} {h : List Int} (hi : i < D.length) (hne : i ≠ q) : (headed D q h).getD i [] = D.getD i [] := by
  have hne' : ¬ (i : Int) = q := by omega
  unfold headed
  rw [viewL_get (by rw [viewL_length]; exact hi)]
  unfold view cput
  rw [if_neg hne']
  show (viewL D _).getD i [] = _
  rw [viewL_get hi]
  unfold view
  simp [hne']
def FreshPost (w : World) (wb b ab cm : Nat) (size : Int) (D : List (List Int)) (e : Ending) (w' : World) : Prop :=
  e = .returned (.tuple #[.pointer (some ⟨wb, 0, none⟩), .slice none 0 0, .int .i64 0]) ∧ PlateAt w' b ab cm (headed D 1 (headB 1 1 0 1)) (fun _ => none) ∧ WalAt w' wb b size 1 1 0 1 1 0 ∧ Upd (fun k => k = ab ∨ k = cm ∨ k = wb) w w'
theorem WalAt.setNext {w : World} {wb b : Nat} {size n l p f next used : Int} (h : WalAt w wb b size n l p f next used) (x : Int) : WalAt (w.setCell ⟨wb, 6, none⟩ (.int .i64 x)) wb b size n l p f x used :=
  ⟨set_other h.c0 (by omega), set_other h.c1 (by omega), set_other h.c2 (by omega), set_other h.c3 (by omega), set_other h.c4 (by omega), set_other h.c5 (by omega), set_same h.c6, set_other h.c7 (by omega), tag_set h.tag _ _⟩
theorem WalAt.setUsed {w : World} {wb b : Nat} {size n l p f next used : Int} (h : WalAt w wb b size n l p f next used) (x : Int) : WalAt (w.setCell ⟨wb, 7, none⟩ (.int .i64 x)) wb b size n l p f next x :=
  ⟨set_other h.c0 (by omega), set_other h.c1 (by omega), set_other h.c2 (by omega), set_other h.c3 (by omega), set_other h.c4 (by omega), set_other h.c5 (by omega), set_other h.c6 (by omega), set_same h.c7, tag_set h.tag _ _⟩
/-- A store into the log's own block leaves the plate. -/
theorem PlateAt.set {w : World} {wb b b' ab cm : Nat} {size n l p f next used : Int} {D : List (List Int)} {C : Int → Option (List Int)} (hp : PlateAt w b ab cm D C) (hw : WalAt w wb b' size n l p f next used) (o : Nat) (x : Value) : PlateAt (w.setCell ⟨wb, o, none⟩ x) b ab cm D C := by
  obtain ⟨n1, n2, n3⟩ := hw.apart hp
  exact hp.upd ((Upd.refl (fun k => k = wb) w).setCell (p := ⟨wb, o, none⟩) (Or.inl rfl) _) n1.symm n2.symm n3.symm (fun k e => by rw [e]; exact hw.notB)
set_option maxRecDepth 100000 in
set_option maxHeartbeats 4000000 in
theorem fresh_yes (w : World) (wb b ab cm : Nat) (size : Int) (D : List (List Int)) (hw : WalAt w wb b size 0 0 0 0 0 0) (hp : PlateAt w b ab cm D (fun _ => none)) (hz : ∀ i, i < D.length → D.getD i [] = zeros) (hd : 1 < D.length) :
    Calls Try.prog 34 #[.pointer (some ⟨wb, 0, none⟩)] w (FreshPost w wb b ab cm size D) := by
  have c0 := hw.c0
  have hfew := hp.few
  obtain ⟨n1, n2, n3⟩ := hw.apart hp
  have HP := Lib.hid hp; clear hp
  have HW := Lib.hid hw; clear hw
  have HZ := Lib.hid hz; clear hz
  go_enter Try.func34, Try.ntmps34
  go_wp2_with (go_at_call 8; refine (sectors_any _ b D.length HP.out.c2).mono ?_; rintro e w' ⟨rfl, rfl⟩)
  go_loopw [13] (fun i wr => ∃ q : Nat, q ≤ D.length ∧ i = .int .i64 q ∧ Upd (fun _ => False) w wr) (fun i _ => D.length - (intOf i).toNat)
  case atStart => exact ⟨0, by omega, rfl, Upd.refl _ _⟩
  case round =>
    obtain ⟨q, hq, rfl, hu⟩ := hrel
    have c0r := (hu.cell (p := ⟨wb, 0, none⟩) HW.out.lt (fun h => h)).trans c0
    have HU := Lib.hid hu; clear hu
    by_cases hlt : q < D.length
    · have hv : view D (fun _ => none) q = zeros := by unfold view; exact HZ.out q hlt
      have hr := read_any q wr b ab cm D _ (HP.out.old HU.out) hlt
      rw [hv] at hr
      have HR := Lib.hid hr; clear hr hv
      go_wp2_with (first
        | (go_at_call 32; refine HR.out.mono ?_; rintro e w1 ⟨v1, rfl, hs1, _, hu1⟩; obtain ⟨k1, o1, c1, rfl, _⟩ := hs1.shape; have HS1 := Lib.hid hs1; have HU1 := Lib.hid hu1; clear hs1 hu1)
        | (go_at_call 49; refine (nought_zeros _ _ HS1.out).mono ?_; rintro e w2 ⟨rfl, hu2⟩; have HU2 := Lib.hid hu2; clear hu2))
      go_roundw
      case rel => exact ⟨q + 1, hlt, by go_num, (HU.out.trans HU1.out).trans HU2.out⟩
      case measure => simp [intOf]; omega
    · have HWR := Lib.hid (HW.out.old HU.out)
      have HPR := Lib.hid (HP.out.old HU.out)
      have e6 := HWR.out.c6
      have ef := HWR.out.frozen
      have HWS := Lib.hid (HWR.out.setNext 1)
      have HPS := Lib.hid (HPR.out.set HWR.out 6 (.int .i64 1))
      have HUS : Hid (Upd (fun k => k = ab ∨ k = cm ∨ k = wb) w (wr.setCell ⟨wb, 6, none⟩ (.int .i64 1))) := Lib.hid ((HU.out.mono (G := fun k => k = ab ∨ k = cm ∨ k = wb) (fun _ _ h => h.elim)).setCell (p := ⟨wb, 6, none⟩) (Or.inl (Or.inr (Or.inr rfl))) _)
      go_wp2_with fail
      generalize wr.setCell ⟨wb, 6, none⟩ (.int .i64 1) = ws at HWS HPS HUS ⊢
      refine (begin_any 1 _ wb b ab cm size 0 0 0 0 1 1 0 1 1 0 D (fun _ => none) (by decide) HWS.out HPS.out (by omega)).mono ?_
      rintro e w3 ⟨rfl, hp3, hw3, hu3⟩
      have HP3 := Lib.hid hp3; clear hp3
      have HW3 := Lib.hid hw3; clear hw3
      have HU3 := Lib.hid hu3; clear hu3
      go_wp2_with fail
      go_ret3
      exact ⟨rfl, HP3.out, HW3.out, HUS.out.trans HU3.out⟩
set_option maxRecDepth 100000 in
set_option maxHeartbeats 4000000 in
theorem fresh_no (w : World) (wb b ab cm : Nat) (size : Int) (D : List (List Int)) (hw : WalAt w wb b size 0 0 0 0 0 0) (hp : PlateAt w b ab cm D (fun _ => none)) (hz : ¬ ∀ i, i < D.length → D.getD i [] = zeros) (hB : ∀ i, i < D.length → IsB (D.getD i [])) :
    Calls Try.prog 34 #[.pointer (some ⟨wb, 0, none⟩)] w (fun e w' => e = .returned (.tuple #[.pointer none, .slice none 0 0, .int .i64 70]) ∧ Upd (fun _ => False) w w') := by
  have c0 := hw.c0
  have hfew := hp.few
  have HP := Lib.hid hp; clear hp
  have HW := Lib.hid hw; clear hw
  have HZ := Lib.hid hz; clear hz
  have HB := Lib.hid hB; clear hB
  go_enter Try.func34, Try.ntmps34
  go_wp2_with (go_at_call 8; refine (sectors_any _ b D.length HP.out.c2).mono ?_; rintro e w' ⟨rfl, rfl⟩)
  go_loopw [13] (fun i wr => ∃ q : Nat, q ≤ D.length ∧ i = .int .i64 q ∧ Upd (fun _ => False) w wr ∧ ∀ i, i < q → D.getD i [] = zeros) (fun i _ => D.length - (intOf i).toNat)
  case atStart => exact ⟨0, by omega, rfl, Upd.refl _ _, fun i h => absurd h (Nat.not_lt_zero _)⟩
  case round =>
    obtain ⟨q, hq, rfl, hu, hzq⟩ := hrel
    have c0r := (hu.cell (p := ⟨wb, 0, none⟩) HW.out.lt (fun h => h)).trans c0
    have HU := Lib.hid hu; clear hu
    have HZQ := Lib.hid hzq; clear hzq
    by_cases hlt : q < D.length
    · have hr : Calls Try.prog 32 #[.pointer (some ⟨b, 0, none⟩), .int .i64 q] wr (ReadPost wr (D.getD q [])) := read_any q wr b ab cm D _ (HP.out.old HU.out) hlt
      have hBq := HB.out q hlt
      have HNX : Hid (D.getD q [] = zeros → ∀ i, i < q + 1 → D.getD i [] = zeros) := Lib.hid fun h i hi => by
        by_cases e : i = q
        · rw [e]; exact h
        · exact HZQ.out i (by omega)
      generalize D.getD q [] = bl at hr hBq HNX
      obtain ⟨nz, hnz⟩ : ∃ nz, nz = decide (bl = zeros) := ⟨_, rfl⟩
      have HBQ := Lib.hid hBq; clear hBq
      have HND : Hid (∀ W v, Sec W v bl → Calls Try.prog 49 #[v] W (fun e w' => e = .returned (.bool nz) ∧ Upd (fun _ => False) W w')) := Lib.hid fun W v h => by rw [hnz]; exact nought_dec W v bl h HBQ.out
      have HNZ := Lib.hid hnz; clear hnz
      have HR := Lib.hid hr; clear hr
      cases nz
      · go_wp2_with (first
          | (go_at_call 32; refine HR.out.mono ?_; rintro e w1 ⟨v1, rfl, hs1, _, hu1⟩; obtain ⟨k1, o1, c1, rfl, _⟩ := hs1.shape; have HS1 := Lib.hid hs1; have HU1 := Lib.hid hu1; clear hs1 hu1)
          | (go_at_call 49; refine (HND.out _ _ HS1.out).mono ?_; rintro e w2 ⟨rfl, hu2⟩; have HU2 := Lib.hid hu2; clear hu2))
        go_ret3
        exact ⟨rfl, (HU.out.trans HU1.out).trans HU2.out⟩
      · go_wp2_with (first
          | (go_at_call 32; refine HR.out.mono ?_; rintro e w1 ⟨v1, rfl, hs1, _, hu1⟩; obtain ⟨k1, o1, c1, rfl, _⟩ := hs1.shape; have HS1 := Lib.hid hs1; have HU1 := Lib.hid hu1; clear hs1 hu1)
          | (go_at_call 49; refine (HND.out _ _ HS1.out).mono ?_; rintro e w2 ⟨rfl, hu2⟩; have HU2 := Lib.hid hu2; clear hu2))
        go_roundw
        case rel => exact ⟨q + 1, hlt, by go_num, (HU.out.trans HU1.out).trans HU2.out, HNX.out (of_decide_eq_true HNZ.out.symm)⟩
        case measure => simp [intOf]; omega
    · exact absurd (fun i hi => HZQ.out i (by omega)) HZ.out
end Go.Proofs.Ytchpekecgdbphaa
