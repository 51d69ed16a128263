/-
  The reference's plate: New, Sync.
-/
import Derived.Test.YtcmhcibkpmbnoaaRPlate5
import Derived.Test.YtcmhcibkpmbnoaaRPlate6
set_option linter.unusedVariables false
namespace Go.Proofs.Ytcmhcibkpmbnoaa
open Go Go.RowKit Go.MapKept Go.ChangeMaps

noncomputable def z64r : Array Value := madeCells #[.int .u8 0] 64
theorem run_make64r (w : World) : (Instr.makeSlice 32 (.int .i64 64) (.int .i64 64)).run Try.prog w = .ok (.slice (some ⟨w.heap.size, 0, none⟩) 64 64) (w.alloc (.cells z64r 5)) := by
  obtain ⟨i0, hi, hz0, hz1, hz2⟩ := info_parts info_u8
  have h0 := run_make (P := Try.prog) w 32 5 i0 _ Try.underlying32 hi hz0 .i64 .i64 64 64 (by omega) (by omega) (by rw [hz2]; omega) (by omega)
  rw [hz1] at h0
  exact h0
theorem sec_z64r (w : World) : Sec (w.alloc (.cells z64r 5)) (.slice (some ⟨w.heap.size, 0, none⟩) 64 64) zeros := by
  refine ⟨w.heap.size, 0, 0, _, rfl, by simp [zeros], (MapKept.heap_alloc w _).1, fun j hj => ?_⟩
  rw [World.cell?_alloc_at _ _ _ _ (by simp)]
  have h1 : zeros.getD j 0 = 0 := by
    unfold zeros
    rw [List.getD_eq_getElem?_getD, List.getElem?_replicate, if_pos hj]
    rfl
  rw [h1]
  simp [z64r, madeCells, hj, Nat.mod_one]
theorem rep_get {n i : Nat} (h : i < n) : (List.replicate n zeros).getD i [] = zeros := by
  rw [List.getD_eq_getElem?_getD, List.getElem?_replicate, if_pos h]; rfl
theorem rnew_bad (n : Int) (w : World) (hn : ¬ (1 ≤ n ∧ n ≤ 8192)) : Calls Try.prog 12 #[.int .i64 n] w (Same w (.tuple #[.pointer none, .int .i64 1])) := by
  by_cases h1 : n < 1
  · go_enter Try.func12, Try.ntmps12
    go_wp2_with fail
    go_ret2
    exact ⟨rfl, rfl⟩
  · have h2 : 8192 < n := by omega
    go_enter Try.func12, Try.ntmps12
    go_wp2_with fail
    go_ret2
    exact ⟨rfl, rfl⟩
set_option maxRecDepth 100000 in
set_option maxHeartbeats 4000000 in
theorem rnew_ok (n : Nat) (w : World) (h1 : 0 < n) (h2 : n ≤ 8192) : Calls Try.prog 12 #[.int .i64 n] w (ROfP w (List.replicate n zeros)) := by
  have hlen : (List.replicate n zeros).length = n := List.length_replicate
  have HZ : Hid (∀ i, i < n → (List.replicate n zeros).getD i [] = zeros) := Lib.hid fun i hi => rep_get hi
  generalize List.replicate n zeros = L at hlen HZ ⊢
  subst hlen
  have i1 : ¬ (L.length : Int) < 1 := by omega
  have i2 : ¬ (8192 : Int) < (L.length : Int) := by omega
  go_enter Try.func12, Try.ntmps12
  go_wp2_with fail
  go_loopw [4, 12] (fun v i wr => CloneRel w L v i wr) (fun _ i _ => L.length - (intOf i).toNat)
  case atStart => exact ⟨0, [], Nat.zero_le _, rfl, rfl, ⟨rfl, .inl ⟨rfl, rfl⟩⟩, fun j hj => absurd hj (Nat.not_lt_zero _), Upd.refl _ _⟩
  case round =>
    obtain ⟨q, xs, hq, rfl, hxl, ho, hsec, hu⟩ := hrel
    have HO := Lib.hid ho; clear ho
    have HSEC := Lib.hid hsec; clear hsec
    have HU := Lib.hid hu; clear hu
    by_cases hlt : q < L.length
    · have hmk := run_make64r
      have hlt2 : (q : Int) < (L.length : Int) := by omega
      obtain ⟨i0, hi, hz0, hz1, hz2⟩ := info_parts info_sl
      have HI0 := Lib.hid hi; clear hi
      have HZ0 := Lib.hid hz0; clear hz0
      have HZ1 := Lib.hid hz1; clear hz1
      have HZ2 := Lib.hid hz2; clear hz2
      go_wp2_with (at_builtin; go_must (refine wpList_append_own _ rfl _ _ 22 rfl w.heap.size 32 i0 _ 1 24 Try.underlying22 HI0.out HZ0.out HZ1.out HZ2.out rfl (by decide) _ q xs rfl ?hown ⟨wr.heap.size + 1, 0, none⟩ 1 1 [.slice (some ⟨wr.heap.size, 0, none⟩) 64 64] (by simp [Act.eval, go_sem]) rfl ?hcell ?hone ?hlen ?hbytes ?hbase ?_))
      case hown => exact owns_upd HO.out (((Upd.refl (fun _ => False) _).alloc _).alloc _) (fun _ _ h => h)
      case hcell =>
        intro j u hu
        cases j with
        | zero => cases hu; simp [go_sem, Addr.add]
        | succ j => cases hu
      case hone => simp [Value.oneCell']
      case hlen => unfold maxLen; omega
      case hbytes => omega
      case hbase => have := HU.out.size; simp; omega
      intro v' w' hown' hg _
      have HG := Lib.hid hg; clear hg
      have HO' := Lib.hid hown'; clear hown'
      go_wp2_with fail
      go_roundw
      case rel => exact clone_step hlt hxl HO.out HSEC.out HU.out ((Upd.refl _ _).alloc _) (by rw [HZ.out q hlt]; exact sec_z64r wr) HO'.out HG.out
      case measure => simp [intOf]; omega
    · have hql : q = L.length := by omega
      obtain ⟨h', hs', hh'⟩ := clone_done (by omega) hql hxl HO.out HSEC.out
      obtain ⟨c', _, rfl, _, _, _⟩ := id hs'
      have HS' := Lib.hid hs'; clear hs'
      have hlt2 : ¬ (q : Int) < (L.length : Int) := by omega
      go_wp2_with fail
      refine (rof_ok _ _ L HS'.out.txt (fun i hi => by rw [HZ.out i hi]; rfl) (by omega) (by omega)).mono ?_
      rintro e w2 ⟨x, hb, hw, hd, rfl, hr⟩
      have HR := Lib.hid hr; clear hr
      have hz := HU.out.size
      obtain ⟨g1, g2, g3, g4⟩ := HR.out.ge
      go_wp2_with fail
      go_ret2
      exact ⟨x, hb, hw, hd, rfl, HR.out.r, ⟨by omega, by omega, by omega, by omega⟩, HU.out.trans HR.out.up⟩
/-- What a sync leaves. -/
def syB (B V : Nat → List Int) (T : Nat → Bool) (i : Nat) : List Int := if T i = true then V i else B i
def RSyncP (w : World) (x hb hw hd N : Nat) (B V : Nat → List Int) (T : Nat → Bool) (e : Ending) (w' : World) : Prop :=
  e = .returned (.int .i64 0) ∧ RAt w' x hb hw hd N (syB B V T) (syB B V T) (fun _ => false) ∧ Upd (fun k => k = hb ∨ k = hw ∨ k = hd) w w'
theorem crB_sync {B V : Nat → List Int} {T : Nat → Bool} {N i : Nat} (hi : i < N) : syB B V T i = crB B V T (dl T N) (-1) 0 i := by
  unfold syB crB
  by_cases h : T i = true
  · rw [if_pos h, if_pos ⟨h, (mem_dl T N i).2 ⟨i, rfl, hi, h⟩⟩]
  · rw [if_neg h, if_neg (fun e => h e.1), if_neg (fun e => h e.1)]
theorem rsync_any (w : World) (x hb hw hd N : Nat) (B V : Nat → List Int) (T : Nat → Bool) (h : RAt w x hb hw hd N B V T) :
    Calls Try.prog 25 #[.pointer (some ⟨x, 0, none⟩)] w (RSyncP w x hb hw hd N B V T) := by
  have c3 := h.c3
  have hl := h.lt
  have hfew := h.few
  have HD := Lib.hid (rdirty_any w x hb hw hd N B V T h)
  have HR := Lib.hid h; clear h
  have hdl := dl_length T N
  go_enter Try.func25, Try.ntmps25
  go_wp2_with fail
  refine HD.out.mono ?_
  rintro e w1 ⟨v1, rfl, ho1, hu1⟩
  obtain ⟨a1, c1, rfl⟩ := ho1.shape
  have HO1 := Lib.hid ho1; clear ho1
  have HU1 := Lib.hid hu1; clear hu1
  go_wp2_with fail
  refine (rcrash_any w1 x hb hw hd N B V T _ (dl T N) (-1) 0 0 rfl (by omega) (HR.out.old HU1.out) (HO1.out.ints (by omega)) (by omega) (fun _ kb o m cc e => by cases e; have := HO1.out.ge kb rfl; omega)).mono ?_
  rintro e w2 ⟨rfl, hr2, hu2⟩
  have HR2 := Lib.hid hr2; clear hr2
  go_wp2_with fail
  go_ret
  exact ⟨rfl, HR2.out.cong (fun i hi => crB_sync hi) (fun i hi => crB_sync hi) (fun i hi => rfl), (HU1.out.mono (fun _ _ h => h.elim)).trans hu2⟩
end Go.Proofs.Ytcmhcibkpmbnoaa
