/-
  Send of any message.
-/
import Derived.Test.YtfodgohleioflaaPostOwn
namespace Go.Proofs.Ytfodgohleioflaa
open Go Go.RowKit Go.MapKept Go.ChangeMaps
set_option linter.unusedVariables false

attribute [local go_sem ↓] hide_load
/-- What Send leaves: one more, as a message of its own. -/
def SendD (w : World) (b mb : Nat) (last : Int) (M : List (Int × Value)) (d : MsgD) (e : Ending) (w' : World) : Prop :=
  e = .returned (.tuple #[.int .i64 (last + 1), .int .i64 0]) ∧ ∃ C', PostAt w' b mb (last + 1) (aput M (last + 1) (.agg C')) ∧ MsgAt (Mem w.heap.size w') w' C' d ∧ Upd (fun k => k = b ∨ k = mb) w w'
def CutD (w : World) (b mb : Nat) (last : Int) (M : List (Int × Value)) (d : MsgD) (wc : World) : Prop :=
  ∃ C', PostAt wc b mb last (aput M last (.agg C')) ∧ MsgAt (Mem w.heap.size wc) wc C' d ∧ Upd (fun k => k = b ∨ k = mb) w wc
set_option maxRecDepth 100000 in
set_option maxHeartbeats 4000000 in
theorem send_any (w : World) (b mb : Nat) (last : Int) (M : List (Int × Value)) (S : Nat → Prop) (C : Array Value) (d : MsgD) (hC : MsgAt S w C d) (hSb : ∀ k, S k → ¬ (k = b ∨ k = mb)) (h : PostAt w b mb last M) (hM : M.length < 4000) (hl0 : 0 ≤ last) (hl : last < 1000000) :
    Calls Try.prog 8 #[.pointer (some ⟨b, 0, none⟩), .agg C] w (SendD w b mb last M d) := by
  obtain ⟨hs, hone⟩ := msgC_one hC
  have HS := Lib.hid hs; clear hs
  have HONE := Lib.hid hone; clear hone
  have HC := Lib.hid hC; clear hC
  have HSB := Lib.hid hSb; clear hSb
  have c0 := h.c0
  have c1 := h.c1
  have f1 := h.f1
  obtain ⟨lb, lm, lne⟩ := h.lt
  have pv := put_msg
  have HST := Lib.hid (fun w' (u : Upd (fun _ => False) w w') => state_ok w' b mb last M (h.old u))
  have HM := Lib.hid h.m
  have HH := Lib.hid h; clear h
  go_enter Try.func8, Try.ntmps8
  go_upto_region 7 with (first
    | (go_at_call 21; refine (HST.out _ ((Upd.refl _ _).alloc _)).mono ?_; rintro e w' ⟨rfl, rfl⟩)
    | (at_len; refine wpList_len_im rfl _ rfl Try.underlying58 rfl (l := M) (by rw [im_alloc_old _ lm]; exact HM.out) ?_))
  have hsz : (w.setCell ⟨b, 1, none⟩ (.int .i64 (last + 1))).heap.size = w.heap.size := by simp
  have hp1 : PostAt ((w.setCell ⟨b, 1, none⟩ (.int .i64 (last + 1))).alloc (.cells C 34)) b mb (last + 1) M :=
    ⟨by rw [World.cell?_alloc_old _ _ _ (by show b ≠ _; omega), World.cell?_setCell_other _ _ _ _ (fun e => by injection e; omega)]; exact c0,
      by rw [World.cell?_alloc_old _ _ _ (by show b ≠ _; omega), cell_setCell_self, c1]; rfl,
      by rw [World.frozen?_alloc_old _ _ _ (by show b ≠ _; omega)]; simp [go_sem]; exact f1,
      by rw [im_alloc_old _ (by rw [hsz]; exact lm), im_setCell]; exact HM.out⟩
  have hb1 : ((w.setCell ⟨b, 1, none⟩ (.int .i64 (last + 1))).alloc (.cells C 34)).heap[w.heap.size]? = some (.cells C 34 (0, 0)) := by
    have := (MapKept.heap_alloc (w.setCell ⟨b, 1, none⟩ (.int .i64 (last + 1))) (.cells C 34)).1
    rw [hsz] at this; exact this
  have hu1 : Upd (fun k => k = b ∨ k = mb) w ((w.setCell ⟨b, 1, none⟩ (.int .i64 (last + 1))).alloc (.cells C 34)) := ((Upd.refl _ _).setCell (by exact Or.inl (Or.inl rfl)) _).alloc _
  clear c0 c1 f1
  generalize ((w.setCell ⟨b, 1, none⟩ (.int .i64 (last + 1))).alloc (.cells C 34)) = w1 at hp1 hu1 hb1 ⊢
  have c0 := hp1.c0
  have c1 := hp1.c1
  have hltb := hp1.lt.1
  have HP1 := Lib.hid hp1; clear hp1
  have HU1 := Lib.hid hu1; clear hu1
  have hlt0 := (Array.getElem?_eq_some_iff.1 hb1).1
  have hne0 : w.heap.size ≠ mb := by omega
  have HB1 := Lib.hid hb1; clear hb1
  go_cut [] (fun wc => CutD w b mb (last + 1) M d wc)
  case first =>
    go_region_held3 (fun w' => w'.cell? ⟨b, 0, none⟩ = some (.map (some mb)) ∧ w'.cell? ⟨b, 1, none⟩ = some (.int .i64 (last + 1)) ∧ (LoadMsg (.pointer (some ⟨w.heap.size, 0, none⟩))).run Try.prog w' = .ok (.agg C) w')
      (first | exact ⟨c0, c1, loadMsg_of HB1.out HS.out⟩ | exact ⟨wb0, wb1, loadMsg_of WH.out HS.out⟩ | exact ⟨by rw [cell_mput]; exact wb0, by rw [cell_mput]; exact wb1, loadMsg_of ((heap_mput_other _ _ hne0).trans WH.out) HS.out⟩)
      ((go_at_call 22; refine (own_any _ S C d (by first | exact HC.out.upd HU1.out HSB.out | exact (HC.out.upd HU1.out HSB.out).old ((Upd.refl _ _).drew))).mono ?_; rintro e w2 ⟨C2, rfl, hm2, hu2⟩; have HM2 := Lib.hid hm2; clear hm2; have hu3 : Upd (fun _ => False) w1 w2 := (by first | exact hu2 | exact ((Upd.refl _ _).drew).trans hu2); have wh := (hu3.block _ hlt0 (fun h => h)).trans HB1.out; have WH := Lib.hid wh; clear wh; have wb0 := (hu3.cell (p := ⟨b, 0, none⟩) hltb (fun h => h)).trans c0; have wb1 := (hu3.cell (p := ⟨b, 1, none⟩) hltb (fun h => h)).trans c1; have wim : w2.im mb = some M := (hu3.im HP1.out.lt.2.1 (fun h => h)).trans HP1.out.m; have HU3 := Lib.hid hu3; clear hu3 hu2))
    all_goals
      go_wp2_with fail
      go_meet
      case rel =>
        have hP2 := HP1.out.old HU3.out
        have hu4 := HU1.out.trans (HU3.out.mono (G := fun k => k = b ∨ k = mb) (fun _ _ h => h.elim))
        refine ⟨C2, ⟨by rw [cell_mput]; exact hP2.c0, by rw [cell_mput]; exact hP2.c1, by rw [frozen_mput]; exact hP2.f1, im_mput_same hP2.m _⟩, ?_, hu4.mput (by exact Or.inl (Or.inr rfl)) _ _⟩
        have hs1 := HU1.out.size
        have hum : Upd (fun k => k = mb) w2 (w2.mput mb (.int .i64 (last + 1)) (.agg C2)) := (Upd.refl (fun k => k = mb) w2).mput (Or.inl rfl) _ _
        refine (HM2.out.upd hum (fun k hk e => ?_)).mono (fun k hk => ?_)
        · have h1 := hk.1
          simp only [World.drew] at h1
          omega
        · refine (hk.upd hum (fun e => ?_)).low ?_
          · have h1 := hk.1
            simp only [World.drew] at h1
            omega
          · simp only [World.drew]; omega
  case rest =>
    obtain ⟨C2, hp, hm, hu⟩ := hcut
    have c1 := hp.c1
    have HM2 := Lib.hid hm; clear hm
    have HP := Lib.hid hp; clear hp
    have HU := Lib.hid hu; clear hu
    go_wp2_with fail
    go_ret2
    exact ⟨rfl, C2, HP.out, HM2.out, HU.out⟩
end Go.Proofs.Ytfodgohleioflaa
