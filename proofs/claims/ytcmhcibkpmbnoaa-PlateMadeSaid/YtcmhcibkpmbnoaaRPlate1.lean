/-
  The reference's plate: own, all, of whatever bytes.
-/
import Derived.Test.YtcmhcibkpmbnoaaByX
set_option linter.unusedVariables false
namespace Go.Proofs.Ytcmhcibkpmbnoaa
open Go Go.RowKit Go.MapKept Go.ChangeMaps

/-- Bytes of its own. -/
def ROwn (w : World) (l : List Int) (e : Ending) (w' : World) : Prop := ∃ v', e = .returned v' ∧ Own w.heap.size w' v' l ∧ Upd (fun _ => False) w w'
theorem rown_any (w : World) (v : Value) (l : List Int) (h : BytV w v l) (hl : l.length ≤ 1099511627776) : Calls Try.prog 42 #[v] w (ROwn w l) := by
  obtain ⟨a, c, rfl⟩ := h.shape
  have HB := Lib.hid h; clear h
  go_enter Try.func42, Try.ntmps42
  go_wp2_with (at_builtin; go_must (refine wpList_append_byt2 rfl _ _ rfl w.heap.size _ (.slice a l.length c) [] l rfl ?hown rfl (HB.out.old ((Upd.refl _ _).alloc _)) (by simpa using hl) (by simp) ?_))
  case hown => exact World.ownsRow_made w (base := w.heap.size) (e := 5) (size := 1) #[] 0 (Nat.le_refl _) (Nat.zero_le _) (by simp)
  intro v' w' hown' hu
  have hu' : Upd (fun _ => False) w w' := ((Upd.refl (fun _ => False) w).alloc (.cells #[] 5)).trans' hu (fun i hi e => by simp [Value.ownBlock] at e; omega)
  have HO : Hid (Own w.heap.size w' v' l) := Lib.hid hown'
  clear hown' hu
  go_wp2_with fail
  go_ret
  exact ⟨_, rfl, HO.out, hu'⟩
theorem own_sec {B : Nat} {w : World} {v : Value} {l : List Int} (h : Own B w v l) (hl : l.length = 64) : Sec w v l ∧ Fresh B v := by
  unfold Own at h
  rw [hl] at h
  exact ⟨sec_of_owns hl h, Fresh.of_owns h⟩
theorem rown_sec (w : World) (v : Value) (l : List Int) (h : BytV w v l) (hl : l.length = 64) : Calls Try.prog 42 #[v] w (ClonePost w l) := by
  refine (rown_any w v l h (by omega)).mono ?_
  rintro e w' ⟨v', rfl, ho, hu⟩
  obtain ⟨h1, h2⟩ := own_sec ho hl
  exact ⟨v', rfl, h1, h2, hu⟩
/-- All texts are sectors. -/
def All64 (L : List (List Int)) : Prop := ∀ i, i < L.length → (L.getD i []).length = 64
set_option maxHeartbeats 2000000 in
theorem rall_any (w : World) (v : Value) (L : List (List Int)) (hs : Txt w v L) (h64 : All64 L) (hp : 0 < L.length) (hf : L.length ≤ 8192) :
    Calls Try.prog 20 #[v] w (SecsPost w L) := by
  obtain ⟨va, vc, rfl⟩ := hs.sl
  have HS := Lib.hid hs; clear hs
  have H64 := Lib.hid h64; clear h64
  go_enter Try.func20, Try.ntmps20
  go_wp2_with fail
  go_loopw [3, 8] (fun v i wr => CloneRel w L v i wr) (fun _ i _ => L.length - (intOf i).toNat)
  case atStart => exact ⟨0, [], Nat.zero_le _, rfl, rfl, ⟨rfl, .inl ⟨rfl, rfl⟩⟩, fun j hj => absurd hj (Nat.not_lt_zero _), Upd.refl _ _⟩
  case round =>
    obtain ⟨q, xs, hq, rfl, hxl, ho, hsec, hu⟩ := hrel
    have HO := Lib.hid ho; clear ho
    have HSEC := Lib.hid hsec; clear hsec
    have HU := Lib.hid hu; clear hu
    by_cases hlt : q < L.length
    · obtain ⟨th, tp, tc, sv, e, hc, hsv⟩ := (HS.out.old HU.out).at_ q hlt
      cases e
      have hl64 := H64.out q hlt
      obtain ⟨sa, sc, hsh⟩ := hsv.shape
      rw [hl64] at hsh
      subst hsh
      have HSV := Lib.hid (rown_sec _ _ _ hsv hl64); clear hsv
      obtain ⟨i0, hi, hz0, hz1, hz2⟩ := info_parts info_sl
      have HI0 := Lib.hid hi; clear hi
      have HZ0 := Lib.hid hz0; clear hz0
      have HZ1 := Lib.hid hz1; clear hz1
      have HZ2 := Lib.hid hz2; clear hz2
      go_wp2_with fail
      refine HSV.out.mono ?_
      rintro e w1 ⟨nv, rfl, hnv, hfr, hu1⟩
      obtain ⟨nk, no, nc, rfl, _⟩ := hnv.shape
      have HNV := Lib.hid hnv; clear hnv
      have HU1 := Lib.hid hu1; clear hu1
      clear hfr HSV
      go_wp2_with (at_builtin; go_must (refine wpList_append_own _ rfl _ _ 22 rfl w.heap.size 32 i0 _ 1 24 Try.underlying22 HI0.out HZ0.out HZ1.out HZ2.out rfl (by decide) _ q xs rfl ?hown ⟨w1.heap.size, 0, none⟩ 1 1 [.slice (some ⟨nk, no, none⟩) 64 nc] rfl rfl ?hcell ?hone ?hlen ?hbytes ?hbase ?_))
      case hown => exact owns_upd HO.out (HU1.out.alloc _) (fun _ _ h => h)
      case hcell =>
        intro j u hu
        rw [Addr.add_lit]
        rw [World.cell?_alloc_at _ _ _ _ (by simp)]
        simpa using hu
      case hone => simp [Value.oneCell']
      case hlen => unfold maxLen; omega
      case hbytes => omega
      case hbase => have := HU.out.size; have := HU1.out.size; simp; omega
      intro v' w' hown' hg _
      have HG := Lib.hid hg; clear hg
      have HO' := Lib.hid hown'; clear hown'
      go_wp2_with fail
      go_roundw
      case rel => exact clone_step hlt hxl HO.out HSEC.out HU.out HU1.out HNV.out HO'.out HG.out
      case measure => simp [intOf]; omega
    · have hql : q = L.length := by omega
      obtain ⟨h', hs', hh'⟩ := clone_done hp hql hxl HO.out HSEC.out
      go_wp2_with fail
      go_ret
      exact ⟨_, h', rfl, hs', hh', HU.out⟩
end Go.Proofs.Ytcmhcibkpmbnoaa
