/-
  heap.Init and heap.Pop of a turn.
-/
import Derived.Test.YtjocoaaeboapcaaPlace1
namespace Go.Proofs.Ytjocoaaeboapcaa
open Go Go.RowKit Go.MapKept Go.ChangeMaps Heap

/-- A turn that is a heap of these members. -/
def HeapAt (w : World) (b g o cap : Nat) (fr : Int) (s : List Int) : Prop := ∃ l, TurnAt w b g o cap fr l ∧ l.Perm s ∧ From (rk fr) l 0 l.length
theorem HeapAt.upd {F : Nat → Prop} {w w' : World} {b g o cap : Nat} {fr : Int} {l : List Int} (h : HeapAt w b g o cap fr l) (u : Upd F w w') (hb : ¬ F b) (hg : ¬ F g) : HeapAt w' b g o cap fr l := by
  obtain ⟨l', h1, h2⟩ := h
  exact ⟨l', h1.upd u hb hg, h2⟩
structure InitPost (w : World) (b g o cap : Nat) (fr : Int) (l : List Int) (e : Ending) (w' : World) : Prop where
  e : e = .returned (.tuple #[])
  t : HeapAt w' b g o cap fr l
  u : Upd (fun k => k = g) w w'
theorem down_at (w : World) (b g o cap : Nat) (fr : Int) (l : List Int) (x y : Int) (i0 n : Nat) (ei : x = i0) (ej : y = n) (h : TurnAt w b g o cap fr l) (hn : n ≤ l.length) (hi : i0 ≤ 16) (hF : From (rk fr) l (i0 + 1) n) :
    Calls Try.prog 26 #[.iface 49 (.pointer (some ⟨b, 0, none⟩)), .int .i64 x, .int .i64 y] w (DownPost w b g o cap fr l i0 n) := by
  subst ei ej
  exact down_any w b g o cap fr l i0 n h hn hi hF
def InitI (w : World) (b g o cap : Nat) (fr : Int) (l : List Int) (i : Int) (wr : World) : Prop := ∃ lk, TurnAt wr b g o cap fr lk ∧ lk.Perm l ∧ From (rk fr) lk (i + 1).toNat l.length ∧ Upd (fun k => k = g) w wr
theorem init_any (w : World) (b g o cap : Nat) (fr : Int) (l : List Int) (h : TurnAt w b g o cap fr l) :
    Calls Try.prog 25 #[.iface 49 (.pointer (some ⟨b, 0, none⟩))] w (InitPost w b g o cap fr l) := by
  have mlen := m_len
  have hf := h.few
  have hst : InitI w b g o cap fr l ((l.length : Int) / 2 - 1) w := ⟨l, h, List.Perm.refl _, from_half _ _ _ _ (by omega), Upd.refl _ _⟩
  have HST := Lib.hid hst; clear hst
  have HH := Lib.hid h; clear h
  go_enter Try.func25, Try.ntmps25
  go_wp2_with fail
  refine (len_any w b g o cap fr l HH.out).mono ?_
  rintro e w' ⟨rfl, rfl⟩
  go_wp2_with fail
  go_loopw [3] (fun i wr => ∃ x : Int, i = .int .i64 x ∧ -1 ≤ x ∧ x ≤ 16 ∧ InitI w b g o cap fr l x wr) (fun i _ => (intOf i + 1).toNat)
  case atStart => exact ⟨_, rfl, by omega, by omega, HST.out⟩
  case round =>
    obtain ⟨x, rfl, hx1, hx2, lk, ht, hp, hF, hu⟩ := hrel
    have hlen : lk.length = l.length := hp.length_eq
    have HT := Lib.hid ht; clear ht
    have HP := Lib.hid hp; clear hp
    have HF := Lib.hid hF; clear hF
    have HU := Lib.hid hu; clear hu
    have HLEN := Lib.hid hlen; clear hlen
    by_cases c : 0 ≤ x
    · go_wp2_with fail
      refine (down_at _ b g o cap fr lk x l.length x.toNat l.length (by omega) rfl HT.out (by rw [HLEN.out]; exact Nat.le_refl _) (by omega) (by have := HF.out; rw [show (x + 1).toNat = x.toNat + 1 from by omega] at this; exact this)).mono ?_
      rintro e w' ⟨⟨r, rfl⟩, ⟨l', ht', hp', _, hF'⟩, hu'⟩
      have HT' := Lib.hid ht'; clear ht'
      have HP' := Lib.hid hp'; clear hp'
      have HF' := Lib.hid hF'; clear hF'
      have HU' := Lib.hid hu'; clear hu'
      go_wp2_with fail
      go_roundw
      case rel => exact ⟨x - 1, by go_num, by omega, by omega, l', HT'.out, HP'.out.trans HP.out, by rw [show (x - 1 + 1).toNat = x.toNat from by omega]; exact HF'.out, HU.out.trans HU'.out⟩
      case measure => simp [intOf]; omega
    · obtain rfl : x = -1 := by omega
      go_wp2_with fail
      go_end0
      exact ⟨rfl, ⟨lk, HT.out, HP.out, by rw [HLEN.out]; exact HF.out⟩, HU.out⟩
/-- The least one comes out. -/
structure HPopPost (w : World) (b g o cap : Nat) (fr x : Int) (s : List Int) (e : Ending) (w' : World) : Prop where
  e : e = .returned (.iface 3 (.int .i64 x))
  t : HeapAt w' b g o cap fr s
  u : Upd (fun k => k = b ∨ k = g) w w'
theorem hpop_any (w : World) (b g o cap : Nat) (fr x : Int) (s : List Int) (h : HeapAt w b g o cap fr (x :: s)) (hs : (x :: s).Pairwise (fun a c => rk fr a < rk fr c)) :
    Calls Try.prog 18 #[.iface 49 (.pointer (some ⟨b, 0, none⟩))] w (HPopPost w b g o cap fr x s) := by
  obtain ⟨l, ht, hp, hF⟩ := h
  have hlen : l.length = s.length + 1 := by rw [hp.length_eq]; rfl
  have hhead := head_is hF hp hs
  obtain ⟨n, hn⟩ : ∃ n, n = s.length := ⟨_, rfl⟩
  rw [← hn] at hlen
  have hf := ht.few
  have mlen := m_len
  have mswap := m_swap
  have mpop := m_pop
  have HF := Lib.hid hF; clear hF
  have HT := Lib.hid ht; clear ht
  have HP := Lib.hid hp; clear hp
  have HH := Lib.hid hhead; clear hhead
  have HL := Lib.hid hlen
  have hn16 : n < 16 := by omega
  have HN := Lib.hid hn; clear hn
  clear hs hlen hf
  go_enter Try.func18, Try.ntmps18
  go_wp2_with fail
  refine (len_any w b g o cap fr l HT.out).mono ?_
  rw [HL.out]
  rintro e w' ⟨rfl, rfl⟩
  go_wp2_with fail
  refine (swap_at _ b g o cap fr l HT.out _ _ 0 n (by omega) (by omega) (by rw [HL.out]; omega) (by rw [HL.out]; omega)).mono ?_
  rintro e w1 ⟨rfl, ht1, hu1⟩
  have HT1 := Lib.hid ht1; clear ht1
  have HU1 := Lib.hid hu1; clear hu1
  have hF1 : From (rk fr) (swp l 0 n) (0 + 1) n := fun c h1 h2 h3 => by
    rw [swp_at _ _ _ _ (by rw [HL.out]; omega) (by rw [HL.out]; omega), swp_at _ _ _ _ (by rw [HL.out]; omega) (by rw [HL.out]; omega), if_neg (by omega), if_neg (by omega), if_neg (by omega), if_neg (by omega)]
    exact HF.out c h1 (by rw [HL.out]; omega) (by omega)
  have HF1 := Lib.hid hF1; clear hF1
  go_wp2_with fail
  refine (down_at _ b g o cap fr _ _ _ 0 n (by omega) (by omega) HT1.out (by rw [swp_length, HL.out]; omega) (by omega) HF1.out).mono ?_
  rintro e w2 ⟨⟨r, rfl⟩, ⟨l2, ht2, hp2, hpast, hF2⟩, hu2⟩
  have hl2 : l2.length = n + 1 := by rw [hp2.length_eq, swp_length]; exact HL.out
  have hlast : at0 l2 n = x := by
    rw [hpast n (Nat.le_refl _), swp_at _ _ _ _ (by rw [HL.out]; omega) (by rw [HL.out]; omega), if_pos rfl]; exact HH.out
  have hperm : (l2.take n).Perm s := dropLast_perm hl2 ((hp2.trans (swp_perm _ _ _ (by rw [HL.out]; omega) (by rw [HL.out]; omega))).trans HP.out) hlast
  have hfr : From (rk fr) (l2.take n) 0 (l2.take n).length := take_from hF2 (by omega)
  have HT2 := Lib.hid ht2; clear ht2
  have HU2 := Lib.hid hu2; clear hu2
  have HPP := Lib.hid hperm; clear hperm
  have HFF := Lib.hid hfr; clear hfr
  have HL2 := Lib.hid hl2; clear hl2
  have HLA := Lib.hid hlast; clear hlast
  clear hpast hp2 hF2
  go_wp2_with fail
  refine (pop_any _ b g o cap n fr l2 HT2.out HL2.out).mono ?_
  rw [HLA.out]
  rintro e w3 ⟨rfl, ht3, hu3⟩
  have HT3 := Lib.hid ht3; clear ht3
  have HU3 := Lib.hid hu3; clear hu3
  go_wp2_with fail
  go_ret
  exact ⟨rfl, ⟨_, HT3.out, HPP.out, HFF.out⟩, ((HU1.out.trans HU2.out).mono (fun _ _ e => Or.inr e)).trans (HU3.out.mono (fun _ _ e => Or.inl e))⟩
end Go.Proofs.Ytjocoaaeboapcaa
