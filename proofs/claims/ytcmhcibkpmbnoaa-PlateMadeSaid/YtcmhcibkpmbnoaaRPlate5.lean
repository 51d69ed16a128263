/-
  The reference's plate: Crash.
-/
import Derived.Test.YtcmhcibkpmbnoaaRStep
set_option linter.unusedVariables false
namespace Go.Proofs.Ytcmhcibkpmbnoaa
open Go Go.RowKit Go.MapKept Go.ChangeMaps

/-- What a crash leaves of sector i. -/
def crB (B V : Nat → List Int) (T : Nat → Bool) (K : List Int) (t : Int) (c : Nat) (i : Nat) : List Int :=
  if T i = true ∧ (i : Int) ∈ K then V i else if T i = true ∧ (i : Int) = t then (V i).take c ++ (B i).drop c else B i
/-- The first q are turned. -/
def upTo {α : Type} (q : Nat) (f g : Nat → α) : Nat → α := fun j => if j < q then f j else g j
theorem upTo_zero {α : Type} (f g : Nat → α) : upTo 0 f g = g := by
  funext j; unfold upTo; rw [if_neg (Nat.not_lt_zero _)]
theorem upTo_at {α : Type} (q : Nat) (f g : Nat → α) : upTo q f g q = g q := by
  unfold upTo; rw [if_neg (Nat.lt_irrefl _)]
theorem upTo_set {α : Type} {q : Nat} {f g : Nat → α} {a : α} (h : a = f q) : fset (upTo q f g) q a = upTo (q + 1) f g := by
  funext j
  unfold fset upTo
  by_cases e : j = q
  · subst e; rw [if_pos rfl, if_pos (Nat.lt_succ_self _), h]
  · rw [if_neg e]
    by_cases l : j < q
    · rw [if_pos l, if_pos (by omega)]
    · rw [if_neg l, if_neg (by omega)]
theorem upTo_same {α : Type} {q : Nat} {f g : Nat → α} (h : g q = f q) : upTo q f g = upTo (q + 1) f g := by
  funext j
  unfold upTo
  by_cases e : j = q
  · subst e; rw [if_neg (Nat.lt_irrefl _), if_pos (Nat.lt_succ_self _), h]
  · by_cases l : j < q
    · rw [if_pos l, if_pos (by omega)]
    · rw [if_neg l, if_neg (by omega)]
theorem upTo_in {α : Type} (q : Nat) (f g : Nat → α) : upTo (q + 1) f g q = f q := by
  unfold upTo; rw [if_pos (Nat.lt_succ_self _)]
theorem fresh_le' {B B' : Nat} {v : Value} (h : Fresh B v) (hb : B' ≤ B) : Fresh B' v := fun b o n c e => Nat.le_trans hb (h b o n c e)
section
variable {B V : Nat → List Int} {T : Nat → Bool} {K : List Int} {t : Int} {c q : Nat}
theorem crB_rest (h : T q = false ∨ (decide ((q : Int) ∈ K) = false ∧ ((q : Int) == t) = false)) : B q = crB B V T K t c q := by
  unfold crB
  rcases h with h | ⟨h1, h2⟩
  · rw [if_neg (fun e => by rw [h] at e; exact absurd e.1 (by decide)), if_neg (fun e => by rw [h] at e; exact absurd e.1 (by decide))]
  · rw [if_neg (fun e => of_decide_eq_false h1 e.2), if_neg (fun e => by rw [e.2, beq_self_eq_true] at h2; cases h2)]
theorem crB_kept (h1 : T q = true) (h2 : decide ((q : Int) ∈ K) = true) : V q = crB B V T K t c q := by
  unfold crB
  rw [if_pos ⟨h1, of_decide_eq_true h2⟩]
theorem crB_torn (h1 : T q = true) (h2 : decide ((q : Int) ∈ K) = false) (h3 : ((q : Int) == t) = true) : (V q).take c ++ (B q).drop c = crB B V T K t c q := by
  unfold crB
  rw [if_neg (fun e => of_decide_eq_false h2 e.2), if_pos ⟨h1, eq_of_beq h3⟩]
theorem turn_done {w : World} {x hb hw hd N : Nat} {f : Nat → List Int} (h : RAt w x hb hw hd N (upTo (q + 1) f B) (fset (upTo q f V) q (f q)) (fset (upTo q (fun _ => false) T) q false)) : RAt w x hb hw hd N (upTo (q + 1) f B) (upTo (q + 1) f V) (upTo (q + 1) (fun _ => false) T) := by
  rw [upTo_set rfl, upTo_set rfl] at h
  exact h
end
theorem Sec.front' {w : World} {k o kc N : Nat} {l : List Int} (h : Sec w (.slice (some ⟨k, o, none⟩) 64 kc) l) (hN : N ≤ 64) : BytV w (.slice (some ⟨k, o, none⟩) N kc) (l.take N) := BytV.front h hN
theorem RAt.cong {w : World} {x hb hw hd N : Nat} {B V B' V' : Nat → List Int} {T T' : Nat → Bool} (h : RAt w x hb hw hd N B V T) (h1 : ∀ i, i < N → B' i = B i) (h2 : ∀ i, i < N → V' i = V i) (h3 : ∀ i, i < N → T' i = T i) : RAt w x hb hw hd N B' V' T' :=
  ⟨h.tag, h.c0, h.c1, h.c2, h.c3, h.tb, h.tw, h.td, fun i hi => by rw [h1 i hi]; exact h.sb i hi, fun i hi => by rw [h2 i hi]; exact h.sw i hi, fun i hi => by rw [h3 i hi]; exact h.sd i hi, h.ne, h.pos, h.few⟩
def RCrashP (w : World) (x hb hw hd N : Nat) (B V : Nat → List Int) (T : Nat → Bool) (K : List Int) (t : Int) (c : Nat) (e : Ending) (w' : World) : Prop :=
  e = .returned (.int .i64 0) ∧ RAt w' x hb hw hd N (crB B V T K t c) (crB B V T K t c) (fun _ => false) ∧ Upd (fun k => k = hb ∨ k = hw ∨ k = hd) w w'
theorem mem_take_next {K : List Int} {q : Nat} (hq : q < K.length) (i : Int) : decide (i ∈ K.take (q + 1)) = (decide (i ∈ K.take q) || (K.getD q 0 == i)) := by
  rw [List.take_succ_eq_append_getElem hq, List.getD_eq_getElem?_getD, List.getElem?_eq_getElem hq]
  simp only [List.mem_append, List.mem_singleton, Option.getD_some, Bool.decide_or]
  congr 1
  by_cases e : i = K[q]
  · rw [decide_eq_true e, e, beq_self_eq_true]
  · rw [decide_eq_false e]; exact (beq_eq_false_iff_ne.2 (fun h => e h.symm)).symm
/-- What the turn of a sector reads. -/
structure RCells (w : World) (x hb hw hd N d0 d1 d2 : Nat) : Prop where
  k0 : w.cell? ⟨x, 0, none⟩ = some (.slice (some ⟨hb, 0, none⟩) N (N + d0))
  k1 : w.cell? ⟨x, 1, none⟩ = some (.slice (some ⟨hw, 0, none⟩) N (N + d1))
  k2 : w.cell? ⟨x, 2, none⟩ = some (.slice (some ⟨hd, 0, none⟩) N (N + d2))
theorem RCells.upd {w w' : World} {x hb hw hd N d0 d1 d2 : Nat} {F : Nat → Prop} (h : RCells w x hb hw hd N d0 d1 d2) (u : Upd F w w') (hx : ¬ F x) : RCells w' x hb hw hd N d0 d1 d2 := by
  have l := World.block_lt_of_cell? _ _ h.k0
  exact ⟨(u.cell (p := ⟨x, 0, none⟩) l hx).trans h.k0, (u.cell (p := ⟨x, 1, none⟩) l hx).trans h.k1, (u.cell (p := ⟨x, 2, none⟩) l hx).trans h.k2⟩
set_option maxRecDepth 100000 in
set_option maxHeartbeats 8000000 in
theorem rcrash_any (w : World) (x hb hw hd N : Nat) (B V : Nat → List Int) (T : Nat → Bool) (kv : Value) (K : List Int) (t n : Int) (c : Nat) (hc : min (max n 0) 64 = (c : Int)) (hc64 : c ≤ 64) (h : RAt w x hb hw hd N B V T) (hk : Ints w kv K) (hKl : K.length ≤ 140737488355328)
    (hkb : 1 ≤ K.length → ∀ kb o m cc, kv = .slice (some ⟨kb, o, none⟩) m cc → kb ≠ hb ∧ kb ≠ hw ∧ kb ≠ hd) :
    Calls Try.prog 27 #[.pointer (some ⟨x, 0, none⟩), kv, .int .i64 t, .int .i64 n] w (RCrashP w x hb hw hd N B V T K t c) := by
  have c3 := h.c3
  obtain ⟨d0, c0⟩ := h.c0
  obtain ⟨d1, c1⟩ := h.c1
  obtain ⟨d2, c2⟩ := h.c2
  have HRC : Hid (RCells w x hb hw hd N d0 d1 d2) := Lib.hid ⟨c0, c1, c2⟩
  obtain ⟨l0, l1, l2, l3⟩ := h.lt
  obtain ⟨a1, a2, a3, a4, a5⟩ := h.apart
  have hne := h.ne
  have hfew := h.few
  obtain ⟨ka, kc, rfl⟩ := hk.shape
  have HK := Lib.hid hk; clear hk
  have HKB := Lib.hid hkb; clear hkb
  have HR := Lib.hid h; clear h
  have HC := Lib.hid hc; clear hc
  go_enter Try.func27, Try.ntmps27
  go_wp2_with fail
  go_loopw [24] (fun i wr => ∃ q : Nat, i = .int .i64 q ∧ q ≤ N ∧ RAt wr x hb hw hd N (upTo q (crB B V T K t c) B) (upTo q (crB B V T K t c) V) (upTo q (fun _ => false) T) ∧ Upd (fun k => k = hb ∨ k = hw ∨ k = hd) w wr) (fun i _ => N - (intOf i).toNat)
  case atStart => exact ⟨0, rfl, by omega, by rw [upTo_zero, upTo_zero, upTo_zero]; exact HR.out, Upd.refl _ _⟩
  case round =>
    clear c0 c1 c2 c3
    obtain ⟨q, rfl, hq, hr, hu⟩ := hrel
    have HRR := Lib.hid hr; clear hr
    have HU := Lib.hid hu; clear hu
    by_cases hlt : q < N
    · have hi0 : (0 : Int) ≤ (q : Int) := by omega
      have hi2 : (q : Int) < (N : Int) := by omega
      have hcell := HRR.out.sd q hlt
      rw [upTo_at] at hcell
      go_wp2_with fail
      go_loopw [11, 31] (fun kv i wr' => ∃ p : Nat, i = .int .i64 p ∧ p ≤ K.length ∧ kv = .bool (decide ((q : Int) ∈ K.take p)) ∧ wr' = wr) (fun _ i _ => K.length - (intOf i).toNat)
      case atStart => exact ⟨0, rfl, by omega, by simp, rfl⟩
      case round =>
        obtain ⟨p, rfl, hp, rfl, rfl⟩ := hrel
        by_cases hltp : p < K.length
        · obtain ⟨bb, o, hka, hcellk⟩ : ∃ bb o, ka = some ⟨bb, o, none⟩ ∧ wr.cell? ⟨bb, o + p, none⟩ = some (.int .i64 (K.getD p 0)) := by
            rcases HK.out.cells with ⟨e, _⟩ | ⟨bb, o, c', e, _, hcc⟩
            · rw [e] at hltp; exact absurd hltp (Nat.not_lt_zero _)
            · cases e
              have h1 := hcc p hltp
              obtain ⟨b1, b2, b3⟩ := HKB.out (by omega) bb o _ _ rfl
              exact ⟨bb, o, rfl, (HU.out.cell (p := ⟨bb, o + p, none⟩) (World.block_lt_of_cell? _ _ h1) (fun h => by rcases h with h | h | h; exact b1 h; exact b2 h; exact b3 h)).trans h1⟩
          subst hka
          have HMT := Lib.hid (mem_take_next hltp (q : Int))
          generalize K.getD p 0 = kx at hcellk HMT
          generalize decide ((q : Int) ∈ K.take p) = kb at HMT
          cases kb with
          | true =>
            go_wp2_with fail
            go_roundw
            case rel => exact ⟨p + 1, by go_num, hltp, by rw [HMT.out]; rfl, trivial⟩
            case measure => simp [intOf]; omega
          | false =>
            go_wp2_with fail
            go_roundw
            case rel => exact ⟨p + 1, by go_num, hltp, by rw [HMT.out]; rfl, trivial⟩
            case measure => simp [intOf]; omega
        · obtain rfl : p = K.length := by omega
          rw [List.take_length]
          have hnx : ¬ (x = hw ∨ x = hd) := by omega
          have hnb : ¬ (hb = hw ∨ hb = hd) := by omega
          have HEQC : Hid (T q = false ∨ (decide ((q : Int) ∈ K) = false ∧ ((q : Int) == t) = false) → B q = crB B V T K t c q) := Lib.hid (crB_rest)
          have HEQA : Hid (T q = true → decide ((q : Int) ∈ K) = true → V q = crB B V T K t c q) := Lib.hid (crB_kept)
          have HEQB : Hid (T q = true → decide ((q : Int) ∈ K) = false → ((q : Int) == t) = true → (V q).take c ++ (B q).drop c = crB B V T K t c q) := Lib.hid (crB_torn)
          clear hcell hi0 hi2
          have hi0 : (0 : Int) ≤ (q : Int) := by omega
          have hi2 : (q : Int) < (N : Int) := by omega
          generalize hdq : T q = dq at HEQA HEQB HEQC ⊢
          generalize decide ((q : Int) ∈ K) = kq at HEQA HEQB HEQC ⊢
          have HDQ := Lib.hid hdq; clear hdq
          cases dq with
          | false =>
            have HEQ := Lib.hid (HEQC.out (Or.inl rfl))
            have HRz := Lib.hid (show RAt wr x hb hw hd N (upTo (q + 1) (crB B V T K t c) B) (upTo q (crB B V T K t c) V) (upTo q (fun _ => false) T) by rw [← upTo_same HEQ.out]; exact HRR.out)
            obtain ⟨wz, hwz⟩ : ∃ wz, wz = wr := ⟨_, rfl⟩
            rw [← hwz] at HRz ⊢
            have HUz : Hid (Upd (fun k => k = hb ∨ k = hw ∨ k = hd) w wz) := Lib.hid (by rw [hwz]; exact HU.out)
            clear hwz

            obtain ⟨svb, hb1, hb2⟩ := HRz.out.sb q hlt
            rw [upTo_in] at hb2
            obtain ⟨bk, bo, bc, rfl, _⟩ := hb2.shape
            have HOB : Hid (∀ W, Upd (fun _ => False) wz W → Calls Try.prog 42 #[.slice (some ⟨bk, bo, none⟩) 64 bc] W (ClonePost W (crB B V T K t c q))) := Lib.hid fun W u => rown_sec W _ _ (hb2.old u).byt hb2.len
            clear hb2
            have HRCz := Lib.hid (HRC.out.upd HUz.out (by omega))
            have z0 := HRCz.out.k0
            have z1 := HRCz.out.k1
            have z2 := HRCz.out.k2
            have lz := HRz.out.lt
            have lzx := lz.1
            have lzb := lz.2.1
            have lzw := lz.2.2.1
            clear lz
            go_wp2_with fail
            go_region_held3 (fun w' => w'.cell? ⟨x, 0, none⟩ = some (.slice (some ⟨hb, 0, none⟩) N (N + d0)) ∧ w'.cell? ⟨x, 1, none⟩ = some (.slice (some ⟨hw, 0, none⟩) N (N + d1)) ∧ w'.cell? ⟨x, 2, none⟩ = some (.slice (some ⟨hd, 0, none⟩) N (N + d2)) ∧ w'.cell? ⟨hb, q, none⟩ = some (.slice (some ⟨bk, bo, none⟩) 64 bc))
              (first | exact ⟨z0, z1, z2, hb1⟩ | exact ⟨(Upd.cell (F := fun k => k = hw ∨ k = hd) (p := ⟨x, 0, none⟩) (by repeat (first | exact Upd.refl _ _ | exact U1.out.mono (fun _ _ h => h.elim) | apply Upd.drew | apply Upd.alloc | refine Upd.setCell ?_ (by first | exact Or.inl (Or.inl rfl) | exact Or.inl (Or.inr rfl)) _)) lzx hnx).trans z0, (Upd.cell (F := fun k => k = hw ∨ k = hd) (p := ⟨x, 1, none⟩) (by repeat (first | exact Upd.refl _ _ | exact U1.out.mono (fun _ _ h => h.elim) | apply Upd.drew | apply Upd.alloc | refine Upd.setCell ?_ (by first | exact Or.inl (Or.inl rfl) | exact Or.inl (Or.inr rfl)) _)) lzx hnx).trans z1, (Upd.cell (F := fun k => k = hw ∨ k = hd) (p := ⟨x, 2, none⟩) (by repeat (first | exact Upd.refl _ _ | exact U1.out.mono (fun _ _ h => h.elim) | apply Upd.drew | apply Upd.alloc | refine Upd.setCell ?_ (by first | exact Or.inl (Or.inl rfl) | exact Or.inl (Or.inr rfl)) _)) lzx hnx).trans z2, (Upd.cell (F := fun k => k = hw ∨ k = hd) (p := ⟨hb, q, none⟩) (by repeat (first | exact Upd.refl _ _ | exact U1.out.mono (fun _ _ h => h.elim) | apply Upd.drew | apply Upd.alloc | refine Upd.setCell ?_ (by first | exact Or.inl (Or.inl rfl) | exact Or.inl (Or.inr rfl)) _)) lzb hnb).trans hb1⟩)
              ((go_at_call 42; (with_reducible refine (HOB.out _ (by repeat (first | exact Upd.refl _ _ | apply Upd.drew | apply Upd.alloc))).mono ?_); rintro e w1 ⟨v1, rfl, hs1, hf1, hu1⟩; obtain ⟨k1, o1, cc1, rfl, _⟩ := hs1.shape; have HS1 := Lib.hid hs1; have HF1 := Lib.hid (fresh_le' hf1 (B' := wz.heap.size) (Upd.size (F := fun _ => False) (by repeat (first | exact Upd.refl _ _ | apply Upd.drew | apply Upd.alloc)))); have U1 : Hid (Upd (fun _ => False) wz w1) := Lib.hid (Upd.trans (by repeat (first | exact Upd.refl _ _ | apply Upd.drew | apply Upd.alloc)) hu1); have HR1 := Lib.hid (HRz.out.old U1.out); obtain ⟨su, sw1⟩ := HR1.out.wcell hlt; have sd1 := HR1.out.sd q hlt; have fw := tag_frozen HR1.out.tw; have fd := tag_frozen HR1.out.td; clear hs1 hf1 hu1))
            all_goals
              have HCT := Lib.hid (cutRW false HR1.out U1.out hlt HS1.out HF1.out lzw)
              clear sw1 sd1 fw fd
              go_wp2_with fail
              go_roundw
              case rel =>
                first
                  | exact ⟨q + 1, by go_num, hlt, turn_done HCT.out.1.r, HUz.out.trans (HCT.out.1.up.mono (fun _ _ h => by rcases h with h | h <;> simp [h]))⟩
                  | exact ⟨q + 1, by go_num, hlt, turn_done HCT.out.2.r, HUz.out.trans (HCT.out.2.up.mono (fun _ _ h => by rcases h with h | h <;> simp [h]))⟩
              case measure => simp [intOf]; omega
          | true =>
            cases kq with
            | true =>
              have HEQ := Lib.hid (HEQA.out rfl rfl)
              obtain ⟨svw, hw1, hw2⟩ := HRR.out.sw q hlt
              rw [upTo_at] at hw2
              obtain ⟨wk, wo, wc, rfl, _⟩ := hw2.shape
              have HOW : Hid (∀ W, Upd (fun _ => False) wr W → Calls Try.prog 42 #[.slice (some ⟨wk, wo, none⟩) 64 wc] W (ClonePost W (V q))) := Lib.hid fun W u => rown_sec W _ _ (hw2.old u).byt hw2.len
              clear hw2
              have HRCr := Lib.hid (HRC.out.upd HU.out (by omega))
              have y0 := HRCr.out.k0
              have y1 := HRCr.out.k1
              have lr := HRR.out.lt
              have lrx := lr.1
              have lrw := lr.2.2.1
              clear lr
              go_wp2_with fail
              go_region_held3 (fun w' => w'.cell? ⟨x, 0, none⟩ = some (.slice (some ⟨hb, 0, none⟩) N (N + d0)) ∧ w'.cell? ⟨x, 1, none⟩ = some (.slice (some ⟨hw, 0, none⟩) N (N + d1)) ∧ w'.cell? ⟨hw, q, none⟩ = some (.slice (some ⟨wk, wo, none⟩) 64 wc))
                (first | exact ⟨y0, y1, hw1⟩ | exact ⟨(Upd.cell (F := fun k => k = hb) (p := ⟨x, 0, none⟩) (by repeat (first | exact Upd.refl _ _ | exact U1.out.mono (fun _ _ h => h.elim) | apply Upd.drew | apply Upd.alloc | refine Upd.setCell ?_ (by exact Or.inl rfl) _)) lrx a1).trans y0, (Upd.cell (F := fun k => k = hb) (p := ⟨x, 1, none⟩) (by repeat (first | exact Upd.refl _ _ | exact U1.out.mono (fun _ _ h => h.elim) | apply Upd.drew | apply Upd.alloc | refine Upd.setCell ?_ (by exact Or.inl rfl) _)) lrx a1).trans y1, (Upd.cell (F := fun k => k = hb) (p := ⟨hw, q, none⟩) (by repeat (first | exact Upd.refl _ _ | exact U1.out.mono (fun _ _ h => h.elim) | apply Upd.drew | apply Upd.alloc | refine Upd.setCell ?_ (by exact Or.inl rfl) _)) lrw hne.symm).trans hw1⟩)
                ((go_at_call 42; (with_reducible refine (HOW.out _ (by repeat (first | exact Upd.refl _ _ | apply Upd.drew | apply Upd.alloc))).mono ?_); rintro e w1 ⟨v1, rfl, hs1, hf1, hu1⟩; obtain ⟨k1, o1, cc1, rfl, _⟩ := hs1.shape; have HS1 := Lib.hid hs1; have U1 : Hid (Upd (fun _ => False) wr w1) := Lib.hid (Upd.trans (by repeat (first | exact Upd.refl _ _ | apply Upd.drew | apply Upd.alloc)) hu1); have HR1 := Lib.hid (HRR.out.old U1.out); obtain ⟨su, sb1⟩ := HR1.out.bcell hlt; have fb := tag_frozen HR1.out.tb; clear hs1 hf1 hu1))
              all_goals
                go_wp2_with fail
                have HRz := Lib.hid (show RAt (w1.setCell ⟨hb, q, none⟩ (.slice (some ⟨k1, o1, none⟩) 64 cc1)) x hb hw hd N (upTo (q + 1) (crB B V T K t c) B) (upTo q (crB B V T K t c) V) (upTo q (fun _ => false) T) by rw [← upTo_set HEQ.out]; exact HR1.out.setB hlt HS1.out)
                have HUz : Hid (Upd (fun k => k = hb ∨ k = hw ∨ k = hd) w (w1.setCell ⟨hb, q, none⟩ (.slice (some ⟨k1, o1, none⟩) 64 cc1))) := Lib.hid ((HU.out.trans (U1.out.mono (fun _ _ h => h.elim))).setCell (p := ⟨hb, q, none⟩) (Or.inl (Or.inl rfl)) _)
                generalize w1.setCell ⟨hb, q, none⟩ (.slice (some ⟨k1, o1, none⟩) 64 cc1) = wz at HRz HUz ⊢
                clear y0 y1 hw1 sb1 fb lrx lrw HS1 HR1 U1
                obtain ⟨svb, hb1, hb2⟩ := HRz.out.sb q hlt
                rw [upTo_in] at hb2
                obtain ⟨bk, bo, bc, rfl, _⟩ := hb2.shape
                have HOB : Hid (∀ W, Upd (fun _ => False) wz W → Calls Try.prog 42 #[.slice (some ⟨bk, bo, none⟩) 64 bc] W (ClonePost W (crB B V T K t c q))) := Lib.hid fun W u => rown_sec W _ _ (hb2.old u).byt hb2.len
                clear hb2
                have HRCz := Lib.hid (HRC.out.upd HUz.out (by omega))
                have z0 := HRCz.out.k0
                have z1 := HRCz.out.k1
                have z2 := HRCz.out.k2
                have lz := HRz.out.lt
                have lzx := lz.1
                have lzb := lz.2.1
                have lzw := lz.2.2.1
                clear lz
                go_wp2_with fail
                go_region_held3 (fun w' => w'.cell? ⟨x, 0, none⟩ = some (.slice (some ⟨hb, 0, none⟩) N (N + d0)) ∧ w'.cell? ⟨x, 1, none⟩ = some (.slice (some ⟨hw, 0, none⟩) N (N + d1)) ∧ w'.cell? ⟨x, 2, none⟩ = some (.slice (some ⟨hd, 0, none⟩) N (N + d2)) ∧ w'.cell? ⟨hb, q, none⟩ = some (.slice (some ⟨bk, bo, none⟩) 64 bc))
                  (first | exact ⟨z0, z1, z2, hb1⟩ | exact ⟨(Upd.cell (F := fun k => k = hw ∨ k = hd) (p := ⟨x, 0, none⟩) (by repeat (first | exact Upd.refl _ _ | exact U1.out.mono (fun _ _ h => h.elim) | apply Upd.drew | apply Upd.alloc | refine Upd.setCell ?_ (by first | exact Or.inl (Or.inl rfl) | exact Or.inl (Or.inr rfl)) _)) lzx hnx).trans z0, (Upd.cell (F := fun k => k = hw ∨ k = hd) (p := ⟨x, 1, none⟩) (by repeat (first | exact Upd.refl _ _ | exact U1.out.mono (fun _ _ h => h.elim) | apply Upd.drew | apply Upd.alloc | refine Upd.setCell ?_ (by first | exact Or.inl (Or.inl rfl) | exact Or.inl (Or.inr rfl)) _)) lzx hnx).trans z1, (Upd.cell (F := fun k => k = hw ∨ k = hd) (p := ⟨x, 2, none⟩) (by repeat (first | exact Upd.refl _ _ | exact U1.out.mono (fun _ _ h => h.elim) | apply Upd.drew | apply Upd.alloc | refine Upd.setCell ?_ (by first | exact Or.inl (Or.inl rfl) | exact Or.inl (Or.inr rfl)) _)) lzx hnx).trans z2, (Upd.cell (F := fun k => k = hw ∨ k = hd) (p := ⟨hb, q, none⟩) (by repeat (first | exact Upd.refl _ _ | exact U1.out.mono (fun _ _ h => h.elim) | apply Upd.drew | apply Upd.alloc | refine Upd.setCell ?_ (by first | exact Or.inl (Or.inl rfl) | exact Or.inl (Or.inr rfl)) _)) lzb hnb).trans hb1⟩)
                  ((go_at_call 42; (with_reducible refine (HOB.out _ (by repeat (first | exact Upd.refl _ _ | apply Upd.drew | apply Upd.alloc))).mono ?_); rintro e w1 ⟨v1, rfl, hs1, hf1, hu1⟩; obtain ⟨k1, o1, cc1, rfl, _⟩ := hs1.shape; have HS1 := Lib.hid hs1; have HF1 := Lib.hid (fresh_le' hf1 (B' := wz.heap.size) (Upd.size (F := fun _ => False) (by repeat (first | exact Upd.refl _ _ | apply Upd.drew | apply Upd.alloc)))); have U1 : Hid (Upd (fun _ => False) wz w1) := Lib.hid (Upd.trans (by repeat (first | exact Upd.refl _ _ | apply Upd.drew | apply Upd.alloc)) hu1); have HR1 := Lib.hid (HRz.out.old U1.out); obtain ⟨su, sw1⟩ := HR1.out.wcell hlt; have sd1 := HR1.out.sd q hlt; have fw := tag_frozen HR1.out.tw; have fd := tag_frozen HR1.out.td; clear hs1 hf1 hu1))
                all_goals
                  have HCT := Lib.hid (cutRW false HR1.out U1.out hlt HS1.out HF1.out lzw)
                  clear sw1 sd1 fw fd
                  go_wp2_with fail
                  go_roundw
                  case rel =>
                    first
                      | exact ⟨q + 1, by go_num, hlt, turn_done HCT.out.1.r, HUz.out.trans (HCT.out.1.up.mono (fun _ _ h => by rcases h with h | h <;> simp [h]))⟩
                      | exact ⟨q + 1, by go_num, hlt, turn_done HCT.out.2.r, HUz.out.trans (HCT.out.2.up.mono (fun _ _ h => by rcases h with h | h <;> simp [h]))⟩
                  case measure => simp [intOf]; omega
            | false =>
              cases htq : ((q : Int) == t) with
              | false =>
                have HEQ := Lib.hid (HEQC.out (Or.inr ⟨rfl, htq⟩))
                have HRz := Lib.hid (show RAt wr x hb hw hd N (upTo (q + 1) (crB B V T K t c) B) (upTo q (crB B V T K t c) V) (upTo q (fun _ => false) T) by rw [← upTo_same HEQ.out]; exact HRR.out)
                obtain ⟨wz, hwz⟩ : ∃ wz, wz = wr := ⟨_, rfl⟩
                rw [← hwz] at HRz ⊢
                have HUz : Hid (Upd (fun k => k = hb ∨ k = hw ∨ k = hd) w wz) := Lib.hid (by rw [hwz]; exact HU.out)
                clear hwz

                obtain ⟨svb, hb1, hb2⟩ := HRz.out.sb q hlt
                rw [upTo_in] at hb2
                obtain ⟨bk, bo, bc, rfl, _⟩ := hb2.shape
                have HOB : Hid (∀ W, Upd (fun _ => False) wz W → Calls Try.prog 42 #[.slice (some ⟨bk, bo, none⟩) 64 bc] W (ClonePost W (crB B V T K t c q))) := Lib.hid fun W u => rown_sec W _ _ (hb2.old u).byt hb2.len
                clear hb2
                have HRCz := Lib.hid (HRC.out.upd HUz.out (by omega))
                have z0 := HRCz.out.k0
                have z1 := HRCz.out.k1
                have z2 := HRCz.out.k2
                have lz := HRz.out.lt
                have lzx := lz.1
                have lzb := lz.2.1
                have lzw := lz.2.2.1
                clear lz
                go_wp2_with fail
                go_region_held3 (fun w' => w'.cell? ⟨x, 0, none⟩ = some (.slice (some ⟨hb, 0, none⟩) N (N + d0)) ∧ w'.cell? ⟨x, 1, none⟩ = some (.slice (some ⟨hw, 0, none⟩) N (N + d1)) ∧ w'.cell? ⟨x, 2, none⟩ = some (.slice (some ⟨hd, 0, none⟩) N (N + d2)) ∧ w'.cell? ⟨hb, q, none⟩ = some (.slice (some ⟨bk, bo, none⟩) 64 bc))
                  (first | exact ⟨z0, z1, z2, hb1⟩ | exact ⟨(Upd.cell (F := fun k => k = hw ∨ k = hd) (p := ⟨x, 0, none⟩) (by repeat (first | exact Upd.refl _ _ | exact U1.out.mono (fun _ _ h => h.elim) | apply Upd.drew | apply Upd.alloc | refine Upd.setCell ?_ (by first | exact Or.inl (Or.inl rfl) | exact Or.inl (Or.inr rfl)) _)) lzx hnx).trans z0, (Upd.cell (F := fun k => k = hw ∨ k = hd) (p := ⟨x, 1, none⟩) (by repeat (first | exact Upd.refl _ _ | exact U1.out.mono (fun _ _ h => h.elim) | apply Upd.drew | apply Upd.alloc | refine Upd.setCell ?_ (by first | exact Or.inl (Or.inl rfl) | exact Or.inl (Or.inr rfl)) _)) lzx hnx).trans z1, (Upd.cell (F := fun k => k = hw ∨ k = hd) (p := ⟨x, 2, none⟩) (by repeat (first | exact Upd.refl _ _ | exact U1.out.mono (fun _ _ h => h.elim) | apply Upd.drew | apply Upd.alloc | refine Upd.setCell ?_ (by first | exact Or.inl (Or.inl rfl) | exact Or.inl (Or.inr rfl)) _)) lzx hnx).trans z2, (Upd.cell (F := fun k => k = hw ∨ k = hd) (p := ⟨hb, q, none⟩) (by repeat (first | exact Upd.refl _ _ | exact U1.out.mono (fun _ _ h => h.elim) | apply Upd.drew | apply Upd.alloc | refine Upd.setCell ?_ (by first | exact Or.inl (Or.inl rfl) | exact Or.inl (Or.inr rfl)) _)) lzb hnb).trans hb1⟩)
                  ((go_at_call 42; (with_reducible refine (HOB.out _ (by repeat (first | exact Upd.refl _ _ | apply Upd.drew | apply Upd.alloc))).mono ?_); rintro e w1 ⟨v1, rfl, hs1, hf1, hu1⟩; obtain ⟨k1, o1, cc1, rfl, _⟩ := hs1.shape; have HS1 := Lib.hid hs1; have HF1 := Lib.hid (fresh_le' hf1 (B' := wz.heap.size) (Upd.size (F := fun _ => False) (by repeat (first | exact Upd.refl _ _ | apply Upd.drew | apply Upd.alloc)))); have U1 : Hid (Upd (fun _ => False) wz w1) := Lib.hid (Upd.trans (by repeat (first | exact Upd.refl _ _ | apply Upd.drew | apply Upd.alloc)) hu1); have HR1 := Lib.hid (HRz.out.old U1.out); obtain ⟨su, sw1⟩ := HR1.out.wcell hlt; have sd1 := HR1.out.sd q hlt; have fw := tag_frozen HR1.out.tw; have fd := tag_frozen HR1.out.td; clear hs1 hf1 hu1))
                all_goals
                  have HCT := Lib.hid (cutRW false HR1.out U1.out hlt HS1.out HF1.out lzw)
                  clear sw1 sd1 fw fd
                  go_wp2_with fail
                  go_roundw
                  case rel =>
                    first
                      | exact ⟨q + 1, by go_num, hlt, turn_done HCT.out.1.r, HUz.out.trans (HCT.out.1.up.mono (fun _ _ h => by rcases h with h | h <;> simp [h]))⟩
                      | exact ⟨q + 1, by go_num, hlt, turn_done HCT.out.2.r, HUz.out.trans (HCT.out.2.up.mono (fun _ _ h => by rcases h with h | h <;> simp [h]))⟩
                  case measure => simp [intOf]; omega
              | true =>
                have HEQ := Lib.hid (HEQB.out rfl rfl htq)
                obtain ⟨svw, hw1, hw2⟩ := HRR.out.sw q hlt
                rw [upTo_at] at hw2
                obtain ⟨wk, wo, wc, rfl, _⟩ := hw2.shape
                obtain ⟨svb, hb1, hb2⟩ := HRR.out.sb q hlt
                rw [upTo_at] at hb2
                obtain ⟨bk, bo, bc, rfl, _⟩ := hb2.shape
                have hwcap := hw2.cap
                have hbcap := hb2.cap
                have hlw := hw2.len
                have hlb := hb2.len
                have HOW : Hid (∀ W, Upd (fun _ => False) wr W → Calls Try.prog 42 #[.slice (some ⟨wk, wo, none⟩) c wc] W (ROwn W ((V q).take c))) := Lib.hid fun W u => rown_any W _ _ ((hw2.old u).front' hc64) (by rw [List.length_take]; omega)
                have HBV2 : Hid (∀ (W : World) c' v, (v = .slice (some ⟨bk, bo + c, none⟩) (64 - c) c' ∨ c = 64 ∧ v = .slice (some ⟨bk, bo, none⟩) 0 0) → Upd (fun _ => False) wr W → BytV W v ((B q).drop c)) := Lib.hid fun W c' v e u => by
                  rcases e with rfl | ⟨rfl, rfl⟩
                  · exact BytV.back (hb2.old u) hc64
                  · exact BytV.none (hb2.old u)
                have HL1 : Hid (((V q).take c).length = c) := Lib.hid (by rw [List.length_take]; omega)
                have HL2 : Hid (((B q).drop c).length = 64 - c) := Lib.hid (by rw [List.length_drop]; omega)
                clear hw2 hb2 hlw hlb
                generalize (V q).take c = X1 at HOW HL1 HEQ
                generalize (B q).drop c = X2 at HBV2 HL2 HEQ
                have HRCr := Lib.hid (HRC.out.upd HU.out (by omega))
                have y0 := HRCr.out.k0
                have y1 := HRCr.out.k1
                have lr := HRR.out.lt
                have lrx := lr.1
                have lrb := lr.2.1
                have lrw := lr.2.2.1
                clear lr
                have i1 : (0 : Int) ≤ (c : Int) := by omega
                have i2 : (c : Int) ≤ 64 := by omega
                have i3 : (c : Int) ≤ (wc : Int) := by omega
                have i4 : (64 : Int) ≤ (wc : Int) := by omega
                have i5 : (64 : Int) ≤ (bc : Int) := by omega
                have hsp : (¬ bc = c) ∨ (bc = 64 ∧ c = 64) := by omega
                have hcc := HC.out
                rcases hsp with hsp | ⟨rfl, rfl⟩
                · go_wp2_with fail
                  refine wp_region_held_drew (S := fun w' => w'.cell? ⟨x, 0, none⟩ = some (.slice (some ⟨hb, 0, none⟩) N (N + d0)) ∧ w'.cell? ⟨x, 1, none⟩ = some (.slice (some ⟨hw, 0, none⟩) N (N + d1)) ∧ w'.cell? ⟨hw, q, none⟩ = some (.slice (some ⟨wk, wo, none⟩) 64 wc)) (by kernel_rfl) ⟨y0, y1, hw1⟩ (fun hHeld => ?_)
                  refine wpAnyH_take (i := 0) (v := ?v101) rfl (by kernel_rfl) (by kernel_rfl) (by kernel_rfl) (fun _ _ _ h => h) (Or.inl ⟨by rfl, ?hy101⟩) (by assumption) ?rest101
                  case hy101 => (intro w hSw; (try dsimp only at hSw); go_simp; try with_reducible rfl)
                  (try simp only [Act.put, List.getElem_toArray, List.getElem_cons_zero, List.setIfInBounds_toArray, List.set_cons_zero, List.set_cons_succ])
                  refine wpAnyH_take (i := 1) (v := ?v102) rfl (by kernel_rfl) (by kernel_rfl) (by kernel_rfl) (fun _ _ _ h => h) (Or.inl ⟨by rfl, ?hy102⟩) (by assumption) ?rest102
                  case hy102 => (intro w hSw; (try dsimp only at hSw); go_simp; try with_reducible rfl)
                  (try simp only [Act.put, List.getElem_toArray, List.getElem_cons_zero, List.getElem_cons_succ, List.setIfInBounds_toArray, List.set_cons_zero, List.set_cons_succ])
                  refine wpAnyH_take (i := 2) (v := ?v103) rfl (by kernel_rfl) (by kernel_rfl) (by kernel_rfl) (fun _ _ _ h => h) (Or.inl ⟨by rfl, ?hy103⟩) (by assumption) ?rest103
                  case hy103 => (intro w hSw; (try dsimp only at hSw); go_simp; try with_reducible rfl)
                  (try simp only [Act.put, List.getElem_toArray, List.getElem_cons_zero, List.getElem_cons_succ, List.setIfInBounds_toArray, List.set_cons_zero, List.set_cons_succ])
                  refine wpAnyH_take (i := 3) (v := ?v104) rfl (by kernel_rfl) (by kernel_rfl) (by kernel_rfl) (fun _ _ _ h => h) (Or.inl ⟨by rfl, ?hy104⟩) (by assumption) ?rest104
                  case hy104 => (intro w hSw; (try dsimp only at hSw); go_simp; try with_reducible rfl)
                  (try simp only [Act.put, List.getElem_toArray, List.getElem_cons_zero, List.getElem_cons_succ, List.setIfInBounds_toArray, List.set_cons_zero, List.set_cons_succ])
                  refine wpAnyH_take (i := 4) (v := ?v105) rfl (by kernel_rfl) (by kernel_rfl) (by kernel_rfl) (fun _ _ _ h => h) (Or.inl ⟨by rfl, ?hy105⟩) (by assumption) ?rest105
                  case hy105 => (intro w hSw; (try dsimp only at hSw); go_simp; try with_reducible rfl)
                  (try simp only [Act.put, List.getElem_toArray, List.getElem_cons_zero, List.getElem_cons_succ, List.setIfInBounds_toArray, List.set_cons_zero, List.set_cons_succ])
                  refine wpAnyH_take (i := 5) (v := ?v106) rfl (by kernel_rfl) (by kernel_rfl) (by kernel_rfl) (fun _ _ _ h => h) (Or.inl ⟨by rfl, ?hy106⟩) (by assumption) ?rest106
                  case hy106 => (intro w hSw; (try dsimp only at hSw); go_simp; try with_reducible rfl)
                  (try simp only [Act.put, List.getElem_toArray, List.getElem_cons_zero, List.getElem_cons_succ, List.setIfInBounds_toArray, List.set_cons_zero, List.set_cons_succ])
                  refine wpAnyH_take (i := 6) (v := ?v107) rfl (by kernel_rfl) (by kernel_rfl) (by kernel_rfl) (fun _ _ _ h => h) (Or.inl ⟨by rfl, ?hy107⟩) (by assumption) ?rest107
                  case hy107 => (intro w hSw; (try dsimp only at hSw); go_simp; try with_reducible rfl)
                  (try simp only [Act.put, List.getElem_toArray, List.getElem_cons_zero, List.getElem_cons_succ, List.setIfInBounds_toArray, List.set_cons_zero, List.set_cons_succ])
                  refine wpAnyH_take (i := 7) (v := ?v108) rfl (by kernel_rfl) (by kernel_rfl) (by kernel_rfl) (fun _ _ _ h => h) (Or.inl ⟨by rfl, ?hy108⟩) (by assumption) ?rest108
                  case hy108 => (intro w hSw; (try dsimp only at hSw); go_simp; try with_reducible rfl)
                  (try simp only [Act.put, List.getElem_toArray, List.getElem_cons_zero, List.getElem_cons_succ, List.setIfInBounds_toArray, List.set_cons_zero, List.set_cons_succ])
                  refine wpAnyH_take (i := 8) (v := ?v109) rfl (by kernel_rfl) (by kernel_rfl) (by kernel_rfl) (fun _ _ _ h => h) (Or.inl ⟨by rfl, ?hy109⟩) (by assumption) ?rest109
                  case hy109 => (intro w hSw; (try dsimp only at hSw); go_simp; try with_reducible rfl)
                  (try simp only [Act.put, List.getElem_toArray, List.getElem_cons_zero, List.getElem_cons_succ, List.setIfInBounds_toArray, List.set_cons_zero, List.set_cons_succ])
                  refine wpAnyH_take (i := 9) (v := ?v110) rfl (by kernel_rfl) (by kernel_rfl) (by kernel_rfl) (fun _ _ _ h => h) (Or.inl ⟨by rfl, ?hy110⟩) (by assumption) ?rest110
                  case hy110 => (intro w hSw; (try dsimp only at hSw); go_simp; try with_reducible rfl)
                  (try simp only [Act.put, List.getElem_toArray, List.getElem_cons_zero, List.getElem_cons_succ, List.setIfInBounds_toArray, List.set_cons_zero, List.set_cons_succ])
                  refine wpAnyH_take (i := 10) (v := ?v111) rfl (by kernel_rfl) (by kernel_rfl) (by kernel_rfl) (fun _ _ _ h => h) (Or.inl ⟨by rfl, ?hy111⟩) (by assumption) ?rest111
                  case hy111 => (intro w hSw; (try dsimp only at hSw); go_simp; try with_reducible rfl)
                  (try simp only [Act.put, List.getElem_toArray, List.getElem_cons_zero, List.getElem_cons_succ, List.setIfInBounds_toArray, List.set_cons_zero, List.set_cons_succ])
                  refine wpAnyH_take (i := 11) (v := ?v112) rfl (by kernel_rfl) (by kernel_rfl) (by kernel_rfl) (fun _ _ _ h => h) (Or.inl ⟨by rfl, ?hy112⟩) (by assumption) ?rest112
                  case hy112 => (intro w hSw; (try dsimp only at hSw); go_simp; try with_reducible rfl)
                  (try simp only [Act.put, List.getElem_toArray, List.getElem_cons_zero, List.getElem_cons_succ, List.setIfInBounds_toArray, List.set_cons_zero, List.set_cons_succ])
                  refine wpAnyH_take (i := 12) (v := ?v113) rfl (by kernel_rfl) (by kernel_rfl) (by kernel_rfl) (fun _ _ _ h => h) (Or.inl ⟨by rfl, ?hy113⟩) (by assumption) ?rest113
                  case hy113 => (intro w hSw; (try dsimp only at hSw); go_simp; try with_reducible rfl)
                  (try simp only [Act.put, List.getElem_toArray, List.getElem_cons_zero, List.getElem_cons_succ, List.setIfInBounds_toArray, List.set_cons_zero, List.set_cons_succ])
                  refine wpAnyH_take (i := 13) (v := ?v114) rfl (by kernel_rfl) (by kernel_rfl) (by kernel_rfl) (fun _ _ _ h => h) (Or.inl ⟨by rfl, ?hy114⟩) (by assumption) ?rest114
                  case hy114 => (intro w hSw; (try dsimp only at hSw); go_simp; try with_reducible rfl)
                  (try simp only [Act.put, List.getElem_toArray, List.getElem_cons_zero, List.getElem_cons_succ, List.setIfInBounds_toArray, List.set_cons_zero, List.set_cons_succ])
                  refine wpAnyH_take (i := 15) (v := ?v115) rfl (by kernel_rfl) (by kernel_rfl) (by kernel_rfl) (fun _ _ _ h => h) (Or.inl ⟨by rfl, ?hy115⟩) (by assumption) ?rest115
                  case hy115 => (intro w hSw; (try dsimp only at hSw); go_simp; try with_reducible rfl)
                  (try simp only [Act.put, List.getElem_toArray, List.getElem_cons_zero, List.getElem_cons_succ, List.setIfInBounds_toArray, List.set_cons_zero, List.set_cons_succ])
                  refine wpAnyH_take (i := 16) (v := ?v116) rfl (by kernel_rfl) (by kernel_rfl) (by kernel_rfl) (fun _ _ _ h => h) (Or.inl ⟨by rfl, ?hy116⟩) (by assumption) ?rest116
                  case hy116 => (intro w hSw; (try dsimp only at hSw); go_simp; try with_reducible rfl)
                  (try simp only [Act.put, List.getElem_toArray, List.getElem_cons_zero, List.getElem_cons_succ, List.setIfInBounds_toArray, List.set_cons_zero, List.set_cons_succ])
                  refine wpAnyH_take (i := 17) (v := ?v117) rfl (by kernel_rfl) (by kernel_rfl) (by kernel_rfl) (fun _ _ _ h => h) (Or.inl ⟨by rfl, ?hy117⟩) (by assumption) ?rest117
                  case hy117 => (intro w hSw; (try dsimp only at hSw); go_simp; try with_reducible rfl)
                  (try simp only [Act.put, List.getElem_toArray, List.getElem_cons_zero, List.getElem_cons_succ, List.setIfInBounds_toArray, List.set_cons_zero, List.set_cons_succ])
                  refine wpAnyH_take (i := 18) (v := ?v118) rfl (by kernel_rfl) (by kernel_rfl) (by kernel_rfl) (fun _ _ _ h => h) (Or.inl ⟨by rfl, ?hy118⟩) (by assumption) ?rest118
                  case hy118 => (intro w hSw; (try dsimp only at hSw); go_simp; try with_reducible rfl)
                  (try simp only [Act.put, List.getElem_toArray, List.getElem_cons_zero, List.getElem_cons_succ, List.setIfInBounds_toArray, List.set_cons_zero, List.set_cons_succ])
                  refine wpAnyH_take (i := 19) (v := ?v119) rfl (by kernel_rfl) (by kernel_rfl) (by kernel_rfl) (fun _ _ _ h => h) (Or.inl ⟨by rfl, ?hy119⟩) (by assumption) ?rest119
                  case hy119 => (intro w hSw; (try dsimp only at hSw); go_simp; try with_reducible rfl)
                  (try simp only [Act.put, List.getElem_toArray, List.getElem_cons_zero, List.getElem_cons_succ, List.setIfInBounds_toArray, List.set_cons_zero, List.set_cons_succ])
                  refine wpAnyH_take (i := 20) (v := ?v120) rfl (by kernel_rfl) (by kernel_rfl) (by kernel_rfl) (fun _ _ _ h => h) (Or.inl ⟨by rfl, ?hy120⟩) (by assumption) ?rest120
                  case hy120 => (intro w hSw; (try dsimp only at hSw); go_simp; try with_reducible rfl)
                  (try simp only [Act.put, List.getElem_toArray, List.getElem_cons_zero, List.getElem_cons_succ, List.setIfInBounds_toArray, List.set_cons_zero, List.set_cons_succ])
                  refine wpAnyH_take (i := 22) (v := ?v121) rfl (by kernel_rfl) (by kernel_rfl) (by kernel_rfl) (fun _ _ _ h => h) (Or.inl ⟨by rfl, ?hy121⟩) (by assumption) ?rest121
                  case hy121 => (intro w hSw; (try dsimp only at hSw); go_simp; try with_reducible rfl)
                  (try simp only [Act.put, List.getElem_toArray, List.getElem_cons_zero, List.getElem_cons_succ, List.setIfInBounds_toArray, List.set_cons_zero, List.set_cons_succ])
                  refine wpAnyH_ready (rs := [14, 21]) (by kernel_rfl) (by simp) ?rd122
                  refine AllReadyH.cons rfl (fun K hK => ?st123) ?more123
                  case st123 =>
                    go_simp
                    go_at_call 42
                    (with_reducible refine (HOW.out _ (by repeat (first | exact Upd.refl _ _ | exact HU4.out | exact HU3.out | apply Upd.drew | apply Upd.alloc))).mono ?_)
                    rintro e w3 ⟨v3, rfl, hs1, hu1⟩
                    obtain ⟨a3, m3, c3, rfl, hm3⟩ : ∃ a m c, v3 = .slice a m c ∧ m = X1.length := (by obtain ⟨a, c, e⟩ := hs1.shape; exact ⟨a, _, c, e, rfl⟩)
                    clear hm3
                    have HU3 : Hid (Upd (fun _ => False) wr w3) := Lib.hid (Upd.trans (by repeat (first | exact Upd.refl _ _ | exact HU4.out | exact HU3.out | apply Upd.drew | apply Upd.alloc)) hu1)
                    have HV3 := Lib.hid (hs1.lower (B' := wr.heap.size) (Upd.size (F := fun _ => False) (by repeat (first | exact Upd.refl _ _ | exact HU4.out | exact HU3.out | apply Upd.drew | apply Upd.alloc))))
                    clear hs1 hu1
                    have hb3 := (HU3.out.cell (p := ⟨hb, q, none⟩) lrb (fun h => h)).trans hb1
                    refine hK.out _ _ ⟨(Upd.cell (F := fun _ => False) (p := ⟨x, 0, none⟩) (by repeat (first | exact Upd.refl _ _ | exact HU4.out | exact HU3.out | apply Upd.drew | apply Upd.alloc)) lrx (fun h => h)).trans y0, (Upd.cell (F := fun _ => False) (p := ⟨x, 1, none⟩) (by repeat (first | exact Upd.refl _ _ | exact HU4.out | exact HU3.out | apply Upd.drew | apply Upd.alloc)) lrx (fun h => h)).trans y1, (Upd.cell (F := fun _ => False) (p := ⟨hw, q, none⟩) (by repeat (first | exact Upd.refl _ _ | exact HU4.out | exact HU3.out | apply Upd.drew | apply Upd.alloc)) lrw (fun h => h)).trans hw1⟩ (fun hHeld2 => ?_)
                    clear hK K
                    (try simp only [Act.put, List.getElem_toArray, List.getElem_cons_zero, List.getElem_cons_succ, List.setIfInBounds_toArray, List.set_cons_zero, List.set_cons_succ])
                    refine wpAnyH_ready (rs := [21]) (by kernel_rfl) (by simp) ?rd124
                    refine AllReadyH.cons rfl (fun K hK => ?st125) ?more125
                    case st125 =>
                      go_simp
                      refine hK.out _ _ ⟨(Upd.cell (F := fun _ => False) (p := ⟨x, 0, none⟩) (by repeat (first | exact Upd.refl _ _ | exact HU4.out | exact HU3.out | apply Upd.drew | apply Upd.alloc)) lrx (fun h => h)).trans y0, (Upd.cell (F := fun _ => False) (p := ⟨x, 1, none⟩) (by repeat (first | exact Upd.refl _ _ | exact HU4.out | exact HU3.out | apply Upd.drew | apply Upd.alloc)) lrx (fun h => h)).trans y1, (Upd.cell (F := fun _ => False) (p := ⟨hw, q, none⟩) (by repeat (first | exact Upd.refl _ _ | exact HU4.out | exact HU3.out | apply Upd.drew | apply Upd.alloc)) lrw (fun h => h)).trans hw1⟩ (fun hHeld3 => ?_)
                      clear hK K
                      (try simp only [Act.put, List.getElem_toArray, List.getElem_cons_zero, List.getElem_cons_succ, List.setIfInBounds_toArray, List.set_cons_zero, List.set_cons_succ])
                      refine wpAnyH_take (i := 23) (v := ?v126) rfl (by kernel_rfl) (by kernel_rfl) (by kernel_rfl) (fun _ _ _ h => h) (Or.inl ⟨by rfl, ?hy126⟩) (by assumption) ?rest126
                      case hy126 => (intro w hSw; (try dsimp only at hSw); go_simp; try with_reducible rfl)
                      (try simp only [Act.put, List.getElem_toArray, List.getElem_cons_zero, List.getElem_cons_succ, List.setIfInBounds_toArray, List.set_cons_zero, List.set_cons_succ])
                      refine wpAnyH_ready (rs := [24]) (by kernel_rfl) (by simp) ?rd127
                      refine AllReadyH.cons rfl (fun K hK => ?st128) ?more128
                      case st128 =>
                        refine step_append_byt (by rfl) _ _ (by rfl) wr.heap.size _ _ X1 X2 (by rfl) HV3.out (by rfl) (HBV2.out _ _ _ (Or.inl rfl) HU3.out) (by have := HL1.out; have := HL2.out; omega) HU3.out.size ?_
                        intro v4 w4 hv4 hu4
                        obtain ⟨a4, m4, c4, rfl, hm4⟩ : ∃ a m c, v4 = .slice a m c ∧ m = (X1 ++ X2).length := (by obtain ⟨a, c, e⟩ := hv4.shape; exact ⟨a, _, c, e, rfl⟩)
                        clear hm4
                        have HU4 : Hid (Upd (fun _ => False) wr w4) := Lib.hid (HU3.out.trans' hu4 (fun i hi e => by omega))
                        have HR4 := Lib.hid (HRR.out.old HU4.out)
                        obtain ⟨su, sb1⟩ := HR4.out.bcell hlt
                        have fb := tag_frozen HR4.out.tb
                        have HV4 := Lib.hid hv4
                        clear hv4 hu4
                        refine hK.out _ _ ⟨(Upd.cell (F := fun _ => False) (p := ⟨x, 0, none⟩) (by repeat (first | exact Upd.refl _ _ | exact HU4.out | exact HU3.out | apply Upd.drew | apply Upd.alloc)) lrx (fun h => h)).trans y0, (Upd.cell (F := fun _ => False) (p := ⟨x, 1, none⟩) (by repeat (first | exact Upd.refl _ _ | exact HU4.out | exact HU3.out | apply Upd.drew | apply Upd.alloc)) lrx (fun h => h)).trans y1, (Upd.cell (F := fun _ => False) (p := ⟨hw, q, none⟩) (by repeat (first | exact Upd.refl _ _ | exact HU4.out | exact HU3.out | apply Upd.drew | apply Upd.alloc)) lrw (fun h => h)).trans hw1⟩ (fun hHeld4 => ?_)
                        clear hK K
                        (try simp only [Act.put, List.getElem_toArray, List.getElem_cons_zero, List.getElem_cons_succ, List.setIfInBounds_toArray, List.set_cons_zero, List.set_cons_succ])
                        refine wpAnyH_take (i := 25) (v := ?v129) rfl (by kernel_rfl) (by kernel_rfl) (by kernel_rfl) (fun _ _ _ h => h) (Or.inl ⟨by rfl, ?hy129⟩) (by assumption) ?rest129
                        case hy129 => (intro w hSw; (try dsimp only at hSw); go_simp; try with_reducible rfl)
                        (try simp only [Act.put, List.getElem_toArray, List.getElem_cons_zero, List.getElem_cons_succ, List.setIfInBounds_toArray, List.set_cons_zero, List.set_cons_succ])
                        refine wpAnyH_ready (rs := [26]) (by kernel_rfl) (by simp) ?rd130
                        refine AllReadyH.cons rfl (fun K hK => ?st131) ?more131
                        case st131 =>
                          go_simp
                          refine hK.out _ _ ⟨(Upd.cell (F := fun k => k = hb) (p := ⟨x, 0, none⟩) (by refine Upd.setCell ?_ (by exact Or.inl rfl) _; repeat (first | exact Upd.refl _ _ | exact HU4.out.mono (fun _ _ h => h.elim) | apply Upd.drew)) lrx a1).trans y0, (Upd.cell (F := fun k => k = hb) (p := ⟨x, 1, none⟩) (by refine Upd.setCell ?_ (by exact Or.inl rfl) _; repeat (first | exact Upd.refl _ _ | exact HU4.out.mono (fun _ _ h => h.elim) | apply Upd.drew)) lrx a1).trans y1, (Upd.cell (F := fun k => k = hb) (p := ⟨hw, q, none⟩) (by refine Upd.setCell ?_ (by exact Or.inl rfl) _; repeat (first | exact Upd.refl _ _ | exact HU4.out.mono (fun _ _ h => h.elim) | apply Upd.drew)) lrw hne.symm).trans hw1⟩ (fun hHeld5 => ?_)
                          clear hK K
                          (try simp only [Act.put, List.getElem_toArray, List.getElem_cons_zero, List.getElem_cons_succ, List.setIfInBounds_toArray, List.set_cons_zero, List.set_cons_succ])
                          refine wpAnyH_done (by kernel_rfl) ?_ _
                          go_wp2_with fail
                          have HS4 := Lib.hid (HV4.out.sec (by have := HL1.out; have := HL2.out; rw [List.length_append]; omega))
                          have HRz := Lib.hid (show RAt (w4.setCell ⟨hb, q, none⟩ (.slice a4 m4 c4)) x hb hw hd N (upTo (q + 1) (crB B V T K t c) B) (upTo q (crB B V T K t c) V) (upTo q (fun _ => false) T) by rw [← upTo_set HEQ.out]; exact HR4.out.setB hlt HS4.out)
                          have HUz : Hid (Upd (fun k => k = hb ∨ k = hw ∨ k = hd) w (w4.setCell ⟨hb, q, none⟩ (.slice a4 m4 c4))) := Lib.hid ((HU.out.trans (HU4.out.mono (fun _ _ h => h.elim))).setCell (p := ⟨hb, q, none⟩) (Or.inl (Or.inl rfl)) _)
                          generalize w4.setCell ⟨hb, q, none⟩ (.slice a4 m4 c4) = wz at HRz HUz ⊢
                          clear y0 y1 hw1 hb1 sb1 fb lrx lrw lrb HS4 HR4 HU4 HV4 HV3 HU3
                          obtain ⟨svb, hb1, hb2⟩ := HRz.out.sb q hlt
                          rw [upTo_in] at hb2
                          obtain ⟨bk, bo, bc, rfl, _⟩ := hb2.shape
                          have HOB : Hid (∀ W, Upd (fun _ => False) wz W → Calls Try.prog 42 #[.slice (some ⟨bk, bo, none⟩) 64 bc] W (ClonePost W (crB B V T K t c q))) := Lib.hid fun W u => rown_sec W _ _ (hb2.old u).byt hb2.len
                          clear hb2
                          have HRCz := Lib.hid (HRC.out.upd HUz.out (by omega))
                          have z0 := HRCz.out.k0
                          have z1 := HRCz.out.k1
                          have z2 := HRCz.out.k2
                          have lz := HRz.out.lt
                          have lzx := lz.1
                          have lzb := lz.2.1
                          have lzw := lz.2.2.1
                          clear lz
                          go_wp2_with fail
                          go_region_held3 (fun w' => w'.cell? ⟨x, 0, none⟩ = some (.slice (some ⟨hb, 0, none⟩) N (N + d0)) ∧ w'.cell? ⟨x, 1, none⟩ = some (.slice (some ⟨hw, 0, none⟩) N (N + d1)) ∧ w'.cell? ⟨x, 2, none⟩ = some (.slice (some ⟨hd, 0, none⟩) N (N + d2)) ∧ w'.cell? ⟨hb, q, none⟩ = some (.slice (some ⟨bk, bo, none⟩) 64 bc))
                            (first | exact ⟨z0, z1, z2, hb1⟩ | exact ⟨(Upd.cell (F := fun k => k = hw ∨ k = hd) (p := ⟨x, 0, none⟩) (by repeat (first | exact Upd.refl _ _ | exact U1.out.mono (fun _ _ h => h.elim) | apply Upd.drew | apply Upd.alloc | refine Upd.setCell ?_ (by first | exact Or.inl (Or.inl rfl) | exact Or.inl (Or.inr rfl)) _)) lzx hnx).trans z0, (Upd.cell (F := fun k => k = hw ∨ k = hd) (p := ⟨x, 1, none⟩) (by repeat (first | exact Upd.refl _ _ | exact U1.out.mono (fun _ _ h => h.elim) | apply Upd.drew | apply Upd.alloc | refine Upd.setCell ?_ (by first | exact Or.inl (Or.inl rfl) | exact Or.inl (Or.inr rfl)) _)) lzx hnx).trans z1, (Upd.cell (F := fun k => k = hw ∨ k = hd) (p := ⟨x, 2, none⟩) (by repeat (first | exact Upd.refl _ _ | exact U1.out.mono (fun _ _ h => h.elim) | apply Upd.drew | apply Upd.alloc | refine Upd.setCell ?_ (by first | exact Or.inl (Or.inl rfl) | exact Or.inl (Or.inr rfl)) _)) lzx hnx).trans z2, (Upd.cell (F := fun k => k = hw ∨ k = hd) (p := ⟨hb, q, none⟩) (by repeat (first | exact Upd.refl _ _ | exact U1.out.mono (fun _ _ h => h.elim) | apply Upd.drew | apply Upd.alloc | refine Upd.setCell ?_ (by first | exact Or.inl (Or.inl rfl) | exact Or.inl (Or.inr rfl)) _)) lzb hnb).trans hb1⟩)
                            ((go_at_call 42; (with_reducible refine (HOB.out _ (by repeat (first | exact Upd.refl _ _ | apply Upd.drew | apply Upd.alloc))).mono ?_); rintro e w1 ⟨v1, rfl, hs1, hf1, hu1⟩; obtain ⟨k1, o1, cc1, rfl, _⟩ := hs1.shape; have HS1 := Lib.hid hs1; have HF1 := Lib.hid (fresh_le' hf1 (B' := wz.heap.size) (Upd.size (F := fun _ => False) (by repeat (first | exact Upd.refl _ _ | apply Upd.drew | apply Upd.alloc)))); have U1 : Hid (Upd (fun _ => False) wz w1) := Lib.hid (Upd.trans (by repeat (first | exact Upd.refl _ _ | apply Upd.drew | apply Upd.alloc)) hu1); have HR1 := Lib.hid (HRz.out.old U1.out); obtain ⟨su, sw1⟩ := HR1.out.wcell hlt; have sd1 := HR1.out.sd q hlt; have fw := tag_frozen HR1.out.tw; have fd := tag_frozen HR1.out.td; clear hs1 hf1 hu1))
                          all_goals
                            have HCT := Lib.hid (cutRW false HR1.out U1.out hlt HS1.out HF1.out lzw)
                            clear sw1 sd1 fw fd
                            go_wp2_with fail
                            go_roundw
                            case rel =>
                              first
                                | exact ⟨q + 1, by go_num, hlt, turn_done HCT.out.1.r, HUz.out.trans (HCT.out.1.up.mono (fun _ _ h => by rcases h with h | h <;> simp [h]))⟩
                                | exact ⟨q + 1, by go_num, hlt, turn_done HCT.out.2.r, HUz.out.trans (HCT.out.2.up.mono (fun _ _ h => by rcases h with h | h <;> simp [h]))⟩
                            case measure => simp [intOf]; omega
                        exact AllReadyH.nil
                      exact AllReadyH.nil
                    exact AllReadyH.nil
                  refine AllReadyH.cons rfl (fun K hK => ?st132) ?more132
                  case st132 =>
                    go_simp
                    refine hK.out _ _ ⟨(Upd.cell (F := fun _ => False) (p := ⟨x, 0, none⟩) (by repeat (first | exact Upd.refl _ _ | exact HU4.out | exact HU3.out | apply Upd.drew | apply Upd.alloc)) lrx (fun h => h)).trans y0, (Upd.cell (F := fun _ => False) (p := ⟨x, 1, none⟩) (by repeat (first | exact Upd.refl _ _ | exact HU4.out | exact HU3.out | apply Upd.drew | apply Upd.alloc)) lrx (fun h => h)).trans y1, (Upd.cell (F := fun _ => False) (p := ⟨hw, q, none⟩) (by repeat (first | exact Upd.refl _ _ | exact HU4.out | exact HU3.out | apply Upd.drew | apply Upd.alloc)) lrw (fun h => h)).trans hw1⟩ (fun hHeld3 => ?_)
                    clear hK K
                    (try simp only [Act.put, List.getElem_toArray, List.getElem_cons_zero, List.getElem_cons_succ, List.setIfInBounds_toArray, List.set_cons_zero, List.set_cons_succ])
                    refine wpAnyH_take (i := 23) (v := ?v133) rfl (by kernel_rfl) (by kernel_rfl) (by kernel_rfl) (fun _ _ _ h => h) (Or.inl ⟨by rfl, ?hy133⟩) (by assumption) ?rest133
                    case hy133 => (intro w hSw; (try dsimp only at hSw); go_simp; try with_reducible rfl)
                    (try simp only [Act.put, List.getElem_toArray, List.getElem_cons_zero, List.getElem_cons_succ, List.setIfInBounds_toArray, List.set_cons_zero, List.set_cons_succ])
                    refine wpAnyH_ready (rs := [14]) (by kernel_rfl) (by simp) ?rd134
                    refine AllReadyH.cons rfl (fun K hK => ?st135) ?more135
                    case st135 =>
                      go_simp
                      go_at_call 42
                      (with_reducible refine (HOW.out _ (by repeat (first | exact Upd.refl _ _ | exact HU4.out | exact HU3.out | apply Upd.drew | apply Upd.alloc))).mono ?_)
                      rintro e w3 ⟨v3, rfl, hs1, hu1⟩
                      obtain ⟨a3, m3, c3, rfl, hm3⟩ : ∃ a m c, v3 = .slice a m c ∧ m = X1.length := (by obtain ⟨a, c, e⟩ := hs1.shape; exact ⟨a, _, c, e, rfl⟩)
                      clear hm3
                      have HU3 : Hid (Upd (fun _ => False) wr w3) := Lib.hid (Upd.trans (by repeat (first | exact Upd.refl _ _ | exact HU4.out | exact HU3.out | apply Upd.drew | apply Upd.alloc)) hu1)
                      have HV3 := Lib.hid (hs1.lower (B' := wr.heap.size) (Upd.size (F := fun _ => False) (by repeat (first | exact Upd.refl _ _ | exact HU4.out | exact HU3.out | apply Upd.drew | apply Upd.alloc))))
                      clear hs1 hu1
                      have hb3 := (HU3.out.cell (p := ⟨hb, q, none⟩) lrb (fun h => h)).trans hb1
                      refine hK.out _ _ ⟨(Upd.cell (F := fun _ => False) (p := ⟨x, 0, none⟩) (by repeat (first | exact Upd.refl _ _ | exact HU4.out | exact HU3.out | apply Upd.drew | apply Upd.alloc)) lrx (fun h => h)).trans y0, (Upd.cell (F := fun _ => False) (p := ⟨x, 1, none⟩) (by repeat (first | exact Upd.refl _ _ | exact HU4.out | exact HU3.out | apply Upd.drew | apply Upd.alloc)) lrx (fun h => h)).trans y1, (Upd.cell (F := fun _ => False) (p := ⟨hw, q, none⟩) (by repeat (first | exact Upd.refl _ _ | exact HU4.out | exact HU3.out | apply Upd.drew | apply Upd.alloc)) lrw (fun h => h)).trans hw1⟩ (fun hHeld2 => ?_)
                      clear hK K
                      (try simp only [Act.put, List.getElem_toArray, List.getElem_cons_zero, List.getElem_cons_succ, List.setIfInBounds_toArray, List.set_cons_zero, List.set_cons_succ])
                      refine wpAnyH_ready (rs := [24]) (by kernel_rfl) (by simp) ?rd136
                      refine AllReadyH.cons rfl (fun K hK => ?st137) ?more137
                      case st137 =>
                        refine step_append_byt (by rfl) _ _ (by rfl) wr.heap.size _ _ X1 X2 (by rfl) HV3.out (by rfl) (HBV2.out _ _ _ (Or.inl rfl) HU3.out) (by have := HL1.out; have := HL2.out; omega) HU3.out.size ?_
                        intro v4 w4 hv4 hu4
                        obtain ⟨a4, m4, c4, rfl, hm4⟩ : ∃ a m c, v4 = .slice a m c ∧ m = (X1 ++ X2).length := (by obtain ⟨a, c, e⟩ := hv4.shape; exact ⟨a, _, c, e, rfl⟩)
                        clear hm4
                        have HU4 : Hid (Upd (fun _ => False) wr w4) := Lib.hid (HU3.out.trans' hu4 (fun i hi e => by omega))
                        have HR4 := Lib.hid (HRR.out.old HU4.out)
                        obtain ⟨su, sb1⟩ := HR4.out.bcell hlt
                        have fb := tag_frozen HR4.out.tb
                        have HV4 := Lib.hid hv4
                        clear hv4 hu4
                        refine hK.out _ _ ⟨(Upd.cell (F := fun _ => False) (p := ⟨x, 0, none⟩) (by repeat (first | exact Upd.refl _ _ | exact HU4.out | exact HU3.out | apply Upd.drew | apply Upd.alloc)) lrx (fun h => h)).trans y0, (Upd.cell (F := fun _ => False) (p := ⟨x, 1, none⟩) (by repeat (first | exact Upd.refl _ _ | exact HU4.out | exact HU3.out | apply Upd.drew | apply Upd.alloc)) lrx (fun h => h)).trans y1, (Upd.cell (F := fun _ => False) (p := ⟨hw, q, none⟩) (by repeat (first | exact Upd.refl _ _ | exact HU4.out | exact HU3.out | apply Upd.drew | apply Upd.alloc)) lrw (fun h => h)).trans hw1⟩ (fun hHeld4 => ?_)
                        clear hK K
                        (try simp only [Act.put, List.getElem_toArray, List.getElem_cons_zero, List.getElem_cons_succ, List.setIfInBounds_toArray, List.set_cons_zero, List.set_cons_succ])
                        refine wpAnyH_take (i := 25) (v := ?v138) rfl (by kernel_rfl) (by kernel_rfl) (by kernel_rfl) (fun _ _ _ h => h) (Or.inl ⟨by rfl, ?hy138⟩) (by assumption) ?rest138
                        case hy138 => (intro w hSw; (try dsimp only at hSw); go_simp; try with_reducible rfl)
                        (try simp only [Act.put, List.getElem_toArray, List.getElem_cons_zero, List.getElem_cons_succ, List.setIfInBounds_toArray, List.set_cons_zero, List.set_cons_succ])
                        refine wpAnyH_ready (rs := [26]) (by kernel_rfl) (by simp) ?rd139
                        refine AllReadyH.cons rfl (fun K hK => ?st140) ?more140
                        case st140 =>
                          go_simp
                          refine hK.out _ _ ⟨(Upd.cell (F := fun k => k = hb) (p := ⟨x, 0, none⟩) (by refine Upd.setCell ?_ (by exact Or.inl rfl) _; repeat (first | exact Upd.refl _ _ | exact HU4.out.mono (fun _ _ h => h.elim) | apply Upd.drew)) lrx a1).trans y0, (Upd.cell (F := fun k => k = hb) (p := ⟨x, 1, none⟩) (by refine Upd.setCell ?_ (by exact Or.inl rfl) _; repeat (first | exact Upd.refl _ _ | exact HU4.out.mono (fun _ _ h => h.elim) | apply Upd.drew)) lrx a1).trans y1, (Upd.cell (F := fun k => k = hb) (p := ⟨hw, q, none⟩) (by refine Upd.setCell ?_ (by exact Or.inl rfl) _; repeat (first | exact Upd.refl _ _ | exact HU4.out.mono (fun _ _ h => h.elim) | apply Upd.drew)) lrw hne.symm).trans hw1⟩ (fun hHeld5 => ?_)
                          clear hK K
                          (try simp only [Act.put, List.getElem_toArray, List.getElem_cons_zero, List.getElem_cons_succ, List.setIfInBounds_toArray, List.set_cons_zero, List.set_cons_succ])
                          refine wpAnyH_done (by kernel_rfl) ?_ _
                          go_wp2_with fail
                          have HS4 := Lib.hid (HV4.out.sec (by have := HL1.out; have := HL2.out; rw [List.length_append]; omega))
                          have HRz := Lib.hid (show RAt (w4.setCell ⟨hb, q, none⟩ (.slice a4 m4 c4)) x hb hw hd N (upTo (q + 1) (crB B V T K t c) B) (upTo q (crB B V T K t c) V) (upTo q (fun _ => false) T) by rw [← upTo_set HEQ.out]; exact HR4.out.setB hlt HS4.out)
                          have HUz : Hid (Upd (fun k => k = hb ∨ k = hw ∨ k = hd) w (w4.setCell ⟨hb, q, none⟩ (.slice a4 m4 c4))) := Lib.hid ((HU.out.trans (HU4.out.mono (fun _ _ h => h.elim))).setCell (p := ⟨hb, q, none⟩) (Or.inl (Or.inl rfl)) _)
                          generalize w4.setCell ⟨hb, q, none⟩ (.slice a4 m4 c4) = wz at HRz HUz ⊢
                          clear y0 y1 hw1 hb1 sb1 fb lrx lrw lrb HS4 HR4 HU4 HV4 HV3 HU3
                          obtain ⟨svb, hb1, hb2⟩ := HRz.out.sb q hlt
                          rw [upTo_in] at hb2
                          obtain ⟨bk, bo, bc, rfl, _⟩ := hb2.shape
                          have HOB : Hid (∀ W, Upd (fun _ => False) wz W → Calls Try.prog 42 #[.slice (some ⟨bk, bo, none⟩) 64 bc] W (ClonePost W (crB B V T K t c q))) := Lib.hid fun W u => rown_sec W _ _ (hb2.old u).byt hb2.len
                          clear hb2
                          have HRCz := Lib.hid (HRC.out.upd HUz.out (by omega))
                          have z0 := HRCz.out.k0
                          have z1 := HRCz.out.k1
                          have z2 := HRCz.out.k2
                          have lz := HRz.out.lt
                          have lzx := lz.1
                          have lzb := lz.2.1
                          have lzw := lz.2.2.1
                          clear lz
                          go_wp2_with fail
                          go_region_held3 (fun w' => w'.cell? ⟨x, 0, none⟩ = some (.slice (some ⟨hb, 0, none⟩) N (N + d0)) ∧ w'.cell? ⟨x, 1, none⟩ = some (.slice (some ⟨hw, 0, none⟩) N (N + d1)) ∧ w'.cell? ⟨x, 2, none⟩ = some (.slice (some ⟨hd, 0, none⟩) N (N + d2)) ∧ w'.cell? ⟨hb, q, none⟩ = some (.slice (some ⟨bk, bo, none⟩) 64 bc))
                            (first | exact ⟨z0, z1, z2, hb1⟩ | exact ⟨(Upd.cell (F := fun k => k = hw ∨ k = hd) (p := ⟨x, 0, none⟩) (by repeat (first | exact Upd.refl _ _ | exact U1.out.mono (fun _ _ h => h.elim) | apply Upd.drew | apply Upd.alloc | refine Upd.setCell ?_ (by first | exact Or.inl (Or.inl rfl) | exact Or.inl (Or.inr rfl)) _)) lzx hnx).trans z0, (Upd.cell (F := fun k => k = hw ∨ k = hd) (p := ⟨x, 1, none⟩) (by repeat (first | exact Upd.refl _ _ | exact U1.out.mono (fun _ _ h => h.elim) | apply Upd.drew | apply Upd.alloc | refine Upd.setCell ?_ (by first | exact Or.inl (Or.inl rfl) | exact Or.inl (Or.inr rfl)) _)) lzx hnx).trans z1, (Upd.cell (F := fun k => k = hw ∨ k = hd) (p := ⟨x, 2, none⟩) (by repeat (first | exact Upd.refl _ _ | exact U1.out.mono (fun _ _ h => h.elim) | apply Upd.drew | apply Upd.alloc | refine Upd.setCell ?_ (by first | exact Or.inl (Or.inl rfl) | exact Or.inl (Or.inr rfl)) _)) lzx hnx).trans z2, (Upd.cell (F := fun k => k = hw ∨ k = hd) (p := ⟨hb, q, none⟩) (by repeat (first | exact Upd.refl _ _ | exact U1.out.mono (fun _ _ h => h.elim) | apply Upd.drew | apply Upd.alloc | refine Upd.setCell ?_ (by first | exact Or.inl (Or.inl rfl) | exact Or.inl (Or.inr rfl)) _)) lzb hnb).trans hb1⟩)
                            ((go_at_call 42; (with_reducible refine (HOB.out _ (by repeat (first | exact Upd.refl _ _ | apply Upd.drew | apply Upd.alloc))).mono ?_); rintro e w1 ⟨v1, rfl, hs1, hf1, hu1⟩; obtain ⟨k1, o1, cc1, rfl, _⟩ := hs1.shape; have HS1 := Lib.hid hs1; have HF1 := Lib.hid (fresh_le' hf1 (B' := wz.heap.size) (Upd.size (F := fun _ => False) (by repeat (first | exact Upd.refl _ _ | apply Upd.drew | apply Upd.alloc)))); have U1 : Hid (Upd (fun _ => False) wz w1) := Lib.hid (Upd.trans (by repeat (first | exact Upd.refl _ _ | apply Upd.drew | apply Upd.alloc)) hu1); have HR1 := Lib.hid (HRz.out.old U1.out); obtain ⟨su, sw1⟩ := HR1.out.wcell hlt; have sd1 := HR1.out.sd q hlt; have fw := tag_frozen HR1.out.tw; have fd := tag_frozen HR1.out.td; clear hs1 hf1 hu1))
                          all_goals
                            have HCT := Lib.hid (cutRW false HR1.out U1.out hlt HS1.out HF1.out lzw)
                            clear sw1 sd1 fw fd
                            go_wp2_with fail
                            go_roundw
                            case rel =>
                              first
                                | exact ⟨q + 1, by go_num, hlt, turn_done HCT.out.1.r, HUz.out.trans (HCT.out.1.up.mono (fun _ _ h => by rcases h with h | h <;> simp [h]))⟩
                                | exact ⟨q + 1, by go_num, hlt, turn_done HCT.out.2.r, HUz.out.trans (HCT.out.2.up.mono (fun _ _ h => by rcases h with h | h <;> simp [h]))⟩
                            case measure => simp [intOf]; omega
                        exact AllReadyH.nil
                      exact AllReadyH.nil
                    exact AllReadyH.nil
                  exact AllReadyH.nil
                · go_wp2_with fail
                  refine wp_region_held_drew (S := fun w' => w'.cell? ⟨x, 0, none⟩ = some (.slice (some ⟨hb, 0, none⟩) N (N + d0)) ∧ w'.cell? ⟨x, 1, none⟩ = some (.slice (some ⟨hw, 0, none⟩) N (N + d1)) ∧ w'.cell? ⟨hw, q, none⟩ = some (.slice (some ⟨wk, wo, none⟩) 64 wc)) (by kernel_rfl) ⟨y0, y1, hw1⟩ (fun hHeld => ?_)
                  refine wpAnyH_take (i := 0) (v := ?v201) rfl (by kernel_rfl) (by kernel_rfl) (by kernel_rfl) (fun _ _ _ h => h) (Or.inl ⟨by rfl, ?hy201⟩) (by assumption) ?rest201
                  case hy201 => (intro w hSw; (try dsimp only at hSw); go_simp; try with_reducible rfl)
                  (try simp only [Act.put, List.getElem_toArray, List.getElem_cons_zero, List.setIfInBounds_toArray, List.set_cons_zero, List.set_cons_succ])
                  refine wpAnyH_take (i := 1) (v := ?v202) rfl (by kernel_rfl) (by kernel_rfl) (by kernel_rfl) (fun _ _ _ h => h) (Or.inl ⟨by rfl, ?hy202⟩) (by assumption) ?rest202
                  case hy202 => (intro w hSw; (try dsimp only at hSw); go_simp; try with_reducible rfl)
                  (try simp only [Act.put, List.getElem_toArray, List.getElem_cons_zero, List.getElem_cons_succ, List.setIfInBounds_toArray, List.set_cons_zero, List.set_cons_succ])
                  refine wpAnyH_take (i := 2) (v := ?v203) rfl (by kernel_rfl) (by kernel_rfl) (by kernel_rfl) (fun _ _ _ h => h) (Or.inl ⟨by rfl, ?hy203⟩) (by assumption) ?rest203
                  case hy203 => (intro w hSw; (try dsimp only at hSw); go_simp; try with_reducible rfl)
                  (try simp only [Act.put, List.getElem_toArray, List.getElem_cons_zero, List.getElem_cons_succ, List.setIfInBounds_toArray, List.set_cons_zero, List.set_cons_succ])
                  refine wpAnyH_take (i := 3) (v := ?v204) rfl (by kernel_rfl) (by kernel_rfl) (by kernel_rfl) (fun _ _ _ h => h) (Or.inl ⟨by rfl, ?hy204⟩) (by assumption) ?rest204
                  case hy204 => (intro w hSw; (try dsimp only at hSw); go_simp; try with_reducible rfl)
                  (try simp only [Act.put, List.getElem_toArray, List.getElem_cons_zero, List.getElem_cons_succ, List.setIfInBounds_toArray, List.set_cons_zero, List.set_cons_succ])
                  refine wpAnyH_take (i := 4) (v := ?v205) rfl (by kernel_rfl) (by kernel_rfl) (by kernel_rfl) (fun _ _ _ h => h) (Or.inl ⟨by rfl, ?hy205⟩) (by assumption) ?rest205
                  case hy205 => (intro w hSw; (try dsimp only at hSw); go_simp; try with_reducible rfl)
                  (try simp only [Act.put, List.getElem_toArray, List.getElem_cons_zero, List.getElem_cons_succ, List.setIfInBounds_toArray, List.set_cons_zero, List.set_cons_succ])
                  refine wpAnyH_take (i := 5) (v := ?v206) rfl (by kernel_rfl) (by kernel_rfl) (by kernel_rfl) (fun _ _ _ h => h) (Or.inl ⟨by rfl, ?hy206⟩) (by assumption) ?rest206
                  case hy206 => (intro w hSw; (try dsimp only at hSw); go_simp; try with_reducible rfl)
                  (try simp only [Act.put, List.getElem_toArray, List.getElem_cons_zero, List.getElem_cons_succ, List.setIfInBounds_toArray, List.set_cons_zero, List.set_cons_succ])
                  refine wpAnyH_take (i := 6) (v := ?v207) rfl (by kernel_rfl) (by kernel_rfl) (by kernel_rfl) (fun _ _ _ h => h) (Or.inl ⟨by rfl, ?hy207⟩) (by assumption) ?rest207
                  case hy207 => (intro w hSw; (try dsimp only at hSw); go_simp; try with_reducible rfl)
                  (try simp only [Act.put, List.getElem_toArray, List.getElem_cons_zero, List.getElem_cons_succ, List.setIfInBounds_toArray, List.set_cons_zero, List.set_cons_succ])
                  refine wpAnyH_take (i := 7) (v := ?v208) rfl (by kernel_rfl) (by kernel_rfl) (by kernel_rfl) (fun _ _ _ h => h) (Or.inl ⟨by rfl, ?hy208⟩) (by assumption) ?rest208
                  case hy208 => (intro w hSw; (try dsimp only at hSw); go_simp; try with_reducible rfl)
                  (try simp only [Act.put, List.getElem_toArray, List.getElem_cons_zero, List.getElem_cons_succ, List.setIfInBounds_toArray, List.set_cons_zero, List.set_cons_succ])
                  refine wpAnyH_take (i := 8) (v := ?v209) rfl (by kernel_rfl) (by kernel_rfl) (by kernel_rfl) (fun _ _ _ h => h) (Or.inl ⟨by rfl, ?hy209⟩) (by assumption) ?rest209
                  case hy209 => (intro w hSw; (try dsimp only at hSw); go_simp; try with_reducible rfl)
                  (try simp only [Act.put, List.getElem_toArray, List.getElem_cons_zero, List.getElem_cons_succ, List.setIfInBounds_toArray, List.set_cons_zero, List.set_cons_succ])
                  refine wpAnyH_take (i := 9) (v := ?v210) rfl (by kernel_rfl) (by kernel_rfl) (by kernel_rfl) (fun _ _ _ h => h) (Or.inl ⟨by rfl, ?hy210⟩) (by assumption) ?rest210
                  case hy210 => (intro w hSw; (try dsimp only at hSw); go_simp; try with_reducible rfl)
                  (try simp only [Act.put, List.getElem_toArray, List.getElem_cons_zero, List.getElem_cons_succ, List.setIfInBounds_toArray, List.set_cons_zero, List.set_cons_succ])
                  refine wpAnyH_take (i := 10) (v := ?v211) rfl (by kernel_rfl) (by kernel_rfl) (by kernel_rfl) (fun _ _ _ h => h) (Or.inl ⟨by rfl, ?hy211⟩) (by assumption) ?rest211
                  case hy211 => (intro w hSw; (try dsimp only at hSw); go_simp; try with_reducible rfl)
                  (try simp only [Act.put, List.getElem_toArray, List.getElem_cons_zero, List.getElem_cons_succ, List.setIfInBounds_toArray, List.set_cons_zero, List.set_cons_succ])
                  refine wpAnyH_take (i := 11) (v := ?v212) rfl (by kernel_rfl) (by kernel_rfl) (by kernel_rfl) (fun _ _ _ h => h) (Or.inl ⟨by rfl, ?hy212⟩) (by assumption) ?rest212
                  case hy212 => (intro w hSw; (try dsimp only at hSw); go_simp; try with_reducible rfl)
                  (try simp only [Act.put, List.getElem_toArray, List.getElem_cons_zero, List.getElem_cons_succ, List.setIfInBounds_toArray, List.set_cons_zero, List.set_cons_succ])
                  refine wpAnyH_take (i := 12) (v := ?v213) rfl (by kernel_rfl) (by kernel_rfl) (by kernel_rfl) (fun _ _ _ h => h) (Or.inl ⟨by rfl, ?hy213⟩) (by assumption) ?rest213
                  case hy213 => (intro w hSw; (try dsimp only at hSw); go_simp; try with_reducible rfl)
                  (try simp only [Act.put, List.getElem_toArray, List.getElem_cons_zero, List.getElem_cons_succ, List.setIfInBounds_toArray, List.set_cons_zero, List.set_cons_succ])
                  refine wpAnyH_take (i := 13) (v := ?v214) rfl (by kernel_rfl) (by kernel_rfl) (by kernel_rfl) (fun _ _ _ h => h) (Or.inl ⟨by rfl, ?hy214⟩) (by assumption) ?rest214
                  case hy214 => (intro w hSw; (try dsimp only at hSw); go_simp; try with_reducible rfl)
                  (try simp only [Act.put, List.getElem_toArray, List.getElem_cons_zero, List.getElem_cons_succ, List.setIfInBounds_toArray, List.set_cons_zero, List.set_cons_succ])
                  refine wpAnyH_take (i := 15) (v := ?v215) rfl (by kernel_rfl) (by kernel_rfl) (by kernel_rfl) (fun _ _ _ h => h) (Or.inl ⟨by rfl, ?hy215⟩) (by assumption) ?rest215
                  case hy215 => (intro w hSw; (try dsimp only at hSw); go_simp; try with_reducible rfl)
                  (try simp only [Act.put, List.getElem_toArray, List.getElem_cons_zero, List.getElem_cons_succ, List.setIfInBounds_toArray, List.set_cons_zero, List.set_cons_succ])
                  refine wpAnyH_take (i := 16) (v := ?v216) rfl (by kernel_rfl) (by kernel_rfl) (by kernel_rfl) (fun _ _ _ h => h) (Or.inl ⟨by rfl, ?hy216⟩) (by assumption) ?rest216
                  case hy216 => (intro w hSw; (try dsimp only at hSw); go_simp; try with_reducible rfl)
                  (try simp only [Act.put, List.getElem_toArray, List.getElem_cons_zero, List.getElem_cons_succ, List.setIfInBounds_toArray, List.set_cons_zero, List.set_cons_succ])
                  refine wpAnyH_take (i := 17) (v := ?v217) rfl (by kernel_rfl) (by kernel_rfl) (by kernel_rfl) (fun _ _ _ h => h) (Or.inl ⟨by rfl, ?hy217⟩) (by assumption) ?rest217
                  case hy217 => (intro w hSw; (try dsimp only at hSw); go_simp; try with_reducible rfl)
                  (try simp only [Act.put, List.getElem_toArray, List.getElem_cons_zero, List.getElem_cons_succ, List.setIfInBounds_toArray, List.set_cons_zero, List.set_cons_succ])
                  refine wpAnyH_take (i := 18) (v := ?v218) rfl (by kernel_rfl) (by kernel_rfl) (by kernel_rfl) (fun _ _ _ h => h) (Or.inl ⟨by rfl, ?hy218⟩) (by assumption) ?rest218
                  case hy218 => (intro w hSw; (try dsimp only at hSw); go_simp; try with_reducible rfl)
                  (try simp only [Act.put, List.getElem_toArray, List.getElem_cons_zero, List.getElem_cons_succ, List.setIfInBounds_toArray, List.set_cons_zero, List.set_cons_succ])
                  refine wpAnyH_take (i := 19) (v := ?v219) rfl (by kernel_rfl) (by kernel_rfl) (by kernel_rfl) (fun _ _ _ h => h) (Or.inl ⟨by rfl, ?hy219⟩) (by assumption) ?rest219
                  case hy219 => (intro w hSw; (try dsimp only at hSw); go_simp; try with_reducible rfl)
                  (try simp only [Act.put, List.getElem_toArray, List.getElem_cons_zero, List.getElem_cons_succ, List.setIfInBounds_toArray, List.set_cons_zero, List.set_cons_succ])
                  refine wpAnyH_take (i := 20) (v := ?v220) rfl (by kernel_rfl) (by kernel_rfl) (by kernel_rfl) (fun _ _ _ h => h) (Or.inl ⟨by rfl, ?hy220⟩) (by assumption) ?rest220
                  case hy220 => (intro w hSw; (try dsimp only at hSw); go_simp; try with_reducible rfl)
                  (try simp only [Act.put, List.getElem_toArray, List.getElem_cons_zero, List.getElem_cons_succ, List.setIfInBounds_toArray, List.set_cons_zero, List.set_cons_succ])
                  refine wpAnyH_take (i := 22) (v := ?v221) rfl (by kernel_rfl) (by kernel_rfl) (by kernel_rfl) (fun _ _ _ h => h) (Or.inl ⟨by rfl, ?hy221⟩) (by assumption) ?rest221
                  case hy221 => (intro w hSw; (try dsimp only at hSw); go_simp; try with_reducible rfl)
                  (try simp only [Act.put, List.getElem_toArray, List.getElem_cons_zero, List.getElem_cons_succ, List.setIfInBounds_toArray, List.set_cons_zero, List.set_cons_succ])
                  refine wpAnyH_ready (rs := [14, 21]) (by kernel_rfl) (by simp) ?rd222
                  refine AllReadyH.cons rfl (fun K hK => ?st223) ?more223
                  case st223 =>
                    go_simp
                    go_at_call 42
                    (with_reducible refine (HOW.out _ (by repeat (first | exact Upd.refl _ _ | exact HU4.out | exact HU3.out | apply Upd.drew | apply Upd.alloc))).mono ?_)
                    rintro e w3 ⟨v3, rfl, hs1, hu1⟩
                    obtain ⟨a3, m3, c3, rfl, hm3⟩ : ∃ a m c, v3 = .slice a m c ∧ m = X1.length := (by obtain ⟨a, c, e⟩ := hs1.shape; exact ⟨a, _, c, e, rfl⟩)
                    clear hm3
                    have HU3 : Hid (Upd (fun _ => False) wr w3) := Lib.hid (Upd.trans (by repeat (first | exact Upd.refl _ _ | exact HU4.out | exact HU3.out | apply Upd.drew | apply Upd.alloc)) hu1)
                    have HV3 := Lib.hid (hs1.lower (B' := wr.heap.size) (Upd.size (F := fun _ => False) (by repeat (first | exact Upd.refl _ _ | exact HU4.out | exact HU3.out | apply Upd.drew | apply Upd.alloc))))
                    clear hs1 hu1
                    have hb3 := (HU3.out.cell (p := ⟨hb, q, none⟩) lrb (fun h => h)).trans hb1
                    refine hK.out _ _ ⟨(Upd.cell (F := fun _ => False) (p := ⟨x, 0, none⟩) (by repeat (first | exact Upd.refl _ _ | exact HU4.out | exact HU3.out | apply Upd.drew | apply Upd.alloc)) lrx (fun h => h)).trans y0, (Upd.cell (F := fun _ => False) (p := ⟨x, 1, none⟩) (by repeat (first | exact Upd.refl _ _ | exact HU4.out | exact HU3.out | apply Upd.drew | apply Upd.alloc)) lrx (fun h => h)).trans y1, (Upd.cell (F := fun _ => False) (p := ⟨hw, q, none⟩) (by repeat (first | exact Upd.refl _ _ | exact HU4.out | exact HU3.out | apply Upd.drew | apply Upd.alloc)) lrw (fun h => h)).trans hw1⟩ (fun hHeld2 => ?_)
                    clear hK K
                    (try simp only [Act.put, List.getElem_toArray, List.getElem_cons_zero, List.getElem_cons_succ, List.setIfInBounds_toArray, List.set_cons_zero, List.set_cons_succ])
                    refine wpAnyH_ready (rs := [21]) (by kernel_rfl) (by simp) ?rd224
                    refine AllReadyH.cons rfl (fun K hK => ?st225) ?more225
                    case st225 =>
                      go_simp
                      refine hK.out _ _ ⟨(Upd.cell (F := fun _ => False) (p := ⟨x, 0, none⟩) (by repeat (first | exact Upd.refl _ _ | exact HU4.out | exact HU3.out | apply Upd.drew | apply Upd.alloc)) lrx (fun h => h)).trans y0, (Upd.cell (F := fun _ => False) (p := ⟨x, 1, none⟩) (by repeat (first | exact Upd.refl _ _ | exact HU4.out | exact HU3.out | apply Upd.drew | apply Upd.alloc)) lrx (fun h => h)).trans y1, (Upd.cell (F := fun _ => False) (p := ⟨hw, q, none⟩) (by repeat (first | exact Upd.refl _ _ | exact HU4.out | exact HU3.out | apply Upd.drew | apply Upd.alloc)) lrw (fun h => h)).trans hw1⟩ (fun hHeld3 => ?_)
                      clear hK K
                      (try simp only [Act.put, List.getElem_toArray, List.getElem_cons_zero, List.getElem_cons_succ, List.setIfInBounds_toArray, List.set_cons_zero, List.set_cons_succ])
                      refine wpAnyH_take (i := 23) (v := ?v226) rfl (by kernel_rfl) (by kernel_rfl) (by kernel_rfl) (fun _ _ _ h => h) (Or.inl ⟨by rfl, ?hy226⟩) (by assumption) ?rest226
                      case hy226 => (intro w hSw; (try dsimp only at hSw); go_simp; try with_reducible rfl)
                      (try simp only [Act.put, List.getElem_toArray, List.getElem_cons_zero, List.getElem_cons_succ, List.setIfInBounds_toArray, List.set_cons_zero, List.set_cons_succ])
                      refine wpAnyH_ready (rs := [24]) (by kernel_rfl) (by simp) ?rd227
                      refine AllReadyH.cons rfl (fun K hK => ?st228) ?more228
                      case st228 =>
                        refine step_append_byt (by rfl) _ _ (by rfl) wr.heap.size _ _ X1 X2 (by rfl) HV3.out (by rfl) (HBV2.out _ 0 _ (by first | exact Or.inr ⟨rfl, rfl⟩ | exact Or.inr ⟨trivial, rfl⟩ | exact Or.inr rfl) HU3.out) (by have := HL1.out; have := HL2.out; omega) HU3.out.size ?_
                        intro v4 w4 hv4 hu4
                        obtain ⟨a4, m4, c4, rfl, hm4⟩ : ∃ a m c, v4 = .slice a m c ∧ m = (X1 ++ X2).length := (by obtain ⟨a, c, e⟩ := hv4.shape; exact ⟨a, _, c, e, rfl⟩)
                        clear hm4
                        have HU4 : Hid (Upd (fun _ => False) wr w4) := Lib.hid (HU3.out.trans' hu4 (fun i hi e => by omega))
                        have HR4 := Lib.hid (HRR.out.old HU4.out)
                        obtain ⟨su, sb1⟩ := HR4.out.bcell hlt
                        have fb := tag_frozen HR4.out.tb
                        have HV4 := Lib.hid hv4
                        clear hv4 hu4
                        refine hK.out _ _ ⟨(Upd.cell (F := fun _ => False) (p := ⟨x, 0, none⟩) (by repeat (first | exact Upd.refl _ _ | exact HU4.out | exact HU3.out | apply Upd.drew | apply Upd.alloc)) lrx (fun h => h)).trans y0, (Upd.cell (F := fun _ => False) (p := ⟨x, 1, none⟩) (by repeat (first | exact Upd.refl _ _ | exact HU4.out | exact HU3.out | apply Upd.drew | apply Upd.alloc)) lrx (fun h => h)).trans y1, (Upd.cell (F := fun _ => False) (p := ⟨hw, q, none⟩) (by repeat (first | exact Upd.refl _ _ | exact HU4.out | exact HU3.out | apply Upd.drew | apply Upd.alloc)) lrw (fun h => h)).trans hw1⟩ (fun hHeld4 => ?_)
                        clear hK K
                        (try simp only [Act.put, List.getElem_toArray, List.getElem_cons_zero, List.getElem_cons_succ, List.setIfInBounds_toArray, List.set_cons_zero, List.set_cons_succ])
                        refine wpAnyH_take (i := 25) (v := ?v229) rfl (by kernel_rfl) (by kernel_rfl) (by kernel_rfl) (fun _ _ _ h => h) (Or.inl ⟨by rfl, ?hy229⟩) (by assumption) ?rest229
                        case hy229 => (intro w hSw; (try dsimp only at hSw); go_simp; try with_reducible rfl)
                        (try simp only [Act.put, List.getElem_toArray, List.getElem_cons_zero, List.getElem_cons_succ, List.setIfInBounds_toArray, List.set_cons_zero, List.set_cons_succ])
                        refine wpAnyH_ready (rs := [26]) (by kernel_rfl) (by simp) ?rd230
                        refine AllReadyH.cons rfl (fun K hK => ?st231) ?more231
                        case st231 =>
                          go_simp
                          refine hK.out _ _ ⟨(Upd.cell (F := fun k => k = hb) (p := ⟨x, 0, none⟩) (by refine Upd.setCell ?_ (by exact Or.inl rfl) _; repeat (first | exact Upd.refl _ _ | exact HU4.out.mono (fun _ _ h => h.elim) | apply Upd.drew)) lrx a1).trans y0, (Upd.cell (F := fun k => k = hb) (p := ⟨x, 1, none⟩) (by refine Upd.setCell ?_ (by exact Or.inl rfl) _; repeat (first | exact Upd.refl _ _ | exact HU4.out.mono (fun _ _ h => h.elim) | apply Upd.drew)) lrx a1).trans y1, (Upd.cell (F := fun k => k = hb) (p := ⟨hw, q, none⟩) (by refine Upd.setCell ?_ (by exact Or.inl rfl) _; repeat (first | exact Upd.refl _ _ | exact HU4.out.mono (fun _ _ h => h.elim) | apply Upd.drew)) lrw hne.symm).trans hw1⟩ (fun hHeld5 => ?_)
                          clear hK K
                          (try simp only [Act.put, List.getElem_toArray, List.getElem_cons_zero, List.getElem_cons_succ, List.setIfInBounds_toArray, List.set_cons_zero, List.set_cons_succ])
                          refine wpAnyH_done (by kernel_rfl) ?_ _
                          go_wp2_with fail
                          have HS4 := Lib.hid (HV4.out.sec (by have := HL1.out; have := HL2.out; rw [List.length_append]; omega))
                          have HRz := Lib.hid (show RAt (w4.setCell ⟨hb, q, none⟩ (.slice a4 m4 c4)) x hb hw hd N (upTo (q + 1) (crB B V T K t 64) B) (upTo q (crB B V T K t 64) V) (upTo q (fun _ => false) T) by rw [← upTo_set HEQ.out]; exact HR4.out.setB hlt HS4.out)
                          have HUz : Hid (Upd (fun k => k = hb ∨ k = hw ∨ k = hd) w (w4.setCell ⟨hb, q, none⟩ (.slice a4 m4 c4))) := Lib.hid ((HU.out.trans (HU4.out.mono (fun _ _ h => h.elim))).setCell (p := ⟨hb, q, none⟩) (Or.inl (Or.inl rfl)) _)
                          generalize w4.setCell ⟨hb, q, none⟩ (.slice a4 m4 c4) = wz at HRz HUz ⊢
                          clear y0 y1 hw1 hb1 sb1 fb lrx lrw lrb HS4 HR4 HU4 HV4 HV3 HU3
                          obtain ⟨svb, hb1, hb2⟩ := HRz.out.sb q hlt
                          rw [upTo_in] at hb2
                          obtain ⟨bk, bo, bc, rfl, _⟩ := hb2.shape
                          have HOB : Hid (∀ W, Upd (fun _ => False) wz W → Calls Try.prog 42 #[.slice (some ⟨bk, bo, none⟩) 64 bc] W (ClonePost W (crB B V T K t 64 q))) := Lib.hid fun W u => rown_sec W _ _ (hb2.old u).byt hb2.len
                          clear hb2
                          have HRCz := Lib.hid (HRC.out.upd HUz.out (by omega))
                          have z0 := HRCz.out.k0
                          have z1 := HRCz.out.k1
                          have z2 := HRCz.out.k2
                          have lz := HRz.out.lt
                          have lzx := lz.1
                          have lzb := lz.2.1
                          have lzw := lz.2.2.1
                          clear lz
                          go_wp2_with fail
                          go_region_held3 (fun w' => w'.cell? ⟨x, 0, none⟩ = some (.slice (some ⟨hb, 0, none⟩) N (N + d0)) ∧ w'.cell? ⟨x, 1, none⟩ = some (.slice (some ⟨hw, 0, none⟩) N (N + d1)) ∧ w'.cell? ⟨x, 2, none⟩ = some (.slice (some ⟨hd, 0, none⟩) N (N + d2)) ∧ w'.cell? ⟨hb, q, none⟩ = some (.slice (some ⟨bk, bo, none⟩) 64 bc))
                            (first | exact ⟨z0, z1, z2, hb1⟩ | exact ⟨(Upd.cell (F := fun k => k = hw ∨ k = hd) (p := ⟨x, 0, none⟩) (by repeat (first | exact Upd.refl _ _ | exact U1.out.mono (fun _ _ h => h.elim) | apply Upd.drew | apply Upd.alloc | refine Upd.setCell ?_ (by first | exact Or.inl (Or.inl rfl) | exact Or.inl (Or.inr rfl)) _)) lzx hnx).trans z0, (Upd.cell (F := fun k => k = hw ∨ k = hd) (p := ⟨x, 1, none⟩) (by repeat (first | exact Upd.refl _ _ | exact U1.out.mono (fun _ _ h => h.elim) | apply Upd.drew | apply Upd.alloc | refine Upd.setCell ?_ (by first | exact Or.inl (Or.inl rfl) | exact Or.inl (Or.inr rfl)) _)) lzx hnx).trans z1, (Upd.cell (F := fun k => k = hw ∨ k = hd) (p := ⟨x, 2, none⟩) (by repeat (first | exact Upd.refl _ _ | exact U1.out.mono (fun _ _ h => h.elim) | apply Upd.drew | apply Upd.alloc | refine Upd.setCell ?_ (by first | exact Or.inl (Or.inl rfl) | exact Or.inl (Or.inr rfl)) _)) lzx hnx).trans z2, (Upd.cell (F := fun k => k = hw ∨ k = hd) (p := ⟨hb, q, none⟩) (by repeat (first | exact Upd.refl _ _ | exact U1.out.mono (fun _ _ h => h.elim) | apply Upd.drew | apply Upd.alloc | refine Upd.setCell ?_ (by first | exact Or.inl (Or.inl rfl) | exact Or.inl (Or.inr rfl)) _)) lzb hnb).trans hb1⟩)
                            ((go_at_call 42; (with_reducible refine (HOB.out _ (by repeat (first | exact Upd.refl _ _ | apply Upd.drew | apply Upd.alloc))).mono ?_); rintro e w1 ⟨v1, rfl, hs1, hf1, hu1⟩; obtain ⟨k1, o1, cc1, rfl, _⟩ := hs1.shape; have HS1 := Lib.hid hs1; have HF1 := Lib.hid (fresh_le' hf1 (B' := wz.heap.size) (Upd.size (F := fun _ => False) (by repeat (first | exact Upd.refl _ _ | apply Upd.drew | apply Upd.alloc)))); have U1 : Hid (Upd (fun _ => False) wz w1) := Lib.hid (Upd.trans (by repeat (first | exact Upd.refl _ _ | apply Upd.drew | apply Upd.alloc)) hu1); have HR1 := Lib.hid (HRz.out.old U1.out); obtain ⟨su, sw1⟩ := HR1.out.wcell hlt; have sd1 := HR1.out.sd q hlt; have fw := tag_frozen HR1.out.tw; have fd := tag_frozen HR1.out.td; clear hs1 hf1 hu1))
                          all_goals
                            have HCT := Lib.hid (cutRW false HR1.out U1.out hlt HS1.out HF1.out lzw)
                            clear sw1 sd1 fw fd
                            go_wp2_with fail
                            go_roundw
                            case rel =>
                              first
                                | exact ⟨q + 1, by go_num, hlt, turn_done HCT.out.1.r, HUz.out.trans (HCT.out.1.up.mono (fun _ _ h => by rcases h with h | h <;> simp [h]))⟩
                                | exact ⟨q + 1, by go_num, hlt, turn_done HCT.out.2.r, HUz.out.trans (HCT.out.2.up.mono (fun _ _ h => by rcases h with h | h <;> simp [h]))⟩
                            case measure => simp [intOf]; omega
                        exact AllReadyH.nil
                      exact AllReadyH.nil
                    exact AllReadyH.nil
                  refine AllReadyH.cons rfl (fun K hK => ?st232) ?more232
                  case st232 =>
                    go_simp
                    refine hK.out _ _ ⟨(Upd.cell (F := fun _ => False) (p := ⟨x, 0, none⟩) (by repeat (first | exact Upd.refl _ _ | exact HU4.out | exact HU3.out | apply Upd.drew | apply Upd.alloc)) lrx (fun h => h)).trans y0, (Upd.cell (F := fun _ => False) (p := ⟨x, 1, none⟩) (by repeat (first | exact Upd.refl _ _ | exact HU4.out | exact HU3.out | apply Upd.drew | apply Upd.alloc)) lrx (fun h => h)).trans y1, (Upd.cell (F := fun _ => False) (p := ⟨hw, q, none⟩) (by repeat (first | exact Upd.refl _ _ | exact HU4.out | exact HU3.out | apply Upd.drew | apply Upd.alloc)) lrw (fun h => h)).trans hw1⟩ (fun hHeld3 => ?_)
                    clear hK K
                    (try simp only [Act.put, List.getElem_toArray, List.getElem_cons_zero, List.getElem_cons_succ, List.setIfInBounds_toArray, List.set_cons_zero, List.set_cons_succ])
                    refine wpAnyH_take (i := 23) (v := ?v233) rfl (by kernel_rfl) (by kernel_rfl) (by kernel_rfl) (fun _ _ _ h => h) (Or.inl ⟨by rfl, ?hy233⟩) (by assumption) ?rest233
                    case hy233 => (intro w hSw; (try dsimp only at hSw); go_simp; try with_reducible rfl)
                    (try simp only [Act.put, List.getElem_toArray, List.getElem_cons_zero, List.getElem_cons_succ, List.setIfInBounds_toArray, List.set_cons_zero, List.set_cons_succ])
                    refine wpAnyH_ready (rs := [14]) (by kernel_rfl) (by simp) ?rd234
                    refine AllReadyH.cons rfl (fun K hK => ?st235) ?more235
                    case st235 =>
                      go_simp
                      go_at_call 42
                      (with_reducible refine (HOW.out _ (by repeat (first | exact Upd.refl _ _ | exact HU4.out | exact HU3.out | apply Upd.drew | apply Upd.alloc))).mono ?_)
                      rintro e w3 ⟨v3, rfl, hs1, hu1⟩
                      obtain ⟨a3, m3, c3, rfl, hm3⟩ : ∃ a m c, v3 = .slice a m c ∧ m = X1.length := (by obtain ⟨a, c, e⟩ := hs1.shape; exact ⟨a, _, c, e, rfl⟩)
                      clear hm3
                      have HU3 : Hid (Upd (fun _ => False) wr w3) := Lib.hid (Upd.trans (by repeat (first | exact Upd.refl _ _ | exact HU4.out | exact HU3.out | apply Upd.drew | apply Upd.alloc)) hu1)
                      have HV3 := Lib.hid (hs1.lower (B' := wr.heap.size) (Upd.size (F := fun _ => False) (by repeat (first | exact Upd.refl _ _ | exact HU4.out | exact HU3.out | apply Upd.drew | apply Upd.alloc))))
                      clear hs1 hu1
                      have hb3 := (HU3.out.cell (p := ⟨hb, q, none⟩) lrb (fun h => h)).trans hb1
                      refine hK.out _ _ ⟨(Upd.cell (F := fun _ => False) (p := ⟨x, 0, none⟩) (by repeat (first | exact Upd.refl _ _ | exact HU4.out | exact HU3.out | apply Upd.drew | apply Upd.alloc)) lrx (fun h => h)).trans y0, (Upd.cell (F := fun _ => False) (p := ⟨x, 1, none⟩) (by repeat (first | exact Upd.refl _ _ | exact HU4.out | exact HU3.out | apply Upd.drew | apply Upd.alloc)) lrx (fun h => h)).trans y1, (Upd.cell (F := fun _ => False) (p := ⟨hw, q, none⟩) (by repeat (first | exact Upd.refl _ _ | exact HU4.out | exact HU3.out | apply Upd.drew | apply Upd.alloc)) lrw (fun h => h)).trans hw1⟩ (fun hHeld2 => ?_)
                      clear hK K
                      (try simp only [Act.put, List.getElem_toArray, List.getElem_cons_zero, List.getElem_cons_succ, List.setIfInBounds_toArray, List.set_cons_zero, List.set_cons_succ])
                      refine wpAnyH_ready (rs := [24]) (by kernel_rfl) (by simp) ?rd236
                      refine AllReadyH.cons rfl (fun K hK => ?st237) ?more237
                      case st237 =>
                        refine step_append_byt (by rfl) _ _ (by rfl) wr.heap.size _ _ X1 X2 (by rfl) HV3.out (by rfl) (HBV2.out _ 0 _ (by first | exact Or.inr ⟨rfl, rfl⟩ | exact Or.inr ⟨trivial, rfl⟩ | exact Or.inr rfl) HU3.out) (by have := HL1.out; have := HL2.out; omega) HU3.out.size ?_
                        intro v4 w4 hv4 hu4
                        obtain ⟨a4, m4, c4, rfl, hm4⟩ : ∃ a m c, v4 = .slice a m c ∧ m = (X1 ++ X2).length := (by obtain ⟨a, c, e⟩ := hv4.shape; exact ⟨a, _, c, e, rfl⟩)
                        clear hm4
                        have HU4 : Hid (Upd (fun _ => False) wr w4) := Lib.hid (HU3.out.trans' hu4 (fun i hi e => by omega))
                        have HR4 := Lib.hid (HRR.out.old HU4.out)
                        obtain ⟨su, sb1⟩ := HR4.out.bcell hlt
                        have fb := tag_frozen HR4.out.tb
                        have HV4 := Lib.hid hv4
                        clear hv4 hu4
                        refine hK.out _ _ ⟨(Upd.cell (F := fun _ => False) (p := ⟨x, 0, none⟩) (by repeat (first | exact Upd.refl _ _ | exact HU4.out | exact HU3.out | apply Upd.drew | apply Upd.alloc)) lrx (fun h => h)).trans y0, (Upd.cell (F := fun _ => False) (p := ⟨x, 1, none⟩) (by repeat (first | exact Upd.refl _ _ | exact HU4.out | exact HU3.out | apply Upd.drew | apply Upd.alloc)) lrx (fun h => h)).trans y1, (Upd.cell (F := fun _ => False) (p := ⟨hw, q, none⟩) (by repeat (first | exact Upd.refl _ _ | exact HU4.out | exact HU3.out | apply Upd.drew | apply Upd.alloc)) lrw (fun h => h)).trans hw1⟩ (fun hHeld4 => ?_)
                        clear hK K
                        (try simp only [Act.put, List.getElem_toArray, List.getElem_cons_zero, List.getElem_cons_succ, List.setIfInBounds_toArray, List.set_cons_zero, List.set_cons_succ])
                        refine wpAnyH_take (i := 25) (v := ?v238) rfl (by kernel_rfl) (by kernel_rfl) (by kernel_rfl) (fun _ _ _ h => h) (Or.inl ⟨by rfl, ?hy238⟩) (by assumption) ?rest238
                        case hy238 => (intro w hSw; (try dsimp only at hSw); go_simp; try with_reducible rfl)
                        (try simp only [Act.put, List.getElem_toArray, List.getElem_cons_zero, List.getElem_cons_succ, List.setIfInBounds_toArray, List.set_cons_zero, List.set_cons_succ])
                        refine wpAnyH_ready (rs := [26]) (by kernel_rfl) (by simp) ?rd239
                        refine AllReadyH.cons rfl (fun K hK => ?st240) ?more240
                        case st240 =>
                          go_simp
                          refine hK.out _ _ ⟨(Upd.cell (F := fun k => k = hb) (p := ⟨x, 0, none⟩) (by refine Upd.setCell ?_ (by exact Or.inl rfl) _; repeat (first | exact Upd.refl _ _ | exact HU4.out.mono (fun _ _ h => h.elim) | apply Upd.drew)) lrx a1).trans y0, (Upd.cell (F := fun k => k = hb) (p := ⟨x, 1, none⟩) (by refine Upd.setCell ?_ (by exact Or.inl rfl) _; repeat (first | exact Upd.refl _ _ | exact HU4.out.mono (fun _ _ h => h.elim) | apply Upd.drew)) lrx a1).trans y1, (Upd.cell (F := fun k => k = hb) (p := ⟨hw, q, none⟩) (by refine Upd.setCell ?_ (by exact Or.inl rfl) _; repeat (first | exact Upd.refl _ _ | exact HU4.out.mono (fun _ _ h => h.elim) | apply Upd.drew)) lrw hne.symm).trans hw1⟩ (fun hHeld5 => ?_)
                          clear hK K
                          (try simp only [Act.put, List.getElem_toArray, List.getElem_cons_zero, List.getElem_cons_succ, List.setIfInBounds_toArray, List.set_cons_zero, List.set_cons_succ])
                          refine wpAnyH_done (by kernel_rfl) ?_ _
                          go_wp2_with fail
                          have HS4 := Lib.hid (HV4.out.sec (by have := HL1.out; have := HL2.out; rw [List.length_append]; omega))
                          have HRz := Lib.hid (show RAt (w4.setCell ⟨hb, q, none⟩ (.slice a4 m4 c4)) x hb hw hd N (upTo (q + 1) (crB B V T K t 64) B) (upTo q (crB B V T K t 64) V) (upTo q (fun _ => false) T) by rw [← upTo_set HEQ.out]; exact HR4.out.setB hlt HS4.out)
                          have HUz : Hid (Upd (fun k => k = hb ∨ k = hw ∨ k = hd) w (w4.setCell ⟨hb, q, none⟩ (.slice a4 m4 c4))) := Lib.hid ((HU.out.trans (HU4.out.mono (fun _ _ h => h.elim))).setCell (p := ⟨hb, q, none⟩) (Or.inl (Or.inl rfl)) _)
                          generalize w4.setCell ⟨hb, q, none⟩ (.slice a4 m4 c4) = wz at HRz HUz ⊢
                          clear y0 y1 hw1 hb1 sb1 fb lrx lrw lrb HS4 HR4 HU4 HV4 HV3 HU3
                          obtain ⟨svb, hb1, hb2⟩ := HRz.out.sb q hlt
                          rw [upTo_in] at hb2
                          obtain ⟨bk, bo, bc, rfl, _⟩ := hb2.shape
                          have HOB : Hid (∀ W, Upd (fun _ => False) wz W → Calls Try.prog 42 #[.slice (some ⟨bk, bo, none⟩) 64 bc] W (ClonePost W (crB B V T K t 64 q))) := Lib.hid fun W u => rown_sec W _ _ (hb2.old u).byt hb2.len
                          clear hb2
                          have HRCz := Lib.hid (HRC.out.upd HUz.out (by omega))
                          have z0 := HRCz.out.k0
                          have z1 := HRCz.out.k1
                          have z2 := HRCz.out.k2
                          have lz := HRz.out.lt
                          have lzx := lz.1
                          have lzb := lz.2.1
                          have lzw := lz.2.2.1
                          clear lz
                          go_wp2_with fail
                          go_region_held3 (fun w' => w'.cell? ⟨x, 0, none⟩ = some (.slice (some ⟨hb, 0, none⟩) N (N + d0)) ∧ w'.cell? ⟨x, 1, none⟩ = some (.slice (some ⟨hw, 0, none⟩) N (N + d1)) ∧ w'.cell? ⟨x, 2, none⟩ = some (.slice (some ⟨hd, 0, none⟩) N (N + d2)) ∧ w'.cell? ⟨hb, q, none⟩ = some (.slice (some ⟨bk, bo, none⟩) 64 bc))
                            (first | exact ⟨z0, z1, z2, hb1⟩ | exact ⟨(Upd.cell (F := fun k => k = hw ∨ k = hd) (p := ⟨x, 0, none⟩) (by repeat (first | exact Upd.refl _ _ | exact U1.out.mono (fun _ _ h => h.elim) | apply Upd.drew | apply Upd.alloc | refine Upd.setCell ?_ (by first | exact Or.inl (Or.inl rfl) | exact Or.inl (Or.inr rfl)) _)) lzx hnx).trans z0, (Upd.cell (F := fun k => k = hw ∨ k = hd) (p := ⟨x, 1, none⟩) (by repeat (first | exact Upd.refl _ _ | exact U1.out.mono (fun _ _ h => h.elim) | apply Upd.drew | apply Upd.alloc | refine Upd.setCell ?_ (by first | exact Or.inl (Or.inl rfl) | exact Or.inl (Or.inr rfl)) _)) lzx hnx).trans z1, (Upd.cell (F := fun k => k = hw ∨ k = hd) (p := ⟨x, 2, none⟩) (by repeat (first | exact Upd.refl _ _ | exact U1.out.mono (fun _ _ h => h.elim) | apply Upd.drew | apply Upd.alloc | refine Upd.setCell ?_ (by first | exact Or.inl (Or.inl rfl) | exact Or.inl (Or.inr rfl)) _)) lzx hnx).trans z2, (Upd.cell (F := fun k => k = hw ∨ k = hd) (p := ⟨hb, q, none⟩) (by repeat (first | exact Upd.refl _ _ | exact U1.out.mono (fun _ _ h => h.elim) | apply Upd.drew | apply Upd.alloc | refine Upd.setCell ?_ (by first | exact Or.inl (Or.inl rfl) | exact Or.inl (Or.inr rfl)) _)) lzb hnb).trans hb1⟩)
                            ((go_at_call 42; (with_reducible refine (HOB.out _ (by repeat (first | exact Upd.refl _ _ | apply Upd.drew | apply Upd.alloc))).mono ?_); rintro e w1 ⟨v1, rfl, hs1, hf1, hu1⟩; obtain ⟨k1, o1, cc1, rfl, _⟩ := hs1.shape; have HS1 := Lib.hid hs1; have HF1 := Lib.hid (fresh_le' hf1 (B' := wz.heap.size) (Upd.size (F := fun _ => False) (by repeat (first | exact Upd.refl _ _ | apply Upd.drew | apply Upd.alloc)))); have U1 : Hid (Upd (fun _ => False) wz w1) := Lib.hid (Upd.trans (by repeat (first | exact Upd.refl _ _ | apply Upd.drew | apply Upd.alloc)) hu1); have HR1 := Lib.hid (HRz.out.old U1.out); obtain ⟨su, sw1⟩ := HR1.out.wcell hlt; have sd1 := HR1.out.sd q hlt; have fw := tag_frozen HR1.out.tw; have fd := tag_frozen HR1.out.td; clear hs1 hf1 hu1))
                          all_goals
                            have HCT := Lib.hid (cutRW false HR1.out U1.out hlt HS1.out HF1.out lzw)
                            clear sw1 sd1 fw fd
                            go_wp2_with fail
                            go_roundw
                            case rel =>
                              first
                                | exact ⟨q + 1, by go_num, hlt, turn_done HCT.out.1.r, HUz.out.trans (HCT.out.1.up.mono (fun _ _ h => by rcases h with h | h <;> simp [h]))⟩
                                | exact ⟨q + 1, by go_num, hlt, turn_done HCT.out.2.r, HUz.out.trans (HCT.out.2.up.mono (fun _ _ h => by rcases h with h | h <;> simp [h]))⟩
                            case measure => simp [intOf]; omega
                        exact AllReadyH.nil
                      exact AllReadyH.nil
                    exact AllReadyH.nil
                  exact AllReadyH.nil
    · go_wp2_with fail
      obtain rfl : q = N := by omega
      go_ret
      exact ⟨rfl, HRR.out.cong (fun i hi => by unfold upTo; rw [if_pos hi]) (fun i hi => by unfold upTo; rw [if_pos hi]) (fun i hi => by unfold upTo; rw [if_pos hi]), HU.out⟩
end Go.Proofs.Ytcmhcibkpmbnoaa
