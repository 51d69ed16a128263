/-
  Next.
-/
import Derived.Test.YtlichkheakjkhaaLead5
import Derived.Test.YtlichkheakjkhaaLib3
namespace Go.Proofs.Ytlichkheakjkhaa
open Go Go.RowKit

/-- r is the greatest of x and of what S has. -/
def IsMax (S : Int → Prop) (x r : Int) : Prop := x ≤ r ∧ (∀ k, S k → k ≤ r) ∧ (r = x ∨ S r)
theorem IsMax.unique {S : Int → Prop} {x r r' : Int} (h : IsMax S x r) (h' : IsMax S x r') : r = r' := by
  obtain ⟨a, b, c⟩ := h
  obtain ⟨a', b', c'⟩ := h'
  rcases c with c | c <;> rcases c' with c' | c'
  · omega
  · have := b _ c'; omega
  · have := b' _ c; omega
  · have := b _ c'; have := b' _ c; omega
def keyIn (l : List (Int × Value)) (k : Int) : Prop := ∃ v, (k, v) ∈ l
/-- What has been met of l when left is left. -/
def met (l left : List (Int × Value)) (k : Int) : Prop := keyIn l k ∧ ¬ keyIn left k
theorem keyIn_adel {l : List (Int × Value)} {k k' : Int} : keyIn (adel l k) k' ↔ keyIn l k' ∧ k' ≠ k := by
  unfold keyIn adel
  constructor
  · rintro ⟨v, h⟩
    obtain ⟨h1, h2⟩ := List.mem_filter.1 h
    exact ⟨⟨v, h1⟩, by simpa using h2⟩
  · rintro ⟨⟨v, h⟩, hne⟩
    exact ⟨v, List.mem_filter.2 ⟨h, by simpa using hne⟩⟩
theorem IsMax.step {S S' : Int → Prop} {x r k : Int} (h : IsMax S x r) (hS : ∀ i, S' i ↔ S i ∨ i = k) : IsMax S' x (if r ≤ k then k else r) := by
  obtain ⟨a, b, c⟩ := h
  split
  · refine ⟨by omega, fun i hi => ?_, Or.inr ((hS _).2 (Or.inr rfl))⟩
    rcases (hS i).1 hi with hi | hi
    · have := b i hi; omega
    · omega
  · refine ⟨a, fun i hi => ?_, ?_⟩
    · rcases (hS i).1 hi with hi | hi
      · exact b i hi
      · omega
    · rcases c with c | c
      · exact Or.inl c
      · exact Or.inr ((hS _).2 (Or.inl c))

def small (l : List (Int × Value)) : Prop := ∀ p ∈ l, -9223372036854775808 ≤ p.1 ∧ p.1 ≤ 9223372036854775807
def NextPost (w : World) (frm : Int) (B O : List (Int × Value)) (e : Ending) (w' : World) : Prop :=
  ∃ last, IsMax (fun k => keyIn B k ∨ keyIn O k) (frm - 1) last ∧ e = .returned (.int .i64 (min last 9223372036854775806 + 1)) ∧ Upd (fun _ => False) w w'
def NextRel (w : World) (b m1 m2 m3 : Nat) (ballot frm : Int) (P B O l : List (Int × Value)) (m r : Nat) (x0 : Int) (S0 : Int → Prop) (v : Value) (wr : World) : Prop :=
  ∃ (last : Int) (left : List (Int × Value)), v = .int .i64 last ∧ -9223372036854775808 ≤ last ∧ last ≤ 9223372036854775807 ∧ IterAt wr r m left ∧ (∀ p ∈ left, p ∈ l) ∧ IsMax (fun k => S0 k ∨ met l left k) x0 last ∧
    TryAt wr b m1 m2 m3 ballot frm P B O ∧ Upd (fun _ => False) w wr
noncomputable def leftN (wr : World) (r : Nat) : Nat :=
  match wr.heap[r]? with
  | some (.mapIter (some m) _ seen _) => match wr.heap[m]? with | some (.map es _) => (leftOf es seen).size | _ => 0
  | _ => 0
theorem IterAt.count {w : World} {r m : Nat} {left : List (Int × Value)} (h : IterAt w r m left) : leftN w r = left.length := by
  obtain ⟨es, c, since, seen, c0, h1, h2, _, _, _, _, rfl⟩ := h
  unfold leftN
  rw [h1]; simp only []; rw [h2]; simp

theorem next_step {w wr w' : World} {b m1 m2 m3 : Nat} {ballot frm : Int} {P B O l left : List (Int × Value)} {m r : Nat} {x0 last k : Int} {v : Value} {S0 : Int → Prop}
    (hT : TryAt wr b m1 m2 m3 ballot frm P B O) (hU : Upd (fun _ => False) w wr) (hM : IsMax (fun k => S0 k ∨ met l left k) x0 last) (hS : ∀ p ∈ left, p ∈ l) (hit : IterAt w' r m (adel left k)) (hmem : (k, v) ∈ left) (hu : Upd (fun b => b = r) wr w')
    (hr : w.heap.size ≤ r) (hrb : r ≠ b ∧ r ≠ m1 ∧ r ≠ m2 ∧ r ≠ m3) (b1 : -9223372036854775808 ≤ last) (b2 : last ≤ 9223372036854775807) (b3 : k ≤ 9223372036854775807) :
    NextRel w b m1 m2 m3 ballot frm P B O l m r x0 S0 (.int .i64 (max last k)) w' := by
  refine ⟨max last k, adel left k, rfl, by omega, by omega, hit, fun p hp => hS p (List.mem_filter.1 hp).1, ?_, hT.upd hu (fun e => hrb.1 e.symm) (fun e => hrb.2.1 e.symm) (fun e => hrb.2.2.1 e.symm) (fun e => hrb.2.2.2 e.symm), hU.trans' hu (fun i hi e => by omega)⟩
  have : max last k = if last ≤ k then k else last := by omega
  rw [this]
  refine hM.step fun i => ?_
  unfold met
  simp only [keyIn_adel]
  constructor
  · rintro (h | ⟨h, h'⟩)
    · exact Or.inl (Or.inl h)
    · by_cases e : i = k
      · exact Or.inr e
      · exact Or.inl (Or.inr ⟨h, fun hl => h' ⟨hl, e⟩⟩)
  · rintro ((h | ⟨h, h'⟩) | rfl)
    · exact Or.inl h
    · exact Or.inr ⟨h, fun hl => h' hl.1⟩
    · exact Or.inr ⟨⟨v, hS _ hmem⟩, fun hl => hl.2 rfl⟩
theorem IsMax.congr {S S' : Int → Prop} {x r : Int} (h : IsMax S x r) (hS : ∀ i, S' i ↔ S i) : IsMax S' x r :=
  ⟨h.1, fun k hk => h.2.1 k ((hS k).1 hk), h.2.2.imp id (fun h => (hS r).2 h)⟩

theorem next_any (w : World) (b m1 m2 m3 : Nat) (ballot frm : Int) (P B O : List (Int × Value)) (hb : 1 ≤ ballot) (h : TryAt w b m1 m2 m3 ballot frm P B O) (hf : 1 ≤ frm) (hf' : frm ≤ 1152921504606846976) (hB : small B) (hO : small O) :
    Calls Try.prog 12 #[.pointer (some ⟨b, 0, none⟩)] w (NextPost w frm B O) := by
  have hs : stateR 0 = 0 := by rw [stateR, if_pos (by omega)]
  have c3 := h.c3
  have c4 := h.c4
  have c1 := h.c1
  have i2 := h.i2
  have HH := Lib.hid h
  have HB := Lib.hid hB; clear hB
  have HO := Lib.hid hO; clear hO
  go_enter Try.func12, Try.ntmps12
  go_wp2_with (first | (go_at_call 34; refine (state_try _ h hb).mono ?_; rintro e w' ⟨rfl, rfl⟩) | (at_range; refine wpList_range_im rfl _ 57 _ _ rfl Try.underlying57 m2 B rfl i2 ?_; intro w0 hit0 hu0 hs0 hc0; clear hc0))
  go_frame
  have hT0 := HH.out.old hu0
  have HI0 := Lib.hid hit0; clear hit0
  have HU0 := Lib.hid hu0; clear hu0
  clear h c3 c4 c1 i2
  go_loopw [3] (fun v wr => NextRel w b m1 m2 m3 ballot frm P B O B m2 w.heap.size (frm - 1) (fun _ => False) v wr) (fun _ wr => leftN wr w.heap.size)
  case atStart => exact ⟨_, B, rfl, by omega, by omega, HI0.out, fun _ h => h, ⟨by omega, fun k h => by rcases h with h | h; exact h.elim; exact absurd h.1 h.2, Or.inl rfl⟩, hT0, HU0.out⟩
  case round =>
    obtain ⟨last, left, rfl, hl1, hl2, hit, hsub, hmax, hT, hU⟩ := hrel
    have HT := Lib.hid hT; clear hT
    have HU := Lib.hid hU; clear hU
    have HM := Lib.hid hmax; clear hmax
    have HI := Lib.hid hit
    have HS := Lib.hid hsub; clear hsub
    go_wp2_with (at_next; refine wpList_next_im rfl _ rfl w.heap.size m2 left rfl HI.out ?_ ?_)
    · intro hl0
      subst hl0
      have tc4 := HT.out.c4
      have ti3 := HT.out.i3
      clear hit
      go_wp2_with (at_range; refine wpList_range_im rfl _ 58 _ _ rfl Try.underlying58 m3 O rfl ti3 ?_; intro w1 hit1 hu1 hs1 hc1; clear hc1)
      go_frame
      clear tc4 ti3
      have hT1 := Lib.hid (HT.out.old hu1)
      have HI1 := Lib.hid hit1; clear hit1
      have HU1 := Lib.hid hu1; clear hu1
      have HM1 : Hid (IsMax (fun k => keyIn B k ∨ met O O k) (frm - 1) last) := HM.out.congr fun i => by
        constructor
        · rintro (h | h)
          · exact Or.inr ⟨h, fun hl => by obtain ⟨v, hv⟩ := hl; cases hv⟩
          · exact absurd h.1 h.2
        · rintro (h | h)
          · exact h.elim
          · exact Or.inl h.1
      have hwr : w.heap.size ≤ wr.heap.size := HU.out.size
      obtain ⟨wo, rfl⟩ : ∃ wo : World, wo = wr := ⟨_, rfl⟩
      clear HI HM HS
      go_loopw [3] (fun v wr => NextRel w b m1 m2 m3 ballot frm P B O O m3 wo.heap.size (frm - 1) (fun k => keyIn B k) v wr) (fun _ wr => leftN wr wo.heap.size)
      case atStart => exact ⟨_, O, rfl, by omega, by omega, HI1.out, fun _ h => h, HM1.out, hT1.out, HU.out.trans HU1.out⟩
      case round =>
        clear HT HU HM1 hT1 HI1 HU1 hl1 hl2
        obtain ⟨last2, left, rfl, hl1, hl2, hit, hsub, hmax, hT, hU⟩ := hrel
        have HT := Lib.hid hT; clear hT
        have HU := Lib.hid hU; clear hU
        have HM := Lib.hid hmax; clear hmax
        have HI := Lib.hid hit
        have HS := Lib.hid hsub; clear hsub
        go_wp2_with (at_next; refine wpList_next_im rfl _ rfl wo.heap.size m3 left rfl HI.out ?_ ?_)
        · intro hl0
          subst hl0
          clear hit
          go_wp2_with fail
          go_ret
          refine ⟨last2, HM.out.congr fun i => ?_, ?_, HU.out⟩
          · constructor
            · rintro (h | h)
              · exact Or.inl h
              · exact Or.inr ⟨h, fun hl => by obtain ⟨v, hv⟩ := hl; cases hv⟩
            · rintro (h | h)
              · exact Or.inl h
              · exact Or.inr h.1
          · rfl
        · intro k v w' hmem hit' hlt hu hsz hc him hen
          have hk := HO.out _ (HS.out _ hmem)
          simp only [] at hk
          have hk1 := hk.1
          have hk2 := hk.2
          have HI' := Lib.hid hit'; clear hit'
          have HM' := Lib.hid hmem; clear hmem
          have HU' := Lib.hid hu; clear hu
          clear hit hk hc him hsz
          have HLT := Lib.hid hlt; clear hlt
          go_wp2_with fail
          go_roundw
          case rel =>
            have hrr := HI.out.imr
            have hT := HT.out
            refine next_step HT.out HU.out HM.out HS.out HI'.out HM'.out HU'.out hwr ⟨?_, ?_, ?_, ?_⟩ (by omega) (by omega) (by omega)
            · have := HH.out.lts.1; omega
            · intro e; rw [e, hT.i1] at hrr; cases hrr
            · intro e; rw [e, hT.i2] at hrr; cases hrr
            · intro e; rw [e, hT.i3] at hrr; cases hrr
          case measure =>
            rw [HI'.out.count, HI.out.count]; exact HLT.out
    · intro k v w' hmem hit' hlt hu hsz hc him hen
      have hk := HB.out _ (HS.out _ hmem)
      simp only [] at hk
      have hk1 := hk.1
      have hk2 := hk.2
      have HI' := Lib.hid hit'; clear hit'
      have HM' := Lib.hid hmem; clear hmem
      have HU' := Lib.hid hu; clear hu
      clear hit hk hc him hsz
      have HLT := Lib.hid hlt; clear hlt
      go_wp2_with fail
      go_roundw
      case rel =>
        have hrr := HI.out.imr
        have hT := HT.out
        refine next_step HT.out HU.out HM.out HS.out HI'.out HM'.out HU'.out (Nat.le_refl _) ⟨?_, ?_, ?_, ?_⟩ (by omega) (by omega) (by omega)
        · have := HH.out.lts.1; omega
        · intro e; rw [e, hT.i1] at hrr; cases hrr
        · intro e; rw [e, hT.i2] at hrr; cases hrr
        · intro e; rw [e, hT.i3] at hrr; cases hrr
      case measure =>
        rw [HI'.out.count, HI.out.count]; exact HLT.out
end Go.Proofs.Ytlichkheakjkhaa
