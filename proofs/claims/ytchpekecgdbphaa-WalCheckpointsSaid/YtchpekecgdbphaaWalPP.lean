/-
  Small laws: eight bytes read into a number; bytes compared.
  parse: of any sector.
  parse: the walk.
  The sector of a place; a record at a place.
-/
import Derived.Test.YtchpekecgdbphaaWalZ
import Derived.Test.YtchpekecgdbphaaWalLaw
import Derived.Deep.RegionHeld3
set_option linter.unusedVariables false
namespace Go.Proofs.Ytchpekecgdbphaa
open Go Go.RowKit Go.MapKept Go.ChangeMaps

theorem ofInt64 (z : Int) : ((BitVec.ofInt 64 z).toNat : Int) = z % 18446744073709551616 := by
  rw [BitVec.toNat_ofInt]
  have : 0 ≤ z % ((2 ^ 64 : Nat) : Int) := Int.emod_nonneg _ (by decide)
  rw [Int.toNat_of_nonneg this]
  rfl
theorem shl_or {y x : Int} (hy : 0 ≤ y) (hy2 : y < 72057594037927936) (hx : 0 ≤ x) (hx2 : x < 256) : bits .or .i64 (wrap64 (y * 256)) x = wrap64 (y * 256 + x) := by
  show IntKind.i64.wrap ((BitVec.ofInt 64 (wrap64 (y * 256)) ||| BitVec.ofInt 64 x).toNat : Int) = _
  obtain ⟨Y, rfl⟩ : ∃ Y : Nat, y = Y := ⟨y.toNat, by omega⟩
  obtain ⟨X, rfl⟩ : ∃ X : Nat, x = X := ⟨x.toNat, by omega⟩
  have h1 : (BitVec.ofInt 64 (wrap64 ((Y : Int) * 256))).toNat = Y <<< 8 := by
    have := ofInt64 (wrap64 ((Y : Int) * 256))
    unfold wrap64 at *
    rw [Nat.shiftLeft_eq]
    omega
  have h2 : (BitVec.ofInt 64 (X : Int)).toNat = X := by
    have := ofInt64 (X : Int)
    omega
  rw [BitVec.toNat_or, h1, h2, ← Nat.shiftLeft_add_eq_or_of_lt (by omega : X < 2 ^ 8), Nat.shiftLeft_eq, IntKind.wrap_i64]
  unfold wrap64
  omega
theorem and_one_i64 {n : Int} (h0 : 0 ≤ n) (h1 : n < 9223372036854775808) : bits .and .i64 n 1 = n % 2 := by
  obtain ⟨N, rfl⟩ : ∃ N : Nat, n = N := ⟨n.toNat, by omega⟩
  show IntKind.i64.wrap ((BitVec.ofInt 64 (N : Int) &&& BitVec.ofInt 64 1).toNat : Int) = _
  have h1 : (BitVec.ofInt 64 (N : Int)).toNat = N := by
    have := ofInt64 (N : Int)
    omega
  rw [BitVec.toNat_and, h1, show (BitVec.ofInt 64 1).toNat = 1 from by decide, Nat.and_one_is_mod, IntKind.wrap_i64]
  omega
theorem big_bound {l : List Int} (h : IsB l) : 0 ≤ bigOf l ∧ bigOf l < 256 ^ l.length := by
  have key : ∀ (l : List Int) (a : Int) (n : Nat), IsB l → 0 ≤ a → a < 256 ^ n → 0 ≤ l.foldl (fun v x => v * 256 + x) a ∧ l.foldl (fun v x => v * 256 + x) a < 256 ^ (n + l.length) := by
    intro l
    induction l with
    | nil => intro a n _ h0 h1; exact ⟨h0, h1⟩
    | cons x l ih =>
      intro a n hB h0 h1
      have hx := hB x (.head _)
      have := ih (a * 256 + x) (n + 1) (fun y hy => hB y (.tail _ hy)) (by omega) (by rw [Int.pow_succ]; omega)
      rw [List.length_cons, show n + (l.length + 1) = n + 1 + l.length by omega]
      exact this
  have := key l 0 0 h (by omega) (by decide)
  rwa [Nat.zero_add] at this
theorem big_snoc (l : List Int) (x : Int) : bigOf (l ++ [x]) = bigOf l * 256 + x := by simp [bigOf]
/-- The number at place q of a head. -/
def bigAt (l : List Int) (q : Nat) : Int := bigOf ((l.drop (1 + 8 * q)).take 8)
theorem bigAt_bound {l : List Int} (h : IsB l) (hl : l.length = 64) {q : Nat} (hq : q < 4) : 0 ≤ bigAt l q ∧ bigAt l q < 18446744073709551616 := by
  have hk := big_bound ((h.drop (1 + 8 * q)).take 8)
  rw [List.length_take, List.length_drop, hl, Nat.min_eq_left (by omega)] at hk
  exact hk
/-- j bytes of it. -/
def bigJ (l : List Int) (q j : Nat) : Int := bigOf ((l.drop (1 + 8 * q)).take j)
theorem bigJ_next {l : List Int} (hl : l.length = 64) {q j : Nat} (hq : q < 4) (hj : j < 8) : bigJ l q (j + 1) = bigJ l q j * 256 + l.getD (1 + 8 * q + j) 0 := by
  unfold bigJ
  rw [List.take_succ_eq_append_getElem (by rw [List.length_drop]; omega), big_snoc, List.getD_eq_getElem?_getD, List.getElem?_eq_getElem (by omega)]
  congr 1
  simp
theorem bigJ_bound {l : List Int} (h : IsB l) (hl : l.length = 64) {q j : Nat} (hq : q < 4) (hj : j < 8) : 0 ≤ bigJ l q j ∧ bigJ l q j < 72057594037927936 := by
  have hk := big_bound ((h.drop (1 + 8 * q)).take j)
  rw [List.length_take, List.length_drop, hl, Nat.min_eq_left (by omega)] at hk
  have h7 : ∀ j, j < 8 → (256 : Int) ^ j ≤ 72057594037927936 := by decide
  have := h7 j hj
  exact ⟨hk.1, Int.lt_of_lt_of_le hk.2 this⟩
theorem bigJ_step {l : List Int} (h : IsB l) (hl : l.length = 64) {q j : Nat} (hq : q < 4) (hj : j < 8) : bits .or .i64 (wrap64 (wrap64 (bigJ l q j) * 256)) (l.getD (1 + 8 * q + j) 0) = wrap64 (bigJ l q (j + 1)) := by
  obtain ⟨b0, b1⟩ := bigJ_bound h hl hq hj
  have hx := h.at (1 + 8 * q + j)
  have : wrap64 (bigJ l q j) = bigJ l q j := IntWalk.wrap64_in _ (by omega)
  rw [this, shl_or b0 b1 hx.1 hx.2, bigJ_next hl hq hj]
theorem head_bigs {b : List Int} {s size n l p f : Int} (h : IsHead b s size n l p f) : bigAt b 0 = n ∧ bigAt b 1 = l ∧ bigAt b 2 = p ∧ bigAt b 3 = f := by
  obtain ⟨a1, a2, a3, a4⟩ := head_part n l p f
  have := h.n1; have := h.n2; have := h.l1; have := h.l2; have := h.p1; have := h.p3; have := h.f1; have := h.f2
  unfold bigAt
  rw [h.is]
  refine ⟨?_, ?_, ?_, ?_⟩
  · show bigOf (((headB n l p f).drop 1).take 8) = n
    rw [a1]; exact big_eight (by omega) (by omega)
  · show bigOf (((headB n l p f).drop 9).take 8) = l
    rw [a2]; exact big_eight (by omega) (by omega)
  · show bigOf (((headB n l p f).drop 17).take 8) = p
    rw [a3]; exact big_eight (by omega) (by omega)
  · show bigOf (((headB n l p f).drop 25).take 8) = f
    rw [a4]; exact big_eight (by omega) (by omega)
theorem bytesOf_inj {l m : List Int} (h : IsB l) (k : IsB m) : (Lib.bytesOf l == Lib.bytesOf m) = decide (l = m) := by
  by_cases e : l = m
  · rw [decide_eq_true e, e, beq_self_eq_true]
  · rw [decide_eq_false e]
    refine beq_false_of_ne fun e' => e ?_
    have key : ∀ (l m : List Int), IsB l → IsB m → Lib.bytesOf l = Lib.bytesOf m → l = m := by
      intro l
      induction l with
      | nil =>
        intro m _ _ h
        cases m with
        | nil => rfl
        | cons y m => simp [Lib.bytesOf] at h
      | cons x l ih =>
        intro m hl hm h
        cases m with
        | nil => simp [Lib.bytesOf] at h
        | cons y m =>
          simp only [Lib.bytesOf, List.map_cons, List.cons.injEq] at h
          have hx := hl x (.head _)
          have hy := hm y (.head _)
          have e1 := congrArg UInt8.toNat h.1
          simp only [UInt8.toNat_ofNat'] at e1
          have : x = y := by omega
          rw [this, ih m (fun z hz => hl z (.tail _ hz)) (fun z hz => hm z (.tail _ hz)) h.2]
    exact key l m h k e'
theorem equal_byt (w : World) (v v' : Value) (l m : List Int) (h : BytV w v l) (h' : BytV w v' m) (hl : IsB l) (hm : IsB m) : Calls Try.prog 39 #[v, v'] w (Same w (.bool (decide (l = m)))) := by
  have key : ∀ {v : Value} {l : List Int}, BytV w v l → ∃ a c, v = .slice a l.length c ∧ Lib.BytesIn w a l.length l := by
    intro v l h
    rcases h with ⟨rfl, a, c, rfl⟩ | ⟨k, o, c, rfl, hc⟩
    · exact ⟨a, c, rfl, fun h => absurd h (Nat.lt_irrefl _)⟩
    · exact ⟨_, c, rfl, fun _ => ⟨k, o, rfl, hc⟩⟩
  obtain ⟨a, c, rfl, h1⟩ := key h
  obtain ⟨a', c', rfl, h2⟩ := key h'
  refine (Try.bytes_Equal_all a a' l.length c m.length c' l m w rfl rfl h1 h2).mono ?_
  rintro e w' ⟨rfl, rfl⟩
  exact ⟨by rw [bytesOf_inj hl hm], rfl⟩
theorem Sec.byt {w : World} {v : Value} {l : List Int} (h : Sec w v l) : BytV w v l := by
  obtain ⟨k, o, c, cur, rfl, hl, _, hc⟩ := h
  exact .inr ⟨k, o, 64 + c, by rw [hl], fun j hj => hc j (by omega)⟩
end Go.Proofs.Ytchpekecgdbphaa
namespace Go.Proofs.Ytchpekecgdbphaa
open Go Go.RowKit Go.MapKept Go.ChangeMaps

/-- Four numbers. -/
structure Quads (w : World) (g : Nat → Int) (wr : World) : Prop where
  z : ∀ j, j < 4 → wr.cell? ⟨w.heap.size + 1, j, none⟩ = some (.int .i64 (g j))
  fz : ∀ j, wr.frozen? ⟨w.heap.size + 1, j, none⟩ = false
  up : Upd (fun _ => False) w wr
  lt : w.heap.size + 1 < wr.heap.size
  r : ∀ j, j < 4 → wr.cell? ⟨w.heap.size, j, none⟩ = some (.int .i64 0)
  rf : ∀ j, wr.frozen? ⟨w.heap.size, j, none⟩ = false
theorem Quads.put {w wr : World} {q : Nat} {g g' : Nat → Int} {x : Int} (h : Quads w g wr) (hq : q < 4) (hx : x = g' q) (hg : ∀ j, j ≠ q → g' j = g j) : Quads w g' (wr.setCell ⟨w.heap.size + 1, q, none⟩ (.int .i64 x)) := by
  refine ⟨fun j hj => ?_, fun j => ?_, h.up.setCell (p := ⟨w.heap.size + 1, q, none⟩) (Or.inr (Nat.le_succ _)) _, by simpa using h.lt, fun j hj => ?_, fun j => by rw [World.frozen?_setCell]; exact h.rf j⟩
  · by_cases e : j = q
    · subst e
      rw [← hx]
      exact World.cell?_setCell_same' _ _ _ (by rw [h.z j hj]; rfl)
    · rw [hg j e, World.cell?_setCell_other _ _ _ _ (fun e' => by simp only [Addr.mk.injEq] at e'; omega), h.z j hj]
  · rw [World.frozen?_setCell]
    exact h.fz j
  · rw [World.cell?_setCell_other _ _ _ _ (fun e' => by simp only [Addr.mk.injEq] at e'; omega), h.r j hj]
theorem Quads.congr {w wr : World} {g g' : Nat → Int} (h : Quads w g wr) (e : ∀ j, g' j = g j) : Quads w g' wr := ⟨fun j hj => by rw [e j]; exact h.z j hj, h.fz, h.up, h.lt, h.r, h.rf⟩
/-- The first q numbers are read, and j bytes of the next one. -/
def gj (l : List Int) (q j i : Nat) : Int := if i < q then bigAt l i else if i = q then wrap64 (bigJ l q j) else 0
theorem gj_zero (l : List Int) (q i : Nat) : gj l q 0 i = if i < q then bigAt l i else 0 := by
  unfold gj
  by_cases h : i < q
  · rw [if_pos h, if_pos h]
  · rw [if_neg h, if_neg h]
    by_cases e : i = q
    · rw [if_pos e]
      show wrap64 0 = 0
      exact IntWalk.wrap64_in _ (by omega)
    · rw [if_neg e]
theorem gj_done {l : List Int} (hB : IsB l) (hl : l.length = 64) {q : Nat} (hq : q < 4) (h0 : 0 ≤ gj l q 8 q) (h1 : gj l q 8 q ≤ 1152921504606846976) : gj l q 8 q = bigAt l q := by
  have hb := bigAt_bound hB hl hq
  have e : gj l q 8 q = wrap64 (bigAt l q) := by unfold gj; rw [if_neg (by omega), if_pos rfl]; rfl
  rw [e] at h0 h1 ⊢
  unfold wrap64 at *
  omega
theorem gj_next {l : List Int} (hB : IsB l) (hl : l.length = 64) {q : Nat} (hq : q < 4) (h0 : 0 ≤ gj l q 8 q) (h1 : gj l q 8 q ≤ 1152921504606846976) (i : Nat) : gj l (q + 1) 0 i = gj l q 8 i := by
  have hd := gj_done hB hl hq h0 h1
  rw [gj_zero]
  by_cases h : i < q
  · rw [if_pos (by omega)]; unfold gj; rw [if_pos h]
  · by_cases e : i = q
    · subst e; rw [if_pos (by omega), hd]
    · rw [if_neg (by omega)]; unfold gj; rw [if_neg h, if_neg e]
/-- What parse answers. -/
def ParsePost (w : World) (b : List Int) (s size : Int) (e : Ending) (w' : World) : Prop := Upd (fun _ => False) w w' ∧
  ∃ n l p f ok, e = .returned (.tuple #[.agg #[.int .i64 n, .int .i64 l, .int .i64 p, .int .i64 f], .bool ok]) ∧ (ok = true → IsHead b s size n l p f) ∧ (ok = false → ∀ n' l' p' f', ¬ IsHead b s size n' l' p' f')
/-- A number is out of range: no head. -/
theorem no_head {l : List Int} (hB : IsB l) (hl : l.length = 64) {q : Nat} (hq : q < 4) {s n : Int} (h : gj l q 8 q < 0 ∨ 1152921504606846976 < gj l q 8 q) : ∀ n' l' p' f', ¬ IsHead l s n n' l' p' f' := by
  intro n' l' p' f' hh
  obtain ⟨a0, a1, a2, a3⟩ := head_bigs hh
  have h0 := hh.n1; have h1 := hh.n2; have h2 := hh.l1; have h3 := hh.l2; have h4 := hh.p1; have h5 := hh.p3; have h6 := hh.f1; have h7 := hh.f2
  have hb : 0 ≤ bigAt l q ∧ bigAt l q ≤ 1152921504606846976 := by
    obtain rfl | rfl | rfl | rfl : q = 0 ∨ q = 1 ∨ q = 2 ∨ q = 3 := by omega
    · omega
    · omega
    · omega
    · omega
  have e : gj l q 8 q = wrap64 (bigAt l q) := by unfold gj; rw [if_neg (by omega), if_pos rfl]; rfl
  rw [e, IntWalk.wrap64_in _ (by omega)] at h
  omega
end Go.Proofs.Ytchpekecgdbphaa
namespace Go.Proofs.Ytchpekecgdbphaa
open Go Go.RowKit Go.MapKept Go.ChangeMaps

theorem four_keep {w w' : World} {b : Nat} {n l p f : Int} (h : w.cell? ⟨b, 0, none⟩ = some (.int .i64 n) ∧ w.cell? ⟨b, 1, none⟩ = some (.int .i64 l) ∧ w.cell? ⟨b, 2, none⟩ = some (.int .i64 p) ∧ w.cell? ⟨b, 3, none⟩ = some (.int .i64 f)) (u : Upd (fun _ => False) w w') :
    w'.cell? ⟨b, 0, none⟩ = some (.int .i64 n) ∧ w'.cell? ⟨b, 1, none⟩ = some (.int .i64 l) ∧ w'.cell? ⟨b, 2, none⟩ = some (.int .i64 p) ∧ w'.cell? ⟨b, 3, none⟩ = some (.int .i64 f) := head_keep h u
theorem parse_zero_post {w wr : World} {l : List Int} {s n : Int} {q : Nat} (hB : IsB l) (hl : l.length = 64) (hq : q < 4) (h : gj l q 8 q < 0 ∨ 1152921504606846976 < gj l q 8 q) (u : Upd (fun _ => False) w wr) :
    ParsePost w l s n (.returned (.tuple #[.agg #[.int .i64 0, .int .i64 0, .int .i64 0, .int .i64 0], .bool false])) wr :=
  ⟨u, 0, 0, 0, 0, false, rfl, (fun h => by cases h), fun _ => no_head hB hl hq h⟩
theorem four_keepF {F : Nat → Prop} {w w' : World} {b : Nat} {n l p f : Int} (h : w.cell? ⟨b, 0, none⟩ = some (.int .i64 n) ∧ w.cell? ⟨b, 1, none⟩ = some (.int .i64 l) ∧ w.cell? ⟨b, 2, none⟩ = some (.int .i64 p) ∧ w.cell? ⟨b, 3, none⟩ = some (.int .i64 f)) (hb : ¬ F b) (u : Upd F w w') :
    w'.cell? ⟨b, 0, none⟩ = some (.int .i64 n) ∧ w'.cell? ⟨b, 1, none⟩ = some (.int .i64 l) ∧ w'.cell? ⟨b, 2, none⟩ = some (.int .i64 p) ∧ w'.cell? ⟨b, 3, none⟩ = some (.int .i64 f) := by
  obtain ⟨h0, h1, h2, h3⟩ := h
  have lb := World.block_lt_of_cell? _ _ h0
  exact ⟨(u.cell (p := ⟨b, 0, none⟩) lb hb).trans h0, (u.cell (p := ⟨b, 1, none⟩) lb hb).trans h1, (u.cell (p := ⟨b, 2, none⟩) lb hb).trans h2, (u.cell (p := ⟨b, 3, none⟩) lb hb).trans h3⟩
theorem Sec.updFresh {F : Nat → Prop} {w w' : World} {v : Value} {l : List Int} {B : Nat} (h : Sec w v l) (hf : Fresh B v) (u : Upd F w w') (hF : ∀ k, F k → k < B) : Sec w' v l := by
  obtain ⟨k, o, c, cur, hv, hl, hk, hc⟩ := h
  have hlt : k < w.heap.size := (Array.getElem?_eq_some_iff.1 hk).1
  have hB := hf k o _ _ hv
  have hn : ¬ F k := fun h => by have := hF k h; omega
  exact ⟨k, o, c, cur, hv, hl, (u.block k hlt hn).trans hk, fun j hj => (u.cell (p := ⟨k, o + j, none⟩) hlt hn).trans (hc j hj)⟩
theorem head_load (W : World) (B : Nat) (n l p f : Int) (h : W.cell? ⟨B, 0, none⟩ = some (.int .i64 n) ∧ W.cell? ⟨B, 1, none⟩ = some (.int .i64 l) ∧ W.cell? ⟨B, 2, none⟩ = some (.int .i64 p) ∧ W.cell? ⟨B, 3, none⟩ = some (.int .i64 f)) :
    (loadVar 62 ⟨B, 0, none⟩).run Try.prog W = .ok (.agg #[.int .i64 n, .int .i64 l, .int .i64 p, .int .i64 f]) W :=
  run_loadVar_cells (P := Try.prog) (w := W) (t := 62) ⟨B, 0, none⟩ #[.int .i64 n, .int .i64 l, .int .i64 p, .int .i64 f] (Try.isAgg62 _) (Try.sizeOf62 _) (fun j hj => by
    rw [Addr.add_lit, Nat.zero_add]
    match j, hj with
    | 0, _ => exact h.1
    | 1, _ => exact h.2.1
    | 2, _ => exact h.2.2.1
    | 3, _ => exact h.2.2.2)
theorem head_set {w : World} {B : Nat} {a b c d : Value} (h0 : w.cell? ⟨B, 0, none⟩ = some a) (h1 : w.cell? ⟨B, 1, none⟩ = some b) (h2 : w.cell? ⟨B, 2, none⟩ = some c) (h3 : w.cell? ⟨B, 3, none⟩ = some d) (n l p f : Int) {W : World}
    (hW : W = (((w.setCell ⟨B, 0, none⟩ (.int .i64 n)).setCell ⟨B, 1, none⟩ (.int .i64 l)).setCell ⟨B, 2, none⟩ (.int .i64 p)).setCell ⟨B, 3, none⟩ (.int .i64 f)) :
    W.cell? ⟨B, 0, none⟩ = some (.int .i64 n) ∧ W.cell? ⟨B, 1, none⟩ = some (.int .i64 l) ∧ W.cell? ⟨B, 2, none⟩ = some (.int .i64 p) ∧ W.cell? ⟨B, 3, none⟩ = some (.int .i64 f) := by
  subst hW
  exact ⟨set_other (set_other (set_other (set_same h0) (by omega)) (by omega)) (by omega), set_other (set_other (set_same (set_other h1 (by omega))) (by omega)) (by omega),
    set_other (set_same (set_other (set_other h2 (by omega)) (by omega))) (by omega), set_same (set_other (set_other (set_other h3 (by omega)) (by omega)) (by omega))⟩
theorem set4_up {w wr : World} (u : Upd (fun _ => False) w wr) (a b c d : Value) : Upd (fun _ => False) w ((((wr.setCell ⟨w.heap.size, 0, none⟩ a).setCell ⟨w.heap.size, 1, none⟩ b).setCell ⟨w.heap.size, 2, none⟩ c).setCell ⟨w.heap.size, 3, none⟩ d) :=
  (((u.setCell (p := ⟨w.heap.size, 0, none⟩) (Or.inr (Nat.le_refl _)) _).setCell (p := ⟨w.heap.size, 1, none⟩) (Or.inr (Nat.le_refl _)) _).setCell (p := ⟨w.heap.size, 2, none⟩) (Or.inr (Nat.le_refl _)) _).setCell (p := ⟨w.heap.size, 3, none⟩) (Or.inr (Nat.le_refl _)) _
set_option maxRecDepth 100000 in
set_option maxHeartbeats 8000000 in
theorem parse_any (v : Value) (l : List Int) (s n : Int) (w : World) (hb : Sec w v l) (hB : IsB l) (hn0 : 0 ≤ n) : Calls Try.prog 33 #[v, .int .i64 s, .int .i64 n] w (ParsePost w l s n) := by
  have hbb := hb
  obtain ⟨k, o, c, cur, rfl, hl, hk, hc⟩ := hb
  have HBB := Lib.hid hbb; clear hbb
  have HC := Lib.hid hc; clear hc
  have HL := Lib.hid hl; clear hl
  have HB := Lib.hid hB; clear hB
  have hkl : k < w.heap.size := (Array.getElem?_eq_some_iff.1 hk).1
  clear hk
  go_enter Try.func33, Try.ntmps33
  go_wp2_with fail
  go_loopw [14] (fun i wr => ∃ q : Nat, q ≤ 4 ∧ i = .int .i64 q ∧ Quads w (gj l q 0) wr ∧ ∀ j, j < q → bigAt l j ≤ 1152921504606846976) (fun i _ => 4 - (intOf i).toNat)
  case atStart =>
    refine ⟨0, by omega, rfl, ⟨fun j hj => ?_, fun j => ?_, ((Upd.refl _ _).alloc _).alloc _, by simp, fun j hj => ?_, fun j => ?_⟩, fun j hj => absurd hj (Nat.not_lt_zero _)⟩
    · rw [World.cell?_alloc_at _ _ _ _ (by simp), gj_zero, if_neg (by omega)]
      match j, hj with
      | 0, _ => rfl
      | 1, _ => rfl
      | 2, _ => rfl
      | 3, _ => rfl
    · have hk := (MapKept.heap_alloc (w.alloc (.cells #[.int .i64 0, .int .i64 0, .int .i64 0, .int .i64 0] 62)) (.cells #[.int .i64 0, .int .i64 0, .int .i64 0, .int .i64 0] 89)).1
      simp only [World.size_alloc] at hk
      simp only [World.frozen?, hk]
      simp
    · rw [((Upd.refl (fun _ => False) _).alloc _).cell (p := ⟨w.heap.size, j, none⟩) (by simp) (fun h => h), World.cell?_alloc_at _ _ _ _ rfl]
      match j, hj with
      | 0, _ => rfl
      | 1, _ => rfl
      | 2, _ => rfl
      | 3, _ => rfl
    · have hk := (MapKept.heap_alloc w (.cells #[.int .i64 0, .int .i64 0, .int .i64 0, .int .i64 0] 62)).1
      have hk2 := ((Upd.refl (fun _ => False) (w.alloc (.cells #[.int .i64 0, .int .i64 0, .int .i64 0, .int .i64 0] 62))).alloc (.cells #[.int .i64 0, .int .i64 0, .int .i64 0, .int .i64 0] 89)).block w.heap.size (by simp) (fun h => h)
      simp only [World.frozen?, hk2, hk]
      simp
  case round =>
    obtain ⟨q, hq, rfl, hF, hbd⟩ := hrel
    have HF := Lib.hid hF; clear hF
    have HBD := Lib.hid hbd; clear hbd
    by_cases hlt : q < 4
    · have e8 : 9 + 8 * q - (1 + 8 * q) = 8 := by omega
      go_wp2_with fail
      go_loopw [26] (fun i wr => ∃ j : Nat, j ≤ 8 ∧ i = .int .i64 j ∧ Quads w (gj l q j) wr) (fun i _ => 8 - (intOf i).toNat)
      case atStart => exact ⟨0, by omega, rfl, HF.out⟩
      case round =>
        obtain ⟨j, hj, rfl, hF⟩ := hrel
        have hz := hF.z q hlt
        have hfz := hF.fz
        have HG := Lib.hid hF; clear hF
        by_cases hlt' : j < 8
        · have hcj : wr.cell? ⟨k, o + (1 + 8 * q) + j, none⟩ = some (.int .u8 (l.getD (1 + 8 * q + j) 0)) := (HG.out.up.cell (p := ⟨k, o + (1 + 8 * q) + j, none⟩) hkl (fun h => h)).trans (by rw [Nat.add_assoc]; exact HC.out (1 + 8 * q + j) (by omega))
          have hst := bigJ_step HB.out HL.out hlt hlt'
          obtain ⟨hx0, hx1⟩ := HB.out.at (1 + 8 * q + j)
          have hgq : gj l q j q = wrap64 (bigJ l q j) := by unfold gj; rw [if_neg (by omega), if_pos rfl]
          rw [hgq] at hz
          clear hgq
          generalize l.getD (1 + 8 * q + j) 0 = x at hcj hx0 hx1 hst
          generalize wrap64 (bigJ l q j) = y at hz hst
          have HST := Lib.hid hst; clear hst
          go_wp2_with fail
          go_roundw
          case rel =>
            refine ⟨j + 1, by omega, by go_num, HG.out.put hlt ?_ ?_⟩
            · rw [HST.out]; unfold gj; rw [if_neg (by omega), if_pos rfl]
            · intro i hi
              unfold gj
              by_cases h : i < q
              · rw [if_pos h, if_pos h]
              · rw [if_neg h, if_neg h, if_neg hi, if_neg hi]
          case measure => simp [intOf]; omega
        · obtain rfl : j = 8 := by omega
          have hnx := fun h0 h1 => gj_next HB.out HL.out hlt h0 h1
          have hdn := fun h0 h1 => gj_done HB.out HL.out hlt h0 h1
          have hpz := fun s n (wr : World) h => parse_zero_post (w := w) (wr := wr) (s := s) (n := n) HB.out HL.out hlt h
          generalize hy : gj l q 8 q = y at hz hnx hpz hdn
          clear hy
          have HNX := Lib.hid hnx; clear hnx
          have HPZ := Lib.hid hpz; clear hpz
          have HDN := Lib.hid hdn; clear hdn
          have r0 := HG.out.r 0 (by omega)
          have r1 := HG.out.r 1 (by omega)
          have r2 := HG.out.r 2 (by omega)
          have r3 := HG.out.r 3 (by omega)
          have rf := HG.out.rf
          have hlt3 : w.heap.size < wr.heap.size := by have := HG.out.lt; omega
          by_cases h0 : y < 0
          · go_wp2_with fail
            refine bodyPost_ret_by (v := .tuple #[.agg #[.int .i64 0, .int .i64 0, .int .i64 0, .int .i64 0], .bool false]) ?_ rfl (HPZ.out s n _ (Or.inl h0) (set4_up HG.out.up _ _ _ _))
            rw [results_cell_tmp rfl]
            show ((asAddr (.pointer (some ⟨w.heap.size, 0, none⟩))).run _ _).andThen _ = _
            simp only [asAddr, Sem.run_pure, Result.andThen_ok, head_load _ _ _ _ _ _ (head_set r0 r1 r2 r3 0 0 0 0 rfl)]
            rfl
          · by_cases h1 : 1152921504606846976 < y
            · go_wp2_with fail
              refine bodyPost_ret_by (v := .tuple #[.agg #[.int .i64 0, .int .i64 0, .int .i64 0, .int .i64 0], .bool false]) ?_ rfl (HPZ.out s n _ (Or.inr h1) (set4_up HG.out.up _ _ _ _))
              rw [results_cell_tmp rfl]
              show ((asAddr (.pointer (some ⟨w.heap.size, 0, none⟩))).run _ _).andThen _ = _
              simp only [asAddr, Sem.run_pure, Result.andThen_ok, head_load _ _ _ _ _ _ (head_set r0 r1 r2 r3 0 0 0 0 rfl)]
              rfl
            · go_wp2_with fail
              go_roundw
              case rel =>
                refine ⟨q + 1, by omega, by go_num, HG.out.congr (HNX.out (by omega) (by omega)), fun j hj => ?_⟩
                by_cases e : j = q
                · rw [e, ← HDN.out (by omega) (by omega)]; omega
                · exact HBD.out j (by omega)
              case measure => simp [intOf]; omega
    · obtain rfl : q = 4 := by omega
      have hz := fun j (hj : j < 4) => HF.out.z j hj
      have hg : ∀ j, j < 4 → gj l 4 0 j = bigAt l j := fun j hj => by rw [gj_zero, if_pos hj]
      have z0 := hz 0 (by omega)
      have z1 := hz 1 (by omega)
      have z2 := hz 2 (by omega)
      have z3 := hz 3 (by omega)
      rw [hg 0 (by omega)] at z0
      rw [hg 1 (by omega)] at z1
      rw [hg 2 (by omega)] at z2
      rw [hg 3 (by omega)] at z3
      clear hz hg
      have b0 := bigAt_bound HB.out HL.out (q := 0) (by omega)
      have b1 := bigAt_bound HB.out HL.out (q := 1) (by omega)
      have b2 := bigAt_bound HB.out HL.out (q := 2) (by omega)
      have b3 := bigAt_bound HB.out HL.out (q := 3) (by omega)
      have d0 := HBD.out 0 (by omega)
      have d1 := HBD.out 1 (by omega)
      have d2 := HBD.out 2 (by omega)
      have d3 := HBD.out 3 (by omega)
      have hun : ∀ n' l' p' f', IsHead l s n n' l' p' f' → bigAt l 0 = n' ∧ bigAt l 1 = l' ∧ bigAt l 2 = p' ∧ bigAt l 3 = f' := fun n' l' p' f' h => head_bigs h
      have HUN := Lib.hid hun; clear hun
      generalize bigAt l 0 = a0 at *
      generalize bigAt l 1 = a1 at *
      generalize bigAt l 2 = a2 at *
      generalize bigAt l 3 = a3 at *
      have r0 := HF.out.r 0 (by omega)
      have r1 := HF.out.r 1 (by omega)
      have r2 := HF.out.r 2 (by omega)
      have r3 := HF.out.r 3 (by omega)
      have rf := HF.out.rf
      have hlt3 : w.heap.size < wr.heap.size := by have := HF.out.lt; omega
      have hlt4 : w.heap.size < wr.heap.size + 1 := by omega
      have hand : 0 < a0 → bits BinOp.and IntKind.i64 a0 1 = a0 % 2 := fun h => and_one_i64 (by omega) (by omega)
      have hcase : (¬ 0 < a0) ∨ (0 < a0 ∧ a0 % 2 ≠ s) ∨ (0 < a0 ∧ a0 % 2 = s ∧ ¬ 0 < a1) ∨ (0 < a0 ∧ a0 % 2 = s ∧ 0 < a1 ∧ ¬ 0 < a3) ∨ (0 < a0 ∧ a0 % 2 = s ∧ 0 < a1 ∧ 0 < a3 ∧ ¬ a2 < n) ∨ (0 < a0 ∧ a0 % 2 = s ∧ 0 < a1 ∧ 0 < a3 ∧ a2 < n) := by omega
      have HAND := Lib.hid hand; clear hand
      clear b0 b1 b3
      rcases hcase with c1 | ⟨c1, c2⟩ | ⟨c1, c2, c3⟩ | ⟨c1, c2, c3, c4⟩ | ⟨c1, c2, c3, c4, c5⟩ | ⟨c1, c2, c3, c4, c5⟩
      · have HNO : Hid (∀ n' l' p' f', ¬ IsHead l s n n' l' p' f') := Lib.hid fun n' l' p' f' h => by
          obtain ⟨rfl, rfl, rfl, rfl⟩ := HUN.out n' l' p' f' h
          have := h.n1; omega
        go_wp2_with fail
        go_big_region
        go_wp2_with fail
        refine bodyPost_ret_by (v := .tuple #[.agg #[.int .i64 a0, .int .i64 a1, .int .i64 a2, .int .i64 a3], .bool false]) ?_ rfl ⟨((set4_up HF.out.up _ _ _ _).alloc _).drew, a0, a1, a2, a3, false, rfl, (fun h => by cases h), fun _ => HNO.out⟩
        rw [results_cell_tmp rfl]
        show ((asAddr (.pointer (some ⟨w.heap.size, 0, none⟩))).run _ _).andThen _ = _
        simp only [asAddr, Sem.run_pure, Result.andThen_ok, head_load _ _ _ _ _ _ (four_keep (head_set r0 r1 r2 r3 a0 a1 a2 a3 rfl) ((Upd.refl _ _).alloc _).drew)]
        rfl
      · have hm := HAND.out c1
        have HNO : Hid (∀ n' l' p' f', ¬ IsHead l s n n' l' p' f') := Lib.hid fun n' l' p' f' h => by
          obtain ⟨rfl, rfl, rfl, rfl⟩ := HUN.out n' l' p' f' h
          exact c2 h.par
        generalize a0 % 2 = m at hm c2
        have c2' : (m == s) = false := by simpa using c2
        go_wp2_with fail
        go_big_region
        go_wp2_with fail
        refine bodyPost_ret_by (v := .tuple #[.agg #[.int .i64 a0, .int .i64 a1, .int .i64 a2, .int .i64 a3], .bool false]) ?_ rfl ⟨((set4_up HF.out.up _ _ _ _).alloc _).drew, a0, a1, a2, a3, false, rfl, (fun h => by cases h), fun _ => HNO.out⟩
        rw [results_cell_tmp rfl]
        show ((asAddr (.pointer (some ⟨w.heap.size, 0, none⟩))).run _ _).andThen _ = _
        simp only [asAddr, Sem.run_pure, Result.andThen_ok, head_load _ _ _ _ _ _ (four_keep (head_set r0 r1 r2 r3 a0 a1 a2 a3 rfl) ((Upd.refl _ _).alloc _).drew)]
        rfl
      · subst c2
        have hm := HAND.out c1
        have HNO : Hid (∀ n' l' p' f', ¬ IsHead l (a0 % 2) n n' l' p' f') := Lib.hid fun n' l' p' f' h => by
          obtain ⟨rfl, rfl, rfl, rfl⟩ := HUN.out n' l' p' f' h
          have := h.l1; omega
        go_wp2_with fail
        go_big_region
        go_wp2_with fail
        refine bodyPost_ret_by (v := .tuple #[.agg #[.int .i64 a0, .int .i64 a1, .int .i64 a2, .int .i64 a3], .bool false]) ?_ rfl ⟨((set4_up HF.out.up _ _ _ _).alloc _).drew, a0, a1, a2, a3, false, rfl, (fun h => by cases h), fun _ => HNO.out⟩
        rw [results_cell_tmp rfl]
        show ((asAddr (.pointer (some ⟨w.heap.size, 0, none⟩))).run _ _).andThen _ = _
        simp only [asAddr, Sem.run_pure, Result.andThen_ok, head_load _ _ _ _ _ _ (four_keep (head_set r0 r1 r2 r3 a0 a1 a2 a3 rfl) ((Upd.refl _ _).alloc _).drew)]
        rfl
      · subst c2
        have hm := HAND.out c1
        have HNO : Hid (∀ n' l' p' f', ¬ IsHead l (a0 % 2) n n' l' p' f') := Lib.hid fun n' l' p' f' h => by
          obtain ⟨rfl, rfl, rfl, rfl⟩ := HUN.out n' l' p' f' h
          have := h.f1; omega
        go_wp2_with fail
        go_big_region
        go_wp2_with fail
        refine bodyPost_ret_by (v := .tuple #[.agg #[.int .i64 a0, .int .i64 a1, .int .i64 a2, .int .i64 a3], .bool false]) ?_ rfl ⟨((set4_up HF.out.up _ _ _ _).alloc _).drew, a0, a1, a2, a3, false, rfl, (fun h => by cases h), fun _ => HNO.out⟩
        rw [results_cell_tmp rfl]
        show ((asAddr (.pointer (some ⟨w.heap.size, 0, none⟩))).run _ _).andThen _ = _
        simp only [asAddr, Sem.run_pure, Result.andThen_ok, head_load _ _ _ _ _ _ (four_keep (head_set r0 r1 r2 r3 a0 a1 a2 a3 rfl) ((Upd.refl _ _).alloc _).drew)]
        rfl
      · subst c2
        have hm := HAND.out c1
        have HNO : Hid (∀ n' l' p' f', ¬ IsHead l (a0 % 2) n n' l' p' f') := Lib.hid fun n' l' p' f' h => by
          obtain ⟨rfl, rfl, rfl, rfl⟩ := HUN.out n' l' p' f' h
          have := h.p2; omega
        go_wp2_with fail
        go_big_region
        go_wp2_with fail
        refine bodyPost_ret_by (v := .tuple #[.agg #[.int .i64 a0, .int .i64 a1, .int .i64 a2, .int .i64 a3], .bool false]) ?_ rfl ⟨((set4_up HF.out.up _ _ _ _).alloc _).drew, a0, a1, a2, a3, false, rfl, (fun h => by cases h), fun _ => HNO.out⟩
        rw [results_cell_tmp rfl]
        show ((asAddr (.pointer (some ⟨w.heap.size, 0, none⟩))).run _ _).andThen _ = _
        simp only [asAddr, Sem.run_pure, Result.andThen_ok, head_load _ _ _ _ _ _ (four_keep (head_set r0 r1 r2 r3 a0 a1 a2 a3 rfl) ((Upd.refl _ _).alloc _).drew)]
        rfl
      · subst c2
        have hm := HAND.out c1
        have HYES : Hid (headB a0 a1 a2 a3 = l → IsHead l (a0 % 2) n a0 a1 a2 a3) := Lib.hid fun e => ⟨by omega, d0, rfl, by omega, d1, by omega, c5, d2, by omega, d3, e.symm⟩
        have HNO : Hid (¬ headB a0 a1 a2 a3 = l → ∀ n' l' p' f', ¬ IsHead l (a0 % 2) n n' l' p' f') := Lib.hid fun hne n' l' p' f' h => by
          obtain ⟨rfl, rfl, rfl, rfl⟩ := HUN.out n' l' p' f' h
          exact hne h.is.symm
        obtain ⟨bb, hbb⟩ : ∃ bb, bb = decide (headB a0 a1 a2 a3 = l) := ⟨_, rfl⟩
        have HEQ : Hid (∀ w v v', BytV w v (headB a0 a1 a2 a3) → BytV w v' l → Calls Try.prog 39 #[v, v'] w (Same w (.bool bb))) := Lib.hid fun w v v' h h' => by
          rw [hbb]; exact equal_byt w v v' _ _ h h' (isB_head a0 a1 a2 a3) HB.out
        have HYES2 : Hid (bb = true → IsHead l (a0 % 2) n a0 a1 a2 a3) := Lib.hid fun e => HYES.out (of_decide_eq_true (hbb.symm.trans e))
        have HNO2 : Hid (bb = false → ∀ n' l' p' f', ¬ IsHead l (a0 % 2) n n' l' p' f') := Lib.hid fun e => HNO.out (of_decide_eq_false (hbb.symm.trans e))
        clear hbb HYES HNO
        clear HC HUN HAND HBD hq hlt
        obtain ⟨W, hW⟩ : ∃ W, W = wr.alloc (.cells #[.int .i64 a0, .int .i64 a1, .int .i64 a2, .int .i64 a3] 62) := ⟨_, rfl⟩
        have u0 : Upd (fun _ => False) wr W := by rw [hW]; exact (Upd.refl _ _).alloc _
        have hz : W.cell? ⟨wr.heap.size, 0, none⟩ = some (.int .i64 a0) ∧ W.cell? ⟨wr.heap.size, 1, none⟩ = some (.int .i64 a1) ∧ W.cell? ⟨wr.heap.size, 2, none⟩ = some (.int .i64 a2) ∧ W.cell? ⟨wr.heap.size, 3, none⟩ = some (.int .i64 a3) := by
          rw [hW]; exact ⟨World.cell?_alloc_at _ _ _ _ rfl, World.cell?_alloc_at _ _ _ _ rfl, World.cell?_alloc_at _ _ _ _ rfl, World.cell?_alloc_at _ _ _ _ rfl⟩
        have R : W.cell? ⟨w.heap.size, 0, none⟩ = some (.int .i64 0) ∧ W.cell? ⟨w.heap.size, 1, none⟩ = some (.int .i64 0) ∧ W.cell? ⟨w.heap.size, 2, none⟩ = some (.int .i64 0) ∧ W.cell? ⟨w.heap.size, 3, none⟩ = some (.int .i64 0) := four_keep ⟨r0, r1, r2, r3⟩ u0
        have RF : ∀ j, W.frozen? ⟨w.heap.size, j, none⟩ = false := fun j => (u0.frozen (p := ⟨w.heap.size, j, none⟩) hlt3 (fun h => h)).trans (rf j)
        have hne : w.heap.size ≠ wr.heap.size := by omega
        have UW := Lib.hid (HF.out.up.trans u0)
        have hWs : w.heap.size < W.heap.size := by have := u0.size; omega
        have HZ := Lib.hid hz; clear hz
        have HW := Lib.hid hW; clear hW
        clear u0 HF
        go_wp2_with fail
        rw [← HW.out]
        clear rf r0 r1 r2 r3
        obtain ⟨R0, R1, R2, R3⟩ := R
        go_region_held3 (fun w' => w'.cell? ⟨wr.heap.size, 0, none⟩ = some (.int .i64 a0) ∧ w'.cell? ⟨wr.heap.size, 1, none⟩ = some (.int .i64 a1) ∧ w'.cell? ⟨wr.heap.size, 2, none⟩ = some (.int .i64 a2) ∧ w'.cell? ⟨wr.heap.size, 3, none⟩ = some (.int .i64 a3))
          (first | exact HZ.out | exact four_keepF (F := fun b => b = w.heap.size) HZ.out hne.symm (by repeat (first | exact Upd.refl _ _ | exact V2.out | exact V1.out | apply Upd.drew | apply Upd.alloc | refine Upd.setCell ?_ (by exact Or.inl rfl) _)))
          (first
            | (go_at_call 48; refine (head_any _ _ _ _ _).mono ?_; rintro e w1 ⟨v1, rfl, hs1, hf1, hu1⟩; obtain ⟨k1, o1, c1', rfl, _⟩ := hs1.shape; have S1 := Lib.hid hs1; have F1 := Lib.hid (fresh_le hf1 (show w.heap.size + 1 ≤ _ by simp; omega)); have V1 : Hid (Upd (fun b => b = w.heap.size) W w1) := Lib.hid (Upd.trans (by repeat (first | exact Upd.refl _ _ | apply Upd.drew | apply Upd.alloc | refine Upd.setCell ?_ (by exact Or.inl rfl) _)) (hu1.mono (fun _ _ h => h.elim))); have U1 : Hid (Upd (fun _ => False) w w1) := Lib.hid (Upd.trans (by repeat (first | exact UW.out | apply Upd.drew | apply Upd.alloc | refine Upd.setCell ?_ (by exact Or.inr (Nat.le_refl _)) _)) hu1); have qa0 := hu1.cell (p := ⟨w.heap.size, 0, none⟩) (by simp; omega) (fun h => h); simp [go_sem, R0] at qa0; have qf0 := hu1.frozen (p := ⟨w.heap.size, 0, none⟩) (by simp; omega) (fun h => h); simp [go_sem, RF] at qf0; have qa1 := hu1.cell (p := ⟨w.heap.size, 1, none⟩) (by simp; omega) (fun h => h); simp [go_sem, R1] at qa1; have qf1 := hu1.frozen (p := ⟨w.heap.size, 1, none⟩) (by simp; omega) (fun h => h); simp [go_sem, RF] at qf1; have qa2 := hu1.cell (p := ⟨w.heap.size, 2, none⟩) (by simp; omega) (fun h => h); simp [go_sem, R2] at qa2; have qf2 := hu1.frozen (p := ⟨w.heap.size, 2, none⟩) (by simp; omega) (fun h => h); simp [go_sem, RF] at qf2; have qa3 := hu1.cell (p := ⟨w.heap.size, 3, none⟩) (by simp; omega) (fun h => h); simp [go_sem, R3] at qa3; have qf3 := hu1.frozen (p := ⟨w.heap.size, 3, none⟩) (by simp; omega) (fun h => h); simp [go_sem, RF] at qf3; have hl1 : w.heap.size < w1.heap.size := (by have := V1.out.size; omega); clear hs1 hf1 hu1)
            | (go_at_call 39; refine (HEQ.out _ _ _ ((S1.out.updFresh (F := fun b => b = w.heap.size) F1.out (by repeat (first | exact Upd.refl _ _ | apply Upd.drew | apply Upd.alloc | refine Upd.setCell ?_ (by exact Or.inl rfl) _)) (fun k e => by omega)).byt) (HBB.out.old (by repeat (first | exact U1.out | apply Upd.drew | apply Upd.alloc | refine Upd.setCell ?_ (by exact Or.inr (Nat.le_refl _)) _))).byt).mono ?_; rintro e w2 ⟨rfl, rfl⟩))
        all_goals
          go_wp2_with fail
          refine bodyPost_ret_by (v := .tuple #[.agg #[.int .i64 a0, .int .i64 a1, .int .i64 a2, .int .i64 a3], .bool bb]) ?_ rfl ⟨set4_up U1.out _ _ _ _, a0, a1, a2, a3, bb, rfl, HYES2.out, HNO2.out⟩
          rw [results_cell_tmp rfl]
          show ((asAddr (.pointer (some ⟨w.heap.size, 0, none⟩))).run _ _).andThen _ = _
          simp only [asAddr, Sem.run_pure, Result.andThen_ok, head_load _ _ _ _ _ _ (head_set qa0 qa1 qa2 qa3 a0 a1 a2 a3 rfl)]
          rfl
end Go.Proofs.Ytchpekecgdbphaa
namespace Go.Proofs.Ytchpekecgdbphaa
open Go Go.RowKit Go.MapKept Go.ChangeMaps

/-- The same; what may have changed is its own block alone. -/
theorem wpList_append_byt2 {ops : Array Oper} {rest : List Oper} {o : Oper} {a : Act} {Q : Exit → Act → World → Prop} {w : World} (hgd : o.guard = none) (s x : Operand)
    (ho : o.op = .call { callee := .builtin .append, args := #[s, x], argTypes := #[28, 28] })
    (B : Nat) (v sv : Value) (l m : List Int) (hs : a.eval s = v) (hown : Own B w v l) (hx : a.eval x = sv) (hb : BytV w sv m) (hlen : l.length + m.length ≤ 1099511627776) (hB : B ≤ w.heap.size)
    (h : ∀ v' w', Own B w' v' (l ++ m) → Upd (fun k => some k = v.ownBlock) w w' → wpList Try.prog ops Q rest (a.put o.dst v') w') : wpList Try.prog ops Q (o :: rest) a w := by
  obtain ⟨i0, hi, hz0, hz1, hz2⟩ := info_parts info_u8
  rcases hb with ⟨rfl, ad, c, rfl⟩ | ⟨k, o', c, rfl, hc⟩
  · have hrun : ∀ ty, (Builtin.append_ #[28, 28] ty #[v, .slice ad 0 c]).run Try.prog w = .ok v w := by
      intro ty
      have hsrc : Src Try.prog i0.size 28 (.slice ad 0 c) 0 [] w := by
        cases ad with
        | none => exact Src.ofNil w Try.underlying28 c
        | some ad => exact Src.ofSlice w Try.underlying28 ad 0 c [] (by simp) (by simp) (by simp)
      rcases hown.2 with ⟨rfl, _⟩ | ⟨g, cap, cur, rfl, _, _, hle, _⟩
      · exact run_append_nothing w _ _ ty _ i0 Try.underlying28 hi none 0 0 (Nat.le_refl _) _ hsrc
      · exact run_append_nothing w _ _ ty _ i0 Try.underlying28 hi _ _ _ hle _ hsrc
    refine wpList_plain hgd fun K hK => ?_
    unfold Oper.wp execOp
    simp only [ho, resolve, invoke, builtin, Sem.run_bind, Sem.run_pure, Result.andThen_ok, List.map_toArray, List.map_cons, List.map_nil, hs, hx, hrun]
    exact hK _ _ (h v w (by simpa using hown) (Upd.refl _ _))
  · refine wpList_append_own _ hgd s x 28 ho B 5 i0 _ 1 1 Try.underlying28 hi hz0 hz1 hz2 rfl (by decide) v l.length (l.map (Value.int .u8)) hs hown ⟨k, o', none⟩ m.length c (m.map (Value.int .u8)) hx (by simp) ?_ ?_ (by unfold maxLen; omega) (by omega) hB ?_
    · intro j u hu
      rw [Addr.add_lit]
      have hj : j < m.length := by
        have := (List.getElem?_eq_some_iff.1 hu).1
        simpa using this
      have h1 := hc j hj
      rw [List.getElem?_map, List.getElem?_eq_getElem hj] at hu
      rw [h1, ← hu, List.getD_eq_getElem?_getD, List.getElem?_eq_getElem hj]
      rfl
    · intro u hu
      obtain ⟨_, _, rfl⟩ := List.mem_map.1 hu
      rfl
    · intro v' w' h1 h2 _
      refine h v' w' ?_ (Upd.of_grown h2)
      unfold Own
      rw [List.length_append, List.map_append]
      exact h1
theorem Own.lt {B : Nat} {w : World} {v : Value} {l : List Int} (h : Own B w v l) : ∀ k, some k = v.ownBlock → k < w.heap.size := fun k e => (World.ownsRow.lt h k e.symm).2

def Drew (w : World) (v : Value) (e : Ending) (w' : World) : Prop := e = .returned v ∧ w' = w.drew
theorem sector_any (i : Nat) (w : World) (wb b : Nat) (size place : Nat) (n l f next used : Int) (hw : WalAt w wb b size n l place f next used) (h0 : 0 < size) (h1 : size ≤ 8190) (h2 : place < size) (h3 : i ≤ 8190) :
    Calls Try.prog 26 #[.pointer (some ⟨wb, 0, none⟩), .int .i64 i] w (Drew w (.int .i64 (atS size place i : Nat))) := by
  have c1 := hw.c1
  have c4 := hw.c4
  have HW := Lib.hid hw; clear hw
  have hz : (size : Int) ≠ 0 := by omega
  have hm0 : (0 : Int) ≤ ((place : Int) + i) % (size : Int) := Int.emod_nonneg _ hz
  have hm1 : ((place : Int) + i) % (size : Int) < size := Int.emod_lt_of_pos _ (by omega)
  have he : ((atS size place i : Nat) : Int) = 2 + ((place : Int) + i) % (size : Int) := by unfold atS; rw [← Int.natCast_add, Int.natCast_add 2]; rfl
  rw [he]
  clear he
  go_enter Try.func26, Try.ntmps26
  go_wp2_with fail
  go_region
  all_goals
    go_wp2_with fail
    go_ret
    exact ⟨rfl, rfl⟩
theorem need_any (w : World) (v : Value) (r : List Int) (hb : BytV w v r) (hl : r.length ≤ 1099511627776) : Calls Try.prog 24 #[v] w (Same w (.int .i64 (needB r : Nat))) := by
  obtain ⟨a, c, rfl⟩ := hb.shape
  clear hb
  have he : ((needB r : Nat) : Int) = ((r.length : Int) + 40 - 1) / 40 := by unfold needB; omega
  rw [he]
  clear he
  go_enter Try.func24, Try.ntmps24
  go_wp2_with fail
  go_ret
  exact ⟨rfl, rfl⟩
end Go.Proofs.Ytchpekecgdbphaa
