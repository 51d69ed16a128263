/-
  Small laws: eight bytes read into a number; bytes compared.
-/
import Derived.Test.YtchpekecgdbphaaWal8
import Derived.Test.YtchpekecgdbphaaWalLaw4
namespace Go.Proofs.Ytchpekecgdbphaa
open Go Go.RowKit Go.MapKept Go.ChangeMaps

theorem ofInt64 (z : Int) : ((BitVec.ofInt 64 z).toNat : Int) = z % 18446744073709551616 := by
  rw [BitVec.toNat_ofInt]
  have : 0 ≤ z % ((2 ^ 64 : Nat) : Int) := Int.emod_nonneg _ (by decide)
  rw [Int.toNat_of_nonneg this]
  rfl
theorem shl_or {y x : Int} (hy : 0 ≤ y) (hy2 : y < 72057594037927936) (hx : 0 ≤ x) (hx2 : x < 256) : bits .or .i64 (wrap64 (y * 256)) x = wrap64 (y * 256 + x) := by
  show IntKind.i64.wrap ((BitVec.ofInt 64 (wrap64 (y * 256)) ||| BitVec.ofInt 64 x).toNat : Int) = _
  obtain ⟨Y, rfl⟩ : ∃ Y : Nat, y = Y := ⟨y.toNat, by omega⟩
  obtain ⟨X, rfl⟩ : ∃ X : Nat, x = X := ⟨x.toNat, by omega⟩
  have h1 : (BitVec.ofInt 64 (wrap64 ((Y : Int) * 256))).toNat = Y <<< 8 := by
    have := ofInt64 (wrap64 ((Y : Int) * 256))
    unfold wrap64 at *
    rw [Nat.shiftLeft_eq]
    omega
  have h2 : (BitVec.ofInt 64 (X : Int)).toNat = X := by
    have := ofInt64 (X : Int)
    omega
  rw [BitVec.toNat_or, h1, h2, ← Nat.shiftLeft_add_eq_or_of_lt (by omega : X < 2 ^ 8), Nat.shiftLeft_eq, IntKind.wrap_i64]
  unfold wrap64
  omega
theorem and_one_i64 {n : Int} (h0 : 0 ≤ n) (h1 : n < 9223372036854775808) : bits .and .i64 n 1 = n % 2 := by
  obtain ⟨N, rfl⟩ : ∃ N : Nat, n = N := ⟨n.toNat, by omega⟩
  show IntKind.i64.wrap ((BitVec.ofInt 64 (N : Int) &&& BitVec.ofInt 64 1).toNat : Int) = _
  have h1 : (BitVec.ofInt 64 (N : Int)).toNat = N := by
    have := ofInt64 (N : Int)
    omega
  rw [BitVec.toNat_and, h1, show (BitVec.ofInt 64 1).toNat = 1 from by decide, Nat.and_one_is_mod, IntKind.wrap_i64]
  omega
theorem big_bound {l : List Int} (h : IsB l) : 0 ≤ bigOf l ∧ bigOf l < 256 ^ l.length := by
  have key : ∀ (l : List Int) (a : Int) (n : Nat), IsB l → 0 ≤ a → a < 256 ^ n → 0 ≤ l.foldl (fun v x => v * 256 + x) a ∧ l.foldl (fun v x => v * 256 + x) a < 256 ^ (n + l.length) := by
    intro l
    induction l with
    | nil => intro a n _ h0 h1; exact ⟨h0, h1⟩
    | cons x l ih =>
      intro a n hB h0 h1
      have hx := hB x (.head _)
      have := ih (a * 256 + x) (n + 1) (fun y hy => hB y (.tail _ hy)) (by omega) (by rw [Int.pow_succ]; omega)
      rw [List.length_cons, show n + (l.length + 1) = n + 1 + l.length by omega]
      exact this
  have := key l 0 0 h (by omega) (by decide)
  rwa [Nat.zero_add] at this
theorem big_snoc (l : List Int) (x : Int) : bigOf (l ++ [x]) = bigOf l * 256 + x := by simp [bigOf]
/-- The number at place q of a head. -/
def bigAt (l : List Int) (q : Nat) : Int := bigOf ((l.drop (1 + 8 * q)).take 8)
theorem bigAt_bound {l : List Int} (h : IsB l) (hl : l.length = 64) {q : Nat} (hq : q < 4) : 0 ≤ bigAt l q ∧ bigAt l q < 18446744073709551616 := by
  have hk := big_bound ((h.drop (1 + 8 * q)).take 8)
  rw [List.length_take, List.length_drop, hl, Nat.min_eq_left (by omega)] at hk
  exact hk
/-- j bytes of it. -/
def bigJ (l : List Int) (q j : Nat) : Int := bigOf ((l.drop (1 + 8 * q)).take j)
theorem bigJ_next {l : List Int} (hl : l.length = 64) {q j : Nat} (hq : q < 4) (hj : j < 8) : bigJ l q (j + 1) = bigJ l q j * 256 + l.getD (1 + 8 * q + j) 0 := by
  unfold bigJ
  rw [List.take_succ_eq_append_getElem (by rw [List.length_drop]; omega), big_snoc, List.getD_eq_getElem?_getD, List.getElem?_eq_getElem (by omega)]
  congr 1
  simp
theorem bigJ_bound {l : List Int} (h : IsB l) (hl : l.length = 64) {q j : Nat} (hq : q < 4) (hj : j < 8) : 0 ≤ bigJ l q j ∧ bigJ l q j < 72057594037927936 := by
  have hk := big_bound ((h.drop (1 + 8 * q)).take j)
  rw [List.length_take, List.length_drop, hl, Nat.min_eq_left (by omega)] at hk
  have h7 : ∀ j, j < 8 → (256 : Int) ^ j ≤ 72057594037927936 := by decide
  have := h7 j hj
  exact ⟨hk.1, Int.lt_of_lt_of_le hk.2 this⟩
theorem bigJ_step {l : List Int} (h : IsB l) (hl : l.length = 64) {q j : Nat} (hq : q < 4) (hj : j < 8) : bits .or .i64 (wrap64 (wrap64 (bigJ l q j) * 256)) (l.getD (1 + 8 * q + j) 0) = wrap64 (bigJ l q (j + 1)) := by
  obtain ⟨b0, b1⟩ := bigJ_bound h hl hq hj
  have hx := h.at (1 + 8 * q + j)
  have : wrap64 (bigJ l q j) = bigJ l q j := IntWalk.wrap64_in _ (by omega)
  rw [this, shl_or b0 b1 hx.1 hx.2, bigJ_next hl hq hj]
theorem head_bigs {b : List Int} {s size n l p f : Int} (h : IsHead b s size n l p f) : bigAt b 0 = n ∧ bigAt b 1 = l ∧ bigAt b 2 = p ∧ bigAt b 3 = f := by
  obtain ⟨a1, a2, a3, a4⟩ := head_part n l p f
  have := h.n1; have := h.n2; have := h.l1; have := h.l2; have := h.p1; have := h.p3; have := h.f1; have := h.f2
  unfold bigAt
  rw [h.is]
  refine ⟨?_, ?_, ?_, ?_⟩
  · show bigOf (((headB n l p f).drop 1).take 8) = n
    rw [a1]; exact big_eight (by omega) (by omega)
  · show bigOf (((headB n l p f).drop 9).take 8) = l
    rw [a2]; exact big_eight (by omega) (by omega)
  · show bigOf (((headB n l p f).drop 17).take 8) = p
    rw [a3]; exact big_eight (by omega) (by omega)
  · show bigOf (((headB n l p f).drop 25).take 8) = f
    rw [a4]; exact big_eight (by omega) (by omega)
theorem bytesOf_inj {l m : List Int} (h : IsB l) (k : IsB m) : (Lib.bytesOf l == Lib.bytesOf m) = decide (l = m) := by
  by_cases e : l = m
  · rw [decide_eq_true e, e, beq_self_eq_true]
  · rw [decide_eq_false e]
    refine beq_false_of_ne fun e' => e ?_
    have key : ∀ (l m : List Int), IsB l → IsB m → Lib.bytesOf l = Lib.bytesOf m → l = m := by
      intro l
      induction l with
      | nil =>
        intro m _ _ h
        cases m with
        | nil => rfl
        | cons y m => simp [Lib.bytesOf] at h
      | cons x l ih =>
        intro m hl hm h
        cases m with
        | nil => simp [Lib.bytesOf] at h
        | cons y m =>
          simp only [Lib.bytesOf, List.map_cons, List.cons.injEq] at h
          have hx := hl x (.head _)
          have hy := hm y (.head _)
          have e1 := congrArg UInt8.toNat h.1
          simp only [UInt8.toNat_ofNat'] at e1
          have : x = y := by omega
          rw [this, ih m (fun z hz => hl z (.tail _ hz)) (fun z hz => hm z (.tail _ hz)) h.2]
    exact key l m h k e'
theorem equal_byt (w : World) (v v' : Value) (l m : List Int) (h : BytV w v l) (h' : BytV w v' m) (hl : IsB l) (hm : IsB m) : Calls Try.prog 39 #[v, v'] w (Same w (.bool (decide (l = m)))) := by
  have key : ∀ {v : Value} {l : List Int}, BytV w v l → ∃ a c, v = .slice a l.length c ∧ Lib.BytesIn w a l.length l := by
    intro v l h
    rcases h with ⟨rfl, a, c, rfl⟩ | ⟨k, o, c, rfl, hc⟩
    · exact ⟨a, c, rfl, fun h => absurd h (Nat.lt_irrefl _)⟩
    · exact ⟨_, c, rfl, fun _ => ⟨k, o, rfl, hc⟩⟩
  obtain ⟨a, c, rfl, h1⟩ := key h
  obtain ⟨a', c', rfl, h2⟩ := key h'
  refine (Try.bytes_Equal_all a a' l.length c m.length c' l m w rfl rfl h1 h2).mono ?_
  rintro e w' ⟨rfl, rfl⟩
  exact ⟨by rw [bytesOf_inj hl hm], rfl⟩
theorem Sec.byt {w : World} {v : Value} {l : List Int} (h : Sec w v l) : BytV w v l := by
  obtain ⟨k, o, c, cur, rfl, hl, _, hc⟩ := h
  exact .inr ⟨k, o, 64 + c, by rw [hl], fun j hj => hc j (by omega)⟩
end Go.Proofs.Ytchpekecgdbphaa
