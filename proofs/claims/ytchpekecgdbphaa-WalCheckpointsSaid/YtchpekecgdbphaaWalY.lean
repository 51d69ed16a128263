/-
  WalY: a log behind any crash.
-/
import Derived.Test.YtchpekecgdbphaaWalG
set_option linter.unusedVariables false
namespace Go.Proofs.Ytchpekecgdbphaa
open Go Go.RowKit Go.MapKept Go.ChangeMaps

section
variable {w w' : World} {wb b ab cm size place : Nat} {n l f : Int} {recs : List (List Int)} {k : Nat}
/-- Any crash. -/
theorem fall_any (kv : Value) (K : List Int) (t x : Int) (h : LogSt w wb b ab cm size place n l f recs k) (hk : Ints w kv K) (hK : K.length ≤ 8192) (hKb : ∀ kb o c k, kv = .slice (some ⟨kb, o, none⟩) k c → kb ≠ b) : Calls Try.prog 14 #[.pointer (some ⟨b, 0, none⟩), kv, .int .i64 t, .int .i64 x] w (FallPost w b ab size place n l f recs k false) := by
  obtain ⟨D, C, h1, h2, h3, h4⟩ := h.x
  obtain ⟨N, hN, hN64⟩ := tornN x
  refine (crash_any w b ab cm D C kv K t x N hN hN64 h1 hk hK hKb).mono ?_
  rintro e w' ⟨rfl, cm2, hp, hge, hu⟩
  exact ⟨rfl, cm2, ⟨D, C, _, hp, h3, h4, crashed_torn, fun h => by cases h⟩, hge, hu⟩
/-- A log whose plate has all durable. -/
structure LogClean (w : World) (wb b ab cm size place : Nat) (n l f : Int) (recs : List (List Int)) : Prop where
  x : ∃ D, PlateAt w b ab cm D (fun _ => none) ∧ WalAt w wb b size n l place f (f + recs.length) (usedB recs : Nat) ∧ Log D (fun _ => none) size place n l f recs recs.length
theorem LogClean.st (h : LogClean w wb b ab cm size place n l f recs) : LogSt w wb b ab cm size place n l f recs recs.length := by
  obtain ⟨D, h1, h2, h3⟩ := h.x
  exact ⟨D, _, h1, h2, h3, fun h => absurd h (Nat.lt_irrefl _)⟩
theorem LogClean.old (h : LogClean w wb b ab cm size place n l f recs) (u : Upd (fun _ => False) w w') : LogClean w' wb b ab cm size place n l f recs := by
  obtain ⟨D, h1, h2, h3⟩ := h.x
  exact ⟨D, h1.old u, h2.old u, h3⟩
/-- A plate that has all durable is as behind a crash. -/
theorem LogClean.fallen (h : LogClean w wb b ab cm size place n l f recs) : Fallen w b ab cm size place n l f recs recs.length false := by
  obtain ⟨D, h1, h2, h3⟩ := h.x
  exact ⟨D, _, D, h1, h3, fun h => absurd h (Nat.lt_irrefl _), ⟨rfl, fun i _ _ => rfl, fun i l _ h => by cases h⟩, fun h => by cases h⟩
/-- What an opening answers behind any crash. -/
def BackPost (w : World) (b ab cm size place : Nat) (n l f : Int) (recs : List (List Int)) (k : Nat) (e : Ending) (w' : World) : Prop :=
  ∃ wb v j, k ≤ j ∧ j ≤ recs.length ∧ e = .returned (.tuple #[.pointer (some ⟨wb, 0, none⟩), v, .int .i64 0]) ∧ LogClean w' wb b ab cm size place (n + 1) (l + 1) f (recs.take j) ∧ Lists (w.heap.size + 1) w' v (recs.take j) ∧ (∀ r, r ∈ recs.take j → IsB r) ∧ Upd (fun x => x = ab ∨ x = cm) w w' ∧ w.heap.size ≤ wb
theorem open_back {lost : Bool} (h : Fallen w b ab cm size place n l f recs k lost) (hn : n < 1152921504606846976) (hl : l < 1152921504606846976) (hf : f < 1152921504606846976 - size) :
    Calls Try.prog 15 #[.pointer (some ⟨b, 0, none⟩)] w (BackPost w b ab cm size place n l f recs k) := by
  obtain ⟨D, C, D', h1, h2, h3, h4, h5⟩ := h.x
  have hB := crashed_bytes h2 h4
  have hn1 := h2.n1
  have hkl := h2.kle
  refine (open_any w b ab cm size D' h1 (by rw [h4.len, h2.dlen]) h2.four hB).mono ?_
  rintro e w' (⟨rfl, hno, _, hu⟩ | ⟨rfl, ⟨n', l', p', f', hb, _, hfull⟩, hu⟩ | ⟨wb, hnew⟩ | ⟨wb, place', n', l', f', L, v, D2, ho⟩)
  · exfalso
    refine hno (n % 2).toNat n l place f (by omega) ?_
    rw [h2.heads h4 (by omega), show ((n % 2).toNat : Int) = n % 2 by omega]
    exact h2.isHead
  · exfalso
    obtain ⟨rfl, rfl, _, rfl⟩ := h2.best h4 hb
    omega
  · exfalso
    have hz := hnew.zero (n % 2).toNat (by rw [h4.len, h2.dlen]; omega)
    rw [h2.heads h4 (by omega), h2.head] at hz
    have := head_first n l place f
    rw [hz] at this
    exact absurd this (by decide)
  · have hL := ho.o.rs
    have hmx := ho.o.max
    obtain ⟨e1, e2, e3, e4⟩ := h2.best h4 ho.best
    have e5 : place' = place := by omega
    subst e5
    rw [e4] at hL hmx
    obtain ⟨_, _, j1, j2, j3, hlog⟩ := h2.opened h4 hB ho.best ho.o hn hl
    have hw := ho.wal
    rw [e1, e2, e4] at hw
    have hli := ho.li
    have hby := ho.bytes
    have hp2 := ho.p
    have he := ho.e
    have hup := ho.up
    have hge := ho.ge
    obtain ⟨j, hj⟩ : ∃ j, j = L.length := ⟨_, rfl⟩
    rw [← hj] at j1 j2 j3
    subst j3
    exact ⟨wb, v, j, j1, j2, he, ⟨D2, hp2, hw, hlog⟩, hli, hby, hup, hge⟩
end
end Go.Proofs.Ytchpekecgdbphaa
