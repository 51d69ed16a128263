/-
  A log in memory, as its law says it; its calls.
-/
import Derived.Test.YtchpekecgdbphaaWalTT
import Derived.Test.YtchpekecgdbphaaWalO
import Derived.Test.YtchpekecgdbphaaWalA
set_option linter.unusedVariables false
namespace Go.Proofs.Ytchpekecgdbphaa
open Go Go.RowKit Go.MapKept Go.ChangeMaps

/-- The first record that is not durable has a sector that is not. -/
def Dirt (C : Int → Option (List Int)) (size place : Nat) (recs : List (List Int)) (k : Nat) : Prop := k < recs.length → C (atS size place (usedB (recs.take k))) ≠ none
/-- A log at block wb, its plate at block b. -/
structure LogSt (w : World) (wb b ab cm size place : Nat) (n l f : Int) (recs : List (List Int)) (k : Nat) : Prop where
  x : ∃ D C, PlateAt w b ab cm D C ∧ WalAt w wb b size n l place f (f + recs.length) (usedB recs : Nat) ∧ Log D C size place n l f recs k ∧ Dirt C size place recs k
section
variable {w w' : World} {wb b ab cm size place : Nat} {n l f : Int} {recs : List (List Int)} {k : Nat}
theorem LogSt.old (h : LogSt w wb b ab cm size place n l f recs k) (u : Upd (fun _ => False) w w') : LogSt w' wb b ab cm size place n l f recs k := by
  obtain ⟨D, C, h1, h2, h3, h4⟩ := h.x
  exact ⟨D, C, h1.old u, h2.old u, h3, h4⟩
theorem LogSt.lt (h : LogSt w wb b ab cm size place n l f recs k) : wb < w.heap.size ∧ b < w.heap.size ∧ ab < w.heap.size ∧ cm < w.heap.size := by
  obtain ⟨D, C, h1, h2, h3, h4⟩ := h.x
  exact ⟨h2.lt, h1.lt⟩
theorem Dirt.append {D : List (List Int)} {C : Int → Option (List Int)} {r : List Int} (h : Dirt C size place recs k) (hl : Log D C size place n l f recs k) (hr : 1 ≤ needB r) (hroom : usedB recs + needB r ≤ size) :
    Dirt (putRec C size place (usedB recs) (f + recs.length) r (needB r)) size place (recs ++ [r]) k := by
  intro hk
  have hkl := hl.kle
  have hrs := hl.rs.room
  rw [List.take_append_of_le_length hkl]
  by_cases e : k = recs.length
  · rw [e, List.take_length]
    have := putRec_at (C := C) (size := size) (place := place) (used := usedB recs) (num := f + recs.length) (r := r) (q := needB r) (i := 0) hroom (by omega)
    rw [Nat.add_zero] at this
    rw [this]
    exact fun h => by cases h
  · have hlt : usedB (recs.take k) < usedB recs := by
      have h2 := usedB_mono (l := recs) (i := k + 1) (j := recs.length) (by omega)
      rw [List.take_length, usedB_take_next (by omega)] at h2
      have := (hl.rs.is k (by omega)).need
      omega
    rw [putRec_other (fun i hi e2 => by have := atS_inj (by omega) (by omega) (Int.ofNat.inj e2); omega)]
    exact h (by omega)
/-- What Append answers of a log. -/
def AppSt (w : World) (wb b ab cm size place : Nat) (n l f : Int) (recs : List (List Int)) (k : Nat) (r : List Int) (e : Ending) (w' : World) : Prop := Upd (fun x => x = cm ∨ x = wb) w w' ∧
  ((e = .returned (.tuple #[.int .i64 (f + recs.length), .int .i64 0]) ∧ LogSt w' wb b ab cm size place n l f (recs ++ [r]) k) ∨ (∃ x, (x = 1 ∨ x = 4) ∧ e = .returned (.tuple #[.int .i64 0, .int .i64 x]) ∧ LogSt w' wb b ab cm size place n l f recs k))
theorem app_st (w : World) (wb b ab cm size place : Nat) (n l f : Int) (recs : List (List Int)) (k : Nat) (v : Value) (r : List Int) (h : LogSt w wb b ab cm size place n l f recs k) (hb : BytV w v r) (hB : IsB r) (hr : r.length ≤ 140737488355328) (hcap : ∀ a n c, v = .slice a n c → n ≤ c) (hk : ∀ k o n c, v = .slice (some ⟨k, o, none⟩) n c → k ≠ cm ∧ k ≠ wb) :
    Calls Try.prog 9 #[.pointer (some ⟨wb, 0, none⟩), v] w (AppSt w wb b ab cm size place n l f recs k r) := by
  obtain ⟨D, C, h1, h2, h3, h4⟩ := h.x
  have hroom := h3.rs.room
  have hmany := h3.rs.many
  have hfew := h3.few
  have hfour := h3.four
  have hf1 := h3.f1
  by_cases hok : 1 ≤ r.length ∧ r.length ≤ 2000
  · have hn : 1 ≤ needB r := by unfold needB; omega
    by_cases hfull : size < usedB recs + needB r ∨ 1152921504606846976 < f + recs.length
    · refine (append_full h2 hb hok.1 hok.2 hfew hroom hfull).mono ?_
      rintro e w' ⟨rfl, hu⟩
      exact ⟨hu.mono (fun _ _ h => h.elim), .inr ⟨4, Or.inr rfl, rfl, h.old hu⟩⟩
    · refine (append_ok w wb b ab cm size place (usedB recs) n l f (f + recs.length) D C v r h2 h1 h3.dlen (by omega) hfew h3.plt hb hcap hk hok.1 hok.2 (by omega) (by omega) (by omega)).mono ?_
      rintro e w' ⟨rfl, hp, hw, hu⟩
      refine ⟨hu, .inl ⟨rfl, D, _, hp, ?_, h3.append hB hok.1 hok.2 (by omega), h4.append h3 hn (by omega)⟩⟩
      rw [usedB_snoc, List.length_append]
      have e1 : f + ((recs.length + [r].length : Nat) : Int) = f + recs.length + 1 := by simp; omega
      rw [e1]
      exact hw
  · refine (append_arg h2 hb hr hok).mono ?_
    rintro e w' ⟨rfl, rfl⟩
    exact ⟨Upd.refl _ _, .inr ⟨1, Or.inl rfl, rfl, h⟩⟩
def SyncSt (w : World) (wb b ab cm size place : Nat) (n l f : Int) (recs : List (List Int)) (e : Ending) (w' : World) : Prop := e = .returned (.int .i64 0) ∧ LogSt w' wb b ab cm size place n l f recs recs.length ∧ Upd (fun x => x = ab ∨ x = cm) w w'
theorem sync_st (h : LogSt w wb b ab cm size place n l f recs k) : Calls Try.prog 13 #[.pointer (some ⟨wb, 0, none⟩)] w (SyncSt w wb b ab cm size place n l f recs) := by
  obtain ⟨D, C, h1, h2, h3, h4⟩ := h.x
  obtain ⟨n1, n2, n3⟩ := h2.apart h1
  refine (wsync_any h2 h1).mono ?_
  rintro e w' ⟨rfl, hp, hu⟩
  exact ⟨rfl, ⟨_, _, hp, h2.upd hu (fun h => by rcases h with h | h; exact n2 h; exact n3 h), h3.synced, fun h => absurd h (Nat.lt_irrefl _)⟩, hu⟩
theorem life_st (h : LogSt w wb b ab cm size place n l f recs k) : Calls Try.prog 17 #[.pointer (some ⟨wb, 0, none⟩)] w (Same w (.int .i64 l)) := by
  obtain ⟨D, C, h1, h2, h3, h4⟩ := h.x
  exact life_any h2
theorem crashed_bytes {D D' : List (List Int)} {C : Int → Option (List Int)} (h : Log D C size place n l f recs k) (c : Crashed D C D') : ∀ i, i < D'.length → IsB (D'.getD i []) := by
  intro i hi
  rw [c.len] at hi
  obtain ⟨b1, b2⟩ := h.bytes i hi
  cases hC : C i with
  | none => rw [c.same i hi hC]; exact b2
  | some x =>
    have ev : view D C i = x := by unfold view; rw [hC]; rfl
    rw [ev] at b1
    rcases c.or i x hi hC with e | ⟨N, e⟩
    · rw [e]; exact b1
    · rw [e]; exact (b1.take N).append (b2.drop N)
/-- Behind a crash. -/
structure Fallen (w : World) (b ab cm size place : Nat) (n l f : Int) (recs : List (List Int)) (k : Nat) (lost : Bool) : Prop where
  x : ∃ D C D', PlateAt w b ab cm D' (fun _ => none) ∧ Log D C size place n l f recs k ∧ Dirt C size place recs k ∧ Crashed D C D' ∧ (lost = true → Lost D C D')
def FallPost (w : World) (b ab size place : Nat) (n l f : Int) (recs : List (List Int)) (k : Nat) (lost : Bool) (e : Ending) (w' : World) : Prop :=
  e = .returned (.int .i64 0) ∧ ∃ cm2, Fallen w' b ab cm2 size place n l f recs k lost ∧ w.heap.size ≤ cm2 ∧ Upd (fun x => x = b ∨ x = ab) w w'
theorem fall_lost (t x : Int) (h : LogSt w wb b ab cm size place n l f recs k) (hx : x < 64) : Calls Try.prog 14 #[.pointer (some ⟨b, 0, none⟩), .slice none 0 0, .int .i64 t, .int .i64 x] w (FallPost w b ab size place n l f recs k true) := by
  obtain ⟨D, C, h1, h2, h3, h4⟩ := h.x
  obtain ⟨N, hN, hN64⟩ := tornN x
  refine (crash_any w b ab cm D C (.slice none 0 0) [] t x N hN hN64 h1 (Ints.nil w) (by simp) (fun kb o c k e => by cases e)).mono ?_
  rintro e w' ⟨rfl, cm2, hp, hge, hu⟩
  exact ⟨rfl, cm2, ⟨D, C, _, hp, h3, h4, crashed_torn, fun _ => lost_torn (by omega)⟩, hge, hu⟩
/-- What an opening answers behind a crash that lost all that was not durable. -/
def ReopenPost (w : World) (b ab cm size place : Nat) (n l f : Int) (recs : List (List Int)) (k : Nat) (e : Ending) (w' : World) : Prop :=
  ∃ wb v, e = .returned (.tuple #[.pointer (some ⟨wb, 0, none⟩), v, .int .i64 0]) ∧ LogSt w' wb b ab cm size place (n + 1) (l + 1) f (recs.take k) k ∧ Lists (w.heap.size + 1) w' v (recs.take k) ∧ (∀ r, r ∈ recs.take k → IsB r) ∧ Upd (fun x => x = ab ∨ x = cm) w w' ∧ w.heap.size ≤ wb
theorem open_lost (h : Fallen w b ab cm size place n l f recs k true) (hn : n < 1152921504606846976) (hl : l < 1152921504606846976) (hf : f < 1152921504606846976 - size) :
    Calls Try.prog 15 #[.pointer (some ⟨b, 0, none⟩)] w (ReopenPost w b ab cm size place n l f recs k) := by
  obtain ⟨D, C, D', h1, h2, h3, h4, h5⟩ := h.x
  have hB := crashed_bytes h2 h4
  have hn1 := h2.n1
  have hkl := h2.kle
  refine (open_any w b ab cm size D' h1 (by rw [h4.len, h2.dlen]) h2.four hB).mono ?_
  rintro e w' (⟨rfl, hno, _, hu⟩ | ⟨rfl, ⟨n', l', p', f', hb, _, hfull⟩, hu⟩ | ⟨wb, hnew⟩ | ⟨wb, place', n', l', f', L, v, D2, ho⟩)
  · exfalso
    refine hno (n % 2).toNat n l place f (by omega) ?_
    rw [h2.heads h4 (by omega), show ((n % 2).toNat : Int) = n % 2 by omega]
    exact h2.isHead
  · exfalso
    obtain ⟨rfl, rfl, _, rfl⟩ := h2.best h4 hb
    omega
  · exfalso
    have hz := hnew.zero (n % 2).toNat (by rw [h4.len, h2.dlen]; omega)
    rw [h2.heads h4 (by omega), h2.head] at hz
    have := head_first n l place f
    rw [hz] at this
    exact absurd this (by decide)
  · have hL := ho.o.rs
    have hmx := ho.o.max
    obtain ⟨e1, e2, e3, e4⟩ := h2.best h4 ho.best
    have e5 : place' = place := by omega
    subst e5
    rw [e4] at hL hmx
    have hl2 := h2.lost h4 (h5 rfl) hL hmx h3
    obtain ⟨_, _, _, _, _, hlog⟩ := h2.opened h4 hB ho.best ho.o hn hl
    have hw := ho.wal
    rw [e1, e2, e4, hl2] at hw
    have hlog' := hlog
    rw [hl2] at hlog'
    have hlen : (recs.take k).length = k := by rw [List.length_take]; omega
    rw [hlen] at hlog'
    have hli := ho.li
    have hby := ho.bytes
    rw [hl2] at hli hby
    exact ⟨wb, v, ho.e, ⟨D2, _, ho.p, hw, hlog', fun h => absurd h (by rw [hlen]; exact Nat.lt_irrefl _)⟩, hli, hby, ho.up, ho.ge⟩
end
end Go.Proofs.Ytchpekecgdbphaa
