/-
  PlatePlays: the walk.
-/
import Derived.Test.YtcmhcibkpmbnoaaPDoes
set_option linter.unusedVariables false
namespace Go.Proofs.Ytcmhcibkpmbnoaa
open Go Go.RowKit Go.MapKept Go.ChangeMaps

/-- A pair is copied: first the one, then the other. -/
theorem copy_two {G : Nat → Prop} {w : World} {b x N : Nat} (h : PairAt G w b x N) : ∃ (Mid : Nat → World → Prop), Calls Try.prog 13 #[.pointer (some ⟨b, 0, none⟩)] w (fun e w1 => ∃ b', e = .returned (.pointer (some ⟨b', 0, none⟩)) ∧ Mid b' w1) ∧
    ∀ b' w1, Mid b' w1 → Calls Try.prog 14 #[.pointer (some ⟨x, 0, none⟩)] w1 (fun e w2 => ∃ x', e = .returned (.pointer (some ⟨x', 0, none⟩)) ∧ PairAt (fun k => w.heap.size ≤ k ∧ k < w2.heap.size) w2 b' x' N ∧ Upd (fun _ => False) w w2) := by
  have bd : ∀ {w2 : World} {b' x' : Nat}, PairAt (fun k => w.heap.size ≤ k) w2 b' x' N → PairAt (fun k => w.heap.size ≤ k ∧ k < w2.heap.size) w2 b' x' N := fun h => h.bound
  cases h with
  | live ab cm hb hw hd B C h g =>
    refine ⟨fun b' w1 => ∃ ab' cm', PlateAt w1 b' ab' cm' (rowL B N) C ∧ w.heap.size ≤ b' ∧ w.heap.size ≤ ab' ∧ w.heap.size ≤ cm' ∧ Upd (fun _ => False) w w1, (copy_any w b ab cm _ C h.p).mono ?_, fun b' w1 ⟨ab', cm', hp, z1, z2, z3, hu⟩ => ?_⟩
    · rintro e w' ⟨b', ab', cm', rfl, h1, h2, h3, h4, h5⟩
      exact ⟨b', rfl, ab', cm', h1, h2, h3, h4, h5⟩
    · refine (rcopy_ok w1 x hb hw hd N B _ _ (h.r.old hu)).mono ?_
      rintro e w2 ⟨x', hb', hw', hd', rfl, hr, ⟨y1, y2, y3, y4⟩, hu2⟩
      have hz := hu.size
      have hl := hp.lt
      exact ⟨x', rfl, bd (.live ab' cm' hb' hw' hd' B C ⟨hp.old hu2, hr, by omega, by omega⟩ ⟨z1, z2, z3, by omega, by omega, by omega, by omega⟩), hu.trans hu2⟩
  | dead h g gm gr =>
    refine ⟨fun b' w1 => DeadAt w1 b' N ∧ w.heap.size ≤ b' ∧ (∀ m, w1.cell? ⟨b', 1, none⟩ = some (.map (some m)) → w.heap.size ≤ m) ∧ Upd (fun _ => False) w w1, (copy_dead w b N h.p).mono ?_, fun b' w1 ⟨hd, z1, z2, hu⟩ => ?_⟩
    · rintro e w' ⟨b', rfl, h1, h2, h3, h4⟩
      exact ⟨b', rfl, h1, h2, h3, h4⟩
    · refine (rcopy_dead w1 x N (h.r.old hu)).mono ?_
      rintro e w2 ⟨x', rfl, hr, y1, y2, hu2⟩
      have hz := hu.size
      exact ⟨x', rfl, bd (.dead ⟨hd.old hu2, hr⟩ ⟨z1, by omega⟩ (fun m e => z2 m ((hu2.cell (p := ⟨b', 1, none⟩) hd.lt (fun h => h)).symm.trans e)) (fun m e k o n c e2 => Nat.le_trans hz (y2 m e k o n c e2))), hu.trans hu2⟩
/-- A call of a plate, as data. -/
structure DoQ where
  op : Int
  i : Int
  torn : Int
  n : Int
  bs : List Int
  ks : List Int
instance : Inhabited DoQ := ⟨⟨0, 0, 0, 0, [], []⟩⟩
def DoRowQ (w : World) (cs : List Value) (d : DoQ) : Prop := ∃ bv kv, BytV w bv d.bs ∧ d.bs.length ≤ 140737488355328 ∧ Ints w kv d.ks ∧ cs = [.int .i64 d.op, .int .i64 d.i, .int .i64 d.torn, .int .i64 d.n, bv, kv]
/-- Calls that came in. -/
structure DosQ (w : World) (v : Value) (ds : List DoQ) : Prop where
  sl : ∃ a c, v = .slice a ds.length c
  few : ds.length ≤ 140737488355328
  at_ : ∀ q, q < ds.length → ∃ h o c row, v = .slice (some ⟨h, o, none⟩) ds.length c ∧ DoRowQ w row (ds.getD q default) ∧ ∀ j, j < 6 → w.cell? ⟨h, o + q * 6 + j, none⟩ = row[j]?
theorem byt_lt {w : World} {v : Value} {l : List Int} (h : BytV w v l) : ∀ k o n c, v = .slice (some ⟨k, o, none⟩) n c → 0 < n → k < w.heap.size := fun k o n c e hn => by
  rcases h with ⟨rfl, a, c', e'⟩ | ⟨k', o', c', e', hc⟩
  · rw [e'] at e; cases e; omega
  · rw [e'] at e; cases e
    exact World.block_lt_of_cell? _ _ (hc 0 hn)
theorem ints_lt {w : World} {v : Value} {l : List Int} (h : Ints w v l) : ∀ k o n c, v = .slice (some ⟨k, o, none⟩) n c → 0 < n → k < w.heap.size := fun k o n c e hn => by
  rcases h.cells with ⟨rfl, a, c', e', _⟩ | ⟨k', o', c', e', _, hc⟩
  · rw [e'] at e; cases e; omega
  · rw [e'] at e; cases e
    exact World.block_lt_of_cell? _ _ (hc 0 hn)
theorem rowL_list (L : List (List Int)) : rowL (fun i => L.getD i []) L.length = L := by
  refine List.ext_getElem? fun i => ?_
  unfold rowL
  rw [List.getElem?_map]
  by_cases h : i < L.length
  · rw [List.getElem?_range h, List.getElem?_eq_getElem h]
    simp [List.getElem?_eq_getElem h]
  · rw [List.getElem?_eq_none (by simpa using h), List.getElem?_eq_none (by omega)]
    rfl
theorem pair_new {w w1 w2 : World} {b ab cm x hb hw hd : Nat} {L : List (List Int)} (hp : PlateAt w1 b ab cm L (fun _ => none)) (z1 : w.heap.size ≤ b) (z2 : w.heap.size ≤ ab) (z3 : w.heap.size ≤ cm) (hu : Upd (fun _ => False) w w1) (hr : RNew w1 L x hb hw hd w2) :
    PairAt (fun k => w.heap.size ≤ k) w2 b x L.length := by
  obtain ⟨y1, y2, y3, y4⟩ := hr.ge
  have hz := hu.size
  have hl := hp.lt
  have hp2 := hp.old hr.up
  rw [← rowL_list L] at hp2
  exact .live ab cm hb hw hd _ (fun _ => none) ⟨hp2, hr.r, by omega, by omega⟩ ⟨z1, z2, z3, by omega, by omega, by omega, by omega⟩
def TruePost (w : World) (e : Ending) (w' : World) : Prop := e = .returned (.bool true) ∧ Upd (fun _ => False) w w'
/-- Two pairs that share nothing. -/
structure Both (w : World) (b x b' x' N : Nat) (wr : World) : Prop where
  x : ∃ lo hi, hi ≤ wr.heap.size ∧ PairAt (fun k => w.heap.size ≤ k ∧ (k < lo ∨ hi ≤ k)) wr b x N ∧ PairAt (fun k => w.heap.size ≤ k ∧ lo ≤ k ∧ k < hi) wr b' x' N
theorem Both.old {w wr w' : World} {b x b' x' N : Nat} (h : Both w b x b' x' N wr) (u : Upd (fun _ => False) wr w') : Both w b x b' x' N w' := by
  obtain ⟨lo, hi, h1, h2, h3⟩ := h.x
  exact ⟨lo, hi, Nat.le_trans h1 u.size, h2.old u, h3.old u⟩
theorem Both.does {w wr w' : World} {b x b' x' N : Nat} {G : Nat → Prop} (h : Both w b x b' x' N wr) (hG : ∀ lo hi, PairAt (fun k => w.heap.size ≤ k ∧ (k < lo ∨ hi ≤ k)) wr b x N → True) (lo hi : Nat) (h1 : hi ≤ wr.heap.size) (h3 : PairAt (fun k => w.heap.size ≤ k ∧ lo ≤ k ∧ k < hi) wr b' x' N) (hz : w.heap.size ≤ wr.heap.size)
    (ha : AfterP (fun k => w.heap.size ≤ k ∧ (k < lo ∨ hi ≤ k)) wr b x N w') : Both w b x b' x' N w' := by
  obtain ⟨k1, F, k2, k3⟩ := ha
  refine ⟨lo, hi, Nat.le_trans h1 k2.size, k1.mono (fun k e => by rcases e with e | e; exact e; exact ⟨by omega, .inr (by omega)⟩), h3.upd k2 (fun k hk hF => by have := (k3 k hF).1; omega) (fun k hF => (k3 k hF).2.1)⟩
end Go.Proofs.Ytcmhcibkpmbnoaa
