/-
  LeadOpens: what the walk's cuts and loops say.
-/
import Derived.Test.YtlichkheakjkhaaOpen
import Derived.Test.YtlichkheakjkhaaChooses
import Derived.Test.YtlichkheakjkhaaBindsBase
namespace Go.Proofs.Ytlichkheakjkhaa
open Go Go.RowKit

theorem un4_nat (x : Int) : ∃ q : Nat, wrap64 (1 + un4 x) = (q : Int) ∧ 1 ≤ q ∧ q ≤ 4 := by
  have := un4_bd x
  exact ⟨(1 + un4 x).toNat, by rw [un4_add]; omega, by omega, by omega⟩
theorem un8_nat (x : Int) : ∃ q : Nat, un8 x = (q : Int) ∧ q ≤ 7 := by
  have := un8_bd x
  exact ⟨(un8 x).toNat, by omega, by omega⟩
/-- Behind k rounds: what is proposed, and what the law wants. -/
structure OpenI (w : World) (b m1 m2 m3 mw k frm : Nat) (O Wt : List (Int × Value)) (blk : Int → Nat × Nat) (g : Int → Option PropD) (wr : World) : Prop where
  t : TryAt wr b m1 m2 m3 5 frm [] [] O
  pr : Props wr m1 m2 m3 O blk g
  m : wr.im mw = some Wt
  has : ∀ s, aget Wt s = (g s).map fun p => .int .i64 p.cmd.id
  keys : Wt.map (·.1) = O.map (·.1)
  rng : ∀ p ∈ O, (frm : Int) ≤ p.1 ∧ p.1 < 8
  len : O.length ≤ k
  nb : ∀ s, g s ≠ none → (blk s).2 ≠ mw
  up : Upd (fun _ => False) w wr
theorem OpenI.old {w wr w' : World} {b m1 m2 m3 mw k frm : Nat} {O Wt : List (Int × Value)} {blk : Int → Nat × Nat} {g : Int → Option PropD} (h : OpenI w b m1 m2 m3 mw k frm O Wt blk g wr) (u : Upd (fun _ => False) wr w') : OpenI w b m1 m2 m3 mw k frm O Wt blk g w' :=
  ⟨h.t.old u, h.pr.old u, (u.im (im_lt (w := wr) (by rw [h.m]; rfl)) (fun h => h)).trans h.m, h.has, h.keys, h.rng, h.len, h.nb, h.up.trans u⟩
theorem OpenI.more {w wr : World} {b m1 m2 m3 mw k frm : Nat} {O Wt : List (Int × Value)} {blk : Int → Nat × Nat} {g : Int → Option PropD} (h : OpenI w b m1 m2 m3 mw k frm O Wt blk g wr) : OpenI w b m1 m2 m3 mw (k + 1) frm O Wt blk g wr :=
  ⟨h.t, h.pr, h.m, h.has, h.keys, h.rng, Nat.le_succ_of_le h.len, h.nb, h.up⟩
structure OpenLo (w : World) (b m1 m2 m3 mw : Nat) : Prop where
  ne : mw ≠ b ∧ mw ≠ m1 ∧ mw ≠ m2 ∧ mw ≠ m3
  lo : w.heap.size ≤ m3 ∧ w.heap.size ≤ mw
theorem map_aput {l : List (Int × Value)} {k : Int} {v : Value} (h : aget l k = none) : (aput l k v).map (·.1) = l.map (·.1) ++ [k] := by
  unfold aput
  rw [ahas_aget, h]
  simp
theorem aput_mem {l : List (Int × Value)} {k : Int} {v : Value} (h : aget l k = none) : aput l k v = l ++ [(k, v)] := by
  unfold aput
  rw [ahas_aget, h]
  simp
/-- A new slot is proposed, and wanted. -/
theorem OpenI.new {w wr w1 : World} {b m1 m2 m3 mw k frm : Nat} {O Wt : List (Int × Value)} {blk blk' : Int → Nat × Nat} {g : Int → Option PropD} (h : OpenI w b m1 m2 m3 mw k frm O Wt blk g wr) (hl : OpenLo w b m1 m2 m3 mw) {s : Int} {c : CmdD} {pv : Value}
    (hs : g s = none) (hs0 : (frm : Int) ≤ s) (hs1 : s < 8) (ht : TryAt w1 b m1 m2 m3 5 frm [] [] (aput O s pv)) (hp : Props w1 m1 m2 m3 (aput O s pv) blk' (gput g s ⟨c, fun _ => false⟩)) (hb : wr.heap.size ≤ (blk' s).2) (hb' : ∀ s', s' ≠ s → blk' s' = blk s') (hu : Upd (fun k => k = m3) wr w1) :
    OpenI w b m1 m2 m3 mw (k + 1) frm (aput O s pv) (aput Wt s (.int .i64 c.id)) blk' (gput g s ⟨c, fun _ => false⟩) (w1.mput mw (.int .i64 s) (.int .i64 c.id)) := by
  have hmw : w1.im mw = some Wt := (hu.im (im_lt (w := wr) (by rw [h.m]; rfl)) (by have := hl.ne.2.2.2; exact this)).trans h.m
  have hlt := im_lt (w := wr) (b := mw) (by rw [h.m]; rfl)
  have hu2 : Upd (fun k => k = mw) w1 (w1.mput mw (.int .i64 s) (.int .i64 c.id)) := (Upd.refl (fun k => k = mw) _).mput (Or.inl rfl) _ _
  obtain ⟨e1, e2, e3, e4⟩ := hl.ne
  have hOs := h.pr.no hs
  have hWs : aget Wt s = none := by rw [h.has, hs]; rfl
  have hnb : ∀ s', gput g s ⟨c, fun _ => false⟩ s' ≠ none → (blk' s').2 ≠ mw := fun s' hs' => by
    by_cases e : s' = s
    · subst e; omega
    · rw [hb' s' e]
      exact h.nb s' (by simpa [gput, e] using hs')
  refine ⟨ht.upd hu2 (fun e => e1 e.symm) (fun e => e2 e.symm) (fun e => e3 e.symm) (fun e => e4 e.symm), hp.upd hu2 (fun k hk => by rw [hk, hmw]; rfl) hnb, im_mput_same hmw _, fun s' => ?_, ?_, ?_, ?_, hnb, (h.up.trans' hu (fun i hi e => by have := hl.lo.1; omega)).trans' hu2 (fun i hi e => by have := hl.lo.2; omega)⟩
  · rw [aget_aput, h.has]
    unfold gput
    by_cases e : s' = s <;> simp [e]
  · rw [map_aput hOs, map_aput hWs, h.keys]
  · rw [aput_mem hOs]
    intro p hp'
    rcases List.mem_append.1 hp' with hp' | hp'
    · exact h.rng p hp'
    · simp only [List.mem_singleton] at hp'
      subst hp'
      exact ⟨hs0, hs1⟩
  · rw [aput_mem hOs, List.length_append]
    have := h.len
    simpa using this
def OpenEx (w : World) (b m1 m2 m3 mw frm : Nat) (len : Nat) (i : Value) (wr : World) : Prop :=
  ∃ (k : Nat) (O Wt : List (Int × Value)) (blk : Int → Nat × Nat) (g : Int → Option PropD), k ≤ 21 ∧ k ≤ len ∧ i = .int .i64 k ∧ OpenI w b m1 m2 m3 mw k frm O Wt blk g wr
/-- Behind the loop. -/
def OpenAll (w : World) (b m1 m2 m3 mw frm : Nat) (wr : World) : Prop :=
  ∃ (O Wt : List (Int × Value)) (blk : Int → Nat × Nat) (g : Int → Option PropD), OpenI w b m1 m2 m3 mw 21 frm O Wt blk g wr
theorem OpenI.all {w wr : World} {b m1 m2 m3 mw k frm : Nat} {O Wt : List (Int × Value)} {blk : Int → Nat × Nat} {g : Int → Option PropD} (h : OpenI w b m1 m2 m3 mw k frm O Wt blk g wr) (hk : k ≤ 21) : OpenAll w b m1 m2 m3 mw frm wr :=
  ⟨O, Wt, blk, g, h.t, h.pr, h.m, h.has, h.keys, h.rng, Nat.le_trans h.len hk, h.nb, h.up⟩
end Go.Proofs.Ytlichkheakjkhaa
