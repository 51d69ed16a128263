/-
  A log in memory; put, begin.
-/
import Derived.Test.YtchpekecgdbphaaWal6
namespace Go.Proofs.Ytchpekecgdbphaa
open Go Go.RowKit Go.MapKept Go.ChangeMaps

/-- A log at block wb, over the plate at block b. -/
structure WalAt (w : World) (wb b : Nat) (size n l p f next used : Int) : Prop where
  c0 : w.cell? ⟨wb, 0, none⟩ = some (.pointer (some ⟨b, 0, none⟩))
  c1 : w.cell? ⟨wb, 1, none⟩ = some (.int .i64 size)
  c2 : w.cell? ⟨wb, 2, none⟩ = some (.int .i64 n)
  c3 : w.cell? ⟨wb, 3, none⟩ = some (.int .i64 l)
  c4 : w.cell? ⟨wb, 4, none⟩ = some (.int .i64 p)
  c5 : w.cell? ⟨wb, 5, none⟩ = some (.int .i64 f)
  c6 : w.cell? ⟨wb, 6, none⟩ = some (.int .i64 next)
  c7 : w.cell? ⟨wb, 7, none⟩ = some (.int .i64 used)
  tag : ∃ cur, w.heap[wb]? = some (.cells cur 64 (0, 0))
theorem WalAt.lt {w : World} {wb b : Nat} {size n l p f next used : Int} (h : WalAt w wb b size n l p f next used) : wb < w.heap.size := World.block_lt_of_cell? _ _ h.c0
theorem WalAt.upd {F : Nat → Prop} {w w' : World} {wb b : Nat} {size n l p f next used : Int} (h : WalAt w wb b size n l p f next used) (u : Upd F w w') (hF : ¬ F wb) : WalAt w' wb b size n l p f next used := by
  have lt := h.lt
  have k : ∀ o, w'.cell? ⟨wb, o, none⟩ = w.cell? ⟨wb, o, none⟩ := fun o => u.cell (p := ⟨wb, o, none⟩) lt hF
  obtain ⟨cur, ht⟩ := h.tag
  exact ⟨(k 0).trans h.c0, (k 1).trans h.c1, (k 2).trans h.c2, (k 3).trans h.c3, (k 4).trans h.c4, (k 5).trans h.c5, (k 6).trans h.c6, (k 7).trans h.c7, ⟨cur, (u.block wb lt hF).trans ht⟩⟩
theorem WalAt.old {w w' : World} {wb b : Nat} {size n l p f next used : Int} (h : WalAt w wb b size n l p f next used) (u : Upd (fun _ => False) w w') : WalAt w' wb b size n l p f next used := h.upd u (fun h => h)
theorem WalAt.frozen {w : World} {wb b : Nat} {size n l p f next used : Int} (h : WalAt w wb b size n l p f next used) : ∀ o, w.frozen? ⟨wb, o, none⟩ = false := fun o => by
  obtain ⟨cur, ht⟩ := h.tag
  simp [World.frozen?, ht]
/-- The log's block is none of the plate's. -/
theorem WalAt.apart {w : World} {wb b b' ab cm : Nat} {size n l p f next used : Int} {D : List (List Int)} {C : Int → Option (List Int)} (h : WalAt w wb b size n l p f next used) (hp : PlateAt w b' ab cm D C) : wb ≠ b' ∧ wb ≠ ab ∧ wb ≠ cm := by
  obtain ⟨cur, ht⟩ := h.tag
  refine ⟨fun e => ?_, fun e => ?_, fun e => ?_⟩
  · obtain ⟨cur', ht'⟩ := hp.tag
    rw [← e, ht] at ht'; cases ht'
  · obtain ⟨v, _, hs⟩ := hp.c0
    obtain ⟨c, cur', _, _, hk, _⟩ := hs
    rw [← e, ht] at hk; cases hk
  · obtain ⟨M, hm, _⟩ := hp.cache
    unfold World.im at hm
    rw [← e, ht] at hm; cases hm
theorem WalAt.notB {w : World} {wb b : Nat} {size n l p f next used : Int} (h : WalAt w wb b size n l p f next used) : NotB w wb := fun cur fr e => by
  obtain ⟨cur', ht⟩ := h.tag
  rw [ht] at e; cases e
def PutPost (w : World) (b ab cm : Nat) (D : List (List Int)) (C : Int → Option (List Int)) (i : Nat) (l : List Int) (e : Ending) (w' : World) : Prop :=
  e = .returned (.int .i64 0) ∧ PlateAt w' b ab cm (viewL D (cput C i l)) (fun _ => none) ∧ Upd (fun k => k = ab ∨ k = cm) w w'
theorem put_any (i : Nat) (w : World) (wb b ab cm : Nat) (size n l p f next used : Int) (D : List (List Int)) (C : Int → Option (List Int)) (sv : Value) (L : List Int) (hw : WalAt w wb b size n l p f next used) (hp : PlateAt w b ab cm D C) (hi : i < D.length) (hs : Sec w sv L) :
    Calls Try.prog 50 #[.pointer (some ⟨wb, 0, none⟩), .int .i64 i, sv] w (PutPost w b ab cm D C i L) := by
  have c0 := hw.c0
  obtain ⟨n1, n2, n3⟩ := hw.apart hp
  have lt := hw.lt
  obtain ⟨sk, so, sc, rfl, _⟩ := hs.shape
  have HS := Lib.hid hs; clear hs
  have HP := Lib.hid hp; clear hp
  have HW := Lib.hid hw; clear hw
  go_enter Try.func50, Try.ntmps50
  go_wp2_with fail
  refine (write_any i _ b ab cm D C _ L HP.out hi HS.out).mono ?_
  rintro e w1 ⟨rfl, hp1, hu1⟩
  have c01 := (hu1.cell (p := ⟨wb, 0, none⟩) lt n3).trans c0
  have HP1 := Lib.hid hp1; clear hp1
  have HU1 := Lib.hid hu1; clear hu1
  go_wp2_with fail
  refine (sync_any _ b ab cm D _ HP1.out).mono ?_
  rintro e w2 ⟨rfl, hp2, hu2⟩
  have HP2 := Lib.hid hp2; clear hp2
  have HU2 := Lib.hid hu2; clear hu2
  go_wp2_with fail
  go_ret
  exact ⟨rfl, HP2.out, (HU1.out.mono (fun _ _ h => Or.inr h)).trans HU2.out⟩
end Go.Proofs.Ytchpekecgdbphaa
