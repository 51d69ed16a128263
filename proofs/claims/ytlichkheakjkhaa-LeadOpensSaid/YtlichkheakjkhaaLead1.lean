/-
  What the small functions of amphora/lead come to: state, right, New.
-/
import Derived.Test.YtlichkheakjkhaaProg
import Derived.Test.YtlichkheakjkhaaLib1
import Derived.Outline
import Derived.Deep.QuietTactic
import Derived.BigQuiet
namespace Go.Proofs.Ytlichkheakjkhaa
open Go Go.RowKit

theorem state_nil (node : Int) (w : World) : Calls Try.prog 34 #[.pointer none, .int .i64 node] w fun e w' => e = .returned (.int .i64 2) ∧ w = w' := by
  go_enter Try.func34, Try.ntmps34
  go_wp2
  go_ret
  exact ⟨rfl, rfl⟩

theorem state_zero (node : Int) (w : World) (b : Nat)
   (hc0 : w.cell? ⟨b, 0, none⟩ = some (.int .i64 0)) (hc1 : w.cell? ⟨b, 1, none⟩ = some (.int .i64 0)) :
    Calls Try.prog 34 #[.pointer (some ⟨b, 0, none⟩), .int .i64 node] w fun e w' => e = .returned (.int .i64 2) ∧ w = w' := by
  go_enter Try.func34, Try.ntmps34
  go_wp2
  go_ret
  exact ⟨rfl, rfl⟩

/-- What state tells of a node at a try that New has made. -/
def stateR (node : Int) : Int := if 0 ≤ node ∧ node < 16 then 0 else 1
theorem ret_int {k : IntKind} {a b : Int} (h : a = b) : Ending.returned (.int k a) = .returned (.int k b) := by rw [h]
theorem state_any (node : Int) (w : World) (b : Nat) (ballot frm : Int) (hb : 1 ≤ ballot)
   (hc0 : w.cell? ⟨b, 0, none⟩ = some (.int .i64 ballot)) (hc1 : w.cell? ⟨b, 1, none⟩ = some (.int .i64 frm)) :
    Calls Try.prog 34 #[.pointer (some ⟨b, 0, none⟩), .int .i64 node] w fun e w' => e = .returned (.int .i64 (stateR node)) ∧ w = w' := by
  by_cases h0 : node < 0
  · go_enter Try.func34, Try.ntmps34
    go_wp2
    go_ret
    exact ⟨ret_int (by rw [stateR, if_neg (by omega)]), rfl⟩
  · by_cases h1 : 16 ≤ node
    · go_enter Try.func34, Try.ntmps34
      go_wp2
      go_ret
      exact ⟨ret_int (by rw [stateR, if_neg (by omega)]), rfl⟩
    · go_enter Try.func34, Try.ntmps34
      go_wp2
      go_ret
      exact ⟨ret_int (by rw [stateR, if_pos (by omega)]), rfl⟩

/-- A number that may not go over the wire. -/
def wrongB (n : Int) : Bool := decide (n < 1) || decide (n > 1152921504606846976)
theorem wrong_any (n : Int) (w : World) : Calls Try.prog 44 #[.int .i64 n] w fun e w' => e = .returned (.bool (wrongB n)) ∧ w = w' := by
  go_enter Try.func44, Try.ntmps44
  go_wp2
  all_goals go_ret
  all_goals exact ⟨by simp [wrongB]; try omega, rfl⟩

/-- There is a wrong one among the first n. -/
def wrongIn (l : List Int) : Bool := l.any wrongB
theorem wrongIn_take (l : List Int) (k : Nat) (h : k < l.length) : wrongIn (l.take (k + 1)) = (wrongIn (l.take k) || wrongB (l.getD k 0)) := by
  unfold wrongIn
  rw [List.take_succ_eq_append_getElem h, List.any_append, List.getD_eq_getElem?_getD, List.getElem?_eq_getElem h]
  simp
def SomeIndex (l : List Int) (w : World) (e : Ending) (w' : World) : Prop := ∃ r : Int, e = .returned (.int .i64 r) ∧ w = w' ∧ r ≤ l.length ∧ decide (0 ≤ r) = wrongIn l
theorem index_any (b o : Nat) (l : List Int) (w : World) (c : Nat) (hl : l.length ≤ 1000) (hc : ∀ j, j < l.length → w.cell? ⟨b, o + j, none⟩ = some (.int .i64 (l.getD j 0))) :
    Calls Try.prog 52 #[.slice (some ⟨b, o, none⟩) l.length c, .func (.func 44) #[] #[]] w (SomeIndex l w) := by
  have HC := Lib.hid hc; clear hc
  go_enter Try.func52, Try.ntmps52
  go_wp2
  go_loop [8] (fun i => ∃ k : Nat, k ≤ l.length ∧ i = .int .i64 k ∧ wrongIn (l.take k) = false) (fun i => l.length - (intOf i).toNat)
  case atStart => exact ⟨0, Nat.zero_le _, rfl, rfl⟩
  case round =>
    obtain ⟨k, hk, rfl, hno⟩ := hrel
    have Hno := Lib.hid hno; clear hno
    by_cases hlt : k < l.length
    · have h0 := HC.out k hlt
      generalize hx : l.getD k 0 = x at h0
      have Hx := Lib.hid hx; clear hx
      cases hw : wrongB x
      · go_wp2_with (go_at_call 44; refine (wrong_any _ _).mono ?_; rintro e w' ⟨rfl, rfl⟩)
        go_round
        case rel => exact ⟨k + 1, by omega, by go_num, by rw [wrongIn_take l k hlt, Hno.out, Hx.out, hw]; rfl⟩
        case measure => simp [intOf]; omega
      · go_wp2_with (go_at_call 44; refine (wrong_any _ _).mono ?_; rintro e w' ⟨rfl, rfl⟩)
        go_ret
        refine ⟨k, rfl, rfl, by omega, ?_⟩
        have h1 : wrongIn (l.take (k + 1)) = true := by rw [wrongIn_take l k hlt, Hno.out, Hx.out, hw]; rfl
        have h2 : wrongIn l = true := by
          unfold wrongIn at h1 ⊢
          obtain ⟨y, hy, hy'⟩ := List.any_eq_true.1 h1
          exact List.any_eq_true.2 ⟨y, List.mem_of_mem_take hy, hy'⟩
        rw [h2]; simp
    · go_wp2
      go_ret
      refine ⟨-1, rfl, rfl, by omega, ?_⟩
      have h2 := Hno.out
      rw [List.take_of_length_le (by omega)] at h2
      rw [h2]; rfl

theorem contains_any (b o : Nat) (l : List Int) (w : World) (c : Nat) (hl : l.length ≤ 1000) (hc : ∀ j, j < l.length → w.cell? ⟨b, o + j, none⟩ = some (.int .i64 (l.getD j 0))) :
    Calls Try.prog 43 #[.slice (some ⟨b, o, none⟩) l.length c, .func (.func 44) #[] #[]] w fun e w' => e = .returned (.bool (wrongIn l)) ∧ w = w' := by
  have HC := Lib.hid hc; clear hc
  go_enter Try.func43, Try.ntmps43
  go_wp2_with fail
  refine (index_any _ _ l _ _ hl HC.out).mono ?_
  rintro e w' ⟨r, rfl, rfl, h1, h2⟩
  have H2 := Lib.hid h2; clear h2
  go_wp2
  go_ret
  exact ⟨by rw [← H2.out]; simp, rfl⟩

theorem right_any (b o : Nat) (l : List Int) (w : World) (c : Nat) (hl : l.length ≤ 1000) (hc : ∀ j, j < l.length → w.cell? ⟨b, o + j, none⟩ = some (.int .i64 (l.getD j 0))) :
    Calls Try.prog 33 #[.slice (some ⟨b, o, none⟩) l.length c] w fun e w' => e = .returned (.bool (!wrongIn l)) ∧ w = w' := by
  have HC := Lib.hid hc; clear hc
  go_enter Try.func33, Try.ntmps33
  go_wp2_with fail
  refine (contains_any _ _ l _ _ hl HC.out).mono ?_
  rintro e w' ⟨rfl, rfl⟩
  go_wp2
  go_ret
  exact ⟨rfl, rfl⟩

/-- The type numbers of the three maps of a try. -/
theorem new_bad (ballot frm : Int) (w : World) (h : wrongIn [ballot, frm] = true) :
    Calls Try.prog 9 #[.int .i64 ballot, .int .i64 frm] w fun e w' => e = .returned (.tuple #[.pointer none, .int .i64 1]) ∧ Upd (fun _ => False) w w' := by
  go_enter Try.func9, Try.ntmps9
  go_wp2_with fail
  refine (right_any _ _ [ballot, frm] _ _ (by simp) ?_).mono ?_
  · intro j hj
    match j, hj with
    | 0, _ => simp
    | 1, _ => simp
  rintro e w' ⟨rfl, rfl⟩
  go_wp2
  go_ret2
  exact ⟨rfl, (Upd.refl _ _).alloc _⟩

/-- A try at block b, with its three maps. -/
structure TryAt (w : World) (b m1 m2 m3 : Nat) (ballot frm : Int) (P B O : List (Int × Value)) : Prop where
  c0 : w.cell? ⟨b, 0, none⟩ = some (.int .i64 ballot)
  c1 : w.cell? ⟨b, 1, none⟩ = some (.int .i64 frm)
  c2 : w.cell? ⟨b, 2, none⟩ = some (.map (some m1))
  c3 : w.cell? ⟨b, 3, none⟩ = some (.map (some m2))
  c4 : w.cell? ⟨b, 4, none⟩ = some (.map (some m3))
  i1 : w.im m1 = some P
  i2 : w.im m2 = some B
  i3 : w.im m3 = some O
  n12 : m1 ≠ m2
  n13 : m1 ≠ m3
  n23 : m2 ≠ m3
theorem TryAt.upd {F : Nat → Prop} {w w' : World} {b m1 m2 m3 : Nat} {ballot frm : Int} {P B O : List (Int × Value)} (h : TryAt w b m1 m2 m3 ballot frm P B O) (u : Upd F w w')
    (hb : ¬ F b) (h1 : ¬ F m1) (h2 : ¬ F m2) (h3 : ¬ F m3) : TryAt w' b m1 m2 m3 ballot frm P B O := by
  have hlt := World.block_lt_of_cell? _ _ h.c0
  have l1 := im_lt (w := w) (b := m1) (by rw [h.i1]; rfl)
  have l2 := im_lt (w := w) (b := m2) (by rw [h.i2]; rfl)
  have l3 := im_lt (w := w) (b := m3) (by rw [h.i3]; rfl)
  exact ⟨(u.cell (p := ⟨b, 0, none⟩) hlt hb).trans h.c0, (u.cell (p := ⟨b, 1, none⟩) hlt hb).trans h.c1, (u.cell (p := ⟨b, 2, none⟩) hlt hb).trans h.c2, (u.cell (p := ⟨b, 3, none⟩) hlt hb).trans h.c3,
    (u.cell (p := ⟨b, 4, none⟩) hlt hb).trans h.c4, (u.im l1 h1).trans h.i1, (u.im l2 h2).trans h.i2, (u.im l3 h3).trans h.i3, h.n12, h.n13, h.n23⟩
theorem TryAt.drew {w : World} {b m1 m2 m3 : Nat} {ballot frm : Int} {P B O : List (Int × Value)} (h : TryAt w b m1 m2 m3 ballot frm P B O) : TryAt w.drew b m1 m2 m3 ballot frm P B O :=
  ⟨h.c0, h.c1, h.c2, h.c3, h.c4, h.i1, h.i2, h.i3, h.n12, h.n13, h.n23⟩
theorem TryAt.put1 {w : World} {b m1 m2 m3 : Nat} {ballot frm : Int} {P B O : List (Int × Value)} (h : TryAt w b m1 m2 m3 ballot frm P B O) (k : Int) (v : Value) : TryAt (w.mput m1 (.int .i64 k) v) b m1 m2 m3 ballot frm (aput P k v) B O := by
  have h12 := h.n12; have h13 := h.n13
  refine ⟨?_, ?_, ?_, ?_, ?_, im_mput_same h.i1 v, (im_mput_other _ _ (fun e => h12 e.symm)).trans h.i2, (im_mput_other _ _ (fun e => h13 e.symm)).trans h.i3, h.n12, h.n13, h.n23⟩
  · rw [cell_mput]; exact h.c0
  · rw [cell_mput]; exact h.c1
  · rw [cell_mput]; exact h.c2
  · rw [cell_mput]; exact h.c3
  · rw [cell_mput]; exact h.c4
theorem TryAt.put2 {w : World} {b m1 m2 m3 : Nat} {ballot frm : Int} {P B O : List (Int × Value)} (h : TryAt w b m1 m2 m3 ballot frm P B O) (k : Int) (v : Value) : TryAt (w.mput m2 (.int .i64 k) v) b m1 m2 m3 ballot frm P (aput B k v) O := by
  have h12 := h.n12; have h23 := h.n23
  refine ⟨?_, ?_, ?_, ?_, ?_, (im_mput_other _ _ h12).trans h.i1, im_mput_same h.i2 v, (im_mput_other _ _ (fun e => h23 e.symm)).trans h.i3, h.n12, h.n13, h.n23⟩
  · rw [cell_mput]; exact h.c0
  · rw [cell_mput]; exact h.c1
  · rw [cell_mput]; exact h.c2
  · rw [cell_mput]; exact h.c3
  · rw [cell_mput]; exact h.c4
theorem TryAt.put3 {w : World} {b m1 m2 m3 : Nat} {ballot frm : Int} {P B O : List (Int × Value)} (h : TryAt w b m1 m2 m3 ballot frm P B O) (k : Int) (v : Value) : TryAt (w.mput m3 (.int .i64 k) v) b m1 m2 m3 ballot frm P B (aput O k v) := by
  have h13 := h.n13; have h23 := h.n23
  refine ⟨?_, ?_, ?_, ?_, ?_, (im_mput_other _ _ h13).trans h.i1, (im_mput_other _ _ h23).trans h.i2, im_mput_same h.i3 v, h.n12, h.n13, h.n23⟩
  · rw [cell_mput]; exact h.c0
  · rw [cell_mput]; exact h.c1
  · rw [cell_mput]; exact h.c2
  · rw [cell_mput]; exact h.c3
  · rw [cell_mput]; exact h.c4
theorem TryAt.lts {w : World} {b m1 m2 m3 : Nat} {ballot frm : Int} {P B O : List (Int × Value)} (h : TryAt w b m1 m2 m3 ballot frm P B O) : b < w.heap.size ∧ m1 < w.heap.size ∧ m2 < w.heap.size ∧ m3 < w.heap.size :=
  ⟨World.block_lt_of_cell? _ _ h.c0, im_lt (w := w) (b := m1) (by rw [h.i1]; rfl), im_lt (w := w) (b := m2) (by rw [h.i2]; rfl), im_lt (w := w) (b := m3) (by rw [h.i3]; rfl)⟩
theorem TryAt.nb {w : World} {b m1 m2 m3 : Nat} {ballot frm : Int} {P B O : List (Int × Value)} (h : TryAt w b m1 m2 m3 ballot frm P B O) : b ≠ m1 ∧ b ≠ m2 ∧ b ≠ m3 := by
  have h0 := cell_im h.c0
  simp only [] at h0
  refine ⟨?_, ?_, ?_⟩ <;> intro e
  · rw [e, h.i1] at h0; cases h0
  · rw [e, h.i2] at h0; cases h0
  · rw [e, h.i3] at h0; cases h0
def NewPost (w : World) (ballot frm : Int) (e : Ending) (w' : World) : Prop :=
  ∃ b m1 m2 m3, e = .returned (.tuple #[.pointer (some ⟨b, 0, none⟩), .int .i64 0]) ∧ TryAt w' b m1 m2 m3 ballot frm [] [] [] ∧ w.heap.size ≤ b ∧ w.heap.size ≤ m1 ∧ w.heap.size ≤ m2 ∧ w.heap.size ≤ m3 ∧ Upd (fun _ => False) w w'
theorem new_any (ballot frm : Int) (w : World) (h : wrongIn [ballot, frm] = false) :
    Calls Try.prog 9 #[.int .i64 ballot, .int .i64 frm] w (NewPost w ballot frm) := by
  have hmm := @run_makeMap Try.prog
  go_enter Try.func9, Try.ntmps9
  go_wp2_with fail
  refine (right_any _ _ [ballot, frm] _ _ (by simp) ?_).mono ?_
  · intro j hj
    match j, hj with
    | 0, _ => simp
    | 1, _ => simp
  rintro e w' ⟨rfl, rfl⟩
  go_wp2
  go_ret2
  refine ⟨w.heap.size + 1 + 1 + 1 + 1, w.heap.size + 1, w.heap.size + 1 + 1, w.heap.size + 1 + 1 + 1, rfl, ⟨?_, ?_, ?_, ?_, ?_, ?_, ?_, ?_, ?_, ?_, ?_⟩, ?_, ?_, ?_, ?_, ?_⟩
  case refine_16 => exact ((((Upd.refl _ _).alloc _).alloc _).alloc _).alloc _ |>.alloc _
  all_goals first | omega | (simp [go_sem]; done) | (simp [go_sem]; trace_state; omega)
end Go.Proofs.Ytlichkheakjkhaa
