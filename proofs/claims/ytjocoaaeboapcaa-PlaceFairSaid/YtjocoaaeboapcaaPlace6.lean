/-
  place.Spare.
-/
import Derived.Test.YtjocoaaeboapcaaPlace5
import Derived.Deep.LoopGhost
namespace Go.Proofs.Ytjocoaaeboapcaa
open Go Go.RowKit Go.MapKept Go.ChangeMaps Heap

/-- What Spare finds. -/
def spareR (L U : List Int) (seed : Int) : Option Int := (ord L seed).find? (fun x => decide (x ∉ U))
def spareX (r : Option Int) : Int := r.getD 0
def spareE (r : Option Int) : Int := if r.isSome then 0 else 140
def SpareP (w : World) (r : Option Int) (e : Ending) (w' : World) : Prop := e = .returned (.tuple #[.int .i64 (spareX r), .int .i64 (spareE r)]) ∧ Upd (fun _ => False) w w'
theorem find_none {U : List Int} : ∀ {l : List Int}, (∀ x ∈ l, x ∈ U) → l.find? (fun x => decide (x ∉ U)) = none
  | [], _ => rfl
  | x :: l, h => by
    rw [List.find?_cons, show decide (x ∉ U) = false from decide_eq_false (fun hn => hn (h x (List.mem_cons_self ..)))]
    exact find_none (fun y hy => h y (List.mem_cons_of_mem _ hy))
theorem find_some {U : List Int} {x : Int} {s : List Int} (hx : x ∉ U) : ∀ {p : List Int}, (∀ x ∈ p, x ∈ U) → (p ++ x :: s).find? (fun x => decide (x ∉ U)) = some x
  | [], _ => by rw [List.nil_append, List.find?_cons, show decide (x ∉ U) = true from decide_eq_true hx]
  | y :: p, h => by
    rw [List.cons_append, List.find?_cons, show decide (y ∉ U) = false from decide_eq_false (fun hn => hn (h y (List.mem_cons_self ..)))]
    exact find_some hx (fun z hz => h z (List.mem_cons_of_mem _ hz))
def SpI (w w1 : World) (b : Nat) (od U : List Int) (k : Nat) (wr : World) : Prop :=
  ∃ p s, s.length = k ∧ od = p ++ s ∧ (∀ x ∈ p, x ∈ U) ∧ LineAt w.heap.size w1.heap.size wr b s ∧ Upd (fun k => w.heap.size ≤ k ∧ k < w1.heap.size) w1 wr
set_option maxHeartbeats 2000000 in
theorem spare_any (w : World) (v u : Value) (L U : List Int) (seed : Int) (hv : Ints w v L) (hu : Ints w u U) : Calls Try.prog 10 #[v, u, .int .i64 seed] w (SpareP w (spareR L U seed)) := by
  have mlen := m_len
  have mass := assert_int
  have hol := ord_length L seed
  have HV := Lib.hid hv
  obtain ⟨va, vc, rfl⟩ := hv.shape
  have HU := Lib.hid hu
  obtain ⟨ua, uc, rfl⟩ := hu.shape
  clear hv hu
  go_enter Try.func10, Try.ntmps10
  go_wp2_with fail
  refine (line_any w _ L seed HV.out).mono ?_
  rintro e w1 ⟨b, rfl, h1, u1⟩
  unfold pv
  have hR : spareR L U seed = (ord L seed).find? (fun x => decide (x ∉ U)) := rfl
  have HR := Lib.hid hR; clear hR
  generalize ord L seed = od at hol h1 HR
  have hst : SpI w w1 b od U od.length w1 := ⟨[], od, rfl, rfl, fun x hx => (by cases hx), h1, Upd.refl _ _⟩
  have HST := Lib.hid hst; clear hst
  have HGE := Lib.hid h1.ge; clear h1
  have U1 := Lib.hid u1; clear u1
  go_wp2_with fail
  go_loopg [] od.length (fun k wr => SpI w w1 b od U k wr)
  case atStart => exact HST.out
  case round =>
    obtain ⟨p, s, hs, hod, hp, hl, huu⟩ := hrel
    have HL := Lib.hid hl; clear hl
    have HUU := Lib.hid huu; clear huu
    have HP := Lib.hid hp; clear hp
    have HOD := Lib.hid hod; clear hod
    cases s with
    | nil =>
      have hz : Calls Try.prog 65 #[.pointer (some ⟨b, 0, none⟩)] wr (Same wr (.int .i64 0)) := len_line _ _ _ b _ HL.out
      have HZ := Lib.hid hz; clear hz
      go_wp2_with fail
      refine (HZ.out).mono ?_
      rintro e w' ⟨rfl, rfl⟩
      go_wp2_with fail
      go_ret2
      have hr : spareR L U seed = none := by rw [HR.out, HOD.out, List.append_nil]; exact find_none HP.out
      exact ⟨by rw [hr]; rfl, U1.out.trans' HUU.out (fun i hi e => by omega)⟩
    | cons x s =>
      have hsl : s.length ≤ 16 := by
        have := congrArg List.length HOD.out
        rw [List.length_append, List.length_cons] at this
        omega
      have HS := Lib.hid hs; clear hs
      go_wp2_with fail
      refine (len_line _ _ _ b _ HL.out).mono ?_
      rintro e w' ⟨rfl, rfl⟩
      go_wp2_with fail
      refine (pop_line _ _ _ b x s HL.out).mono ?_
      rintro e w2 ⟨rfl, h2, u2⟩
      have H2 := Lib.hid h2; clear h2
      have U2 := Lib.hid (HUU.out.trans u2); clear u2
      have hu2 := HU.out.upd (U1.out.trans' U2.out (fun i hi e => by omega)) (fun _ _ _ _ _ _ h => h)
      have HU2 := Lib.hid hu2; clear hu2
      by_cases hx : x ∈ U
      · have hc := contains_any w2 _ U x HU2.out
        rw [decide_eq_true hx] at hc
        have HC := Lib.hid hc; clear hc
        have HX := Lib.hid hx; clear hx
        go_wp2_with fail
        refine (HC.out).mono ?_
        rintro e w3 ⟨rfl, rfl⟩
        go_wp2_with fail
        go_roundg s.length
        case rel => exact ⟨p ++ [x], s, rfl, by rw [HOD.out]; simp, fun y hy => by
          rcases List.mem_append.1 hy with hy | hy
          · exact HP.out y hy
          · rw [List.mem_singleton.1 hy]; exact HX.out, H2.out, U2.out⟩
        case measure => have := HS.out; simp at this; omega
      · have hc := contains_any w2 _ U x HU2.out
        rw [decide_eq_false hx] at hc
        have HC := Lib.hid hc; clear hc
        have HX := Lib.hid hx; clear hx
        go_wp2_with fail
        refine (HC.out).mono ?_
        rintro e w3 ⟨rfl, rfl⟩
        go_wp2_with fail
        go_ret2
        have hr : spareR L U seed = some x := by rw [HR.out, HOD.out]; exact find_some HX.out HP.out
        exact ⟨by rw [hr]; rfl, U1.out.trans' U2.out (fun i hi e => by omega)⟩
end Go.Proofs.Ytjocoaaeboapcaa
