/-
  written: a plate of six sectors, of which some were written. What its walk says.
-/
import Derived.Test.YtkgkjhhhgcpgkaaPlate7
namespace Go.Proofs.Ytkgkjhhhgcpgkaa
open Go Go.RowKit Go.MapKept Go.ChangeMaps

/-- A slice of bytes of any length. -/
def BytV (w : World) (v : Value) (l : List Int) : Prop :=
  (l = [] ∧ ∃ a c, v = .slice a 0 c) ∨ ∃ k o c, v = .slice (some ⟨k, o, none⟩) l.length c ∧ ∀ j, j < l.length → w.cell? ⟨k, o + j, none⟩ = some (.int .u8 (l.getD j 0))
theorem BytV.old {w w' : World} {v : Value} {l : List Int} (h : BytV w v l) (u : Upd (fun _ => False) w w') : BytV w' v l := by
  rcases h with h | ⟨k, o, c, hv, hc⟩
  · exact .inl h
  · refine .inr ⟨k, o, c, hv, fun j hj => ?_⟩
    have := hc j hj
    exact (u.cell (p := ⟨k, o + j, none⟩) (World.block_lt_of_cell? _ _ this) (fun h => h)).trans this
theorem BytV.shape {w : World} {v : Value} {l : List Int} (h : BytV w v l) : ∃ a c, v = .slice a l.length c := by
  rcases h with ⟨rfl, a, c, hv⟩ | ⟨k, o, c, hv, _⟩
  · exact ⟨a, c, hv⟩
  · exact ⟨_, _, hv⟩
def num (v : Option Value) : Int := match v with | some (.int _ x) => x | _ => 0
theorem sec_of_cells {w : World} {g : Nat} {cur : Array Value} (hg : w.heap[g]? = some (.cells cur 5 (0, 0))) (hc : ∀ j, j < 64 → ∃ x, cur[j]? = some (.int .u8 x)) : ∃ l, Sec w (.slice (some ⟨g, 0, none⟩) 64 64) l := by
  refine ⟨(List.range 64).map fun j => num cur[j]?, g, 0, 0, cur, rfl, by simp, hg, fun j hj => ?_⟩
  obtain ⟨x, hx⟩ := hc j hj
  have h1 : ((List.range 64).map fun j => num cur[j]?).getD j 0 = x := by
    rw [List.getD_eq_getElem?_getD, List.getElem?_map, List.getElem?_range hj]
    simp only [Option.map_some, Option.getD_some, hx]
    rfl
  rw [h1]
  unfold World.cell?
  rw [hg]
  simp only [Option.isSome_none, Bool.false_eq_true, if_false, Nat.zero_add]
  exact hx
/-- Bytes are copied into a sector. -/
theorem copy_sec {w : World} {g : Nat} {l0 l : List Int} {v : Value} (hs : Sec w (.slice (some ⟨g, 0, none⟩) 64 64) l0) (hv : BytV w v l) :
    ∃ w' n l', (Builtin.copy_ #[28, 28] 3 #[.slice (some ⟨g, 0, none⟩) 64 64, v]).run Try.prog w = .ok (.int .i64 n) w' ∧ Sec w' (.slice (some ⟨g, 0, none⟩) 64 64) l' ∧ Upd (fun k => k = g) w w' := by
  rcases hv with ⟨rfl, a, c, rfl⟩ | ⟨k, o, c, rfl, hc⟩
  · exact ⟨w, 0, l0, run_copy_none (P := Try.prog) w 28 28 3 5 _ _ 64 64 0 c Try.underlying28 (by kernel_rfl) rfl, hs, Upd.refl _ _⟩
  · obtain ⟨k', o', c', cur, e, hl, hk, hcc⟩ := hs
    obtain ⟨rfl, rfl⟩ : g = k' ∧ 0 = o' := by simp at e; omega
    have hcur : ∀ j, j < 64 → cur[j]? = some (.int .u8 (l0.getD j 0)) := fun j hj => by
      have := hcc j hj
      unfold World.cell? at this
      rw [hk] at this
      simpa using this
    have hsz : 64 ≤ cur.size := by
      have := hcur 63 (by omega)
      have := (Array.getElem?_eq_some_iff.1 this).1
      omega
    have hrun := run_copy_row (P := Try.prog) w 28 28 3 5 g 0 64 64 ⟨k, o, none⟩ l.length c cur 5 ((l.take 64).map (Value.int .u8)) Try.underlying28 (by kernel_rfl) hk (by show _ = min l.length 64; simp; omega) (by
      intro j u hu
      rw [List.getElem?_map] at hu
      obtain ⟨x, hx, rfl⟩ := Option.map_eq_some_iff.1 hu
      have hj := (List.getElem?_eq_some_iff.1 hx).1
      rw [List.length_take] at hj
      rw [List.getElem?_take_of_lt (by omega)] at hx
      rw [Addr.add_lit, hc j (by omega), List.getD_eq_getElem?_getD, hx]
      rfl) (by simp; omega) (by
      intro u hu
      obtain ⟨x, _, rfl⟩ := List.mem_map.1 hu
      rfl)
    obtain ⟨l', hl'⟩ := sec_of_cells (w := w.setRow g (cur.toList.take 0 ++ (l.take 64).map (Value.int .u8) ++ cur.toList.drop (0 + ((l.take 64).map (Value.int .u8)).length)).toArray) (g := g) (setRow_heap w g cur _ _ _ hk) (fun j hj => by
      rw [List.getElem?_toArray]
      by_cases h1 : j < (l.take 64).length
      · refine ⟨(l.take 64)[j], ?_⟩
        rw [List.take_zero, List.nil_append, List.getElem?_append_left (by simpa using h1), List.getElem?_map, List.getElem?_eq_getElem h1]
        rfl
      · refine ⟨l0.getD j 0, ?_⟩
        rw [List.take_zero, List.nil_append, List.getElem?_append_right (by simpa using h1), List.getElem?_drop, List.length_map]
        rw [show 0 + (l.take 64).length + (j - (l.take 64).length) = j by omega, Array.getElem?_toList]
        exact hcur j hj)
    exact ⟨_, _, l', hrun, hl', ⟨rfl, rfl, rfl, by rw [size_setRow]; exact Nat.le_refl _, fun k _ hk => setRow_other w g k _ hk⟩⟩
/-- A call of a plate, as data. -/
structure DoP where
  op : Int
  i : Int
  torn : Int
  n : Int
  bytes : List Int
instance : Inhabited DoP := ⟨⟨0, 0, 0, 0, []⟩⟩
def DosP (w : World) (v : Value) (ds : List DoP) : Prop :=
  (ds = [] ∧ ∃ a c, v = .slice a 0 c) ∨ ∃ b o c, v = .slice (some ⟨b, o, none⟩) ds.length c ∧ ds.length ≤ 9223372036854775807 ∧
    ∀ i, i < ds.length → ∃ bv ka kn kc, BytV w bv (ds.getD i default).bytes ∧ w.cell? ⟨b, o + i * 6, none⟩ = some (.int .i64 (ds.getD i default).op) ∧ w.cell? ⟨b, o + i * 6 + 1, none⟩ = some (.int .i64 (ds.getD i default).i) ∧ w.cell? ⟨b, o + i * 6 + 2, none⟩ = some (.int .i64 (ds.getD i default).torn) ∧
      w.cell? ⟨b, o + i * 6 + 3, none⟩ = some (.int .i64 (ds.getD i default).n) ∧ w.cell? ⟨b, o + i * 6 + 4, none⟩ = some bv ∧ w.cell? ⟨b, o + i * 6 + 5, none⟩ = some (.slice ka kn kc)
def un6 (x : Int) : Int := IntKind.u64.wrap x % 6
theorem un6_is (x : Int) : wrap64 ((IntKind.u64.wrap x).tmod 6) = un6 x := by
  have h : 0 ≤ IntKind.u64.wrap x := by rw [IntKind.wrap_u64]; omega
  unfold un6
  rw [Int.tmod_eq_emod_of_nonneg h]
  unfold wrap64; omega
theorem un6_nat (x : Int) : ∃ q : Nat, un6 x = (q : Int) ∧ q < 6 := by
  have h : 0 ≤ IntKind.u64.wrap x := by rw [IntKind.wrap_u64]; omega
  have : 0 ≤ un6 x ∧ un6 x < 6 := by unfold un6; omega
  exact ⟨(un6 x).toNat, by omega, by omega⟩
/-- Behind some calls: the plate, what was durable, what is there now. -/
structure WrI (w : World) (b ab cm hn hw : Nat) (D : List (List Int)) (C : Int → Option (List Int)) (N : List (List Int)) (wasv nowv : Value) (wr : World) : Prop where
  p : PlateAt wr b ab cm D C
  six : D.length = 6
  now : Secs wr nowv hn N
  nlen : N.length = 6
  is : ∀ i, i < 6 → N.getD i [] = view D C i
  was : Secs wr wasv hw D
  ne : hn ≠ b ∧ hn ≠ ab ∧ hn ≠ cm ∧ hn ≠ hw ∧ hw ≠ ab ∧ hw ≠ cm
  lo : w.heap.size ≤ ab ∧ w.heap.size ≤ cm ∧ w.heap.size ≤ hn ∧ w.heap.size ≤ b
  up : Upd (fun _ => False) w wr
  hlo : w.heap.size ≤ hw
theorem WrI.old {w wr w' : World} {b ab cm hn hw : Nat} {D : List (List Int)} {C : Int → Option (List Int)} {N : List (List Int)} {wasv nowv : Value} (h : WrI w b ab cm hn hw D C N wasv nowv wr) (u : Upd (fun _ => False) wr w') : WrI w b ab cm hn hw D C N wasv nowv w' :=
  ⟨h.p.old u, h.six, h.now.old u, h.nlen, h.is, h.was.old u, h.ne, h.lo, h.up.trans u, h.hlo⟩
theorem PlateAt.cmNotB {w : World} {b ab cm : Nat} {D : List (List Int)} {C : Int → Option (List Int)} (h : PlateAt w b ab cm D C) : NotB w cm := by
  obtain ⟨M, hm, _⟩ := h.cache
  exact im_notB (by rw [hm]; rfl)
theorem PlateAt.abNotB {w : World} {b ab cm : Nat} {D : List (List Int)} {C : Int → Option (List Int)} (h : PlateAt w b ab cm D C) : NotB w ab := by
  obtain ⟨v, _, hs⟩ := h.c0
  exact hs.notB
/-- A sector is written, and noted. -/
theorem WrI.put {w wr w1 : World} {b ab cm hn hw q : Nat} {D : List (List Int)} {C : Int → Option (List Int)} {N : List (List Int)} {wasv nowv sv : Value} {l : List Int} (h : WrI w b ab cm hn hw D C N wasv nowv wr) (hq : q < 6) (hs : Sec wr sv l)
    (hp : PlateAt w1 b ab cm D (cput C q l)) (hu : Upd (fun k => k = cm) wr w1) : WrI w b ab cm hn hw D (cput C q l) (N.set q l) wasv nowv (w1.setCell ⟨hn, q, none⟩ sv) := by
  obtain ⟨n1, n2, n3, n4, n5, n6⟩ := h.ne
  obtain ⟨o1, o2, o3, o4⟩ := h.lo
  have hF : ∀ k, k = cm → NotB wr k := fun k e => by rw [e]; exact h.p.cmNotB
  have hnow := h.now.upd hu n3 hF
  obtain ⟨h2, hu2⟩ := hnow.put (q := q) (sv := sv) (l := l) (by rw [h.nlen]; exact hq) (hs.upd hu hF)
  have hF2 : ∀ k, k = hn → NotB w1 k := fun k e => by rw [e]; exact hnow.notB
  refine ⟨hp.upd hu2 (fun e => n1 e.symm) (fun e => n2 e.symm) (fun e => n3 e.symm) hF2, h.six, h2, by rw [List.length_set]; exact h.nlen, fun i hi => ?_, (h.was.upd hu n6 hF).upd hu2 (fun e => n4 e.symm) hF2, h.ne, h.lo, (h.up.trans' hu (fun i hi e => by omega)).trans' hu2 (fun i hi e => by omega), h.hlo⟩
  unfold view cput
  by_cases e : i = q
  · subst e
    rw [List.getD_eq_getElem?_getD, List.getElem?_set_self (by rw [h.nlen]; exact hi)]
    simp
  · have e' : ¬ (i : Int) = q := by omega
    rw [List.getD_eq_getElem?_getD, List.getElem?_set_ne (fun e' => e e'.symm), ← List.getD_eq_getElem?_getD, h.is i hi]
    simp only [e', if_false]
    rfl
/-- .. and all is made durable. -/
theorem WrI.sync {w wr w1 w2 : World} {b ab cm hn hw hw' : Nat} {D : List (List Int)} {C : Int → Option (List Int)} {N : List (List Int)} {wasv wasv' nowv : Value} (h : WrI w b ab cm hn hw D C N wasv nowv wr)
    (hp : PlateAt w1 b ab cm (viewL D C) (fun _ => none)) (hu : Upd (fun k => k = ab ∨ k = cm) wr w1) (hs : Secs w2 wasv' hw' N) (hh : w1.heap.size ≤ hw') (hu2 : Upd (fun _ => False) w1 w2) : WrI w b ab cm hn hw' (viewL D C) (fun _ => none) N wasv' nowv w2 := by
  obtain ⟨n1, n2, n3, n4, n5, n6⟩ := h.ne
  obtain ⟨o1, o2, o3, o4⟩ := h.lo
  obtain ⟨p1, p2, p3⟩ := hp.lt
  have hF : ∀ k, k = ab ∨ k = cm → NotB wr k := fun k e => by
    rcases e with rfl | rfl
    · exact h.p.abNotB
    · exact h.p.cmNotB
  have hl := h.now.lt
  have hz := hu.size
  refine ⟨hp.old hu2, by rw [viewL_length]; exact h.six, (h.now.upd hu (fun e => by rcases e with e | e <;> omega) hF).old hu2, h.nlen, fun i hi => ?_, hs.congr (by rw [viewL_length, h.six, h.nlen]) (fun i hi => ?_), ⟨n1, n2, n3, by omega, by omega, by omega⟩, h.lo, (h.up.trans' hu (fun i hi e => by omega)).trans hu2, by have := h.up.size; omega⟩
  · show _ = (viewL D C).getD i []
    rw [viewL_get (by rw [h.six]; exact hi), h.is i hi]
  · rw [h.nlen] at hi
    rw [viewL_get (by rw [h.six]; exact hi), h.is i hi]
def WrEx (w : World) (b ab cm hn : Nat) (nowv : Value) (len : Nat) (wasv i : Value) (wr : World) : Prop :=
  ∃ (k hw : Nat) (D : List (List Int)) (C : Int → Option (List Int)) (N : List (List Int)), k ≤ len ∧ i = .int .i64 k ∧ WrI w b ab cm hn hw D C N wasv nowv wr
def WrittenPost (w : World) (e : Ending) (w' : World) : Prop :=
  ∃ b ab cm hn hw D C N wasv nowv, e = .returned (.tuple #[.pointer (some ⟨b, 0, none⟩), wasv, nowv]) ∧ WrI w b ab cm hn hw D C N wasv nowv w'
end Go.Proofs.Ytkgkjhhhgcpgkaa
