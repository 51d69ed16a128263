/-
  Bytes of any length; copy into a sector.
-/
import Derived.Test.YtchpekecgdbphaaPlate7
namespace Go.Proofs.Ytchpekecgdbphaa
open Go Go.RowKit Go.MapKept Go.ChangeMaps

/-- A slice of bytes of any length. -/
def BytV (w : World) (v : Value) (l : List Int) : Prop :=
  (l = [] ∧ ∃ a c, v = .slice a 0 c) ∨ ∃ k o c, v = .slice (some ⟨k, o, none⟩) l.length c ∧ ∀ j, j < l.length → w.cell? ⟨k, o + j, none⟩ = some (.int .u8 (l.getD j 0))
theorem BytV.old {w w' : World} {v : Value} {l : List Int} (h : BytV w v l) (u : Upd (fun _ => False) w w') : BytV w' v l := by
  rcases h with h | ⟨k, o, c, hv, hc⟩
  · exact .inl h
  · refine .inr ⟨k, o, c, hv, fun j hj => ?_⟩
    have := hc j hj
    exact (u.cell (p := ⟨k, o + j, none⟩) (World.block_lt_of_cell? _ _ this) (fun h => h)).trans this
theorem BytV.shape {w : World} {v : Value} {l : List Int} (h : BytV w v l) : ∃ a c, v = .slice a l.length c := by
  rcases h with ⟨rfl, a, c, hv⟩ | ⟨k, o, c, hv, _⟩
  · exact ⟨a, c, hv⟩
  · exact ⟨_, _, hv⟩
/-- Bytes are copied into a sector at a place. -/
theorem copy_at {w : World} {g o : Nat} {l0 l : List Int} {v : Value} (hs : Sec w (.slice (some ⟨g, 0, none⟩) 64 64) l0) (hv : BytV w v l) (hfit : o + l.length ≤ 64) :
    ∃ w', (∀ k, (Builtin.copy_ #[28, 28] 3 #[.slice (some ⟨g, o, none⟩) (64 - o) (64 - o), v]).run Try.prog (w.drewN k) = .ok (.int .i64 l.length) (w'.drewN k)) ∧ Sec w' (.slice (some ⟨g, 0, none⟩) 64 64) (l0.take o ++ l ++ l0.drop (o + l.length)) ∧ Upd (fun k => k = g) w w' := by
  rcases hv with ⟨rfl, a, c, rfl⟩ | ⟨k, o1, c, rfl, hc⟩
  · refine ⟨w, fun k => run_copy_none (P := Try.prog) (w.drewN k) 28 28 3 5 _ _ _ _ 0 c Try.underlying28 (by kernel_rfl) (by show min 0 (64 - o) = 0; omega), ?_, Upd.refl _ _⟩
    simpa using hs
  · obtain ⟨k', o', c', cur, e, hl, hk, hcc⟩ := hs
    obtain ⟨rfl, rfl⟩ : g = k' ∧ 0 = o' := by simp at e; omega
    have hcur : ∀ j, j < 64 → cur[j]? = some (.int .u8 (l0.getD j 0)) := fun j hj => by
      have := hcc j hj
      unfold World.cell? at this
      rw [hk] at this
      simpa using this
    have hsz : 64 ≤ cur.size := by
      have := hcur 63 (by omega)
      have := (Array.getElem?_eq_some_iff.1 this).1
      omega
    have hrun := fun n => run_copy_row (P := Try.prog) (w.drewN n) 28 28 3 5 g o (64 - o) (64 - o) ⟨k, o1, none⟩ l.length c cur 5 (l.map (Value.int .u8)) Try.underlying28 (by kernel_rfl) hk (by show _ = min l.length (64 - o); simp; omega) (by
      intro j u hu
      rw [List.getElem?_map] at hu
      obtain ⟨x, hx, rfl⟩ := Option.map_eq_some_iff.1 hu
      have hj := (List.getElem?_eq_some_iff.1 hx).1
      show w.cell? _ = _
      rw [Addr.add_lit, hc j (by omega), List.getD_eq_getElem?_getD, hx]
      rfl) (by simp; omega) (by
      intro u hu
      obtain ⟨x, _, rfl⟩ := List.mem_map.1 hu
      rfl)
    simp only [List.length_map] at hrun
    refine ⟨w.setRow g (cur.toList.take o ++ l.map (Value.int .u8) ++ cur.toList.drop (o + l.length)).toArray, hrun, ⟨g, 0, 0, _, rfl, by simp; omega, setRow_heap w g cur _ _ _ hk, fun j hj => ?_⟩, ⟨rfl, rfl, rfl, by rw [size_setRow]; exact Nat.le_refl _, fun k _ hk => setRow_other w g k _ hk⟩⟩
    unfold World.cell?
    rw [setRow_heap w g cur _ _ _ hk]
    simp only [Option.isSome_none, Bool.false_eq_true, if_false, Nat.zero_add]
    rw [List.getElem?_toArray, List.getD_eq_getElem?_getD]
    have e1 : (cur.toList.take o).length = o := by simp; omega
    have e2 : (l0.take o).length = o := by simp; omega
    by_cases h1 : j < o
    · rw [List.append_assoc, List.getElem?_append_left (by omega), List.append_assoc, List.getElem?_append_left (by omega), List.getElem?_take_of_lt h1, List.getElem?_take_of_lt h1, Array.getElem?_toList, hcur j hj, List.getD_eq_getElem?_getD]
    · by_cases h2 : j < o + l.length
      · rw [List.append_assoc, List.getElem?_append_right (by omega), List.getElem?_append_left (by simp; omega), List.append_assoc, List.getElem?_append_right (by omega), List.getElem?_append_left (by omega), e1, e2, List.getElem?_map, List.getElem?_eq_getElem (by omega : j - o < l.length)]
        rfl
      · have e3 : (cur.toList.take o ++ l.map (Value.int .u8)).length = o + l.length := by simp; omega
        have e4 : (l0.take o ++ l).length = o + l.length := by simp; omega
        rw [List.getElem?_append_right (by omega), List.getElem?_append_right (by omega), e3, e4, List.getElem?_drop, List.getElem?_drop, show o + l.length + (j - (o + l.length)) = j by omega, Array.getElem?_toList, hcur j hj, List.getD_eq_getElem?_getD]
end Go.Proofs.Ytchpekecgdbphaa
