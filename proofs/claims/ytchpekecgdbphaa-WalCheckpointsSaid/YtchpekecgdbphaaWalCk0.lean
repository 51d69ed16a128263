/-
  Checkpoint: texts that are fed to it; what it leaves.
-/
import Derived.Test.YtchpekecgdbphaaWalY
set_option linter.unusedVariables false
namespace Go.Proofs.Ytchpekecgdbphaa
open Go Go.RowKit Go.MapKept Go.ChangeMaps

/-- Texts that are read while blocks in F change. -/
structure Feed (F : Nat → Prop) (w : World) (v : Value) (L : List (List Int)) : Prop where
  sl : ∃ a c, v = .slice a L.length c
  few : L.length ≤ 140737488355328
  at_ : ∀ i, i < L.length → ∃ h o c k sc, v = .slice (some ⟨h, o, none⟩) L.length c ∧ w.cell? ⟨h, o + i, none⟩ = some (.slice k (L.getD i []).length sc) ∧ BytV w (.slice k (L.getD i []).length sc) (L.getD i []) ∧ IsB (L.getD i []) ∧ (L.getD i []).length ≤ 140737488355328 ∧ (L.getD i []).length ≤ sc ∧ ¬ F h ∧ (1 ≤ (L.getD i []).length → ∀ a, k = some a → ¬ F a.block)
theorem Feed.upd {F G : Nat → Prop} {w w' : World} {v : Value} {L : List (List Int)} (h : Feed F w v L) (u : Upd G w w') (hG : ∀ i, G i → F i) : Feed F w' v L := by
  refine ⟨h.sl, h.few, fun i hi => ?_⟩
  obtain ⟨hb, o, c, k, sc, e1, e2, e4, e5, e6, e7, e8, e9⟩ := h.at_ i hi
  refine ⟨hb, o, c, k, sc, e1, (u.cell (p := ⟨hb, o + i, none⟩) (World.block_lt_of_cell? _ _ e2) (fun g => e8 (hG _ g))).trans e2, ?_, e5, e6, e7, e8, e9⟩
  rcases e4 with ⟨e, a, c', hv⟩ | ⟨kb, o', c', hv, hc⟩
  · exact .inl ⟨e, a, c', hv⟩
  · refine .inr ⟨kb, o', c', hv, fun j hj => ?_⟩
    have h1 := hc j hj
    cases hv
    exact (u.cell (p := ⟨kb, o' + j, none⟩) (World.block_lt_of_cell? _ _ h1) (fun g => e9 (by omega) _ rfl (hG _ g))).trans h1
theorem Feed.old {F : Nat → Prop} {w w' : World} {v : Value} {L : List (List Int)} (h : Feed F w v L) (u : Upd (fun _ => False) w w') : Feed F w' v L := h.upd u (fun _ g => g.elim)
/-- All are texts that a log takes. -/
def MayAll (L : List (List Int)) : Prop := ∀ i, i < L.length → 1 ≤ (L.getD i []).length ∧ (L.getD i []).length ≤ 2000
theorem pointed_of {Ds D' : List (List Int)} {size place : Nat} {n l f : Int} {recs L : List (List Int)} (hl : Ds.length = size + 2) (hs : 0 < size) (hn : 1 ≤ n) (hroom : usedB recs + usedB L ≤ size)
    (hc : CleanIs (view (headed Ds ((n + 1) % 2).toNat (headB (n + 1) l ((place + usedB recs) % size : Nat) (f + recs.length))) (fun _ => none)) size ((place + usedB recs) % size) (usedB L) D') :
    Pointed (view Ds (fun _ => none)) size place n l f recs L D' := by
  refine ⟨hc.len, ?_, ?_, fun i hi => ?_, fun i h1 h2 => ?_⟩
  · rw [hc.rest _ (by omega) (fun q h1 h2 e => by have := atS_ge size ((place + usedB recs) % size) q; omega)]
    exact headed_at (by omega)
  · rw [hc.rest _ (by omega) (fun q h1 h2 e => by have := atS_ge size ((place + usedB recs) % size) q; omega)]
    exact headed_other (by omega) (by omega)
  · rw [← atS_next]
    have h3 := atS_lt (p := (place + usedB recs) % size) (i := i) hs
    have h4 := atS_ge size ((place + usedB recs) % size) i
    rw [hc.rest _ h3 (fun q h1 h2 e => by have := atS_inj (by omega) h2 e; omega)]
    exact headed_other (by omega) (by omega)
  · rw [← atS_next]
    exact hc.free i h1 h2
section
variable {w : World} {wb b ab cm size place : Nat} {n l f : Int} {recs : List (List Int)} {k : Nat}
def AppOk (w : World) (wb b ab cm size place : Nat) (n l f : Int) (recs : List (List Int)) (k : Nat) (r : List Int) (e : Ending) (w' : World) : Prop := Upd (fun x => x = cm ∨ x = wb) w w' ∧
  e = .returned (.tuple #[.int .i64 (f + recs.length), .int .i64 0]) ∧ LogSt w' wb b ab cm size place n l f (recs ++ [r]) k
theorem app_sure (v : Value) (r : List Int) (h : LogSt w wb b ab cm size place n l f recs k) (hb : BytV w v r) (hB : IsB r) (hcap : ∀ a n c, v = .slice a n c → n ≤ c) (hk : ∀ k o n c, v = .slice (some ⟨k, o, none⟩) n c → k ≠ cm ∧ k ≠ wb) (hr1 : 1 ≤ r.length) (hr2 : r.length ≤ 2000) (hroom : usedB recs + needB r ≤ size) (hnum : f + recs.length ≤ 1152921504606846976) :
    Calls Try.prog 9 #[.pointer (some ⟨wb, 0, none⟩), v] w (AppOk w wb b ab cm size place n l f recs k r) := by
  obtain ⟨D, C, h1, h2, h3, h4⟩ := h.x
  have hmany := h3.rs.many
  have hfew := h3.few
  have hfour := h3.four
  have hf1 := h3.f1
  have hn : 1 ≤ needB r := by unfold needB; omega
  refine (append_ok w wb b ab cm size place (usedB recs) n l f (f + recs.length) D C v r h2 h1 h3.dlen (by omega) hfew h3.plt hb hcap hk hr1 hr2 hroom hnum (by omega)).mono ?_
  rintro e w' ⟨rfl, hp, hw, hu⟩
  refine ⟨hu, rfl, D, _, hp, ?_, h3.append hB hr1 hr2 hroom, h4.append h3 hn hroom⟩
  rw [usedB_snoc, List.length_append]
  have e1 : f + ((recs.length + [r].length : Nat) : Int) = f + recs.length + 1 := by simp; omega
  rw [e1]
  exact hw
theorem app_any (v : Value) (r : List Int) (h : LogSt w wb b ab cm size place n l f recs k) (hb : BytV w v r) (hB : IsB r) (hr : r.length ≤ 140737488355328) (hcap : ∀ a n c, v = .slice a n c → n ≤ c) (hk : 1 ≤ r.length → ∀ k o n c, v = .slice (some ⟨k, o, none⟩) n c → k ≠ cm ∧ k ≠ wb) :
    Calls Try.prog 9 #[.pointer (some ⟨wb, 0, none⟩), v] w (AppSt w wb b ab cm size place n l f recs k r) := by
  by_cases h0 : 1 ≤ r.length
  · exact app_st w wb b ab cm size place n l f recs k v r h hb hB hr hcap (hk h0)
  · obtain ⟨D, C, h1, h2, h3, h4⟩ := h.x
    refine (append_arg h2 hb hr (fun h => h0 h.1)).mono ?_
    rintro e w' ⟨rfl, rfl⟩
    exact ⟨Upd.refl _ _, .inr ⟨1, Or.inl rfl, rfl, h⟩⟩
end
end Go.Proofs.Ytchpekecgdbphaa
