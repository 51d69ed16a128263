/-
  A post with all its messages, in memory of its own: Send, Take, Lose, Twice.
-/
import Derived.Test.YtfodgohleioflaaPostPack
import Derived.Test.YtfodgohleioflaaPostSame4
namespace Go.Proofs.Ytfodgohleioflaa
open Go Go.RowKit Go.MapKept Go.ChangeMaps
set_option linter.unusedVariables false

/-- The messages lie in blocks from B on; the post and its map below. -/
structure PostB (B : Nat) (w : World) (b mb : Nat) (last : Int) (L : List (Int × MsgD)) (M : List (Int × Value)) : Prop where
  is' : PostIs (Mem B w) w b mb last L M
  b : b < B
  mb : mb < B
  le : B ≤ w.heap.size
theorem PostIs.to {S T : Nat → Prop} {F : Nat → Prop} {w w' : World} {b mb : Nat} {last : Int} {L : List (Int × MsgD)} {M : List (Int × Value)} (h : PostIs S w b mb last L M) (u : Upd F w w') (hF : ∀ k, S k → ¬ F k) (hb : ¬ F b) (hmb : ¬ F mb) (hST : ∀ k, S k → T k) (hfar : ∀ k, T k → ¬ (k = b ∨ k = mb)) : PostIs T w' b mb last L M :=
  ⟨h.at'.upd u hb hmb, h.len, fun i hi => by obtain ⟨C, h1, h2⟩ := h.msg i hi; exact ⟨C, h1, (h2.upd u hF).mono hST⟩, h.keys, h.low, hfar⟩
theorem PostB.upd {B : Nat} {F : Nat → Prop} {w w' : World} {b mb : Nat} {last : Int} {L : List (Int × MsgD)} {M : List (Int × Value)} (h : PostB B w b mb last L M) (u : Upd F w w') (hF : ∀ k, Mem B w k → ¬ F k) (hb : ¬ F b) (hmb : ¬ F mb) : PostB B w' b mb last L M :=
  ⟨h.is'.to u hF hb hmb (fun k hk => hk.upd u (hF k hk)) (fun k hk e => by have := hk.1; have := h.b; have := h.mb; omega), h.b, h.mb, Nat.le_trans h.le u.size⟩
theorem PostB.old {B : Nat} {w w' : World} {b mb : Nat} {last : Int} {L : List (Int × MsgD)} {M : List (Int × Value)} (h : PostB B w b mb last L M) (u : Upd (fun _ => False) w w') : PostB B w' b mb last L M := h.upd u (fun _ _ h => h) (fun h => h) (fun h => h)
theorem PostB.new {w1 : World} {b mb : Nat} (h : PostAt w1 b mb 0 []) : PostB w1.heap.size w1 b mb 0 [] [] :=
  ⟨⟨h, rfl, fun i hi => absurd hi (Nat.not_lt_zero i), List.Pairwise.nil, fun p hp => absurd hp (by simp), fun k hk e => by have := hk.1; have := h.lt; omega⟩, h.lt.1, h.lt.2.1, Nat.le_refl _⟩
theorem PostB.none' {B : Nat} {w : World} {b mb : Nat} {last : Int} {L : List (Int × MsgD)} {M : List (Int × Value)} (h : PostB B w b mb last L M) {id : Int} (hid : ∀ p ∈ L, p.1 ≠ id) : aget M id = none := by
  refine aget_none fun p hp e => ?_
  have : p.1 ∈ L.map (·.1) := by rw [← h.is'.map]; exact List.mem_map_of_mem hp
  obtain ⟨p', hp', he⟩ := List.mem_map.1 this
  exact hid p' hp' (by rw [he, e])
/-- One more was sent. -/
theorem PostB.send {B : Nat} {w w' : World} {b mb : Nat} {last : Int} {L : List (Int × MsgD)} {M : List (Int × Value)} {d : MsgD} {C' : Array Value} (h : PostB B w b mb last L M) (hl : 0 ≤ last)
    (hp : PostAt w' b mb (last + 1) (aput M (last + 1) (.agg C'))) (hm : MsgAt (Mem w.heap.size w') w' C' d) (u : Upd (fun k => k = b ∨ k = mb) w w') : PostB B w' b mb (last + 1) (L ++ [(last + 1, d)]) (aput M (last + 1) (.agg C')) := by
  have hnone : aget M (last + 1) = none := h.none' (fun p hp e => by have := (h.is'.low p hp).2; omega)
  have hb := h.b
  have hmb := h.mb
  have hle := h.le
  rw [aput_new _ hnone] at hp ⊢
  refine ⟨⟨hp, by simp [h.is'.len], fun i hi => ?_, ?_, ?_, fun k hk e => by have := hk.1; omega⟩, hb, hmb, Nat.le_trans h.le u.size⟩
  · by_cases e : i < L.length
    · obtain ⟨C, h1, h2⟩ := h.is'.msg i e
      have hF : ∀ k, Mem B w k → ¬ (k = b ∨ k = mb) := fun k hk e => by have := hk.1; omega
      refine ⟨C, ?_, ?_⟩
      · rw [List.getElem?_append_left (by rw [h.is'.len]; exact e), h1, List.getD_eq_getElem?_getD, List.getD_eq_getElem?_getD, List.getElem?_append_left e]
      · rw [List.getD_eq_getElem?_getD, List.getElem?_append_left e, ← List.getD_eq_getElem?_getD]
        exact (h2.upd u hF).mono (fun k hk => hk.upd u (hF k hk))
    · have e2 : i = L.length := by simp at hi; omega
      subst e2
      refine ⟨C', ?_, ?_⟩
      · rw [List.getElem?_append_right (by rw [h.is'.len]; exact Nat.le_refl _), List.getD_eq_getElem?_getD, List.getElem?_append_right (Nat.le_refl _), h.is'.len]; simp
      · rw [List.getD_eq_getElem?_getD, List.getElem?_append_right (Nat.le_refl _)]
        simp only [Nat.sub_self, List.getElem?_cons_zero, Option.getD_some]
        exact hm.mono (fun k hk => hk.low hle)
  · rw [List.map_append]
    refine List.pairwise_append.2 ⟨h.is'.keys, by simp, fun x hx y hy => ?_⟩
    obtain ⟨p, hp', rfl⟩ := List.mem_map.1 hx
    have := (h.is'.low p hp').2
    simp at hy
    omega
  · intro p hp'
    rcases List.mem_append.1 hp' with hp' | hp'
    · have := h.is'.low p hp'; omega
    · simp at hp'; subst hp'; simp; omega
def TwiceP (w : World) (b mb : Nat) (last : Int) (M : List (Int × Value)) (d : MsgD) (e : Ending) (w' : World) : Prop := SendD w b mb last M d e w'
set_option maxRecDepth 100000 in
set_option maxHeartbeats 4000000 in
theorem twice_any (w : World) (b mb : Nat) (last id : Int) (M : List (Int × Value)) (S : Nat → Prop) (C : Array Value) (d : MsgD) (hC : MsgAt S w C d) (hSb : ∀ k, S k → ¬ (k = b ∨ k = mb)) (h : PostAt w b mb last M) (hM : M.length < 4000) (hl0 : 0 ≤ last) (hl : last < 1000000) (hg : aget M id = some (.agg C)) :
    Calls Try.prog 11 #[.pointer (some ⟨b, 0, none⟩), .int .i64 id] w (SendD w b mb last M d) := by
  obtain ⟨hs, hone⟩ := msgC_one hC
  have c0 := h.c0
  have hm := h.m
  have look := look_msg
  obtain ⟨lb, lm, lne⟩ := h.lt
  have HST := Lib.hid (fun w' (u : Upd (fun _ => False) w w') => state_ok w' b mb last M (h.old u))
  have HSEND := Lib.hid (fun w' (u : Upd (fun _ => False) w w') => send_any w' b mb last M S C d (hC.old u) hSb (h.old u) hM hl0 hl)
  have HH := Lib.hid h; clear h
  have hz : (Try.prog.info? 34).map (·.size) = some C.size := by rw [hs]; kernel_rfl
  have HZ := Lib.hid hz; clear hz
  have HS := Lib.hid hs; clear hs
  have HONE := Lib.hid hone; clear hone
  clear hC
  go_enter Try.func11, Try.ntmps11
  go_wp2_with (first
    | (go_at_call 21; refine (HST.out _ (by first | exact Upd.refl _ _ | exact (Upd.refl _ _).alloc _)).mono ?_; rintro e w' ⟨rfl, rfl⟩)
    | (refine wpList_store_last (w0 := w) (C0 := msgN 0) rfl 34 _ _ rfl rfl C rfl HZ.out (by rw [HS.out]; rfl) HONE.out ?_)
    | (refine wpList_load_block rfl 34 _ rfl w.heap.size rfl C (0, 0) _ Try.isAgg34 (fun w => by rw [HS.out]; exact Try.sizeOf34 w) (MapKept.heap_alloc w _).1 ?_)
    | (go_at_call 8; refine (HSEND.out _ ((Upd.refl _ _).alloc _)).mono ?_; rintro e w2 ⟨rfl, C2, hp, hm2, hu⟩; have HP := Lib.hid hp; clear hp; have HM2 := Lib.hid hm2; clear hm2; have HU := Lib.hid hu; clear hu))
  go_ret2
  exact ⟨rfl, C2, HP.out, HM2.out.mono (fun k hk => hk.low (by simp)), ((Upd.refl _ _).alloc _).trans HU.out⟩
end Go.Proofs.Ytfodgohleioflaa
