/-
  The post and the reference's post, side by side: what each call leaves.
-/
import Derived.Test.YtfodgohleioflaaLiveSame
import Derived.Test.YtfodgohleioflaaLiveSpoil
namespace Go.Proofs.Ytfodgohleioflaa
open Go Go.RowKit Go.MapKept Go.ChangeMaps
set_option linter.unusedVariables false

/-- The post and the reference's, alike. -/
structure LiveAt (w : World) (b mb x B : Nat) (last : Int) (L : List (Int × MsgD)) (M : List (Int × Value)) (v : Value) (Cs : List (Array Value)) (GP GR : Nat → Prop) : Prop where
  post : PostIs (InG GP w) w b mb last L M
  ref : RefAt GR w x B last L v Cs
  gp : ∀ k, GP k → B ≤ k ∧ k < w.heap.size
  gr : ∀ k, GR k → B ≤ k ∧ k < w.heap.size
  lb : b < B ∧ mb < B ∧ x < B
  ne : x ≠ b ∧ x ≠ mb
  le : B ≤ w.heap.size
section
variable {w w' w2 : World} {b mb x B : Nat} {last last' : Int} {L L' : List (Int × MsgD)} {M M' : List (Int × Value)} {v v' : Value} {Cs Cs' : List (Array Value)} {GP GR GP' GR' : Nat → Prop}
theorem LiveAt.upd {F : Nat → Prop} (h : LiveAt w b mb x B last L M v Cs GP GR) (u : Upd F w w') (hF : ∀ k, F k → B ≤ k ∧ ¬ GP k ∧ ¬ GR k ∧ ¬ some k = v.ownBlock) : LiveAt w' b mb x B last L M v Cs GP GR := by
  obtain ⟨l1, l2, l3⟩ := h.lb
  have hs := u.size
  refine ⟨h.post.to u (fun k hk hf => (hF k hf).2.1 hk.2) (fun hf => by have := (hF b hf).1; omega) (fun hf => by have := (hF mb hf).1; omega) (fun k hk => hk.upd u (fun hf => (hF k hf).2.1 hk.2)) (fun k hk e => by have := (h.gp k hk.2).1; omega),
    h.ref.upd u (fun hf => by have := (hF x hf).1; omega) (fun k e hf => (hF k hf).2.2.2 e) (fun k hk hf => (hF k hf).2.2.1 hk.2), fun k hk => ⟨(h.gp k hk).1, Nat.lt_of_lt_of_le (h.gp k hk).2 hs⟩, fun k hk => ⟨(h.gr k hk).1, Nat.lt_of_lt_of_le (h.gr k hk).2 hs⟩, h.lb, h.ne, Nat.le_trans h.le hs⟩
theorem LiveAt.old (h : LiveAt w b mb x B last L M v Cs GP GR) (u : Upd (fun _ => False) w w') : LiveAt w' b mb x B last L M v Cs GP GR := h.upd u (fun _ h => h.elim)
/-- The reference's behind a call of the post. -/
theorem LiveAt.ref1 (h : LiveAt w b mb x B last L M v Cs GP GR) (u : Upd (fun k => k = b ∨ k = mb) w w') : RefAt GR w' x B last L v Cs := by
  obtain ⟨l1, l2, l3⟩ := h.lb
  refine h.ref.upd u (fun e => ?_) (fun k e hf => ?_) (fun k hk hf => by have := (h.gr k hk.2).1; omega)
  · rcases e with e | e
    · exact h.ne.1 e
    · exact h.ne.2 e
  · have := owns_ge h.ref.own k e
    omega
/-- A call of each. -/
theorem live_join (h : LiveAt w b mb x B last L M v Cs GP GR) (hp : PostIs (InG GP' w') w' b mb last' L' M') (hgp : ∀ k, GP' k → GP k ∨ (w.heap.size ≤ k ∧ k < w'.heap.size)) (u1 : Upd (fun k => k = b ∨ k = mb) w w')
    (hr : RefAt GR' w2 x B last' L' v' Cs') (hgr : ∀ k, GR' k → GR k ∨ (w'.heap.size ≤ k ∧ k < w2.heap.size)) (u2 : Upd (fun k => k = x ∨ some k = v.ownBlock) w' w2) : LiveAt w2 b mb x B last' L' M' v' Cs' GP' GR' := by
  obtain ⟨l1, l2, l3⟩ := h.lb
  have hr1 := h.ref1 u1
  have s1 := u1.size
  have s2 := u2.size
  have hle := h.le
  have hgp' : ∀ k, GP' k → B ≤ k ∧ k < w'.heap.size := fun k hk => by
    rcases hgp k hk with e | e
    · have := h.gp k e; omega
    · omega
  have hF : ∀ k, InG GP' w' k → ¬ (k = x ∨ some k = v.ownBlock) := fun k hk e => by
    rcases e with e | e
    · have := (hgp' k hk.2).1; omega
    · exact not_in_own hr1.own hk e
  refine ⟨hp.to u2 hF (fun e => ?_) (fun e => ?_) (fun k hk => hk.upd u2 (hF k hk)) (fun k hk e => by have := (hgp' k hk.2).1; omega), hr, fun k hk => ⟨(hgp' k hk).1, by have := (hgp' k hk).2; omega⟩, fun k hk => ?_, h.lb, h.ne, by omega⟩
  · rcases e with e | e
    · exact h.ne.1 e.symm
    · have := owns_ge hr1.own b e; omega
  · rcases e with e | e
    · exact h.ne.2 e.symm
    · have := owns_ge hr1.own mb e; omega
  · rcases hgr k hk with e | e
    · have := h.gr k e; omega
    · omega
theorem post_send {d : MsgD} {C' : Array Value} (h : PostIs (InG GP w) w b mb last L M) (hb : b < w.heap.size ∧ mb < w.heap.size) (hG : ¬ GP b ∧ ¬ GP mb) (hl : 0 ≤ last)
    (hp : PostAt w' b mb (last + 1) (aput M (last + 1) (.agg C'))) (hm : MsgAt (Mem w.heap.size w') w' C' d) (u : Upd (fun k => k = b ∨ k = mb) w w') : PostIs (InG (fun k => GP k ∨ (w.heap.size ≤ k ∧ k < w'.heap.size)) w') w' b mb (last + 1) (L ++ [(last + 1, d)]) (aput M (last + 1) (.agg C')) := by
  have hnone : aget M (last + 1) = none := by
    refine aget_none fun p hp e => ?_
    have : p.1 ∈ L.map (·.1) := by rw [← h.map]; exact List.mem_map_of_mem hp
    obtain ⟨p', hp', he⟩ := List.mem_map.1 this
    have := (h.low p' hp').2
    omega
  rw [aput_new _ hnone] at hp ⊢
  have hF : ∀ k, InG GP w k → ¬ (k = b ∨ k = mb) := fun k hk e => by
    rcases e with e | e
    · exact hG.1 (e ▸ hk.2)
    · exact hG.2 (e ▸ hk.2)
  refine ⟨hp, by simp [h.len], fun i hi => ?_, ?_, ?_, fun k hk e => ?_⟩
  · by_cases e : i < L.length
    · obtain ⟨C, h1, h2⟩ := h.msg i e
      refine ⟨C, ?_, ?_⟩
      · rw [List.getElem?_append_left (by rw [h.len]; exact e), h1, List.getD_eq_getElem?_getD, List.getD_eq_getElem?_getD, List.getElem?_append_left e]
      · rw [List.getD_eq_getElem?_getD, List.getElem?_append_left e, ← List.getD_eq_getElem?_getD]
        exact (h2.upd u hF).mono (fun k hk => ⟨(hk.upd u (hF k hk)).1, Or.inl hk.2⟩)
    · have e2 : i = L.length := by simp at hi; omega
      subst e2
      refine ⟨C', ?_, ?_⟩
      · rw [List.getElem?_append_right (by rw [h.len]; exact Nat.le_refl _), List.getD_eq_getElem?_getD, List.getElem?_append_right (Nat.le_refl _), h.len]; simp
      · rw [List.getD_eq_getElem?_getD, List.getElem?_append_right (Nat.le_refl _)]
        simp only [Nat.sub_self, List.getElem?_cons_zero, Option.getD_some]
        exact hm.mono (fun k hk => ⟨hk.low (Nat.zero_le _), Or.inr ⟨hk.1, hk.lt⟩⟩)
  · rw [List.map_append]
    refine List.pairwise_append.2 ⟨h.keys, by simp, fun y hy z hz => ?_⟩
    obtain ⟨p, hp', rfl⟩ := List.mem_map.1 hy
    have := (h.low p hp').2
    simp at hz
    omega
  · intro p hp'
    rcases List.mem_append.1 hp' with hp' | hp'
    · have := h.low p hp'; omega
    · simp at hp'; subst hp'; simp; omega
  · rcases hk.2 with hg | hg
    · rcases e with e | e
      · exact hG.1 (e ▸ hg)
      · exact hG.2 (e ▸ hg)
    · omega
theorem adel_erase : ∀ (M : List (Int × Value)) (q : Nat) (id : Int) (u : Value), (M.map (·.1)).Nodup → M[q]? = some (id, u) → adel M id = M.eraseIdx q
  | p :: r, 0, id, u, hn, h => by
    obtain ⟨n1, n2⟩ := List.nodup_cons.1 hn
    simp only [List.getElem?_cons_zero, Option.some.injEq] at h
    subst h
    unfold adel
    rw [List.filter_cons_of_neg (by simp), List.eraseIdx_cons_zero]
    exact filter_other (fun y hy e => n1 (by show id ∈ _; rw [← e]; exact List.mem_map_of_mem hy))
  | p :: r, q + 1, id, u, hn, h => by
    obtain ⟨n1, n2⟩ := List.nodup_cons.1 hn
    simp only [List.getElem?_cons_succ] at h
    have hne : p.1 ≠ id := fun e => n1 (by show p.1 ∈ _; rw [e]; exact List.mem_map_of_mem (f := (·.1)) (List.mem_of_getElem? h))
    have ih := adel_erase r q id u n2 h
    unfold adel at ih ⊢
    rw [List.filter_cons_of_pos (by simpa using hne), List.eraseIdx_cons_succ, ih]
theorem post_erase {q : Nat} (h : PostIs (InG GP w) w b mb last L M) (hG : ¬ GP b ∧ ¬ GP mb) (hq : q < L.length) (hp : PostAt w' b mb last (adel M (L.getD q default).1)) (u : Upd (fun k => k = b ∨ k = mb) w w') : PostIs (InG GP w') w' b mb last (L.eraseIdx q) (M.eraseIdx q) := by
  obtain ⟨C, h1, _⟩ := h.msg q hq
  rw [adel_erase M q _ _ (im_nodup h.at'.m) h1] at hp
  have hF : ∀ k, InG GP w k → ¬ (k = b ∨ k = mb) := fun k hk => h.far k hk
  have hlen := h.len
  refine ⟨hp, by rw [List.length_eraseIdx_of_lt (by omega), List.length_eraseIdx_of_lt hq, hlen], fun i hi => ?_, ?_, fun p hp' => h.low p (List.mem_of_mem_eraseIdx hp'), fun k hk => ?_⟩
  · have hi' : (if i < q then i else i + 1) < L.length := by rw [List.length_eraseIdx_of_lt hq] at hi; split <;> omega
    obtain ⟨C', h2, h3⟩ := h.msg _ hi'
    refine ⟨C', ?_, ?_⟩
    · rw [List.getElem?_eraseIdx, eraseD]
      by_cases e : i < q
      · rw [if_pos e] at h2 ⊢; rw [if_pos e]; exact h2
      · rw [if_neg e] at h2 ⊢; rw [if_neg e]; exact h2
    · rw [eraseD]
      exact (h3.upd u hF).mono (fun k hk => hk.upd u (hF k hk))
  · exact h.keys.sublist ((List.eraseIdx_sublist L q).map _)
  · rintro (e | e)
    · exact hG.1 (e ▸ hk.2)
    · exact hG.2 (e ▸ hk.2)
end
/-- Behind some Spoils of fresh messages. -/
structure SpM (w6 w7 wq : World) : Prop where
  u : Upd (fun k => Mem w6.heap.size w7 k) w7 wq
  s : ByteStay w7 wq
  o : OnlyB w7 wq
  f : ∀ p : Addr, p.block < w7.heap.size → wq.frozen? p = w7.frozen? p
theorem SpM.refl (w6 w7 : World) : SpM w6 w7 w7 := ⟨Upd.refl _ _, fun p h => h, fun p u h _ => h, fun p _ => rfl⟩
theorem SpM.step {w6 w7 wr w8 w9 : World} {sv : Value} {e : Ending} (h : SpM w6 w7 wr) (u : Upd (fun _ => False) wr w8) (hs : SpoilP w8 sv e w9) (hi : Inn (Mem w6.heap.size w7) sv) : SpM w6 w7 w9 := by
  have hsz := h.u.size
  refine ⟨(h.u.trans (u.mono (fun _ _ h => h.elim))).trans (hs.u.mono (fun k _ hk => hk.mem hi)), fun p hp => ?_, fun p x hp hx => ?_, fun p hp => ?_⟩
  · obtain ⟨n, hn⟩ := h.s p hp
    exact hs.s p ⟨n, by
      have hlt := World.block_lt_of_cell? _ _ hn
      exact (u.cell hlt (fun h => h)).trans hn⟩
  · have h1 := h.o p x hp hx
    exact hs.o p x ((u.cell (World.block_lt_of_cell? _ _ h1) (fun h => h)).trans h1) hx
  · have hp1 : p.block < wr.heap.size := by omega
    exact (hs.f p (Nat.lt_of_lt_of_le hp1 u.size)).trans ((u.frozen hp1 (fun h => h)).trans (h.f p hp))
theorem SpM.any {w6 w7 wr : World} {v : Value} {n : Nat} (h : SpM w6 w7 wr) (ha : AnyB w7 v n) : AnyB wr v n :=
  ha.stay h.s (fun p hf hc => by
    obtain ⟨m, hm⟩ := hc
    exact (h.f p (World.block_lt_of_cell? _ _ hm)).trans hf)
theorem msgC_inj {d : MsgD} {nv vv bv nv' vv' bv' : Value} (h : msgC d nv vv bv = msgC d nv' vv' bv') : nv = nv' ∧ vv = vv' ∧ bv = bv' := by
  simp [msgC] at h
  exact h
theorem sent_spoil {B : Nat} {w : World} {p : Int × MsgD} {nv vv bv : Value} (h : MsgAt (Mem B w) w (msgC p.2 nv vv bv) p.2) : AnyB w bv p.2.bytes.length ∧ Inn (Mem B w) bv ∧ ∀ u ∈ sentC p (msgC p.2 nv vv bv), ∀ n, u ≠ .int .u8 n := by
  obtain ⟨nv', vv', bv', e, hn, _, hv, _, _, hb, hib⟩ := h
  obtain ⟨rfl, rfl, rfl⟩ := msgC_inj e
  refine ⟨anyb_of hb hib, hib, fun u hu n he => ?_⟩
  obtain ⟨a1, n1, c1, rfl⟩ := hn.slice
  obtain ⟨a2, c2, rfl, _⟩ := hv.cells
  obtain ⟨a3, c3, rfl⟩ := hb.shape
  subst he
  simp [sentC, msgC] at hu
theorem msg_bytes {S : Nat → Prop} {w : World} {d : MsgD} {nv vv bv : Value} (h : MsgAt S w (msgC d nv vv bv) d) : ∃ a c, bv = .slice a d.bytes.length c := by
  obtain ⟨nv', vv', bv', e, hn, _, hv, _, _, hb, hib⟩ := h
  obtain ⟨rfl, rfl, rfl⟩ := msgC_inj e
  exact hb.shape
theorem live_spoilt {w6 w7 wq : World} {b mb x B : Nat} {last : Int} {L : List (Int × MsgD)} {M : List (Int × Value)} {v : Value} {Cs : List (Array Value)} {GP GR : Nat → Prop} (h : LiveAt w6 b mb x B last L M v Cs GP GR) (u : Upd (fun _ => False) w6 w7) (hs : SpM w6 w7 wq) : LiveAt wq b mb x B last L M v Cs GP GR :=
  (h.old u).upd hs.u (fun k hk => ⟨Nat.le_trans h.le hk.1, fun hg => by have := (h.gp k hg).2; have := hk.1; omega, fun hg => by have := (h.gr k hg).2; have := hk.1; omega, fun e => by have := (h.ref.own.lt k e.symm).2; have := hk.1; omega⟩)
theorem spoil_upd {w6 w7 wq w : World} (hs : SpM w6 w7 wq) (h : w.heap.size ≤ w6.heap.size) (u : Upd (fun _ => False) w w7) : Upd (fun _ => False) w wq :=
  u.trans' hs.u (fun i hi hk => by have := hk.1; omega)
end Go.Proofs.Ytfodgohleioflaa
