/-
  Each call of a round, and what both posts have behind it.
-/
import Derived.Test.YtfodgohleioflaaLiveLib
namespace Go.Proofs.Ytfodgohleioflaa
open Go Go.RowKit Go.MapKept Go.ChangeMaps
set_option linter.unusedVariables false

/-- All is alike behind q calls. -/
def LiveOk (w : World) (b mb x B : Nat) (q : Nat) (wc : World) : Prop := ∃ (last : Int) (L : List (Int × MsgD)) (M : List (Int × Value)) (v : Value) (Cs : List (Array Value)) (GP GR : Nat → Prop), LiveAt wc b mb x B last L M v Cs GP GR ∧ 0 ≤ last ∧ last ≤ q ∧ L.length ≤ q ∧ Upd (fun _ => False) w wc
theorem zero_msg2 (w : World) : MsgAt (fun _ => False) w (msgN 0) ⟨0, 0, 0, 0, 0, 0, 0, 0, 0, false, default, [], [], []⟩ :=
  ⟨.slice none 0 0, .slice none 0 0, .slice none 0 0, rfl, Ints.nil w, (fun b o n c e _ => by cases e), ⟨[], rfl, Row.nil w 14, by simp, fun i hi => absurd hi (Nat.not_lt_zero i)⟩, (fun b o n c e _ => by cases e), (fun b o n c e => by cases e), ⟨Row.nil w 1, by simp⟩, (fun b o n c e _ => by cases e)⟩
theorem AnyB.updS {F S : Nat → Prop} {w w' : World} {v : Value} {n : Nat} (h : AnyB w v n) (u : Upd F w w') (hS : Inn S v) (hF : ∀ k, S k → ¬ F k) : AnyB w' v n := by
  rcases h with h | ⟨b, o, c, hv, hn, hc⟩
  · exact .inl h
  · refine .inr ⟨b, o, c, hv, hn, fun j hj => ?_⟩
    obtain ⟨⟨m, h1⟩, h2⟩ := hc j hj
    have hlt := World.block_lt_of_cell? _ _ h1
    have hb := hF b (hS b o n c hv (by omega))
    exact ⟨⟨m, (u.cell (p := ⟨b, o + j, none⟩) hlt hb).trans h1⟩, (u.frozen (p := ⟨b, o + j, none⟩) hlt hb).trans h2⟩
section
variable {w wa w1 wb w2 w3 w3' w4 : World} {b mb x B q : Nat} {last : Int} {L : List (Int × MsgD)} {M : List (Int × Value)} {v : Value} {Cs : List (Array Value)} {GP GR : Nat → Prop} {d : MsgD} {gn gv gb : Value} {C2 : Array Value} {v3 : Value} {Cs3 : List (Array Value)}
/-- The bytes of the message that was given, once both have taken it. -/
theorem given_any (hla : LiveAt wa b mb x B last L M v Cs GP GR) (hG : MsgAt (Mem wa.heap.size w1) w1 (msgC d gn gv gb) d) (hu1 : Upd (fun _ => False) wa w1) (hub : Upd (fun _ => False) w1 wb) (hu2 : Upd (fun k => k = b ∨ k = mb) wb w2) (hu3 : Upd (fun k => k = x ∨ some k = v.ownBlock) w2 w3) :
    AnyB w3 gb d.bytes.length ∧ Inn (Mem wa.heap.size w3) gb ∧ ∀ k, Blk gb k → wa.heap.size ≤ k ∧ k < w1.heap.size := by
  obtain ⟨l1, l2, l3⟩ := hla.lb
  have hle := hla.le
  obtain ⟨h1, h2, _⟩ := sent_spoil (p := (0, d)) hG
  have g12 : Inn (Mem wa.heap.size wb) gb := h2.mono (fun k hk => hk.grow (Grow.old hub))
  have hF2 : ∀ k, Mem wa.heap.size wb k → ¬ (k = b ∨ k = mb) := fun k hk e => by have := hk.1; omega
  have g2 : Inn (Mem wa.heap.size w2) gb := g12.mono (fun k hk => hk.upd hu2 (hF2 k hk))
  have hr2 := ((hla.old hu1).old hub).ref1 hu2
  have hF3 : ∀ k, Mem wa.heap.size w2 k → ¬ (k = x ∨ some k = v.ownBlock) := fun k hk e => by
    rcases e with e | e
    · have := hk.1; omega
    · exact not_mem_own hr2.own hk e
  exact ⟨((h1.old hub).updS hu2 g12 hF2).updS hu3 g2 hF3, g2.mono (fun k hk => hk.upd hu3 (hF3 k hk)), fun k hk => ⟨(hk.mem h2).1, (hk.mem h2).lt⟩⟩
theorem send_done (hla : LiveAt wa b mb x B last L M v Cs GP GR) (hua : Upd (fun _ => False) w wa) (hG : MsgAt (Mem wa.heap.size w1) w1 (msgC d gn gv gb) d) (hu1 : Upd (fun _ => False) wa w1) (hub : Upd (fun _ => False) w1 wb) (hwb : w1.heap.size < wb.heap.size)
    (hp2 : PostAt w2 b mb (last + 1) (aput M (last + 1) (.agg C2))) (hm2 : MsgAt (Mem wb.heap.size w2) w2 C2 d) (hu2 : Upd (fun k => k = b ∨ k = mb) wb w2)
    (hr3 : RefAt (fun k => GR k ∨ (w2.heap.size ≤ k ∧ k < w3.heap.size)) w3 x B (last + 1) (L ++ [(last + 1, d)]) v3 Cs3) (hu3 : Upd (fun k => k = x ∨ some k = v.ownBlock) w2 w3) (hub3 : Upd (fun _ => False) w3 w3') (hs : Upd (fun k => Blk gb k) w3' w4)
    (hl0 : 0 ≤ last) (hlq : last ≤ q) (hLq : L.length ≤ q) (hbw : w.heap.size ≤ b ∧ w.heap.size ≤ mb ∧ w.heap.size ≤ x ∧ w.heap.size ≤ B) : LiveOk w b mb x B (q + 1) w4 := by
  have hlb := (hla.old hu1).old hub
  obtain ⟨l1, l2, l3⟩ := hla.lb
  have hle := hlb.le
  have hle0 := hla.le
  obtain ⟨_, hi3, hk3⟩ := given_any hla hG hu1 hub hu2 hu3
  have hpost := post_send hlb.post ⟨by omega, by omega⟩ ⟨fun h => by have := (hla.gp _ h).1; omega, fun h => by have := (hla.gp _ h).1; omega⟩ hl0 hp2 hm2 hu2
  have hr2 := hlb.ref1 hu2
  have hj := live_join hlb hpost (fun k hk => hk) hu2 hr3 (fun k hk => hk) hu3
  have hs1 := hu1.size
  have hs2 := hu2.size
  have hj4 := (hj.old hub3).upd hs (fun k hk => by
    obtain ⟨k1, k2⟩ := hk3 k hk
    refine ⟨by omega, fun hg => ?_, fun hg => ?_, fun e => not_mem_own (hj.old hub3).ref.own ((hk.mem hi3).grow (Grow.old hub3)) e⟩
    · rcases hg with hg | hg
      · have := (hla.gp k hg).2; omega
      · omega
    · rcases hg with hg | hg
      · have := (hla.gr k hg).2; omega
      · omega)
  refine ⟨_, _, _, _, _, _, _, hj4, by omega, by omega, by simp; omega, ?_⟩
  have t1 : Upd (fun _ => False) w w2 := (((hua.trans hu1).trans hub)).trans' hu2 (fun i hi e => by omega)
  have t2 : Upd (fun _ => False) w w3 := t1.trans' hu3 (fun i hi e => by
    rcases e with e | e
    · omega
    · have := owns_ge hr2.own i e; omega)
  have hsw := hua.size
  exact (t2.trans hub3).trans' hs (fun i hi e => by have := (hk3 i e).1; omega)
/-- A local message stays where the reference's post has changed. -/
theorem send_given {w2 w3 : World} {x k n : Nat} {v : Value} {C : Array Value} {xs : List Value} (h : w2.heap[k]? = some (.cells C 34 (0, 0))) (u : Upd (fun j => j = x ∨ some j = v.ownBlock) w2 w3) (hx : ¬ k = x) (ho : w2.ownsRow B 56 25 v n xs) : w3.heap[k]? = some (.cells C 34 (0, 0)) :=
  (u.block k (Array.getElem?_eq_some_iff.1 h).1 (fun e => by
    rcases e with e | e
    · exact hx e
    · exact notown_msg ho h e)).trans h
theorem take_given {w wb w3 : World} {C : Array Value} (h : MsgAt (InG GP wa) w C d) (hS : ∀ k, InG GP wa k → Mem 0 w k) (hub : Upd (fun _ => False) w wb) (hu3 : Upd (fun k => k = x ∨ some k = v.ownBlock) wb w3) (hr : RefAt GR wb x B last L v Cs) (hB : ∀ k, InG GP wa k → B ≤ k) (hx : x < B) : MsgAt (InG GP wa) w3 C d :=
  (h.old hub).upd hu3 (fun k hk e => by
    rcases e with e | e
    · have := hB k hk; omega
    · exact not_mem_own hr.own ((hS k hk).grow (Grow.old hub)) e)
/-- Both have one less. -/
theorem take_done {q0 : Nat} {id : Int} (hla : LiveAt wa b mb x B last L M v Cs GP GR) (hua : Upd (fun _ => False) w wa) (hq0 : q0 < L.length) (hid : (L.getD q0 default).1 = id)
    (hp2 : PostAt w2 b mb last (adel M id)) (hu2 : Upd (fun k => k = b ∨ k = mb) wa w2) (hub : Upd (fun _ => False) w2 wb) (hr3 : RefAt GR w3 x B last (L.eraseIdx q0) v3 Cs3) (hu3 : Upd (fun k => k = x ∨ some k = v.ownBlock) wb w3) (hub3 : Upd (fun _ => False) w3 w4)
    (hl0 : 0 ≤ last) (hlq : last ≤ q) (hLq : L.length ≤ q) (hbw : w.heap.size ≤ b ∧ w.heap.size ≤ mb ∧ w.heap.size ≤ x ∧ w.heap.size ≤ B) : LiveOk w b mb x B (q + 1) w4 := by
  obtain ⟨l1, l2, l3⟩ := hla.lb
  subst hid
  have hpost := (post_erase hla.post ⟨fun h => by have := (hla.gp _ h).1; omega, fun h => by have := (hla.gp _ h).1; omega⟩ hq0 hp2 hu2).to hub (fun _ _ h => h) (fun h => h) (fun h => h) (fun k hk => hk.upd hub (fun h => h)) (fun k hk e => by have := (hla.gp k hk.2).1; omega)
  have hu2' : Upd (fun k => k = b ∨ k = mb) wa wb := hu2.trans (hub.mono (fun _ _ h => h.elim))
  have hj := live_join hla hpost (fun k hk => Or.inl hk) hu2' hr3 (fun k hk => Or.inl hk) hu3
  have hr2 := hla.ref1 hu2'
  refine ⟨_, _, _, _, _, _, _, hj.old hub3, hl0, by omega, by rw [List.length_eraseIdx_of_lt hq0]; omega, ?_⟩
  have t1 : Upd (fun _ => False) w wb := (hua.trans' hu2' (fun i hi e => by omega))
  exact (t1.trans' hu3 (fun i hi e => by
    rcases e with e | e
    · omega
    · have := owns_ge hr2.own i e; omega)).trans hub3
theorem twice_done {q0 : Nat} (hla : LiveAt wa b mb x B last L M v Cs GP GR) (hua : Upd (fun _ => False) w wa)
    (hp2 : PostAt w2 b mb (last + 1) (aput M (last + 1) (.agg C2))) (hm2 : MsgAt (Mem wa.heap.size w2) w2 C2 (L.getD q0 default).2) (hu2 : Upd (fun k => k = b ∨ k = mb) wa w2)
    (hr3 : RefAt (fun k => GR k ∨ (w2.heap.size ≤ k ∧ k < w3.heap.size)) w3 x B (last + 1) (L ++ [(last + 1, (L.getD q0 default).2)]) v3 Cs3) (hu3 : Upd (fun k => k = x ∨ some k = v.ownBlock) w2 w3)
    (hl0 : 0 ≤ last) (hlq : last ≤ q) (hLq : L.length ≤ q) (hbw : w.heap.size ≤ b ∧ w.heap.size ≤ mb ∧ w.heap.size ≤ x ∧ w.heap.size ≤ B) : LiveOk w b mb x B (q + 1) w3 := by
  obtain ⟨l1, l2, l3⟩ := hla.lb
  have hle := hla.le
  have hpost := post_send hla.post ⟨by omega, by omega⟩ ⟨fun h => by have := (hla.gp _ h).1; omega, fun h => by have := (hla.gp _ h).1; omega⟩ hl0 hp2 hm2 hu2
  have hr2 := hla.ref1 hu2
  have hj := live_join hla hpost (fun k hk => hk) hu2 hr3 (fun k hk => hk) hu3
  refine ⟨_, _, _, _, _, _, _, hj, by omega, by omega, by simp; omega, ?_⟩
  have t1 : Upd (fun _ => False) w w2 := hua.trans' hu2 (fun i hi e => by omega)
  exact t1.trans' hu3 (fun i hi e => by
    rcases e with e | e
    · omega
    · have := owns_ge hr2.own i e; omega)
theorem none_done (hla : LiveAt wa b mb x B last L M v Cs GP GR) (hua : Upd (fun _ => False) w wa) (hu : Upd (fun _ => False) wa w4) (hl0 : 0 ≤ last) (hlq : last ≤ q) (hLq : L.length ≤ q) : LiveOk w b mb x B (q + 1) w4 :=
  ⟨_, _, _, _, _, _, _, hla.old hu, hl0, by omega, by omega, hua.trans hu⟩
end
end Go.Proofs.Ytfodgohleioflaa
