/-
  PlateCrashes: the walk.
-/
import Derived.Test.YtkgkjhhhgcpgkaaTear
import Derived.Test.YtkgkjhhhgcpgkaaDirty
import Derived.Deep.RegionHeld3
import Derived.Deep.RegionLaw
import Derived.BigRegion
import Derived.WalkSmall
namespace Go.Proofs.Ytkgkjhhhgcpgkaa
open Go Go.RowKit Go.MapKept Go.ChangeMaps

theorem info_int : (Try.prog.info? 3).map (fun i => (i.zero, i.size, i.bytes)) = some (some (.int .i64 0), 1, 8) := by kernel_rfl
/-- Ints of its own, so far. -/
def IOwn (B : Nat) (w : World) (v : Value) (l : List Int) : Prop := w.ownsRow B 3 1 v l.length (l.map encI)
theorem IOwn.shape {B : Nat} {w : World} {v : Value} {l : List Int} (h : IOwn B w v l) : ∃ a c, v = .slice a l.length c := by
  rcases h.2 with ⟨rfl, h0⟩ | ⟨g, cap, cur, rfl, _⟩
  · rw [h0]; exact ⟨_, _, rfl⟩
  · exact ⟨_, _, rfl⟩
theorem IOwn.upd {F : Nat → Prop} {B : Nat} {w w' : World} {v : Value} {l : List Int} (h : IOwn B w v l) (u : Upd F w w') (hF : ∀ b, B ≤ b → ¬ F b) : IOwn B w' v l := owns_upd h u hF
theorem IOwn.ints {B : Nat} {w : World} {v : Value} {l : List Int} (h : IOwn B w v l) (hl : l.length ≤ 8192) : Ints w v l := Ints.of_owns (by omega) h
theorem IOwn.ge {B : Nat} {w : World} {v : Value} {l : List Int} (h : IOwn B w v l) : ∀ k, some k = v.ownBlock → B ≤ k := by
  intro k hk
  rcases h.2 with ⟨rfl, _⟩ | ⟨g, cap, cur, rfl, hg, _⟩
  · cases hk
  · cases hk; exact hg
theorem IOwn.notB {B : Nat} {w : World} {v : Value} {l : List Int} (h : IOwn B w v l) : ∀ k, some k = v.ownBlock → NotB w k := by
  intro k hk
  rcases h.2 with ⟨rfl, _⟩ | ⟨g, cap, cur, rfl, hg, hh, _⟩
  · cases hk
  · cases hk
    intro cur' fr e
    rw [hh] at e; cases e
/-- Bytes are appended, at a step of a region that draws its order. -/
theorem step_append_byt {ops : Array Oper} {o : Oper} {a : Act} {K : Act → World → Prop} {Q : Exit → Act → World → Prop} {E : Prop} {w : World} (hgd : o.guard = none) (s x : Operand)
    (ho : o.op = .call { callee := .builtin .append, args := #[s, x], argTypes := #[28, 28] })
    (B : Nat) (v sv : Value) (l m : List Int) (hs : a.eval s = v) (hown : Own B w v l) (hx : a.eval x = sv) (hb : BytV w sv m) (hlen : l.length + m.length ≤ 1099511627776) (hB : B ≤ w.heap.size)
    (h : ∀ v' w', Own B w' v' (l ++ m) → Upd (fun k => B ≤ k) w w' → K (a.put o.dst v') w') : if Region.wanted o (yielded ops a.tmps) = true then Oper.wp Try.prog o a w K Q else E := by
  have hw : Region.wanted o (yielded ops a.tmps) = true := by simp [Region.wanted, hgd]
  rw [if_pos hw]
  obtain ⟨i0, hi, hz0, hz1, hz2⟩ := info_parts info_u8
  rcases hb with ⟨rfl, ad, c, rfl⟩ | ⟨k, o', c, rfl, hc⟩
  · have hrun : ∀ ty, (Builtin.append_ #[28, 28] ty #[v, .slice ad 0 c]).run Try.prog w = .ok v w := by
      intro ty
      have hsrc : Src Try.prog i0.size 28 (.slice ad 0 c) 0 [] w := by
        cases ad with
        | none => exact Src.ofNil w Try.underlying28 c
        | some ad => exact Src.ofSlice w Try.underlying28 ad 0 c [] (by simp) (by simp) (by simp)
      rcases hown.2 with ⟨rfl, _⟩ | ⟨g, cap, cur, rfl, _, _, hle, _⟩
      · exact run_append_nothing w _ _ ty _ i0 Try.underlying28 hi none 0 0 (Nat.le_refl _) _ hsrc
      · exact run_append_nothing w _ _ ty _ i0 Try.underlying28 hi _ _ _ hle _ hsrc
    unfold Oper.wp execOp
    simp only [ho, resolve, invoke, builtin, Sem.run_bind, Sem.run_pure, Result.andThen_ok, List.map_toArray, List.map_cons, List.map_nil, hs, hx, hrun]
    exact h v w (by simpa using hown) (Upd.refl _ _)
  · refine wp_append_own _ s x 28 ho B 5 i0 _ 1 1 Try.underlying28 hi hz0 hz1 hz2 rfl (by decide) v l.length (l.map (Value.int .u8)) hs hown ⟨k, o', none⟩ m.length c (m.map (Value.int .u8)) hx (by simp) ?_ ?_ (by unfold maxLen; omega) (by omega) hB ?_
    · intro j u hu
      rw [List.getElem?_map] at hu
      cases hq : m[j]? with
      | none => rw [hq] at hu; cases hu
      | some y =>
        rw [hq] at hu
        cases hu
        have hj : j < m.length := (List.getElem?_eq_some_iff.1 hq).1
        rw [Addr.add_lit, hc j hj, List.getD_eq_getElem?_getD, hq]
        rfl
    · intro u hu
      obtain ⟨y, _, rfl⟩ := List.mem_map.1 hu
      rfl
    · intro v' w' h1 h2 _
      refine h v' w' ?_ ((Upd.of_grown h2).mono (fun k _ e => hown.ge k e))
      unfold Own
      rw [List.length_append, List.map_append]
      exact h1
/-- A call of one argument, at such a step. -/
theorem step_call1 {P : Program} {ops : Array Oper} {o : Oper} {a : Act} {K : Act → World → Prop} {Q : Exit → Act → World → Prop} {E : Prop} {w : World} (hgd : o.guard = none) (f : FuncId) (s : Operand) (ts : Array TypeId)
    (ho : o.op = .call { callee := .value (.func f), args := #[s], argTypes := ts }) (he : ∀ args w, (callFunc f args).run P w = .ok (.enter f args) w) (v : Value) (hs : a.eval s = v) (Post : Ending → World → Prop) (hc : Calls P f #[v] w Post)
    (h : ∀ e w', Post e w' → ∃ v', e = .returned v' ∧ K (a.put o.dst v') w') : if Region.wanted o (yielded ops a.tmps) = true then Oper.wp P o a w K Q else E := by
  have hw : Region.wanted o (yielded ops a.tmps) = true := by simp [Region.wanted, hgd]
  rw [if_pos hw]
  have e1 : (execOp a.eval o).run P w = .ok (.enter f #[v]) w := by
    unfold execOp
    simp [ho, resolve, Deferred.ofValue, invoke, hs, he, show a.eval (Operand.func f) = Value.func (.func f) #[] #[] from rfl]
  unfold Oper.wp
  rw [e1, Oper.upon_enter]
  refine hc.mono ?_
  intro e w' hp
  obtain ⟨v', rfl, hk⟩ := h e w' hp
  exact hk
theorem bit01 {mask : Int} (h0 : 0 ≤ mask) (h1 : mask ≤ 18446744073709551615) (x : Nat) : bits BinOp.and IntKind.u64 (mask / 2 ^ x) 1 = 0 ∨ bits BinOp.and IntKind.u64 (mask / 2 ^ x) 1 = 1 := by
  have hp : (0 : Int) < 2 ^ x := Int.pow_pos (by decide)
  have a0 : 0 ≤ mask / 2 ^ x := Int.ediv_nonneg h0 (Int.le_of_lt hp)
  have a1 : mask / 2 ^ x ≤ 18446744073709551615 := Int.le_trans (Int.ediv_le_self _ h0) h1
  rw [and_one_u64 _ a0 a1]
  omega
/-- One number is appended to numbers of its own. -/
theorem wpList_append_int1 {ops : Array Oper} {rest : List Oper} {o : Oper} {a : Act} {Q : Exit → Act → World → Prop} {w : World} (hgd : o.guard = none) (s x : Operand)
    (ho : o.op = .call { callee := .builtin .append, args := #[s, x], argTypes := #[41, 41] })
    (B : Nat) (v : Value) (l : List Int) (n : Int) (b c : Nat) (hs : a.eval s = v) (hown : IOwn B w v l) (hx : a.eval x = .slice (some ⟨b, 0, none⟩) 1 c) (hb : w.cell? ⟨b, 0, none⟩ = some (encI n)) (hlen : l.length ≤ 1099511627776) (hB : B ≤ w.heap.size)
    (h : ∀ v' w', IOwn B w' v' (l ++ [n]) → Upd (fun k => some k = v.ownBlock) w w' → wpList Try.prog ops Q rest (a.put o.dst v') w') : wpList Try.prog ops Q (o :: rest) a w := by
  obtain ⟨i0, hi, hz0, hz1, hz2⟩ := info_parts info_int
  refine wpList_append_own _ hgd s x 41 ho B 3 i0 _ 1 8 Try.underlying41 hi hz0 hz1 hz2 rfl (by decide) v l.length (l.map encI) hs hown ⟨b, 0, none⟩ 1 c [encI n] hx rfl ?_ (by simp [Value.oneCell', encI]) (by unfold maxLen; omega) (by omega) hB ?_
  · intro j u hu
    cases j with
    | zero => cases hu; rw [Addr.add_lit]; exact hb
    | succ j => cases hu
  · intro v' w' h1 h2 _
    refine h v' w' ?_ (Upd.of_grown h2)
    unfold IOwn
    rw [List.length_append, List.map_append]
    exact h1
/-- Whether a mask has a bit. -/
def has (mask i : Int) : Bool := bits BinOp.and IntKind.u64 (mask / 2 ^ i.toNat) 1 == 1
theorem has_nat {mask : Int} {x : Nat} {r : Bool} (h : has mask x = r) : (bits BinOp.and IntKind.u64 (mask / 2 ^ x) 1 == 1) = r := h
structure CrR (w2 : World) (hw : Nat) (D : List (List Int)) (C : Int → Option (List Int)) (mask : Int) (ks : List Int) (wasv v i : Value) (q : Nat) (wr : World) : Prop where
  i : i = .int .i64 q
  le : q ≤ ks.length
  own : IOwn w2.heap.size wr v ((ks.take q).filter (has mask))
  was : Secs wr wasv hw (viewL D (keep C ((ks.take q).filter (has mask))))
  up : Upd (fun k => k = hw) w2 wr
theorem filt_yes {mask : Int} {ks : List Int} {q : Nat} (hq : q < ks.length) (h : has mask (ks.getD q 0) = true) : (ks.take (q + 1)).filter (has mask) = (ks.take q).filter (has mask) ++ [ks.getD q 0] := by
  rw [List.take_succ_eq_append_getElem hq, List.filter_append]
  rw [List.getD_eq_getElem?_getD, List.getElem?_eq_getElem hq] at *
  simp only [Option.getD_some] at *
  rw [List.filter_cons_of_pos h]
  rfl
theorem filt_no {mask : Int} {ks : List Int} {q : Nat} (hq : q < ks.length) (h : has mask (ks.getD q 0) = false) : (ks.take (q + 1)).filter (has mask) = (ks.take q).filter (has mask) := by
  rw [List.take_succ_eq_append_getElem hq, List.filter_append]
  rw [List.getD_eq_getElem?_getD, List.getElem?_eq_getElem hq] at *
  simp only [Option.getD_some] at *
  rw [List.filter_cons_of_neg (by rw [h]; simp)]
  simp
/-- One more is kept. -/
theorem Secs.keep1 {w : World} {v sv : Value} {h x : Nat} {D : List (List Int)} {C : Int → Option (List Int)} {K : List Int} (H : Secs w v h (viewL D (keep C K))) (hx : x < D.length) (hs : Sec w sv (view D C x)) :
    Secs (w.setCell ⟨h, x, none⟩ sv) v h (viewL D (keep C (K ++ [(x : Int)]))) := by
  have h1 := (H.put (q := x) (by rw [viewL_length]; exact hx) hs).1
  refine h1.congr (by rw [List.length_set, viewL_length, viewL_length]) (fun i hi => ?_)
  rw [List.length_set, viewL_length] at hi
  rw [viewL_get hi]
  by_cases e : i = x
  · subst e
    rw [List.getD_eq_getElem?_getD, List.getElem?_set_self (by rw [viewL_length]; exact hi)]
    unfold view keep
    simp
  · rw [List.getD_eq_getElem?_getD, List.getElem?_set_ne (fun e' => e e'.symm), ← List.getD_eq_getElem?_getD, viewL_get hi]
    have e' : ¬ (i : Int) = x := by omega
    unfold view keep
    simp [e']
/-- What was there, behind the torn one. -/
theorem Secs.torn1 {w : World} {v : Value} {h y n : Nat} {D : List (List Int)} {C : Int → Option (List Int)} {K : List Int} (hK : (y : Int) ∉ K)
    (H : Secs w v h ((viewL D (keep C K)).set y ((view D C y).take n ++ (view D (keep C K) y).drop n))) : Secs w v h (viewL D (torn D C K y n)) := by
  refine H.congr (by rw [List.length_set, viewL_length, viewL_length]) (fun i hi => ?_)
  rw [List.length_set, viewL_length] at hi
  rw [viewL_get hi]
  by_cases e : i = y
  · subst e
    rw [List.getD_eq_getElem?_getD, List.getElem?_set_self (by rw [viewL_length]; exact hi)]
    unfold view keep torn
    rw [if_neg hK, if_neg hK]
    cases C i <;> simp
  · rw [List.getD_eq_getElem?_getD, List.getElem?_set_ne (fun e' => e e'.symm), ← List.getD_eq_getElem?_getD, viewL_get hi]
    have e' : ¬ (i : Int) = y := by omega
    unfold view keep torn
    simp [e']
theorem clone_byt (w : World) (k o n c : Nat) (l : List Int) (hl : l.length = n) (hn : n ≤ 64) (hc : ∀ j, j < n → w.cell? ⟨k, o + j, none⟩ = some (.int .u8 (l.getD j 0))) : Calls Try.prog 21 #[.slice (some ⟨k, o, none⟩) n c] w (OwnPost w l) := by
  refine (Try.bytes_Clone_at ⟨k, o, none⟩ n c l w hl (by omega) (fun i hi => by rw [Addr.add_lit]; exact hc i hi)).mono ?_
  rintro e w' ⟨v', rfl, ho, _, hb⟩
  exact ⟨v', rfl, by unfold Own; rw [hl]; exact ho, Upd.of_below hb⟩
theorem clone_byt2 (w : World) (k o n c : Nat) (l : List Int) (hl : l.length = n) (hn : n ≤ 64) (hb : BytV w (.slice (some ⟨k, o, none⟩) n c) l) : Calls Try.prog 21 #[.slice (some ⟨k, o, none⟩) n c] w (OwnPost w l) :=
  clone_byt w k o n c l hl hn (fun j hj => by
    rcases hb with ⟨e, ad, c', hv⟩ | ⟨k', o', c', hv, hc⟩
    · rw [e] at hl; simp at hl; omega
    · cases hv; exact hc j (by rw [hl]; exact hj))
def CutB (w2 : World) (hw : Nat) (wasv : Value) (L : List (List Int)) (wc : World) : Prop := Secs wc wasv hw L ∧ Upd (fun k => k = hw) w2 wc
set_option maxRecDepth 100000 in
set_option maxHeartbeats 8000000 in
theorem crashes_walk (w : World) (v : Value) (ds : List DoP) (mask t n : Int) (hv : DosP w v ds) (hm0 : 0 ≤ mask) (hm1 : mask ≤ 18446744073709551615) : Calls Try.prog 5 #[v, .int .u64 mask, .int .i64 t, .int .i64 n] w (BoolPost w true) := by
  obtain ⟨va, vc, rfl⟩ : ∃ a c, v = .slice a ds.length c := by
    rcases hv with ⟨rfl, a, c, h⟩ | ⟨b, o, c, h, _⟩
    · exact ⟨a, c, h⟩
    · exact ⟨_, _, h⟩
  have HV := Lib.hid hv; clear hv
  have HBIT := Lib.hid (bit01 hm0 hm1); clear hm0 hm1
  obtain ⟨y, hy, hy6⟩ := un6_nat t
  have s6 := un6_is t
  rw [hy] at s6
  clear hy
  obtain ⟨T, hT, hT64⟩ := tornN n
  go_enter Try.func5, Try.ntmps5
  go_wp2_with fail
  refine (written_any _ _ ds HV.out).mono ?_
  rintro e w1 ⟨b, ab, cm, hn, hw, D, C, N, wasv, nowv, rfl, hI⟩
  obtain ⟨nc, rfl⟩ := hI.now.shape6 hI.nlen
  obtain ⟨wc0, rfl⟩ := hI.was.shape6 hI.six
  have HI := Lib.hid hI; clear hI
  go_wp2_with fail
  refine (dirty_any _ b ab cm D C HI.out.p).mono ?_
  rintro e w2 ⟨kv, ks, rfl, hk2, hkf, hkl, hks, hu2⟩
  obtain ⟨ka, kc, rfl⟩ := hk2.shape
  have HU2 := Lib.hid hu2; clear hu2
  have HI2 := Lib.hid (HI.out.old HU2.out)
  have HK := Lib.hid hk2; clear hk2
  have HKF := Lib.hid hkf; clear hkf
  have HKS := Lib.hid hks; clear hks
  have hlw := HI.out.was.lt
  have hwb : hw ≠ b := fun e => by
    obtain ⟨cur, ht⟩ := HI.out.p.tag
    obtain ⟨_, _, _, _, hk, _⟩ := HI.out.was
    rw [e, ht] at hk; cases hk
  have hhn : ¬ hn = hw := fun e => by have := HI.out.hlo; have := HI.out.ne; omega
  have HHN := hhn; clear hhn
  have hNB : ∀ k, k = hw → NotB w2 k := fun k e => by rw [e]; exact HI2.out.was.notB
  have HNB := Lib.hid hNB; clear hNB
  have hst : CrR w2 hw D C mask ks (.slice (some ⟨hw, 0, none⟩) 6 wc0) (.slice none 0 0) (.int .i64 0) 0 w2 :=
    ⟨rfl, Nat.zero_le _, ⟨rfl, .inl ⟨rfl, rfl⟩⟩, HI2.out.was.congr (viewL_length _ _) (fun i hi => by rw [viewL_get hi]; show view D (keep C []) i = _; rw [keep_nil]; rfl), Upd.refl _ _⟩
  have HST := Lib.hid hst; clear hst
  go_wp2_with fail
  go_loopw [12, 27] (fun v i wr => ∃ q : Nat, CrR w2 hw D C mask ks (.slice (some ⟨hw, 0, none⟩) 6 wc0) v i q wr) (fun _ i _ => ks.length - (intOf i).toNat)
  case atStart => exact ⟨0, HST.out⟩
  case round =>
    obtain ⟨q, hR⟩ := hrel
    obtain rfl := hR.i
    have hq := hR.le
    obtain ⟨ra, rc, rfl⟩ := hR.own.shape
    have HR := Lib.hid hR; clear hR
    by_cases hlt : q < ks.length
    · --{A
      obtain ⟨bb, o, hka, hcell, hbb⟩ : ∃ bb o, ka = some ⟨bb, o, none⟩ ∧ wr.cell? ⟨bb, o + q, none⟩ = some (.int .i64 (ks.getD q 0)) ∧ w1.heap.size ≤ bb := by
        rcases HK.out.cells with ⟨e, _⟩ | ⟨bb, o, c, e, _, hc⟩
        · rw [e] at hlt; exact absurd hlt (Nat.not_lt_zero _)
        · cases e
          have h1 := hc q hlt
          have h2 := HKF.out bb o _ _ rfl
          exact ⟨bb, o, rfl, (HR.out.up.cell (p := ⟨bb, o + q, none⟩) (World.block_lt_of_cell? _ _ h1) (by show bb ≠ hw; omega)).trans h1, h2⟩
      subst hka
      obtain ⟨x, hx, hx6⟩ : ∃ x : Nat, ks.getD q 0 = x ∧ x < 6 := by
        have hm : ks.getD q 0 ∈ ks := by rw [List.getD_eq_getElem?_getD, List.getElem?_eq_getElem hlt]; exact List.getElem_mem hlt
        have h1 := (HKS.out _).1 hm
        obtain ⟨l, hl⟩ := Option.ne_none_iff_exists'.1 h1
        have h2 := HI.out.p.keys _ l hl
        rw [HI.out.six] at h2
        exact ⟨(ks.getD q 0).toNat, by omega, by omega⟩
      have hyes := filt_yes (mask := mask) hlt
      have hno := filt_no (mask := mask) hlt
      rw [hx] at hcell hyes hno
      cases hb : has mask x with
      | false =>
        have hbb' := has_nat hb
        have HNO := Lib.hid (hno hb); clear hno hyes
        clear hb
        go_wp2_with fail
        go_roundw
        case rel => exact ⟨q + 1, rfl, hlt, by rw [HNO.out]; exact HR.out.own, by rw [HNO.out]; exact HR.out.was, HR.out.up⟩
        case measure => simp [intOf]; omega
      | true =>
        have hbb' := has_nat hb
        have HYES := Lib.hid (hyes hb); clear hno hyes
        clear hb
        have hown0 := HR.out.own
        have hwas0 := HR.out.was
        have hK0 : ((ks.take q).filter (has mask)).length ≤ 8192 := Nat.le_trans (List.length_filter_le _ _) (by rw [List.length_take]; omega)
        generalize (ks.take q).filter (has mask) = K0 at hown0 HYES hwas0 hK0
        have HOWN := Lib.hid hown0; clear hown0
        have HWAS0 := Lib.hid hwas0; clear hwas0
        go_wp2_with (at_builtin; go_must (refine wpList_append_int1 rfl _ _ rfl w2.heap.size _ K0 x wr.heap.size 1 rfl ?hown rfl ?hcell ?hlen ?hB ?_))
        case hown => exact HOWN.out.upd ((Upd.refl (fun _ => False) _).alloc _) (fun _ _ h => h)
        case hcell => simp [go_sem, encI]
        case hlen => omega
        case hB => simp; have := HR.out.up.size; omega
        intro v' w3 hown3 hu3
        obtain ⟨ra', m', rc', rfl, hm'⟩ : ∃ a m c, v' = .slice a m c ∧ m = (K0 ++ [(x : Int)]).length := by
          obtain ⟨a, c, e⟩ := hown3.shape
          exact ⟨a, _, c, e, rfl⟩
        clear hm'
        have HOWN3 := Lib.hid hown3; clear hown3
        have hu4 : Upd (fun k => some k = (Value.slice ra K0.length rc).ownBlock) wr w3 := ((Upd.refl _ _).alloc _).trans hu3
        have hnb4 := HOWN.out.notB
        have hge4 := HOWN.out.ge
        have hup3 : Upd (fun k => k = hw) w2 w3 := HR.out.up.trans' hu4 (fun i hi e => by have := hge4 i e; omega)
        have hwas3 := HWAS0.out.upd hu4 (fun e => by have := hge4 hw e; have := HI2.out.was.lt; omega) hnb4
        have hnow3 := (HI2.out.now.upd HR.out.up (fun e => HHN e) HNB.out).upd hu4 (fun e => by have := hge4 hn e; have := HI2.out.now.lt; omega) hnb4
        obtain ⟨sv, hc1, hsv, _⟩ := hnow3.cellAt (i := x) (by rw [HI.out.nlen]; exact hx6)
        rw [HI.out.is x hx6] at hsv
        obtain ⟨sk, so, sc, rfl, _⟩ := hsv.shape
        have HSV := Lib.hid hsv; clear hsv
        obtain ⟨sv2, hc2, _, hf2⟩ := hwas3.cellAt (i := x) (by rw [viewL_length, HI.out.six]; exact hx6)
        have HWAS3 := Lib.hid hwas3; clear hwas3 hnow3 hnb4 hge4 hu4 hu3
        have HUP3 := Lib.hid hup3; clear hup3
        go_wp2_with fail
        go_roundw
        case rel => exact ⟨q + 1, rfl, hlt, by rw [HYES.out]; exact IOwn.upd HOWN3.out ((Upd.refl (fun k => k = hw) _).setCell (by exact Or.inl rfl) _) (fun b hb e => by have := HI2.out.was.lt; omega), by rw [HYES.out]; exact HWAS3.out.keep1 (by rw [HI.out.six]; exact hx6) HSV.out, HUP3.out.setCell (by exact Or.inl rfl) _⟩
        case measure => simp [intOf]; omega
      --}A
    · obtain rfl : q = ks.length := by omega
      --{B
      have hown := HR.out.own
      have hwas := HR.out.was
      have hup := HR.out.up
      rw [List.take_length] at hown hwas ⊢
      clear HR HST
      have hKm : ∀ i, i ∈ ks.filter (has mask) ↔ i ∈ ks ∧ has mask i = true := fun i => List.mem_filter
      have hKl : (ks.filter (has mask)).length ≤ 8192 := Nat.le_trans (List.length_filter_le _ _) hkl
      generalize ks.filter (has mask) = K at hown hwas hKm hKl ⊢
      have HKM := Lib.hid hKm; clear hKm
      have hne := HI.out.ne
      have hlo := HI.out.lo
      have hhlo := HI.out.hlo
      have HP := Lib.hid (HI2.out.p.upd hup (fun e => hwb e.symm) (fun e => by omega) (fun e => by omega) HNB.out)
      have HN := Lib.hid (HI2.out.now.upd hup (fun e => by omega) HNB.out)
      have HKI := Lib.hid (hown.ints hKl)
      have HKG := Lib.hid hown.ge; clear hown
      have HUP := Lib.hid hup; clear hup
      have hD6 := HI.out.six
      have hlb := HI2.out.p.lt
      obtain ⟨sv, hc1, hsv, _⟩ := HN.out.cellAt (i := y) (by rw [HI.out.nlen]; exact hy6)
      rw [HI.out.is y hy6] at hsv
      obtain ⟨sk, so, sc, rfl, _⟩ := hsv.shape
      have HSV := Lib.hid hsv; clear hsv
      obtain ⟨sv2, hc2, hsv2, hf2⟩ := hwas.cellAt (i := y) (by rw [viewL_length, hD6]; exact hy6)
      rw [viewL_get (by rw [hD6]; exact hy6)] at hsv2
      obtain ⟨sk2, so2, sc2, rfl, _⟩ := hsv2.shape
      have HSV2 := Lib.hid hsv2; clear hsv2
      have HWAS := Lib.hid hwas; clear hwas
      have hcap1 := HSV.out.cap
      have hcap2 := HSV2.out.cap
      clear HI2 HK HKF
      go_upto_if 59 with (fail)
      go_cut [2] (fun v2 wc => v2 = .int .i64 y ∧ CutB wr hw (.slice (some ⟨hw, 0, none⟩) 6 wc0) (viewL D (torn D C K y T)) wc)
      case first =>
        --{F
        cases hb0 : (bits BinOp.and IntKind.u64 (mask / 2 ^ y) 1 == 0) with
        | false =>
          have heq : viewL D (keep C K) = viewL D (torn D C K y T) := by
            have h1 : has mask y = true := by
              show (bits BinOp.and IntKind.u64 (mask / 2 ^ y) 1 == 1) = true
              rcases HBIT.out y with e | e
              · rw [e] at hb0; cases hb0
              · rw [e]; rfl
            cases hC : C y with
            | none => rw [torn_none hC]
            | some l => rw [torn_in ((HKM.out y).2 ⟨(HKS.out y).2 (by rw [hC]; exact fun e => by cases e), h1⟩)]
          have HEQ := Lib.hid heq; clear heq
          go_wp2_with fail
          go_meet
          case rel => exact ⟨by first | rfl | trivial | exact congrArg (Value.int .i64) s6, by rw [← HEQ.out]; exact HWAS.out, Upd.refl _ _⟩
        | true =>
          have hnin : (y : Int) ∉ K := fun e => by
            have h1 : (bits BinOp.and IntKind.u64 (mask / 2 ^ y) 1 == 1) = true := ((HKM.out y).1 e).2
            rcases HBIT.out y with e | e
            · rw [e] at h1; cases h1
            · rw [e] at hb0; cases hb0
          have HNIN := Lib.hid hnin; clear hnin
          have hsp : (¬ sc2 = T) ∨ (sc2 = 64 ∧ T = 64) := by omega
          obtain ⟨X1, hX1⟩ : ∃ X, X = (view D C y).take T := ⟨_, rfl⟩
          obtain ⟨X2, hX2⟩ : ∃ X, X = (view D (keep C K) y).drop T := ⟨_, rfl⟩
          have hl1 : X1.length = T := by rw [hX1, List.length_take]; have := HSV.out.len; omega
          have hl2 : X2.length = 64 - T := by rw [hX2, List.length_drop]; have := HSV2.out.len; omega
          have hbv1 : ∀ (W : World) c, Upd (fun _ => False) wr W → BytV W (.slice (some ⟨sk, so, none⟩) T c) X1 := fun W c u => by rw [hX1]; exact (BytV.front HSV.out hT64).old u
          have hbv2 : ∀ (W : World) c v, (v = .slice (some ⟨sk2, so2 + T, none⟩) (64 - T) c ∨ T = 64 ∧ v = .slice (some ⟨sk2, so2, none⟩) 0 0) → Upd (fun _ => False) wr W → BytV W v X2 := fun W c v e u => by
            rw [hX2]
            rcases e with rfl | ⟨rfl, rfl⟩
            · exact (BytV.back HSV2.out hT64).old u
            · exact BytV.none HSV2.out
          have HX1 := Lib.hid hX1; clear hX1
          have HX2 := Lib.hid hX2; clear hX2
          have HBV1 := Lib.hid hbv1; clear hbv1
          have HBV2 := Lib.hid hbv2; clear hbv2
          have HL1 := Lib.hid hl1; clear hl1
          have HL2 := Lib.hid hl2; clear hl2
          have i1 : (0 : Int) ≤ (T : Int) := by omega
          have i2 : (T : Int) ≤ 64 := by omega
          have i3 : (T : Int) ≤ (sc : Int) := by omega
          have i4 : (64 : Int) ≤ (sc : Int) := by omega
          have i5 : (64 : Int) ≤ (sc2 : Int) := by omega
          have i6 : (0 : Int) ≤ (y : Int) := by omega
          have i7 : (y : Int) < 6 := by omega
          rcases hsp with hsp | ⟨rfl, rfl⟩
          · go_wp2_with fail
            go_region_law (first
              | (refine step_call1 (by rfl) 21 _ _ (by rfl) (enters_of Try.func21 (by kernel_rfl) rfl) _ (by rfl) _ (clone_byt2 _ sk so T _ X1 HL1.out hT64 (HBV1.out _ _ (by first | exact Upd.refl _ _ | exact (Upd.refl _ _).drew))) ?_; rintro e w3 ⟨v', rfl, hv', hu'⟩; refine ⟨_, rfl, ?_⟩; obtain ⟨a', c', rfl⟩ := hv'.shape; have hu3 : Upd (fun _ => False) wr w3 := (by first | exact hu' | exact ((Upd.refl _ _).drew).trans hu'); have wa3 := (hu3.cell (p := ⟨hn, y, none⟩) (World.block_lt_of_cell? _ _ hc1) (fun h => h)).trans hc1; have wb3 := (hu3.cell (p := ⟨hw, y, none⟩) (World.block_lt_of_cell? _ _ hc2) (fun h => h)).trans hc2; have wf3 := (hu3.frozen (p := ⟨hw, y, none⟩) (World.block_lt_of_cell? _ _ hc2) (fun h => h)).trans hf2; have hb3 := hv'.lower (B' := wr.heap.size) (by simp); have HV3 := Lib.hid hb3; clear hb3 hv'; clear hu'; have HU3 := Lib.hid hu3; clear hu3)
              | (refine step_append_byt (by rfl) _ _ (by rfl) wr.heap.size _ _ X1 X2 (by rfl) HV3.out (by rfl) (HBV2.out _ _ _ (Or.inl rfl) HU3.out) (by have := HL1.out; have := HL2.out; omega) HU3.out.size ?_; intro v4 w4 hv4 hu4; obtain ⟨a4, m4, c4, rfl, hm4⟩ : ∃ a m c, v4 = .slice a m c ∧ m = (X1 ++ X2).length := (by obtain ⟨a, c, e⟩ := hv4.shape; exact ⟨a, _, c, e, rfl⟩); clear hm4; have hu5 : Upd (fun _ => False) wr w4 := HU3.out.trans' hu4 (fun i hi e => by omega); have wa4 := (hu5.cell (p := ⟨hn, y, none⟩) (World.block_lt_of_cell? _ _ hc1) (fun h => h)).trans hc1; have wb4 := (hu5.cell (p := ⟨hw, y, none⟩) (World.block_lt_of_cell? _ _ hc2) (fun h => h)).trans hc2; have wf4 := (hu5.frozen (p := ⟨hw, y, none⟩) (World.block_lt_of_cell? _ _ hc2) (fun h => h)).trans hf2; have HV4 := Lib.hid hv4; clear hv4; clear hu4; have HU5 := Lib.hid hu5; clear hu5))
            all_goals
              go_wp2_with fail
              go_meet
              case rel => exact ⟨by first | rfl | trivial | exact congrArg (Value.int .i64) s6, Secs.torn1 HNIN.out (by rw [← HX1.out, ← HX2.out]; exact ((HWAS.out.old HU5.out).put (q := y) (by rw [viewL_length, hD6]; exact hy6) (HV4.out.sec (by have := HL1.out; have := HL2.out; rw [List.length_append]; omega))).1), (HU5.out.mono (G := fun k => k = hw) (fun _ _ h => h.elim)).setCell (by exact Or.inl rfl) _⟩
          · go_wp2_with fail
            go_region_law (first
              | (refine step_call1 (by rfl) 21 _ _ (by rfl) (enters_of Try.func21 (by kernel_rfl) rfl) _ (by rfl) _ (clone_byt2 _ sk so 64 _ X1 HL1.out hT64 (HBV1.out _ _ (by first | exact Upd.refl _ _ | exact (Upd.refl _ _).drew))) ?_; rintro e w3 ⟨v', rfl, hv', hu'⟩; refine ⟨_, rfl, ?_⟩; obtain ⟨a', c', rfl⟩ := hv'.shape; have hu3 : Upd (fun _ => False) wr w3 := (by first | exact hu' | exact ((Upd.refl _ _).drew).trans hu'); have wa3 := (hu3.cell (p := ⟨hn, y, none⟩) (World.block_lt_of_cell? _ _ hc1) (fun h => h)).trans hc1; have wb3 := (hu3.cell (p := ⟨hw, y, none⟩) (World.block_lt_of_cell? _ _ hc2) (fun h => h)).trans hc2; have wf3 := (hu3.frozen (p := ⟨hw, y, none⟩) (World.block_lt_of_cell? _ _ hc2) (fun h => h)).trans hf2; have hb3 := hv'.lower (B' := wr.heap.size) (by simp); have HV3 := Lib.hid hb3; clear hb3 hv'; clear hu'; have HU3 := Lib.hid hu3; clear hu3)
              | (refine step_append_byt (by rfl) _ _ (by rfl) wr.heap.size _ _ X1 X2 (by rfl) HV3.out (by rfl) (HBV2.out _ 0 _ (by first | exact Or.inr ⟨rfl, rfl⟩ | exact Or.inr ⟨trivial, rfl⟩ | exact Or.inr rfl) HU3.out) (by have := HL1.out; have := HL2.out; omega) HU3.out.size ?_; intro v4 w4 hv4 hu4; obtain ⟨a4, m4, c4, rfl, hm4⟩ : ∃ a m c, v4 = .slice a m c ∧ m = (X1 ++ X2).length := (by obtain ⟨a, c, e⟩ := hv4.shape; exact ⟨a, _, c, e, rfl⟩); clear hm4; have hu5 : Upd (fun _ => False) wr w4 := HU3.out.trans' hu4 (fun i hi e => by omega); have wa4 := (hu5.cell (p := ⟨hn, y, none⟩) (World.block_lt_of_cell? _ _ hc1) (fun h => h)).trans hc1; have wb4 := (hu5.cell (p := ⟨hw, y, none⟩) (World.block_lt_of_cell? _ _ hc2) (fun h => h)).trans hc2; have wf4 := (hu5.frozen (p := ⟨hw, y, none⟩) (World.block_lt_of_cell? _ _ hc2) (fun h => h)).trans hf2; have HV4 := Lib.hid hv4; clear hv4; clear hu4; have HU5 := Lib.hid hu5; clear hu5))
            all_goals
              go_wp2_with fail
              go_meet
              case rel => exact ⟨by first | rfl | trivial | exact congrArg (Value.int .i64) s6, Secs.torn1 HNIN.out (by rw [← HX1.out, ← HX2.out]; exact ((HWAS.out.old HU5.out).put (q := y) (by rw [viewL_length, hD6]; exact hy6) (HV4.out.sec (by have := HL1.out; have := HL2.out; rw [List.length_append]; omega))).1), (HU5.out.mono (G := fun k => k = hw) (fun _ _ h => h.elim)).setCell (by exact Or.inl rfl) _⟩
        --}F
      case rest =>
        obtain ⟨rfl, hwc, huc⟩ := hcut
        have HNBr : ∀ k, k = hw → NotB wr k := fun k e => by rw [e]; exact HWAS.out.notB
        have HPc := Lib.hid (HP.out.upd huc (fun e => hwb e.symm) (fun e => by omega) (fun e => by omega) HNBr)
        have HKc := Lib.hid (HKI.out.upd huc (fun kb o n c e _ e2 => by have := HKG.out kb (by rw [e]; rfl); have := HU2.out.size; omega))
        have HU3 := Lib.hid ((HI.out.up.trans HU2.out).trans' (HUP.out.trans2 huc (fun i _ e => e)) (fun i hi e => by omega)); clear huc
        have HWC := Lib.hid hwc; clear hwc
        go_wp2_with fail
        refine (crash_any _ b ab cm D C _ K y n T hT hT64 HPc.out HKc.out hKl (fun kb o c k e => by have := HKG.out kb (by rw [e]; rfl); omega)).mono ?_
        rintro e w5 ⟨rfl, cm2, hp5, _, hu5⟩
        have HWC5 := Lib.hid (HWC.out.upd hu5 (fun e => by rcases e with e | e <;> omega) HPc.out.bNotB)
        have HP5 := Lib.hid hp5; clear hp5
        have HU5 := Lib.hid (HU3.out.trans' hu5 (fun i hi e => by rcases e with e | e <;> omega)); clear hu5
        have hL6 : (viewL D (torn D C K y T)).length = 6 := by rw [viewL_length]; exact hD6
        generalize viewL D (torn D C K y T) = L at HWC5 HP5 hL6
        clear HWC
        go_wp2_with fail
        refine (image_any _ b ab cm2 L _ HP5.out).mono ?_
        rintro e w6 ⟨iv, ih, rfl, hsi, hhi, hu6⟩
        obtain ⟨ic, rfl⟩ := hsi.shape6 hL6
        have HSI := Lib.hid hsi; clear hsi hhi
        have HP6 := Lib.hid (HP5.out.old hu6)
        have HWC6 := Lib.hid (HWC5.out.old hu6)
        have HU6 := Lib.hid (HU5.out.trans hu6); clear hu6
        go_wp2_with fail
        refine (sameTexts _ ih hw _ _ L HSI.out HWC6.out (by rw [hL6]; omega)).mono ?_
        rintro e w7 ⟨rfl, hu7⟩
        have HP7 := Lib.hid (HP6.out.old hu7)
        have HU7 := Lib.hid (HU6.out.trans hu7); clear hu7
        go_wp2_with fail
        refine (dirty_any _ b ab cm2 L _ HP7.out).mono ?_
        rintro e w8 ⟨dv, ks', rfl, hk8, _, _, hks', hu8⟩
        have hnil : ks' = [] := by
          cases ks' with
          | nil => rfl
          | cons a r => exact absurd rfl ((hks' a).1 (List.mem_cons_self ..))
        subst hnil
        obtain ⟨da, dc, rfl⟩ := hk8.shape
        clear hk8 hks'
        have HU8 := Lib.hid (HU7.out.trans hu8); clear hu8
        go_wp2_with fail
        go_ret
        exact ⟨rfl, HU8.out⟩
      --}B
end Go.Proofs.Ytkgkjhhhgcpgkaa
