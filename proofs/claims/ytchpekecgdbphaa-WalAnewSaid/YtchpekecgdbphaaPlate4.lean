/-
  Clones of sectors: clone, Image, Texts.
-/
import Derived.Test.YtchpekecgdbphaaPlate3
namespace Go.Proofs.Ytchpekecgdbphaa
open Go Go.RowKit Go.MapKept Go.ChangeMaps

theorem info_sl : (Try.prog.info? 28).map (fun i => (i.zero, i.size, i.bytes)) = some (some (.slice none 0 0), 1, 24) := by kernel_rfl
theorem Upd.of_grown {w w' : World} {r : Option Nat} (h : w.grownBy w' r) : Upd (fun b => some b = r) w w' := ⟨h.os, h.tape, h.output, h.size, fun k hk hF => h.block k hk hF⟩
theorem owns_notB {w : World} {base : Nat} {v : Value} {n : Nat} {xs : List Value} (h : w.ownsRow base 28 1 v n xs) : ∀ k, some k = v.ownBlock → NotB w k := by
  intro k hk cur fr e
  rcases h.2 with ⟨rfl, _⟩ | ⟨g, cap, cur', rfl, _, hh, _⟩
  · cases hk
  · have : k = g := by simpa [Value.ownBlock] using hk
    subst this
    rw [hh] at e; cases e
theorem owns_upd {F : Nat → Prop} {w w' : World} {base : Nat} {e : TypeId} {k : Nat} {v : Value} {n : Nat} {xs : List Value} (h : w.ownsRow base e k v n xs) (u : Upd F w w') (hF : ∀ b, base ≤ b → ¬ F b) : w'.ownsRow base e k v n xs := by
  obtain ⟨h1, h2⟩ := h
  refine ⟨h1, h2.imp id ?_⟩
  rintro ⟨g, cap, cur, hv, hg, hh, r⟩
  have hlt : g < w.heap.size := (Array.getElem?_eq_some_iff.1 hh).1
  exact ⟨g, cap, cur, hv, hg, (u.block g hlt (hF g hg)).trans hh, r⟩
/-- q clones are there. -/
def CloneRel (w : World) (L : List (List Int)) (v i : Value) (wr : World) : Prop :=
  ∃ (q : Nat) (xs : List Value), q ≤ L.length ∧ i = .int .i64 q ∧ xs.length = q ∧ wr.ownsRow w.heap.size 28 1 v q xs ∧ (∀ j, j < q → ∃ sv, xs[j]? = some sv ∧ Sec wr sv (L.getD j [])) ∧ Upd (fun _ => False) w wr
theorem clone_step {w wr w1 w2 : World} {L : List (List Int)} {v v' nv : Value} {q : Nat} {xs : List Value} {o : Obj} (hq : q < L.length) (hl : xs.length = q) (ho : wr.ownsRow w.heap.size 28 1 v q xs) (hs : ∀ j, j < q → ∃ sv, xs[j]? = some sv ∧ Sec wr sv (L.getD j []))
    (hu : Upd (fun _ => False) w wr) (hu1 : Upd (fun _ => False) wr w1) (hn : Sec w1 nv (L.getD q [])) (ho' : w2.ownsRow w.heap.size 28 1 v' (q + 1) (xs ++ [nv])) (hg : (w1.alloc o).grownBy w2 v.ownBlock) : CloneRel w L v' (.int .i64 ((q : Int) + 1)) w2 := by
  have hnb := owns_notB ho
  have u1 : Upd (fun _ => False) wr (w1.alloc o) := hu1.alloc _
  have hnb1 : ∀ k, some k = v.ownBlock → NotB (w1.alloc o) k := owns_notB (owns_upd ho u1 (fun _ _ h => h))
  have u2 := Upd.of_grown hg
  refine ⟨q + 1, xs ++ [nv], hq, by go_num, by simp [hl], ho', fun j hj => ?_, (hu.trans u1).trans' u2 (fun i hi e => by have := (ho.lt i e.symm).1; omega)⟩
  by_cases e : j = q
  · subst e
    exact ⟨nv, by rw [List.getElem?_append_right (by omega), hl]; simp, (hn.old ((Upd.refl _ _).alloc _)).upd u2 hnb1⟩
  · obtain ⟨sv, k1, k2⟩ := hs j (by omega)
    exact ⟨sv, by rw [List.getElem?_append_left (by omega)]; exact k1, (k2.old u1).upd u2 hnb1⟩
/-- New sectors that read so. -/
def SecsPost (w : World) (L : List (List Int)) (e : Ending) (w' : World) : Prop := ∃ v h, e = .returned v ∧ Secs w' v h L ∧ w.heap.size ≤ h ∧ Upd (fun _ => False) w w'
theorem clone_done {w wr : World} {L : List (List Int)} {v : Value} {xs : List Value} {q : Nat} (hp : 0 < L.length) (hq : q = L.length) (hl : xs.length = q) (ho : wr.ownsRow w.heap.size 28 1 v q xs) (hs : ∀ j, j < q → ∃ sv, xs[j]? = some sv ∧ Sec wr sv (L.getD j [])) :
    ∃ h, Secs wr v h L ∧ w.heap.size ≤ h := by
  subst hq
  obtain ⟨_, ⟨_, h0⟩ | ⟨g, cap, cur, rfl, hg, hh, hn, hm, hsz, ht⟩⟩ := ho
  · omega
  · refine ⟨g, ⟨cap, cur, rfl, hn, hh, fun i hi => ?_⟩, hg⟩
    obtain ⟨sv, k1, k2⟩ := hs i hi
    refine ⟨sv, ?_, k2⟩
    unfold World.cell?
    rw [hh]
    simp only [Option.isSome_none, Bool.false_eq_true, if_false]
    have h1 : (cur.toList.take (L.length * 1))[i]? = xs[i]? := by rw [ht]
    rw [List.getElem?_take_of_lt (by omega), k1] at h1
    rw [← Array.getElem?_toList, h1]
set_option maxHeartbeats 2000000 in
theorem clone_any (w : World) (pb h : Nat) (v : Value) (L : List (List Int)) (h0 : w.cell? ⟨pb, 0, none⟩ = some v) (hs : Secs w v h L) (hp : 0 < L.length) (hf : L.length ≤ 8192) :
    Calls Try.prog 56 #[.pointer (some ⟨pb, 0, none⟩)] w (SecsPost w L) := by
  have lpb := World.block_lt_of_cell? _ _ h0
  simp only [] at lpb
  have hs' := hs
  obtain ⟨vc, _, rfl, _, _, _⟩ := hs'
  have HS := Lib.hid hs; clear hs
  go_enter Try.func56, Try.ntmps56
  go_wp2_with fail
  go_loopw [3, 11] (fun v i wr => CloneRel w L v i wr) (fun _ i _ => L.length - (intOf i).toNat)
  case atStart => exact ⟨0, [], Nat.zero_le _, rfl, rfl, ⟨rfl, .inl ⟨rfl, rfl⟩⟩, fun j hj => absurd hj (Nat.not_lt_zero _), Upd.refl _ _⟩
  case round =>
    obtain ⟨q, xs, hq, rfl, hxl, ho, hsec, hu⟩ := hrel
    have HO := Lib.hid ho; clear ho
    have HSEC := Lib.hid hsec; clear hsec
    have HU := Lib.hid hu; clear hu
    by_cases hlt : q < L.length
    · obtain ⟨sv, hc, hsv, _⟩ := (HS.out.old HU.out).cellAt hlt
      obtain ⟨sk, so, sc, rfl, _⟩ := hsv.shape
      have HSV := Lib.hid hsv; clear hsv
      obtain ⟨i0, hi, hz0, hz1, hz2⟩ := info_parts info_sl
      have HI0 := Lib.hid hi; clear hi
      have HZ0 := Lib.hid hz0; clear hz0
      have HZ1 := Lib.hid hz1; clear hz1
      have HZ2 := Lib.hid hz2; clear hz2
      go_wp2_with fail
      refine (clone_sec _ _ _ HSV.out).mono ?_
      rintro e w1 ⟨nv, rfl, hnv, hfr, hu1⟩
      obtain ⟨nk, no, nc, rfl, _⟩ := hnv.shape
      have HNV := Lib.hid hnv; clear hnv
      have HU1 := Lib.hid hu1; clear hu1
      clear hfr
      go_wp2_with (at_builtin; go_must (refine wpList_append_own _ rfl _ _ 22 rfl w.heap.size 28 i0 _ 1 24 Try.underlying22 HI0.out HZ0.out HZ1.out HZ2.out rfl (by decide) _ q xs rfl ?hown ⟨w1.heap.size, 0, none⟩ 1 1 [.slice (some ⟨nk, no, none⟩) 64 nc] rfl rfl ?hcell ?hone ?hlen ?hbytes ?hbase ?_))
      case hown => exact owns_upd HO.out (HU1.out.alloc _) (fun _ _ h => h)
      case hcell =>
        intro j u hu
        rw [Addr.add_lit]
        rw [World.cell?_alloc_at _ _ _ _ (by simp)]
        simpa using hu
      case hone => simp [Value.oneCell']
      case hlen => unfold maxLen; omega
      case hbytes => omega
      case hbase => have := HU.out.size; have := HU1.out.size; simp; omega
      intro v' w' hown' hg _
      have HG := Lib.hid hg; clear hg
      have HO' := Lib.hid hown'; clear hown'
      go_wp2_with fail
      go_roundw
      case rel => exact clone_step hlt hxl HO.out HSEC.out HU.out HU1.out HNV.out HO'.out HG.out
      case measure => simp [intOf]; omega
    · have hql : q = L.length := by omega
      obtain ⟨h', hs', hh'⟩ := clone_done hp hql hxl HO.out HSEC.out
      go_wp2_with fail
      go_ret
      exact ⟨_, h', rfl, hs', hh', HU.out⟩
end Go.Proofs.Ytchpekecgdbphaa
