/-
  The reference's copies: CopyCmd, CopyMsg.
-/
import Derived.Test.YtfodgohleioflaaPostB
import Derived.Test.YtfodgohleioflaaLib8
import Derived.Test.YtfodgohleioflaaLib9
namespace Go.Proofs.Ytfodgohleioflaa
open Go Go.RowKit Go.MapKept Go.ChangeMaps
set_option linter.unusedVariables false

theorem cmdC_11 (c : CmdS) (nv x : Value) : (cmdC c nv).setIfInBounds 11 x = cmdC c x := rfl
theorem cmdC_one (c : CmdS) (nv : Value) (h : nv.oneCell' = true) : (cmdC c nv).all (·.oneCell') = true :=
  Array.all_eq_true_iff_forall_mem.2 (fun u hu => by
    simp only [cmdC, List.mem_toArray, List.mem_cons, List.not_mem_nil, or_false] at hu
    rcases hu with rfl | rfl | rfl | rfl | rfl | rfl | rfl | rfl | rfl | rfl | rfl | rfl <;> first | rfl | exact h)
theorem not_mem_cmd {B k : Nat} {w : World} {C : Array Value} (h : w.heap[k]? = some (.cells C 30 (0, 0))) : ¬ Mem B w k := by
  rintro ⟨_, C', ty, fr, h2, h3⟩
  rw [h] at h2
  injection h2 with h2
  injection h2 with _ h2
  subst h2
  rcases h3.1 with h3 | h3 | h3 <;> exact absurd h3 (by decide)
theorem owns_ge {w : World} {base : Nat} {e : TypeId} {k n : Nat} {v : Value} {xs : List Value} (h : w.ownsRow base e k v n xs) : ∀ i, some i = v.ownBlock → base ≤ i := fun i hi => by
  obtain ⟨_, ⟨rfl, _⟩ | ⟨g, cap, cur, rfl, hg, _⟩⟩ := h
  · cases hi
  · simp only [Value.ownBlock, Option.some.injEq] at hi
    omega
theorem three_alloc (w : World) (C Z E : Array Value) (t t' t2 : TypeId) : Upd (fun _ => False) w (((w.alloc (.cells C t)).alloc (.cells Z t')).alloc (.cells E t2)) ∧ (((w.alloc (.cells C t)).alloc (.cells Z t')).alloc (.cells E t2)).heap[w.heap.size]? = some (.cells C t (0, 0)) ∧
    (((w.alloc (.cells C t)).alloc (.cells Z t')).alloc (.cells E t2)).heap[w.heap.size + 1]? = some (.cells Z t' (0, 0)) ∧ (((w.alloc (.cells C t)).alloc (.cells Z t')).alloc (.cells E t2)).heap.size = w.heap.size + 3 := by
  obtain ⟨h1, h2, h3, h4⟩ := two_alloc w C Z t t'
  refine ⟨h1.alloc _, ?_, ?_, by simp⟩
  · rw [(MapKept.heap_alloc _ _).2 _ (by rw [h4]; omega)]; exact h2
  · rw [(MapKept.heap_alloc _ _).2 _ (by rw [h4]; omega)]; exact h3
theorem made2 (w : World) (o1 o2 : Obj) (e : TypeId) (k : Nat) : (((w.alloc o1).alloc o2).alloc (.cells #[] e)).ownsRow (w.heap.size + 1 + 1) e k (.slice (some ⟨w.heap.size + 1 + 1, 0, none⟩) 0 0) 0 [] := by
  have h2 : ((w.alloc o1).alloc o2).heap.size = w.heap.size + 1 + 1 := by simp
  have := World.ownsRow_made ((w.alloc o1).alloc o2) (base := w.heap.size + 1 + 1) (e := e) (size := k) #[] 0 (by rw [h2]; exact Nat.le_refl _) (Nat.zero_le _) (by simp)
  rw [h2] at this; exact this
/-- Block k is of cells of that type, from B on. -/
def MemT (t : TypeId) (B : Nat) (w : World) (k : Nat) : Prop := B ≤ k ∧ ∃ C, w.heap[k]? = some (.cells C t (0, 0))
theorem MemT.grow {t : TypeId} {B : Nat} {w w' : World} {k : Nat} (h : MemT t B w k) (g : Grow w w') : MemT t B w' k := by
  obtain ⟨h1, C, h2⟩ := h
  obtain ⟨C', h4⟩ := g k C t (0, 0) h2
  exact ⟨h1, C', h4⟩
theorem MemT.upd {F : Nat → Prop} {t : TypeId} {B : Nat} {w w' : World} {k : Nat} (h : MemT t B w k) (u : Upd F w w') (hk : ¬ F k) : MemT t B w' k := by
  obtain ⟨h1, C, h2⟩ := h
  exact ⟨h1, C, (u.block k (Array.getElem?_eq_some_iff.1 h2).1 hk).trans h2⟩
theorem MemT.low {t : TypeId} {B B' : Nat} {w : World} {k : Nat} (h : MemT t B w k) (hB : B' ≤ B) : MemT t B' w k := ⟨Nat.le_trans hB h.1, h.2⟩
theorem MemT.lt {t : TypeId} {B : Nat} {w : World} {k : Nat} (h : MemT t B w k) : k < w.heap.size := by
  obtain ⟨_, C, h2⟩ := h
  exact (Array.getElem?_eq_some_iff.1 h2).1
theorem MemT.mem {t : TypeId} {B : Nat} {w : World} {k : Nat} (h : MemT t B w k) (ht : t = 5 ∨ t = 3 ∨ t = 71) : Mem B w k := ⟨h.1, by obtain ⟨C, e⟩ := h.2; exact ⟨C, t, (0, 0), e, ht, rfl⟩⟩
theorem MemT.ne {t t' : TypeId} {B k : Nat} {w : World} {C : Array Value} {fr : Nat × Nat} (h : w.heap[k]? = some (.cells C t' fr)) (ht : t ≠ t') : ¬ MemT t B w k := by
  rintro ⟨_, C', h2⟩
  rw [h] at h2
  injection h2 with h2
  injection h2 with _ h2
  exact ht h2.symm
theorem inn_of_ownsT {w : World} {base : Nat} {e : TypeId} {k : Nat} {v : Value} {n : Nat} {xs : List Value} (h : w.ownsRow base e k v n xs) : Inn (MemT e base w) v := by
  intro b o m c hv _
  obtain ⟨_, ⟨rfl, _⟩ | ⟨g, cap, cur, rfl, hg, hh, _⟩⟩ := h
  · cases hv
  · cases hv; exact ⟨hg, cur, hh⟩
theorem not_memT_own {t : TypeId} {B : Nat} {w : World} {base n sz : Nat} {e : TypeId} {v : Value} {xs : List Value} (h : w.ownsRow base e sz v n xs) (ht : t ≠ e) {k : Nat} (hk : MemT t B w k) : ¬ some k = v.ownBlock := by
  intro e'
  obtain ⟨_, ⟨rfl, _⟩ | ⟨g, cap, cur, rfl, hg, hh, _⟩⟩ := h
  · cases e'
  · simp only [Value.ownBlock, Option.some.injEq] at e'
    subst e'
    exact MemT.ne hh ht hk
def CopyC (w : World) (c : CmdS) (l : List Int) (e : Ending) (w' : World) : Prop := ∃ a k, e = .returned (.agg (cmdC c (.slice a l.length k))) ∧ Ints w' (.slice a l.length k) l ∧ Inn (MemT 3 w.heap.size w') (.slice a l.length k) ∧ Upd (fun _ => False) w w'
set_option maxRecDepth 100000 in
set_option maxHeartbeats 4000000 in
theorem copy_cmd (w : World) (c : CmdS) (nv : Value) (l : List Int) (h : Ints w nv l) : Calls Try.prog 25 #[.agg (cmdC c nv)] w (CopyC w c l) := by
  obtain ⟨na, nk, rfl⟩ := h.shape
  have HN := Lib.hid h; clear h
  obtain ⟨i0, hi, hz0, hz1, hz2⟩ := info_parts info_int
  unfold cmdC
  go_enter Try.func25, Try.ntmps25
  go_wp2_with (at_builtin; go_must (refine wpList_append_row rfl _ _ 28 rfl (w.heap.size + 1 + 1) 3 i0 _ 1 8 Try.underlying28 hi hz0 hz1 hz2 rfl (by decide) _ 0 [] rfl ?hown _ (l.map fun x => [.int .i64 x]) rfl ?hrow ?hone ?hlen ?hbytes ?hbase ?_))
  case hown => exact made2 w _ _ 3 1
  case hrow => exact (HN.out.old ((((Upd.refl _ _).alloc _).alloc _).alloc _)).1
  case hone => intro r hr u hu; obtain ⟨x, _, rfl⟩ := List.mem_map.1 hr; simp only [List.mem_singleton] at hu; subst hu; rfl
  case hlen => have := HN.out.2; simp only [List.length_map, Nat.zero_add]; unfold maxLen; omega
  case hbytes => have := HN.out.2; simp only [List.length_map, Nat.zero_add]; omega
  case hbase => simp
  intro v' w' hown' hu'
  obtain ⟨hn', -⟩ := Ints.of_clone HN.out.2 (by rw [List.length_map]; exact hown')
  have hi' := inn_of_ownsT hown'
  obtain ⟨a', k', rfl⟩ := hn'.shape
  have hb' := owns_ge hown'
  clear hown'
  obtain ⟨t1, t2, t3, t4⟩ := three_alloc w (cmdC c (.slice na l.length nk)) (cmdC default (.slice none 0 0)) #[] 30 30 3
  have hu'' : Upd (fun b => b = w.heap.size + 1 + 1) _ w' := hu'.mono (fun k _ e => by simpa [Value.ownBlock] using e)
  have hl := (hu''.block w.heap.size (by simp; omega) (by omega)).trans t2
  have hr := (hu''.block (w.heap.size + 1) (by simp) (by omega)).trans t3
  have huw : Upd (fun _ => False) w w' := t1.trans' hu'' (fun i hi e => by omega)
  clear hu' hu'' t1 t2 t3 t4
  have k11 : w'.cell? ⟨w.heap.size, 11, none⟩ = some (.slice na l.length nk) := cell_block hl 11
  have f11 := block_frozen hl 11
  have hl2 := block_setCell hl 11 (.slice a' l.length k')
  rw [cmdC_11] at hl2
  have hr2 : (w'.setCell ⟨w.heap.size, 11, none⟩ (.slice a' l.length k')).heap[w.heap.size + 1]? = _ := (RowKit.Below.heap_setCell _ _ _ _ (by show w.heap.size + 1 ≠ w.heap.size; omega)).trans hr
  have hn2 : Ints (w'.setCell ⟨w.heap.size, 11, none⟩ (.slice a' l.length k')) (.slice a' l.length k') l := hn'.setSlice k11 ⟨_, _, _, rfl⟩ _
  have hi2 := hi'.mono (fun k hk => (hk.grow (Grow.setCell w' w.heap.size 11 (.slice a' l.length k'))).low (B' := w.heap.size) (by omega))
  have hu2 : Upd (fun _ => False) w (w'.setCell ⟨w.heap.size, 11, none⟩ (.slice a' l.length k')) := huw.setCell (p := ⟨w.heap.size, 11, none⟩) (Or.inr (Nat.le_refl _)) _
  have HL2 := Lib.hid hl2; clear hl2 hl
  have HR2 := Lib.hid hr2; clear hr2 hr
  have HN2 := Lib.hid hn2; clear hn2 hn'
  have HI2 := Lib.hid hi2; clear hi2 hi'
  have HU2 := Lib.hid hu2; clear hu2 huw
  have hz : (Try.prog.info? 30).map (·.size) = some (cmdC c (.slice a' l.length k')).size := by kernel_rfl
  have HZ := Lib.hid hz; clear hz
  go_wp2_with (first
    | (refine wpList_load_block rfl 30 _ rfl w.heap.size rfl (cmdC c (.slice a' l.length k')) (0, 0) _ Try.isAgg30 Try.sizeOf30 HL2.out ?_)
    | (refine wpList_store_block rfl 30 _ _ rfl (w.heap.size + 1) rfl (cmdC c (.slice a' l.length k')) rfl HZ.out (cmdC_one _ _ rfl) (cmdC default (.slice none 0 0)) 30 HR2.out rfl ?_; intro w6 hb6 hu6; have HB6 := Lib.hid hb6; clear hb6; have HU6 := Lib.hid hu6; clear hu6))
  have hlv := run_loadVar_block (P := Try.prog) (Try.isAgg30 _) (Try.sizeOf30 _) HB6.out
  refine bodyPost_ret (v := .agg (cmdC c (.slice a' l.length k'))) (by simp [results, Try.results25]; exact hlv) rfl ?_
  have hnf : ∀ k, MemT 3 w.heap.size (w'.setCell ⟨w.heap.size, 11, none⟩ (.slice a' l.length k')) k → ¬ k = w.heap.size + 1 := fun k hk e => by subst e; exact MemT.ne HR2.out (by decide) hk
  exact ⟨a', k', rfl, HN2.out.updS HU6.out HI2.out hnf, HI2.out.mono (fun k hk => hk.upd HU6.out (hnf k hk)), HU2.out.trans' HU6.out (fun i hi e => by omega)⟩
end Go.Proofs.Ytfodgohleioflaa
