/-
  Messages with all that they hold: numbers, texts, nodes, votes, bytes; clones of their slices.
-/
import Derived.Test.YtfodgohleioflaaProg
import Derived.Test.YtfodgohleioflaaLib5
import Derived.Test.YtfodgohleioflaaLib7
import Derived.OwnWalk
namespace Go.Proofs.Ytfodgohleioflaa
open Go Go.RowKit Go.MapKept Go.ChangeMaps

/-- A command's cells but for its nodes. -/
structure CmdS where
  i0 : Int
  i1 : Int
  s2 : ByteArray
  i3 : Int
  i4 : Int
  i5 : Int
  i6 : Int
  i7 : Int
  i8 : Int
  i9 : Int
  i10 : Int
instance : Inhabited CmdS := ⟨⟨0, 0, ⟨#[]⟩, 0, 0, 0, 0, 0, 0, 0, 0⟩⟩
structure VoteD where
  slot : Int
  ballot : Int
  cmd : CmdS
  nodes : List Int
instance : Inhabited VoteD := ⟨⟨0, 0, default, []⟩⟩
structure MsgD where
  k0 : Int
  k1 : Int
  k2 : Int
  k3 : Int
  k4 : Int
  k5 : Int
  k6 : Int
  k7 : Int
  k8 : Int
  ok : Bool
  cmd : CmdS
  nodes : List Int
  votes : List VoteD
  bytes : List Int
instance : Inhabited MsgD := ⟨⟨0, 0, 0, 0, 0, 0, 0, 0, 0, false, default, [], [], []⟩⟩
def cmdC (c : CmdS) (nv : Value) : Array Value := #[.int .i64 c.i0, .int .i64 c.i1, .string c.s2, .int .i64 c.i3, .int .i64 c.i4, .int .i64 c.i5, .int .i64 c.i6, .int .i64 c.i7, .int .u32 c.i8, .int .i64 c.i9, .int .i64 c.i10, nv]
def voteC (d : VoteD) (nv : Value) : List Value := [.int .i64 d.slot, .int .i64 d.ballot, .int .i64 d.cmd.i0, .int .i64 d.cmd.i1, .string d.cmd.s2, .int .i64 d.cmd.i3, .int .i64 d.cmd.i4, .int .i64 d.cmd.i5, .int .i64 d.cmd.i6, .int .i64 d.cmd.i7, .int .u32 d.cmd.i8, .int .i64 d.cmd.i9, .int .i64 d.cmd.i10, nv]
def msgC (d : MsgD) (nv vv bv : Value) : Array Value := #[.int .i64 d.k0, .int .i64 d.k1, .int .i64 d.k2, .int .i64 d.k3, .int .i64 d.k4, .int .i64 d.k5, .int .i64 d.k6, .int .i64 d.k7, .int .i64 d.k8, .bool d.ok,
  .int .i64 d.cmd.i0, .int .i64 d.cmd.i1, .string d.cmd.s2, .int .i64 d.cmd.i3, .int .i64 d.cmd.i4, .int .i64 d.cmd.i5, .int .i64 d.cmd.i6, .int .i64 d.cmd.i7, .int .u32 d.cmd.i8, .int .i64 d.cmd.i9, .int .i64 d.cmd.i10, nv, vv, bv]
/-- A slice of bytes. -/
def Byts (w : World) (v : Value) (l : List Int) : Prop := Row w v 1 (l.map fun x => [.int .u8 x]) ∧ l.length ≤ 140737488355328
/-- A slice of votes, each with its nodes. -/
def Vots (w : World) (v : Value) (l : List VoteD) : Prop :=
  ∃ nvs : List Value, nvs.length = l.length ∧ Row w v 14 (List.zipWith voteC l nvs) ∧ l.length * 136 ≤ 140737488355328 ∧ ∀ i, i < l.length → Ints w (nvs.getD i undef) (l.getD i default).nodes
/-- v's own block, if it has one and a cell of it, is one of S. -/
def Inn (S : Nat → Prop) (v : Value) : Prop := ∀ b o n c, v = .slice (some ⟨b, o, none⟩) n c → 0 < n → S b
/-- These cells are that message; its slices lie in blocks of S. -/
def MsgAt (S : Nat → Prop) (w : World) (C : Array Value) (d : MsgD) : Prop :=
  ∃ nv vv bv, C = msgC d nv vv bv ∧ Ints w nv d.nodes ∧ Inn S nv ∧ Vots w vv d.votes ∧ Inn S vv ∧ (∀ b o n c, vv = .slice (some ⟨b, o, none⟩) n c → ∀ i, i < n → ∀ u, w.cell? ⟨b, o + i * 14 + 13, none⟩ = some u → Inn S u) ∧ Byts w bv d.bytes ∧ Inn S bv
theorem Row.updS {F S : Nat → Prop} {w w' : World} {v : Value} {k : Nat} {rows : List (List Value)} (h : Row w v k rows) (u : Upd F w w') (hS : Inn S v) (hF : ∀ b, S b → ¬ F b) : Row w' v k rows := by
  rcases h with h | ⟨b, o, cap, hv, hl, hk, hc⟩
  · exact .inl h
  · refine .inr ⟨b, o, cap, hv, hl, hk, fun i j hi hj => ?_⟩
    have h0 := hc i j hi hj
    rw [← h0]
    have hr : rows.getD i [] ∈ rows := by rw [List.getD_eq_getElem?_getD, List.getElem?_eq_getElem hi]; exact List.getElem_mem hi
    have hj' : j < (rows.getD i []).length := by rw [hk _ hr]; exact hj
    rw [List.getElem?_eq_getElem hj'] at h0
    exact u.cell (p := ⟨b, o + i * k + j, none⟩) (World.block_lt_of_cell? _ _ h0) (hF b (hS b o _ cap hv (by omega)))
theorem Ints.updS {F S : Nat → Prop} {w w' : World} {v : Value} {l : List Int} (h : Ints w v l) (u : Upd F w w') (hS : Inn S v) (hF : ∀ b, S b → ¬ F b) : Ints w' v l := ⟨h.1.updS u hS hF, h.2⟩
theorem Byts.updS {F S : Nat → Prop} {w w' : World} {v : Value} {l : List Int} (h : Byts w v l) (u : Upd F w w') (hS : Inn S v) (hF : ∀ b, S b → ¬ F b) : Byts w' v l := ⟨h.1.updS u hS hF, h.2⟩
theorem Byts.old {w w' : World} {v : Value} {l : List Int} (h : Byts w v l) (u : Upd (fun _ => False) w w') : Byts w' v l := ⟨h.1.upd u fun _ _ _ _ _ _ h => h, h.2⟩
theorem zip_get {l : List VoteD} {nvs : List Value} (hl : nvs.length = l.length) {i : Nat} (hi : i < l.length) : (List.zipWith voteC l nvs).getD i [] = voteC (l.getD i default) (nvs.getD i undef) := by
  rw [List.getD_eq_getElem?_getD, List.getD_eq_getElem?_getD, List.getD_eq_getElem?_getD, List.getElem?_zipWith, List.getElem?_eq_getElem hi, List.getElem?_eq_getElem (by omega)]
  rfl
theorem zip_length {l : List VoteD} {nvs : List Value} (hl : nvs.length = l.length) : (List.zipWith voteC l nvs).length = l.length := by simp [hl]
/-- A vote's cells. -/
theorem Vots.cells {w : World} {v : Value} {l : List VoteD} (h : Vots w v l) : ∃ a c, v = .slice a l.length c ∧ (a = none → c = 0) ∧ ∀ i, i < l.length → ∃ b o, a = some ⟨b, o, none⟩ ∧ ∃ nv, Ints w nv (l.getD i default).nodes ∧ ∀ j, j < 14 → w.cell? ⟨b, o + i * 14 + j, none⟩ = (voteC (l.getD i default) nv)[j]? := by
  obtain ⟨nvs, hl, hr, _, hn⟩ := h
  have hz := zip_length hl
  rcases hr with ⟨h0, a, c, rfl, hac⟩ | ⟨b, o, cap, rfl, _, _, hc⟩
  · have h0' : l = [] := by rw [h0] at hz; exact List.eq_nil_of_length_eq_zero hz.symm
    subst h0'
    exact ⟨a, c, rfl, hac, fun i hi => absurd hi (Nat.not_lt_zero i)⟩
  · rw [hz]
    refine ⟨_, _, rfl, (by intro e; cases e), fun i hi => ⟨b, o, rfl, nvs.getD i undef, hn i hi, fun j hj => ?_⟩⟩
    rw [hc i j (by omega) hj, zip_get hl hi]
theorem Vots.updS {F S : Nat → Prop} {w w' : World} {v : Value} {l : List VoteD} (h : Vots w v l) (u : Upd F w w') (hS : Inn S v) (hN : ∀ b o n c, v = .slice (some ⟨b, o, none⟩) n c → ∀ i, i < n → ∀ u, w.cell? ⟨b, o + i * 14 + 13, none⟩ = some u → Inn S u) (hF : ∀ b, S b → ¬ F b) : Vots w' v l := by
  obtain ⟨nvs, hl, hr, hb, hn⟩ := h
  refine ⟨nvs, hl, hr.updS u hS hF, hb, fun i hi => ?_⟩
  refine (hn i hi).updS u ?_ hF
  have hz := zip_length hl
  rcases hr with ⟨h0, _⟩ | ⟨b, o, cap, hv, _, _, hc⟩
  · rw [h0] at hz; simp at hz; omega
  · refine hN b o _ cap hv i (by omega) _ ?_
    rw [hc i 13 (by omega) (by omega), zip_get hl hi]
    rfl
theorem MsgAt.upd {F S : Nat → Prop} {w w' : World} {C : Array Value} {d : MsgD} (h : MsgAt S w C d) (u : Upd F w w') (hF : ∀ b, S b → ¬ F b) : MsgAt S w' C d := by
  obtain ⟨nv, vv, bv, hC, h1, h2, h3, h4, h5, h6, h7⟩ := h
  refine ⟨nv, vv, bv, hC, h1.updS u h2 hF, h2, h3.updS u h4 h5 hF, h4, fun b o n c hv i hi x hx => ?_, h6.updS u h7 hF, h7⟩
  obtain ⟨a, c', hv', _, hcs⟩ := h3.cells
  rw [hv] at hv'
  cases hv'
  obtain ⟨b', o', e, nv', _, hc⟩ := hcs i hi
  cases e
  have h13 := hc 13 (by omega)
  have h13' : w.cell? ⟨b, o + i * 14 + 13, none⟩ = some nv' := h13
  rw [u.cell (p := ⟨b, o + i * 14 + 13, none⟩) (World.block_lt_of_cell? _ _ h13') (hF b (h4 b o _ _ hv (by omega)))] at hx
  exact h5 b o _ c hv i hi x hx
theorem MsgAt.old {S : Nat → Prop} {w w' : World} {C : Array Value} {d : MsgD} (h : MsgAt S w C d) (u : Upd (fun _ => False) w w') : MsgAt S w' C d := h.upd u (fun _ _ h => h)
theorem Inn.mono {S T : Nat → Prop} {v : Value} (h : Inn S v) (hST : ∀ b, S b → T b) : Inn T v := fun b o n c e h0 => hST b (h b o n c e h0)
theorem MsgAt.mono {S T : Nat → Prop} {w : World} {C : Array Value} {d : MsgD} (h : MsgAt S w C d) (hST : ∀ b, S b → T b) : MsgAt T w C d := by
  obtain ⟨nv, vv, bv, hC, h1, h2, h3, h4, h5, h6, h7⟩ := h
  exact ⟨nv, vv, bv, hC, h1, h2.mono hST, h3, h4.mono hST, fun b o n c e i hi u hu => (h5 b o n c e i hi u hu).mono hST, h6, h7.mono hST⟩
/-! ### clones -/
theorem chunks_flatten {k : Nat} : ∀ (rows : List (List Value)), (∀ r ∈ rows, r.length = k) → chunks k rows.flatten rows.length = rows := by
  intro rows hk
  induction rows with
  | nil => rfl
  | cons r rows ih =>
    have hr := hk r (.head _)
    have ih' := ih (fun r' h => hk r' (.tail _ h))
    unfold chunks at ih' ⊢
    rw [List.length_cons, List.range_succ_eq_map, List.map_cons, List.map_map, List.flatten_cons, Nat.zero_mul, List.drop_zero, List.take_left' hr]
    congr 1
    refine Eq.trans ?_ ih'
    refine List.map_congr_left fun i _ => ?_
    simp only [Function.comp]
    rw [show (i + 1) * k = r.length + i * k by rw [hr, Nat.succ_mul]; omega, List.drop_append, List.drop_of_length_le (by omega), List.nil_append, Nat.add_sub_cancel_left]
theorem flatten_length {k : Nat} : ∀ (rows : List (List Value)), (∀ r ∈ rows, r.length = k) → rows.flatten.length = rows.length * k
  | [], _ => by simp
  | r :: rows, h => by
    rw [List.flatten_cons, List.length_append, flatten_length rows (fun r' hr => h r' (.tail _ hr)), h r (.head _), List.length_cons, Nat.succ_mul]; omega
theorem flatten_at {k : Nat} (hk0 : 0 < k) (rows : List (List Value)) (hk : ∀ r ∈ rows, r.length = k) (j : Nat) (hj : j < rows.length * k) : rows.flatten[j]? = (rows.getD (j / k) [])[j % k]? := by
  have h := chunks_flatten rows hk
  have hi : j / k < rows.length := Nat.div_lt_of_lt_mul (by rw [Nat.mul_comm]; exact hj)
  have h1 : rows.getD (j / k) [] = (rows.flatten.drop (j / k * k)).take k := by
    have : (chunks k rows.flatten rows.length).getD (j / k) [] = (rows.flatten.drop (j / k * k)).take k := by
      rw [List.getD_eq_getElem?_getD]
      unfold chunks
      rw [List.getElem?_map, List.getElem?_range hi]; rfl
    rw [h] at this; exact this
  have hm := Nat.mod_lt j hk0
  rw [h1, List.getElem?_take, if_pos hm, List.getElem?_drop]
  congr 1
  rw [Nat.mul_comm]; exact (Nat.div_add_mod j k).symm
/-- A copy in memory of its own. -/
def CloneP (w : World) (t k : Nat) (rows : List (List Value)) (e : Ending) (w' : World) : Prop := ∃ v', e = .returned v' ∧ w'.ownsRow w.heap.size t k v' rows.length rows.flatten ∧ Upd (fun _ => False) w w'
theorem Row.of_clone {w' : World} {B t k : Nat} {v' : Value} {rows : List (List Value)} (hk : ∀ r ∈ rows, r.length = k) (h : w'.ownsRow B t k v' rows.length rows.flatten) : Row w' v' k rows := by
  have := Row.of_owns h
  rwa [chunks_flatten rows hk] at this
theorem clone_row {slT eT k bytes F : Nat} (hk0 : 0 < k)
    (hnil : ∀ (n c : Nat) (w : World), Calls Try.prog F #[.slice none n c] w fun e w' => e = .returned (.slice none 0 0) ∧ w' = w)
    (hzero : ∀ (a : Addr) (c : Nat) (w : World), Calls Try.prog F #[.slice (some a) 0 c] w fun e w' => ∃ v', e = .returned v' ∧ w'.ownsRow w.heap.size eT k v' 0 [] ∧ v' ≠ .slice none 0 0 ∧ Below w.heap.size w w')
    (hall : ∀ (b off n c : Nat) (news : List Value) (w : World), news.length = n * k → n ≤ maxLen → n * bytes ≤ 140737488355328 → (∀ j u, news[j]? = some u → w.cell? ⟨b, off + j, none⟩ = some u) → (∀ u ∈ news, u.oneCell' = true) →
      Calls Try.prog F #[.slice (some ⟨b, off, none⟩) n c] w fun e w' => ∃ v', e = .returned v' ∧ w'.ownsRow w.heap.size eT k v' n news ∧ v' ≠ .slice none 0 0 ∧ Below w.heap.size w w')
    (w : World) (v : Value) (rows : List (List Value)) (h : Row w v k rows) (hl : rows.length ≤ maxLen) (hb : rows.length * bytes ≤ 140737488355328) (h1 : ∀ r ∈ rows, ∀ u ∈ r, u.oneCell' = true) :
    Calls Try.prog F #[v] w (CloneP w eT k rows) := by
  have _ := slT
  rcases h with ⟨rfl, a, c, rfl, hac⟩ | ⟨b, o, cap, rfl, _, hk, hc⟩
  · cases a with
    | none => exact (hnil 0 c w).mono fun e w' ⟨he, hw⟩ => ⟨_, he, ⟨by simp, .inl ⟨rfl, rfl⟩⟩, hw ▸ Upd.refl _ _⟩
    | some a => exact (hzero a c w).mono fun e w' ⟨v', he, ho, _, hbl⟩ => ⟨v', he, ho, Upd.of_below hbl⟩
  · refine (hall b o rows.length cap rows.flatten w (flatten_length rows hk) hl hb (fun j u hu => ?_) (fun u hu => ?_)).mono fun e w' ⟨v', he, ho, _, hbl⟩ => ⟨v', he, ho, Upd.of_below hbl⟩
    · have hj : j < rows.length * k := by
        have := (List.getElem?_eq_some_iff.1 hu).1
        rwa [flatten_length rows hk] at this
      rw [flatten_at hk0 rows hk j hj] at hu
      have hi : j / k < rows.length := Nat.div_lt_of_lt_mul (by rw [Nat.mul_comm]; exact hj)
      have := hc (j / k) (j % k) hi (Nat.mod_lt j hk0)
      rw [hu, Nat.add_assoc, Nat.mul_comm, Nat.div_add_mod] at this
      exact this
    · obtain ⟨r, hr, hur⟩ := List.mem_flatten.1 hu
      exact h1 r hr u hur
end Go.Proofs.Ytfodgohleioflaa
