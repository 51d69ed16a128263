/-
  The cells of a command that comes in.
-/
import Derived.Test.YtmpjbolopgccpaaGreatProg
import Derived.Test.YtmpjbolopgccpaaGreatLib2
import Derived.ProofKit
import Derived.OpenShut
import Derived.Deep.Slices
import Derived.ChangeArms
set_option linter.unusedVariables false
namespace Go.Proofs.YtmpjbolopgccpaaGreat
open Go Go.RowKit Go.ChangeShapes Go.WideShapes Go.Deep

/-- A command's cells. -/
def cmdCells (i0 i1 : Int) (s2 : ByteArray) (i3 i4 i5 i6 i7 i8 i9 i10 : Int) (a : Option Addr) (n k : Nat) : Array Value :=
  #[.int .i64 i0, .int .i64 i1, .string s2, .int .i64 i3, .int .i64 i4, .int .i64 i5, .int .i64 i6, .int .i64 i7, .int .u32 i8, .int .i64 i9, .int .i64 i10, .slice a n k]
theorem list11 {α : Type} {l : List α} (h : l.length = 11) : ∃ c0 c1 c2 c3 c4 c5 c6 c7 c8 c9 c10, l = [c0, c1, c2, c3, c4, c5, c6, c7, c8, c9, c10] := by
  match l, h with
  | [c0, c1, c2, c3, c4, c5, c6, c7, c8, c9, c10], _ => exact ⟨c0, c1, c2, c3, c4, c5, c6, c7, c8, c9, c10, rfl⟩
theorem list2 {α : Type} {l : List α} (h : l.length = 2) : ∃ c0 c1, l = [c0, c1] := by
  match l, h with
  | [c0, c1], _ => exact ⟨c0, c1, rfl⟩
theorem list12 {l : List Value} (h : l.length = 12) : ∃ c0 c1 c2 c3 c4 c5 c6 c7 c8 c9 c10 c11, l = [c0, c1, c2, c3, c4, c5, c6, c7, c8, c9, c10, c11] := by
  match l, h with
  | [c0, c1, c2, c3, c4, c5, c6, c7, c8, c9, c10, c11], _ => exact ⟨c0, c1, c2, c3, c4, c5, c6, c7, c8, c9, c10, c11, rfl⟩
section
variable {H : Type} {enc : TypeId × Value → H} {w : World} {base : Nat} {spare : Nat → Bool} {held : Bool}
theorem cmd_shape {fuel : Nat} {cs : List Value} {x : DataW H × List MemPlace} (h : DataW.trod enc Tryz.prog w base spare held fuel 27 cs = some x) :
    ∃ i0 i1 s2 i3 i4 i5 i6 i7 i8 i9 i10 a n k, cs = (cmdCells i0 i1 s2 i3 i4 i5 i6 i7 i8 i9 i10 a n k).toList := by
  obtain ⟨xs, n, _, rfl, hlen, hxl, hf⟩ := DataW.trod_struct Tryz.underlying27 h
  have hl12 : cs.length = 12 := hlen.trans (by kernel_rfl)
  obtain ⟨c0, c1, c2, c3, c4, c5, c6, c7, c8, c9, c10, c11, rfl⟩ := list12 hl12
  obtain ⟨y0, y1, y2, y3, y4, y5, y6, y7, y8, y9, y10, rfl⟩ := list11 (show xs.length = 11 from hxl)
  have k3 : Tryz.prog.cellsOf 3 = 1 := by kernel_rfl
  have k9 : Tryz.prog.cellsOf 9 = 1 := by kernel_rfl
  have k28 : Tryz.prog.cellsOf 22 = 1 := by kernel_rfl
  have k30 : Tryz.prog.cellsOf 24 = 2 := by kernel_rfl
  have k31 : Tryz.prog.cellsOf 25 = 1 := by kernel_rfl
  have f0 := hf 0 ⟨"ID", 3, 0, false, "", "", 0⟩ rfl
  have f1 := hf 1 ⟨"Kind", 3, 1, false, "", "", 8⟩ rfl
  have f2 := hf 2 ⟨"Key", 9, 2, false, "", "", 16⟩ rfl
  have f3 := hf 3 ⟨"Blob", 3, 3, false, "", "", 32⟩ rfl
  have f4 := hf 4 ⟨"Other", 3, 4, false, "", "", 40⟩ rfl
  have f5 := hf 5 ⟨"Index", 3, 5, false, "", "", 48⟩ rfl
  have f6 := hf 6 ⟨"Node", 3, 6, false, "", "", 56⟩ rfl
  have f7 := hf 7 ⟨"Size", 3, 7, false, "", "", 64⟩ rfl
  have f8 := hf 8 ⟨"Sum", 22, 8, false, "", "", 72⟩ rfl
  have f9 := hf 9 ⟨"Code", 24, 9, false, "", "", 80⟩ rfl
  have f10 := hf 10 ⟨"Nodes", 25, 11, false, "", "", 96⟩ rfl
  simp only [k3, k9, k28, k30, k31] at f0 f1 f2 f3 f4 f5 f6 f7 f8 f9 f10
  obtain ⟨i0, e0, _, _⟩ := DataW.trod_int Tryz.underlying3 f0
  obtain ⟨i1, e1, _, _⟩ := DataW.trod_int Tryz.underlying3 f1
  obtain ⟨s2, e2, _, _⟩ := DataW.trod_string Tryz.underlying9 f2
  obtain ⟨i3, e3, _, _⟩ := DataW.trod_int Tryz.underlying3 f3
  obtain ⟨i4, e4, _, _⟩ := DataW.trod_int Tryz.underlying3 f4
  obtain ⟨i5, e5, _, _⟩ := DataW.trod_int Tryz.underlying3 f5
  obtain ⟨i6, e6, _, _⟩ := DataW.trod_int Tryz.underlying3 f6
  obtain ⟨i7, e7, _, _⟩ := DataW.trod_int Tryz.underlying3 f7
  obtain ⟨i8, e8, _, _⟩ := DataW.trod_int Tryz.underlying22 f8
  obtain ⟨a, n, k, e10⟩ : ∃ a n k, c11 = .slice a n k := by
    rcases open_ints Tryz.underlying25 Tryz.underlying3 (by kernel_rfl) f10 with ⟨e, _⟩ | ⟨a, len, cap, zs, e, _⟩
    · simp at e; exact ⟨_, _, _, e⟩
    · simp at e; exact ⟨_, _, _, e⟩
  obtain ⟨zs, n2, _, _, hlen2, hxl2, hf2⟩ := DataW.trod_struct Tryz.underlying24 f9
  obtain ⟨z0, z1, rfl⟩ := list2 (show zs.length = 2 from hxl2)
  have g0 := hf2 0 ⟨"K", 3, 0, false, "", "", 0⟩ rfl
  have g1 := hf2 1 ⟨"M", 3, 1, false, "", "", 8⟩ rfl
  simp only [k3] at g0 g1
  obtain ⟨j0, d0, _, _⟩ := DataW.trod_int Tryz.underlying3 g0
  obtain ⟨j1, d1, _, _⟩ := DataW.trod_int Tryz.underlying3 g1
  simp at e0 e1 e2 e3 e4 e5 e6 e7 e8 d0 d1
  refine ⟨i0, i1, s2, i3, i4, i5, i6, i7, i8, j0, j1, a, n, k, ?_⟩
  simp [cmdCells, *]
end
end Go.Proofs.YtmpjbolopgccpaaGreat
