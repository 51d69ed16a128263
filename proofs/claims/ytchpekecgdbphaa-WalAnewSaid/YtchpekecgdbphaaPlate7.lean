/-
  Spoil; Equal.
-/
import Derived.Test.YtchpekecgdbphaaPlate6
namespace Go.Proofs.Ytchpekecgdbphaa
open Go Go.RowKit Go.MapKept Go.ChangeMaps

theorem equal_sec (w : World) (v v' : Value) (l : List Int) (h : Sec w v l) (h' : Sec w v' l) : Calls Try.prog 39 #[v, v'] w (Same w (.bool true)) := by
  obtain ⟨k, o, c, cur, rfl, hl, _, hc⟩ := h
  obtain ⟨k', o', c', cur', rfl, _, _, hc'⟩ := h'
  refine (Try.bytes_Equal_all (some ⟨k, o, none⟩) (some ⟨k', o', none⟩) 64 (64 + c) 64 (64 + c') l l w hl hl ?_ ?_).mono ?_
  · exact fun _ => ⟨k, o, rfl, hc⟩
  · exact fun _ => ⟨k', o', rfl, hc'⟩
  · rintro e w' ⟨rfl, rfl⟩
    exact ⟨by simp, rfl⟩
end Go.Proofs.Ytchpekecgdbphaa
