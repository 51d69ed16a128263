/-
  The check sum; a number's eight bytes.
-/
import Derived.Test.YtchpekecgdbphaaCat
namespace Go.Proofs.Ytchpekecgdbphaa
open Go Go.RowKit Go.MapKept Go.ChangeMaps

theorem BytV.at {w : World} {v : Value} {l : List Int} (h : BytV w v l) {j : Nat} (hj : j < l.length) : ∃ k o c, v = .slice (some ⟨k, o, none⟩) l.length c ∧ w.cell? ⟨k, o + j, none⟩ = some (.int .u8 (l.getD j 0)) := by
  rcases h with ⟨rfl, _⟩ | ⟨k, o, c, hv, hc⟩
  · simp at hj
  · exact ⟨k, o, c, hv, hc j hj⟩
def crcBit (z : Int) : Int := bits .xor .u32 (z / 2) (bits .and .u32 2197175160 (-bits .and .u32 z 1 % 4294967296))
def crcBits : Nat → Int → Int
  | 0, z => z
  | n + 1, z => crcBit (crcBits n z)
def crcStep (z x : Int) : Int := crcBits 8 (bits .xor .u32 z (x % 4294967296))
def crcOf (l : List Int) : Int := l.foldl crcStep 4294967295
def crc (l : List Int) : Int := bits .xor .u32 IntKind.u32.max (crcOf l)
theorem crcOf_next {l : List Int} {q : Nat} (h : q < l.length) : crcOf (l.take (q + 1)) = crcStep (crcOf (l.take q)) (l.getD q 0) := by
  unfold crcOf
  rw [List.take_succ_eq_append_getElem h, List.foldl_append, List.getD_eq_getElem?_getD, List.getElem?_eq_getElem h]
  rfl
theorem sum_any (w : World) (v : Value) (l : List Int) (hb : BytV w v l) (hl : l.length ≤ 64) : Calls Try.prog 58 #[v] w (fun e w' => e = .returned (.int .u32 (crc l)) ∧ w' = w) := by
  obtain ⟨va, vc, rfl⟩ := hb.shape
  have HB := Lib.hid hb; clear hb
  go_enter Try.func58, Try.ntmps58
  go_wp2_with fail
  go_loopw [3, 8] (fun s i wr => ∃ q : Nat, q ≤ l.length ∧ s = .int .u32 (crcOf (l.take q)) ∧ i = .int .i64 q ∧ wr = w) (fun _ i _ => l.length - (intOf i).toNat)
  case atStart => exact ⟨0, by omega, rfl, rfl, rfl⟩
  case round =>
    obtain ⟨q, hq, rfl, rfl, rfl⟩ := hrel
    by_cases hlt : q < l.length
    · obtain ⟨k, o, c, hv, hc⟩ := HB.out.at hlt
      cases hv
      have HN := Lib.hid (crcOf_next hlt)
      generalize crcOf (l.take q) = z0 at HN
      generalize l.getD q 0 = x at HN hc
      go_wp2_with fail
      go_loopw [3, 16] (fun s i wr' => ∃ j : Nat, j ≤ 8 ∧ s = .int .u32 (crcBits j (bits .xor .u32 z0 (x % 4294967296))) ∧ i = .int .i64 j ∧ wr' = wr) (fun _ i _ => 8 - (intOf i).toNat)
      case atStart => exact ⟨0, by omega, rfl, rfl, rfl⟩
      case round =>
        obtain ⟨j, hj, rfl, rfl, rfl⟩ := hrel
        by_cases hlt' : j < 8
        · have HB1 := Lib.hid (show crcBits (j + 1) (bits .xor .u32 z0 (x % 4294967296)) = crcBit (crcBits j (bits .xor .u32 z0 (x % 4294967296))) from rfl)
          generalize crcBits j (bits .xor .u32 z0 (x % 4294967296)) = y0 at HB1
          go_wp2_with fail
          go_roundw
          case rel => exact ⟨j + 1, by omega, congrArg (Value.int .u32) HB1.out.symm, by go_num, by trivial⟩
          case measure => simp [intOf]; omega
        · obtain rfl : j = 8 := by omega
          have HC := Lib.hid (show crcBits 8 (bits .xor .u32 z0 (x % 4294967296)) = crcStep z0 x from rfl)
          generalize crcBits 8 (bits .xor .u32 z0 (x % 4294967296)) = y0 at HC
          go_wp2_with fail
          go_roundw
          case rel => exact ⟨q + 1, by omega, congrArg (Value.int .u32) (HC.out.trans HN.out.symm), by go_num, by trivial⟩
          case measure => simp [intOf]; omega
    · obtain rfl : q = l.length := by omega
      rw [List.take_length]
      have HC := Lib.hid (show bits .xor .u32 IntKind.u32.max (crcOf l) = crc l from rfl)
      generalize crcOf l = z at HC
      go_wp2_with fail
      go_ret
      exact ⟨congrArg _ (congrArg (Value.int .u32) HC.out), rfl⟩
end Go.Proofs.Ytchpekecgdbphaa
