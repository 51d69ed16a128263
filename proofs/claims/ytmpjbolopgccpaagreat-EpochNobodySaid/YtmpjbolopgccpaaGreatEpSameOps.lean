/-
  EpochNobody: Same of a state and itself.
-/
import Derived.Test.YtmpjbolopgccpaaGreatEp4
import Derived.Test.YtmpjbolopgccpaaGreatRegLin
set_option linter.unusedVariables false
namespace Go.Proofs.YtmpjbolopgccpaaGreat
set_option linter.unusedVariables false
set_option linter.unusedSimpArgs false
open Go Go.RowKit Go.MapKept Go.ChangeMaps

noncomputable def opsS : Array Oper := ((Tryz.f18.body).bind (opsOf 3)).getD #[]
def schedS : List Bool := [true, true, true, true, true, true, true, true, true, true, true, true, true, true, true, true, true, true, true, true, true, true, true, true, true, true, true, true, true, true, true, true, true, true, true, true, true, true, true, true, true, true, true, true, true, true, true, true, true, true, true, false, true, true, true, true, true, true, true, true, true, true, false, true, true, true, true, true, true, true, true, true, true, false, true, true, true, true, true, true, true, true, true, true, false, true, true, true, true, true, true, true, true, true, true, false, true, true, true, true, true, true, true, true, true, true, false, true, true, true, true, true, true, true, true, true, true, false, true, true, true, true, true, true, true, true, true, true, false, true, true]
set_option maxRecDepth 100000 in
theorem noS : Region.noSelect opsS = true := by kernel_rfl
set_option maxRecDepth 100000 in
theorem sizeS : schedS.length = opsS.size := by kernel_rfl
set_option maxRecDepth 100000 in
theorem oS_0 : OpAt opsS 0 (some 11) (none) (Op.move (Operand.tmp 0)) := opAt_of (by kernel_rfl)
set_option maxRecDepth 100000 in
theorem oS_1 : OpAt opsS 1 (some 12) (none) (Op.nilCheck (Operand.tmp 11)) := opAt_of (by kernel_rfl)
set_option maxRecDepth 100000 in
theorem oS_2 : OpAt opsS 2 (some 13) (none) (Op.fieldAddr 36 (Operand.tmp 12) 0) := opAt_of (by kernel_rfl)
set_option maxRecDepth 100000 in
theorem oS_3 : OpAt opsS 3 (some 14) (none) (Op.load 3 (Operand.tmp 13)) := opAt_of (by kernel_rfl)
set_option maxRecDepth 100000 in
theorem oS_4 : OpAt opsS 4 (some 15) (none) (Op.move (Operand.tmp 1)) := opAt_of (by kernel_rfl)
set_option maxRecDepth 100000 in
theorem oS_5 : OpAt opsS 5 (some 16) (none) (Op.nilCheck (Operand.tmp 15)) := opAt_of (by kernel_rfl)
set_option maxRecDepth 100000 in
theorem oS_6 : OpAt opsS 6 (some 17) (none) (Op.fieldAddr 36 (Operand.tmp 16) 0) := opAt_of (by kernel_rfl)
set_option maxRecDepth 100000 in
theorem oS_7 : OpAt opsS 7 (some 18) (none) (Op.load 3 (Operand.tmp 17)) := opAt_of (by kernel_rfl)
set_option maxRecDepth 100000 in
theorem oS_8 : OpAt opsS 8 (some 19) (none) (Op.binOp BinOp.eql 3 (Operand.tmp 14) (Operand.tmp 18) 3) := opAt_of (by kernel_rfl)
set_option maxRecDepth 100000 in
theorem oS_9 : OpAt opsS 9 (some 20) (none) (Op.move (Operand.tmp 19)) := opAt_of (by kernel_rfl)
set_option maxRecDepth 100000 in
theorem oS_10 : OpAt opsS 10 (some 21) (some (9, true)) (Op.move (Operand.tmp 0)) := opAt_of (by kernel_rfl)
set_option maxRecDepth 100000 in
theorem oS_11 : OpAt opsS 11 (some 22) (some (9, true)) (Op.nilCheck (Operand.tmp 21)) := opAt_of (by kernel_rfl)
set_option maxRecDepth 100000 in
theorem oS_12 : OpAt opsS 12 (some 23) (some (9, true)) (Op.fieldAddr 36 (Operand.tmp 22) 1) := opAt_of (by kernel_rfl)
set_option maxRecDepth 100000 in
theorem oS_13 : OpAt opsS 13 (some 24) (some (9, true)) (Op.load 3 (Operand.tmp 23)) := opAt_of (by kernel_rfl)
set_option maxRecDepth 100000 in
theorem oS_14 : OpAt opsS 14 (some 25) (some (9, true)) (Op.move (Operand.tmp 1)) := opAt_of (by kernel_rfl)
set_option maxRecDepth 100000 in
theorem oS_15 : OpAt opsS 15 (some 26) (some (9, true)) (Op.nilCheck (Operand.tmp 25)) := opAt_of (by kernel_rfl)
set_option maxRecDepth 100000 in
theorem oS_16 : OpAt opsS 16 (some 27) (some (9, true)) (Op.fieldAddr 36 (Operand.tmp 26) 1) := opAt_of (by kernel_rfl)
set_option maxRecDepth 100000 in
theorem oS_17 : OpAt opsS 17 (some 28) (some (9, true)) (Op.load 3 (Operand.tmp 27)) := opAt_of (by kernel_rfl)
set_option maxRecDepth 100000 in
theorem oS_18 : OpAt opsS 18 (some 29) (some (9, true)) (Op.binOp BinOp.eql 3 (Operand.tmp 24) (Operand.tmp 28) 3) := opAt_of (by kernel_rfl)
set_option maxRecDepth 100000 in
theorem oS_19 : OpAt opsS 19 (some 30) (none) (Op.pick (Operand.tmp 20) (Operand.tmp 29) (Operand.const (Value.bool false))) := opAt_of (by kernel_rfl)
set_option maxRecDepth 100000 in
theorem oS_20 : OpAt opsS 20 (some 31) (none) (Op.move (Operand.tmp 30)) := opAt_of (by kernel_rfl)
set_option maxRecDepth 100000 in
theorem oS_21 : OpAt opsS 21 (some 32) (some (20, true)) (Op.move (Operand.tmp 0)) := opAt_of (by kernel_rfl)
set_option maxRecDepth 100000 in
theorem oS_22 : OpAt opsS 22 (some 33) (some (20, true)) (Op.nilCheck (Operand.tmp 32)) := opAt_of (by kernel_rfl)
set_option maxRecDepth 100000 in
theorem oS_23 : OpAt opsS 23 (some 34) (some (20, true)) (Op.fieldAddr 36 (Operand.tmp 33) 2) := opAt_of (by kernel_rfl)
set_option maxRecDepth 100000 in
theorem oS_24 : OpAt opsS 24 (some 35) (some (20, true)) (Op.load 3 (Operand.tmp 34)) := opAt_of (by kernel_rfl)
set_option maxRecDepth 100000 in
theorem oS_25 : OpAt opsS 25 (some 36) (some (20, true)) (Op.move (Operand.tmp 1)) := opAt_of (by kernel_rfl)
set_option maxRecDepth 100000 in
theorem oS_26 : OpAt opsS 26 (some 37) (some (20, true)) (Op.nilCheck (Operand.tmp 36)) := opAt_of (by kernel_rfl)
set_option maxRecDepth 100000 in
theorem oS_27 : OpAt opsS 27 (some 38) (some (20, true)) (Op.fieldAddr 36 (Operand.tmp 37) 2) := opAt_of (by kernel_rfl)
set_option maxRecDepth 100000 in
theorem oS_28 : OpAt opsS 28 (some 39) (some (20, true)) (Op.load 3 (Operand.tmp 38)) := opAt_of (by kernel_rfl)
set_option maxRecDepth 100000 in
theorem oS_29 : OpAt opsS 29 (some 40) (some (20, true)) (Op.binOp BinOp.eql 3 (Operand.tmp 35) (Operand.tmp 39) 3) := opAt_of (by kernel_rfl)
set_option maxRecDepth 100000 in
theorem oS_30 : OpAt opsS 30 (some 41) (none) (Op.pick (Operand.tmp 31) (Operand.tmp 40) (Operand.const (Value.bool false))) := opAt_of (by kernel_rfl)
set_option maxRecDepth 100000 in
theorem oS_31 : OpAt opsS 31 (some 42) (none) (Op.move (Operand.tmp 41)) := opAt_of (by kernel_rfl)
set_option maxRecDepth 100000 in
theorem oS_32 : OpAt opsS 32 (some 43) (some (31, true)) (Op.move (Operand.tmp 0)) := opAt_of (by kernel_rfl)
set_option maxRecDepth 100000 in
theorem oS_33 : OpAt opsS 33 (some 44) (some (31, true)) (Op.nilCheck (Operand.tmp 43)) := opAt_of (by kernel_rfl)
set_option maxRecDepth 100000 in
theorem oS_34 : OpAt opsS 34 (some 45) (some (31, true)) (Op.fieldAddr 36 (Operand.tmp 44) 6) := opAt_of (by kernel_rfl)
set_option maxRecDepth 100000 in
theorem oS_35 : OpAt opsS 35 (some 46) (some (31, true)) (Op.load 24 (Operand.tmp 45)) := opAt_of (by kernel_rfl)
set_option maxRecDepth 100000 in
theorem oS_36 : OpAt opsS 36 (some 47) (some (31, true)) (Op.move (Operand.tmp 1)) := opAt_of (by kernel_rfl)
set_option maxRecDepth 100000 in
theorem oS_37 : OpAt opsS 37 (some 48) (some (31, true)) (Op.nilCheck (Operand.tmp 47)) := opAt_of (by kernel_rfl)
set_option maxRecDepth 100000 in
theorem oS_38 : OpAt opsS 38 (some 49) (some (31, true)) (Op.fieldAddr 36 (Operand.tmp 48) 6) := opAt_of (by kernel_rfl)
set_option maxRecDepth 100000 in
theorem oS_39 : OpAt opsS 39 (some 50) (some (31, true)) (Op.load 24 (Operand.tmp 49)) := opAt_of (by kernel_rfl)
set_option maxRecDepth 100000 in
theorem oS_40 : OpAt opsS 40 (some 51) (some (31, true)) (Op.binOp BinOp.eql 24 (Operand.tmp 46) (Operand.tmp 50) 24) := opAt_of (by kernel_rfl)
set_option maxRecDepth 100000 in
theorem oS_41 : OpAt opsS 41 (some 52) (none) (Op.pick (Operand.tmp 42) (Operand.tmp 51) (Operand.const (Value.bool false))) := opAt_of (by kernel_rfl)
set_option maxRecDepth 100000 in
theorem oS_42 : OpAt opsS 42 (some 53) (none) (Op.move (Operand.tmp 52)) := opAt_of (by kernel_rfl)
set_option maxRecDepth 100000 in
theorem oS_43 : OpAt opsS 43 (some 54) (some (42, true)) (Op.move (Operand.tmp 0)) := opAt_of (by kernel_rfl)
set_option maxRecDepth 100000 in
theorem oS_44 : OpAt opsS 44 (some 55) (some (42, true)) (Op.nilCheck (Operand.tmp 54)) := opAt_of (by kernel_rfl)
set_option maxRecDepth 100000 in
theorem oS_45 : OpAt opsS 45 (some 56) (some (42, true)) (Op.fieldAddr 36 (Operand.tmp 55) 3) := opAt_of (by kernel_rfl)
set_option maxRecDepth 100000 in
theorem oS_46 : OpAt opsS 46 (some 57) (some (42, true)) (Op.load 29 (Operand.tmp 56)) := opAt_of (by kernel_rfl)
set_option maxRecDepth 100000 in
theorem oS_47 : OpAt opsS 47 (some 58) (some (42, true)) (Op.move (Operand.tmp 1)) := opAt_of (by kernel_rfl)
set_option maxRecDepth 100000 in
theorem oS_48 : OpAt opsS 48 (some 59) (some (42, true)) (Op.nilCheck (Operand.tmp 58)) := opAt_of (by kernel_rfl)
set_option maxRecDepth 100000 in
theorem oS_49 : OpAt opsS 49 (some 60) (some (42, true)) (Op.fieldAddr 36 (Operand.tmp 59) 3) := opAt_of (by kernel_rfl)
set_option maxRecDepth 100000 in
theorem oS_50 : OpAt opsS 50 (some 61) (some (42, true)) (Op.load 29 (Operand.tmp 60)) := opAt_of (by kernel_rfl)
set_option maxRecDepth 100000 in
theorem oS_51 : OpAt opsS 51 (some 62) (some (42, true)) (Op.call { callee := Callee.value (Operand.func 46), args := #[(Operand.tmp 57), (Operand.tmp 61)], argTypes := #[29, 29] }) := opAt_of (by kernel_rfl)
set_option maxRecDepth 100000 in
theorem oS_52 : OpAt opsS 52 (some 63) (none) (Op.pick (Operand.tmp 53) (Operand.tmp 62) (Operand.const (Value.bool false))) := opAt_of (by kernel_rfl)
set_option maxRecDepth 100000 in
theorem oS_53 : OpAt opsS 53 (some 64) (none) (Op.move (Operand.tmp 63)) := opAt_of (by kernel_rfl)
set_option maxRecDepth 100000 in
theorem oS_54 : OpAt opsS 54 (some 65) (some (53, true)) (Op.move (Operand.tmp 0)) := opAt_of (by kernel_rfl)
set_option maxRecDepth 100000 in
theorem oS_55 : OpAt opsS 55 (some 66) (some (53, true)) (Op.nilCheck (Operand.tmp 65)) := opAt_of (by kernel_rfl)
set_option maxRecDepth 100000 in
theorem oS_56 : OpAt opsS 56 (some 67) (some (53, true)) (Op.fieldAddr 36 (Operand.tmp 66) 4) := opAt_of (by kernel_rfl)
set_option maxRecDepth 100000 in
theorem oS_57 : OpAt opsS 57 (some 68) (some (53, true)) (Op.load 29 (Operand.tmp 67)) := opAt_of (by kernel_rfl)
set_option maxRecDepth 100000 in
theorem oS_58 : OpAt opsS 58 (some 69) (some (53, true)) (Op.move (Operand.tmp 1)) := opAt_of (by kernel_rfl)
set_option maxRecDepth 100000 in
theorem oS_59 : OpAt opsS 59 (some 70) (some (53, true)) (Op.nilCheck (Operand.tmp 69)) := opAt_of (by kernel_rfl)
set_option maxRecDepth 100000 in
theorem oS_60 : OpAt opsS 60 (some 71) (some (53, true)) (Op.fieldAddr 36 (Operand.tmp 70) 4) := opAt_of (by kernel_rfl)
set_option maxRecDepth 100000 in
theorem oS_61 : OpAt opsS 61 (some 72) (some (53, true)) (Op.load 29 (Operand.tmp 71)) := opAt_of (by kernel_rfl)
set_option maxRecDepth 100000 in
theorem oS_62 : OpAt opsS 62 (some 73) (some (53, true)) (Op.call { callee := Callee.value (Operand.func 46), args := #[(Operand.tmp 68), (Operand.tmp 72)], argTypes := #[29, 29] }) := opAt_of (by kernel_rfl)
set_option maxRecDepth 100000 in
theorem oS_63 : OpAt opsS 63 (some 74) (none) (Op.pick (Operand.tmp 64) (Operand.tmp 73) (Operand.const (Value.bool false))) := opAt_of (by kernel_rfl)
set_option maxRecDepth 100000 in
theorem oS_64 : OpAt opsS 64 (some 75) (none) (Op.move (Operand.tmp 74)) := opAt_of (by kernel_rfl)
set_option maxRecDepth 100000 in
theorem oS_65 : OpAt opsS 65 (some 76) (some (64, true)) (Op.move (Operand.tmp 0)) := opAt_of (by kernel_rfl)
set_option maxRecDepth 100000 in
theorem oS_66 : OpAt opsS 66 (some 77) (some (64, true)) (Op.nilCheck (Operand.tmp 76)) := opAt_of (by kernel_rfl)
set_option maxRecDepth 100000 in
theorem oS_67 : OpAt opsS 67 (some 78) (some (64, true)) (Op.fieldAddr 36 (Operand.tmp 77) 8) := opAt_of (by kernel_rfl)
set_option maxRecDepth 100000 in
theorem oS_68 : OpAt opsS 68 (some 79) (some (64, true)) (Op.load 32 (Operand.tmp 78)) := opAt_of (by kernel_rfl)
set_option maxRecDepth 100000 in
theorem oS_69 : OpAt opsS 69 (some 80) (some (64, true)) (Op.move (Operand.tmp 1)) := opAt_of (by kernel_rfl)
set_option maxRecDepth 100000 in
theorem oS_70 : OpAt opsS 70 (some 81) (some (64, true)) (Op.nilCheck (Operand.tmp 80)) := opAt_of (by kernel_rfl)
set_option maxRecDepth 100000 in
theorem oS_71 : OpAt opsS 71 (some 82) (some (64, true)) (Op.fieldAddr 36 (Operand.tmp 81) 8) := opAt_of (by kernel_rfl)
set_option maxRecDepth 100000 in
theorem oS_72 : OpAt opsS 72 (some 83) (some (64, true)) (Op.load 32 (Operand.tmp 82)) := opAt_of (by kernel_rfl)
set_option maxRecDepth 100000 in
theorem oS_73 : OpAt opsS 73 (some 84) (some (64, true)) (Op.call { callee := Callee.value (Operand.func 47), args := #[(Operand.tmp 79), (Operand.tmp 83)], argTypes := #[32, 32] }) := opAt_of (by kernel_rfl)
set_option maxRecDepth 100000 in
theorem oS_74 : OpAt opsS 74 (some 85) (none) (Op.pick (Operand.tmp 75) (Operand.tmp 84) (Operand.const (Value.bool false))) := opAt_of (by kernel_rfl)
set_option maxRecDepth 100000 in
theorem oS_75 : OpAt opsS 75 (some 86) (none) (Op.move (Operand.tmp 85)) := opAt_of (by kernel_rfl)
set_option maxRecDepth 100000 in
theorem oS_76 : OpAt opsS 76 (some 87) (some (75, true)) (Op.move (Operand.tmp 0)) := opAt_of (by kernel_rfl)
set_option maxRecDepth 100000 in
theorem oS_77 : OpAt opsS 77 (some 88) (some (75, true)) (Op.nilCheck (Operand.tmp 87)) := opAt_of (by kernel_rfl)
set_option maxRecDepth 100000 in
theorem oS_78 : OpAt opsS 78 (some 89) (some (75, true)) (Op.fieldAddr 36 (Operand.tmp 88) 11) := opAt_of (by kernel_rfl)
set_option maxRecDepth 100000 in
theorem oS_79 : OpAt opsS 79 (some 90) (some (75, true)) (Op.load 29 (Operand.tmp 89)) := opAt_of (by kernel_rfl)
set_option maxRecDepth 100000 in
theorem oS_80 : OpAt opsS 80 (some 91) (some (75, true)) (Op.move (Operand.tmp 1)) := opAt_of (by kernel_rfl)
set_option maxRecDepth 100000 in
theorem oS_81 : OpAt opsS 81 (some 92) (some (75, true)) (Op.nilCheck (Operand.tmp 91)) := opAt_of (by kernel_rfl)
set_option maxRecDepth 100000 in
theorem oS_82 : OpAt opsS 82 (some 93) (some (75, true)) (Op.fieldAddr 36 (Operand.tmp 92) 11) := opAt_of (by kernel_rfl)
set_option maxRecDepth 100000 in
theorem oS_83 : OpAt opsS 83 (some 94) (some (75, true)) (Op.load 29 (Operand.tmp 93)) := opAt_of (by kernel_rfl)
set_option maxRecDepth 100000 in
theorem oS_84 : OpAt opsS 84 (some 95) (some (75, true)) (Op.call { callee := Callee.value (Operand.func 46), args := #[(Operand.tmp 90), (Operand.tmp 94)], argTypes := #[29, 29] }) := opAt_of (by kernel_rfl)
set_option maxRecDepth 100000 in
theorem oS_85 : OpAt opsS 85 (some 96) (none) (Op.pick (Operand.tmp 86) (Operand.tmp 95) (Operand.const (Value.bool false))) := opAt_of (by kernel_rfl)
set_option maxRecDepth 100000 in
theorem oS_86 : OpAt opsS 86 (some 97) (none) (Op.move (Operand.tmp 96)) := opAt_of (by kernel_rfl)
set_option maxRecDepth 100000 in
theorem oS_87 : OpAt opsS 87 (some 98) (some (86, true)) (Op.move (Operand.tmp 0)) := opAt_of (by kernel_rfl)
set_option maxRecDepth 100000 in
theorem oS_88 : OpAt opsS 88 (some 99) (some (86, true)) (Op.nilCheck (Operand.tmp 98)) := opAt_of (by kernel_rfl)
set_option maxRecDepth 100000 in
theorem oS_89 : OpAt opsS 89 (some 100) (some (86, true)) (Op.fieldAddr 36 (Operand.tmp 99) 5) := opAt_of (by kernel_rfl)
set_option maxRecDepth 100000 in
theorem oS_90 : OpAt opsS 90 (some 101) (some (86, true)) (Op.load 30 (Operand.tmp 100)) := opAt_of (by kernel_rfl)
set_option maxRecDepth 100000 in
theorem oS_91 : OpAt opsS 91 (some 102) (some (86, true)) (Op.move (Operand.tmp 1)) := opAt_of (by kernel_rfl)
set_option maxRecDepth 100000 in
theorem oS_92 : OpAt opsS 92 (some 103) (some (86, true)) (Op.nilCheck (Operand.tmp 102)) := opAt_of (by kernel_rfl)
set_option maxRecDepth 100000 in
theorem oS_93 : OpAt opsS 93 (some 104) (some (86, true)) (Op.fieldAddr 36 (Operand.tmp 103) 5) := opAt_of (by kernel_rfl)
set_option maxRecDepth 100000 in
theorem oS_94 : OpAt opsS 94 (some 105) (some (86, true)) (Op.load 30 (Operand.tmp 104)) := opAt_of (by kernel_rfl)
set_option maxRecDepth 100000 in
theorem oS_95 : OpAt opsS 95 (some 106) (some (86, true)) (Op.call { callee := Callee.value (Operand.func 48), args := #[(Operand.tmp 101), (Operand.tmp 105), Operand.func 49], argTypes := #[30, 30, 113] }) := opAt_of (by kernel_rfl)
set_option maxRecDepth 100000 in
theorem oS_96 : OpAt opsS 96 (some 107) (none) (Op.pick (Operand.tmp 97) (Operand.tmp 106) (Operand.const (Value.bool false))) := opAt_of (by kernel_rfl)
set_option maxRecDepth 100000 in
theorem oS_97 : OpAt opsS 97 (some 108) (none) (Op.move (Operand.tmp 107)) := opAt_of (by kernel_rfl)
set_option maxRecDepth 100000 in
theorem oS_98 : OpAt opsS 98 (some 109) (some (97, true)) (Op.move (Operand.tmp 0)) := opAt_of (by kernel_rfl)
set_option maxRecDepth 100000 in
theorem oS_99 : OpAt opsS 99 (some 110) (some (97, true)) (Op.nilCheck (Operand.tmp 109)) := opAt_of (by kernel_rfl)
set_option maxRecDepth 100000 in
theorem oS_100 : OpAt opsS 100 (some 111) (some (97, true)) (Op.fieldAddr 36 (Operand.tmp 110) 9) := opAt_of (by kernel_rfl)
set_option maxRecDepth 100000 in
theorem oS_101 : OpAt opsS 101 (some 112) (some (97, true)) (Op.load 33 (Operand.tmp 111)) := opAt_of (by kernel_rfl)
set_option maxRecDepth 100000 in
theorem oS_102 : OpAt opsS 102 (some 113) (some (97, true)) (Op.move (Operand.tmp 1)) := opAt_of (by kernel_rfl)
set_option maxRecDepth 100000 in
theorem oS_103 : OpAt opsS 103 (some 114) (some (97, true)) (Op.nilCheck (Operand.tmp 113)) := opAt_of (by kernel_rfl)
set_option maxRecDepth 100000 in
theorem oS_104 : OpAt opsS 104 (some 115) (some (97, true)) (Op.fieldAddr 36 (Operand.tmp 114) 9) := opAt_of (by kernel_rfl)
set_option maxRecDepth 100000 in
theorem oS_105 : OpAt opsS 105 (some 116) (some (97, true)) (Op.load 33 (Operand.tmp 115)) := opAt_of (by kernel_rfl)
set_option maxRecDepth 100000 in
theorem oS_106 : OpAt opsS 106 (some 117) (some (97, true)) (Op.call { callee := Callee.value (Operand.func 51), args := #[(Operand.tmp 112), (Operand.tmp 116)], argTypes := #[33, 33] }) := opAt_of (by kernel_rfl)
set_option maxRecDepth 100000 in
theorem oS_107 : OpAt opsS 107 (some 118) (none) (Op.pick (Operand.tmp 108) (Operand.tmp 117) (Operand.const (Value.bool false))) := opAt_of (by kernel_rfl)
set_option maxRecDepth 100000 in
theorem oS_108 : OpAt opsS 108 (some 119) (none) (Op.move (Operand.tmp 118)) := opAt_of (by kernel_rfl)
set_option maxRecDepth 100000 in
theorem oS_109 : OpAt opsS 109 (some 120) (some (108, true)) (Op.move (Operand.tmp 0)) := opAt_of (by kernel_rfl)
set_option maxRecDepth 100000 in
theorem oS_110 : OpAt opsS 110 (some 121) (some (108, true)) (Op.nilCheck (Operand.tmp 120)) := opAt_of (by kernel_rfl)
set_option maxRecDepth 100000 in
theorem oS_111 : OpAt opsS 111 (some 122) (some (108, true)) (Op.fieldAddr 36 (Operand.tmp 121) 10) := opAt_of (by kernel_rfl)
set_option maxRecDepth 100000 in
theorem oS_112 : OpAt opsS 112 (some 123) (some (108, true)) (Op.load 34 (Operand.tmp 122)) := opAt_of (by kernel_rfl)
set_option maxRecDepth 100000 in
theorem oS_113 : OpAt opsS 113 (some 124) (some (108, true)) (Op.move (Operand.tmp 1)) := opAt_of (by kernel_rfl)
set_option maxRecDepth 100000 in
theorem oS_114 : OpAt opsS 114 (some 125) (some (108, true)) (Op.nilCheck (Operand.tmp 124)) := opAt_of (by kernel_rfl)
set_option maxRecDepth 100000 in
theorem oS_115 : OpAt opsS 115 (some 126) (some (108, true)) (Op.fieldAddr 36 (Operand.tmp 125) 10) := opAt_of (by kernel_rfl)
set_option maxRecDepth 100000 in
theorem oS_116 : OpAt opsS 116 (some 127) (some (108, true)) (Op.load 34 (Operand.tmp 126)) := opAt_of (by kernel_rfl)
set_option maxRecDepth 100000 in
theorem oS_117 : OpAt opsS 117 (some 128) (some (108, true)) (Op.call { callee := Callee.value (Operand.func 52), args := #[(Operand.tmp 123), (Operand.tmp 127), Operand.func 53], argTypes := #[34, 34, 116] }) := opAt_of (by kernel_rfl)
set_option maxRecDepth 100000 in
theorem oS_118 : OpAt opsS 118 (some 129) (none) (Op.pick (Operand.tmp 119) (Operand.tmp 128) (Operand.const (Value.bool false))) := opAt_of (by kernel_rfl)
set_option maxRecDepth 100000 in
theorem oS_119 : OpAt opsS 119 (some 130) (none) (Op.move (Operand.tmp 129)) := opAt_of (by kernel_rfl)
set_option maxRecDepth 100000 in
theorem oS_120 : OpAt opsS 120 (some 131) (some (119, true)) (Op.move (Operand.tmp 0)) := opAt_of (by kernel_rfl)
set_option maxRecDepth 100000 in
theorem oS_121 : OpAt opsS 121 (some 132) (some (119, true)) (Op.nilCheck (Operand.tmp 131)) := opAt_of (by kernel_rfl)
set_option maxRecDepth 100000 in
theorem oS_122 : OpAt opsS 122 (some 133) (some (119, true)) (Op.fieldAddr 36 (Operand.tmp 132) 7) := opAt_of (by kernel_rfl)
set_option maxRecDepth 100000 in
theorem oS_123 : OpAt opsS 123 (some 134) (some (119, true)) (Op.load 31 (Operand.tmp 133)) := opAt_of (by kernel_rfl)
set_option maxRecDepth 100000 in
theorem oS_124 : OpAt opsS 124 (some 135) (some (119, true)) (Op.move (Operand.tmp 1)) := opAt_of (by kernel_rfl)
set_option maxRecDepth 100000 in
theorem oS_125 : OpAt opsS 125 (some 136) (some (119, true)) (Op.nilCheck (Operand.tmp 135)) := opAt_of (by kernel_rfl)
set_option maxRecDepth 100000 in
theorem oS_126 : OpAt opsS 126 (some 137) (some (119, true)) (Op.fieldAddr 36 (Operand.tmp 136) 7) := opAt_of (by kernel_rfl)
set_option maxRecDepth 100000 in
theorem oS_127 : OpAt opsS 127 (some 138) (some (119, true)) (Op.load 31 (Operand.tmp 137)) := opAt_of (by kernel_rfl)
set_option maxRecDepth 100000 in
theorem oS_128 : OpAt opsS 128 (some 139) (some (119, true)) (Op.call { callee := Callee.value (Operand.func 54), args := #[(Operand.tmp 134), (Operand.tmp 138), Operand.func 55], argTypes := #[31, 31, 118] }) := opAt_of (by kernel_rfl)
set_option maxRecDepth 100000 in
theorem oS_129 : OpAt opsS 129 (some 140) (none) (Op.pick (Operand.tmp 130) (Operand.tmp 139) (Operand.const (Value.bool false))) := opAt_of (by kernel_rfl)
set_option maxRecDepth 100000 in
theorem oS_130 : OpAt opsS 130 (some 4) (none) (Op.assign (Operand.tmp 140)) := opAt_of (by kernel_rfl)
set_option maxRecDepth 100000 in
theorem cS_0 : (Region.free .any opsS (Lst 131 0) 0 && (Region.ready .any opsS (Lst 131 0)).contains 0) = true := by kernel_rfl
set_option maxRecDepth 100000 in
theorem cS_1 : (Region.free .any opsS (Lst 131 1) 1 && (Region.ready .any opsS (Lst 131 1)).contains 1) = true := by kernel_rfl
set_option maxRecDepth 100000 in
theorem cS_2 : (Region.free .any opsS (Lst 131 2) 2 && (Region.ready .any opsS (Lst 131 2)).contains 2) = true := by kernel_rfl
set_option maxRecDepth 100000 in
theorem cS_3 : (Region.free .any opsS (Lst 131 3) 3 && (Region.ready .any opsS (Lst 131 3)).contains 3) = true := by kernel_rfl
set_option maxRecDepth 100000 in
theorem cS_4 : (Region.free .any opsS (Lst 131 4) 4 && (Region.ready .any opsS (Lst 131 4)).contains 4) = true := by kernel_rfl
set_option maxRecDepth 100000 in
theorem cS_5 : (Region.free .any opsS (Lst 131 5) 5 && (Region.ready .any opsS (Lst 131 5)).contains 5) = true := by kernel_rfl
set_option maxRecDepth 100000 in
theorem cS_6 : (Region.free .any opsS (Lst 131 6) 6 && (Region.ready .any opsS (Lst 131 6)).contains 6) = true := by kernel_rfl
set_option maxRecDepth 100000 in
theorem cS_7 : (Region.free .any opsS (Lst 131 7) 7 && (Region.ready .any opsS (Lst 131 7)).contains 7) = true := by kernel_rfl
set_option maxRecDepth 100000 in
theorem cS_8 : (Region.free .any opsS (Lst 131 8) 8 && (Region.ready .any opsS (Lst 131 8)).contains 8) = true := by kernel_rfl
set_option maxRecDepth 100000 in
theorem cS_9 : (Region.free .any opsS (Lst 131 9) 9 && (Region.ready .any opsS (Lst 131 9)).contains 9) = true := by kernel_rfl
set_option maxRecDepth 100000 in
theorem cS_10 : (Region.free .any opsS (Lst 131 10) 10 && (Region.ready .any opsS (Lst 131 10)).contains 10) = true := by kernel_rfl
set_option maxRecDepth 100000 in
theorem cS_11 : (Region.free .any opsS (Lst 131 11) 11 && (Region.ready .any opsS (Lst 131 11)).contains 11) = true := by kernel_rfl
set_option maxRecDepth 100000 in
theorem cS_12 : (Region.free .any opsS (Lst 131 12) 12 && (Region.ready .any opsS (Lst 131 12)).contains 12) = true := by kernel_rfl
set_option maxRecDepth 100000 in
theorem cS_13 : (Region.free .any opsS (Lst 131 13) 13 && (Region.ready .any opsS (Lst 131 13)).contains 13) = true := by kernel_rfl
set_option maxRecDepth 100000 in
theorem cS_14 : (Region.free .any opsS (Lst 131 14) 14 && (Region.ready .any opsS (Lst 131 14)).contains 14) = true := by kernel_rfl
set_option maxRecDepth 100000 in
theorem cS_15 : (Region.free .any opsS (Lst 131 15) 15 && (Region.ready .any opsS (Lst 131 15)).contains 15) = true := by kernel_rfl
set_option maxRecDepth 100000 in
theorem cS_16 : (Region.free .any opsS (Lst 131 16) 16 && (Region.ready .any opsS (Lst 131 16)).contains 16) = true := by kernel_rfl
set_option maxRecDepth 100000 in
theorem cS_17 : (Region.free .any opsS (Lst 131 17) 17 && (Region.ready .any opsS (Lst 131 17)).contains 17) = true := by kernel_rfl
set_option maxRecDepth 100000 in
theorem cS_18 : (Region.free .any opsS (Lst 131 18) 18 && (Region.ready .any opsS (Lst 131 18)).contains 18) = true := by kernel_rfl
set_option maxRecDepth 100000 in
theorem cS_19 : (Region.free .any opsS (Lst 131 19) 19 && (Region.ready .any opsS (Lst 131 19)).contains 19) = true := by kernel_rfl
set_option maxRecDepth 100000 in
theorem cS_20 : (Region.free .any opsS (Lst 131 20) 20 && (Region.ready .any opsS (Lst 131 20)).contains 20) = true := by kernel_rfl
set_option maxRecDepth 100000 in
theorem cS_21 : (Region.free .any opsS (Lst 131 21) 21 && (Region.ready .any opsS (Lst 131 21)).contains 21) = true := by kernel_rfl
set_option maxRecDepth 100000 in
theorem cS_22 : (Region.free .any opsS (Lst 131 22) 22 && (Region.ready .any opsS (Lst 131 22)).contains 22) = true := by kernel_rfl
set_option maxRecDepth 100000 in
theorem cS_23 : (Region.free .any opsS (Lst 131 23) 23 && (Region.ready .any opsS (Lst 131 23)).contains 23) = true := by kernel_rfl
set_option maxRecDepth 100000 in
theorem cS_24 : (Region.free .any opsS (Lst 131 24) 24 && (Region.ready .any opsS (Lst 131 24)).contains 24) = true := by kernel_rfl
set_option maxRecDepth 100000 in
theorem cS_25 : (Region.free .any opsS (Lst 131 25) 25 && (Region.ready .any opsS (Lst 131 25)).contains 25) = true := by kernel_rfl
set_option maxRecDepth 100000 in
theorem cS_26 : (Region.free .any opsS (Lst 131 26) 26 && (Region.ready .any opsS (Lst 131 26)).contains 26) = true := by kernel_rfl
set_option maxRecDepth 100000 in
theorem cS_27 : (Region.free .any opsS (Lst 131 27) 27 && (Region.ready .any opsS (Lst 131 27)).contains 27) = true := by kernel_rfl
set_option maxRecDepth 100000 in
theorem cS_28 : (Region.free .any opsS (Lst 131 28) 28 && (Region.ready .any opsS (Lst 131 28)).contains 28) = true := by kernel_rfl
set_option maxRecDepth 100000 in
theorem cS_29 : (Region.free .any opsS (Lst 131 29) 29 && (Region.ready .any opsS (Lst 131 29)).contains 29) = true := by kernel_rfl
set_option maxRecDepth 100000 in
theorem cS_30 : (Region.free .any opsS (Lst 131 30) 30 && (Region.ready .any opsS (Lst 131 30)).contains 30) = true := by kernel_rfl
set_option maxRecDepth 100000 in
theorem cS_31 : (Region.free .any opsS (Lst 131 31) 31 && (Region.ready .any opsS (Lst 131 31)).contains 31) = true := by kernel_rfl
set_option maxRecDepth 100000 in
theorem cS_32 : (Region.free .any opsS (Lst 131 32) 32 && (Region.ready .any opsS (Lst 131 32)).contains 32) = true := by kernel_rfl
set_option maxRecDepth 100000 in
theorem cS_33 : (Region.free .any opsS (Lst 131 33) 33 && (Region.ready .any opsS (Lst 131 33)).contains 33) = true := by kernel_rfl
set_option maxRecDepth 100000 in
theorem cS_34 : (Region.free .any opsS (Lst 131 34) 34 && (Region.ready .any opsS (Lst 131 34)).contains 34) = true := by kernel_rfl
set_option maxRecDepth 100000 in
theorem cS_35 : (Region.free .any opsS (Lst 131 35) 35 && (Region.ready .any opsS (Lst 131 35)).contains 35) = true := by kernel_rfl
set_option maxRecDepth 100000 in
theorem cS_36 : (Region.free .any opsS (Lst 131 36) 36 && (Region.ready .any opsS (Lst 131 36)).contains 36) = true := by kernel_rfl
set_option maxRecDepth 100000 in
theorem cS_37 : (Region.free .any opsS (Lst 131 37) 37 && (Region.ready .any opsS (Lst 131 37)).contains 37) = true := by kernel_rfl
set_option maxRecDepth 100000 in
theorem cS_38 : (Region.free .any opsS (Lst 131 38) 38 && (Region.ready .any opsS (Lst 131 38)).contains 38) = true := by kernel_rfl
set_option maxRecDepth 100000 in
theorem cS_39 : (Region.free .any opsS (Lst 131 39) 39 && (Region.ready .any opsS (Lst 131 39)).contains 39) = true := by kernel_rfl
set_option maxRecDepth 100000 in
theorem cS_40 : (Region.free .any opsS (Lst 131 40) 40 && (Region.ready .any opsS (Lst 131 40)).contains 40) = true := by kernel_rfl
set_option maxRecDepth 100000 in
theorem cS_41 : (Region.free .any opsS (Lst 131 41) 41 && (Region.ready .any opsS (Lst 131 41)).contains 41) = true := by kernel_rfl
set_option maxRecDepth 100000 in
theorem cS_42 : (Region.free .any opsS (Lst 131 42) 42 && (Region.ready .any opsS (Lst 131 42)).contains 42) = true := by kernel_rfl
set_option maxRecDepth 100000 in
theorem cS_43 : (Region.free .any opsS (Lst 131 43) 43 && (Region.ready .any opsS (Lst 131 43)).contains 43) = true := by kernel_rfl
set_option maxRecDepth 100000 in
theorem cS_44 : (Region.free .any opsS (Lst 131 44) 44 && (Region.ready .any opsS (Lst 131 44)).contains 44) = true := by kernel_rfl
set_option maxRecDepth 100000 in
theorem cS_45 : (Region.free .any opsS (Lst 131 45) 45 && (Region.ready .any opsS (Lst 131 45)).contains 45) = true := by kernel_rfl
set_option maxRecDepth 100000 in
theorem cS_46 : (Region.free .any opsS (Lst 131 46) 46 && (Region.ready .any opsS (Lst 131 46)).contains 46) = true := by kernel_rfl
set_option maxRecDepth 100000 in
theorem cS_47 : (Region.free .any opsS (Lst 131 47) 47 && (Region.ready .any opsS (Lst 131 47)).contains 47) = true := by kernel_rfl
set_option maxRecDepth 100000 in
theorem cS_48 : (Region.free .any opsS (Lst 131 48) 48 && (Region.ready .any opsS (Lst 131 48)).contains 48) = true := by kernel_rfl
set_option maxRecDepth 100000 in
theorem cS_49 : (Region.free .any opsS (Lst 131 49) 49 && (Region.ready .any opsS (Lst 131 49)).contains 49) = true := by kernel_rfl
set_option maxRecDepth 100000 in
theorem cS_50 : (Region.free .any opsS (Lst 131 50) 50 && (Region.ready .any opsS (Lst 131 50)).contains 50) = true := by kernel_rfl
set_option maxRecDepth 100000 in
theorem cS_51 : (Region.ready .any opsS (Lst 131 51) == [51]) = true := by kernel_rfl
set_option maxRecDepth 100000 in
theorem cS_52 : (Region.free .any opsS (Lst 131 52) 52 && (Region.ready .any opsS (Lst 131 52)).contains 52) = true := by kernel_rfl
set_option maxRecDepth 100000 in
theorem cS_53 : (Region.free .any opsS (Lst 131 53) 53 && (Region.ready .any opsS (Lst 131 53)).contains 53) = true := by kernel_rfl
set_option maxRecDepth 100000 in
theorem cS_54 : (Region.free .any opsS (Lst 131 54) 54 && (Region.ready .any opsS (Lst 131 54)).contains 54) = true := by kernel_rfl
set_option maxRecDepth 100000 in
theorem cS_55 : (Region.free .any opsS (Lst 131 55) 55 && (Region.ready .any opsS (Lst 131 55)).contains 55) = true := by kernel_rfl
set_option maxRecDepth 100000 in
theorem cS_56 : (Region.free .any opsS (Lst 131 56) 56 && (Region.ready .any opsS (Lst 131 56)).contains 56) = true := by kernel_rfl
set_option maxRecDepth 100000 in
theorem cS_57 : (Region.free .any opsS (Lst 131 57) 57 && (Region.ready .any opsS (Lst 131 57)).contains 57) = true := by kernel_rfl
set_option maxRecDepth 100000 in
theorem cS_58 : (Region.free .any opsS (Lst 131 58) 58 && (Region.ready .any opsS (Lst 131 58)).contains 58) = true := by kernel_rfl
set_option maxRecDepth 100000 in
theorem cS_59 : (Region.free .any opsS (Lst 131 59) 59 && (Region.ready .any opsS (Lst 131 59)).contains 59) = true := by kernel_rfl
set_option maxRecDepth 100000 in
theorem cS_60 : (Region.free .any opsS (Lst 131 60) 60 && (Region.ready .any opsS (Lst 131 60)).contains 60) = true := by kernel_rfl
set_option maxRecDepth 100000 in
theorem cS_61 : (Region.free .any opsS (Lst 131 61) 61 && (Region.ready .any opsS (Lst 131 61)).contains 61) = true := by kernel_rfl
set_option maxRecDepth 100000 in
theorem cS_62 : (Region.ready .any opsS (Lst 131 62) == [62]) = true := by kernel_rfl
set_option maxRecDepth 100000 in
theorem cS_63 : (Region.free .any opsS (Lst 131 63) 63 && (Region.ready .any opsS (Lst 131 63)).contains 63) = true := by kernel_rfl
set_option maxRecDepth 100000 in
theorem cS_64 : (Region.free .any opsS (Lst 131 64) 64 && (Region.ready .any opsS (Lst 131 64)).contains 64) = true := by kernel_rfl
set_option maxRecDepth 100000 in
theorem cS_65 : (Region.free .any opsS (Lst 131 65) 65 && (Region.ready .any opsS (Lst 131 65)).contains 65) = true := by kernel_rfl
set_option maxRecDepth 100000 in
theorem cS_66 : (Region.free .any opsS (Lst 131 66) 66 && (Region.ready .any opsS (Lst 131 66)).contains 66) = true := by kernel_rfl
set_option maxRecDepth 100000 in
theorem cS_67 : (Region.free .any opsS (Lst 131 67) 67 && (Region.ready .any opsS (Lst 131 67)).contains 67) = true := by kernel_rfl
set_option maxRecDepth 100000 in
theorem cS_68 : (Region.free .any opsS (Lst 131 68) 68 && (Region.ready .any opsS (Lst 131 68)).contains 68) = true := by kernel_rfl
set_option maxRecDepth 100000 in
theorem cS_69 : (Region.free .any opsS (Lst 131 69) 69 && (Region.ready .any opsS (Lst 131 69)).contains 69) = true := by kernel_rfl
set_option maxRecDepth 100000 in
theorem cS_70 : (Region.free .any opsS (Lst 131 70) 70 && (Region.ready .any opsS (Lst 131 70)).contains 70) = true := by kernel_rfl
set_option maxRecDepth 100000 in
theorem cS_71 : (Region.free .any opsS (Lst 131 71) 71 && (Region.ready .any opsS (Lst 131 71)).contains 71) = true := by kernel_rfl
set_option maxRecDepth 100000 in
theorem cS_72 : (Region.free .any opsS (Lst 131 72) 72 && (Region.ready .any opsS (Lst 131 72)).contains 72) = true := by kernel_rfl
set_option maxRecDepth 100000 in
theorem cS_73 : (Region.ready .any opsS (Lst 131 73) == [73]) = true := by kernel_rfl
set_option maxRecDepth 100000 in
theorem cS_74 : (Region.free .any opsS (Lst 131 74) 74 && (Region.ready .any opsS (Lst 131 74)).contains 74) = true := by kernel_rfl
set_option maxRecDepth 100000 in
theorem cS_75 : (Region.free .any opsS (Lst 131 75) 75 && (Region.ready .any opsS (Lst 131 75)).contains 75) = true := by kernel_rfl
set_option maxRecDepth 100000 in
theorem cS_76 : (Region.free .any opsS (Lst 131 76) 76 && (Region.ready .any opsS (Lst 131 76)).contains 76) = true := by kernel_rfl
set_option maxRecDepth 100000 in
theorem cS_77 : (Region.free .any opsS (Lst 131 77) 77 && (Region.ready .any opsS (Lst 131 77)).contains 77) = true := by kernel_rfl
set_option maxRecDepth 100000 in
theorem cS_78 : (Region.free .any opsS (Lst 131 78) 78 && (Region.ready .any opsS (Lst 131 78)).contains 78) = true := by kernel_rfl
set_option maxRecDepth 100000 in
theorem cS_79 : (Region.free .any opsS (Lst 131 79) 79 && (Region.ready .any opsS (Lst 131 79)).contains 79) = true := by kernel_rfl
set_option maxRecDepth 100000 in
theorem cS_80 : (Region.free .any opsS (Lst 131 80) 80 && (Region.ready .any opsS (Lst 131 80)).contains 80) = true := by kernel_rfl
set_option maxRecDepth 100000 in
theorem cS_81 : (Region.free .any opsS (Lst 131 81) 81 && (Region.ready .any opsS (Lst 131 81)).contains 81) = true := by kernel_rfl
set_option maxRecDepth 100000 in
theorem cS_82 : (Region.free .any opsS (Lst 131 82) 82 && (Region.ready .any opsS (Lst 131 82)).contains 82) = true := by kernel_rfl
set_option maxRecDepth 100000 in
theorem cS_83 : (Region.free .any opsS (Lst 131 83) 83 && (Region.ready .any opsS (Lst 131 83)).contains 83) = true := by kernel_rfl
set_option maxRecDepth 100000 in
theorem cS_84 : (Region.ready .any opsS (Lst 131 84) == [84]) = true := by kernel_rfl
set_option maxRecDepth 100000 in
theorem cS_85 : (Region.free .any opsS (Lst 131 85) 85 && (Region.ready .any opsS (Lst 131 85)).contains 85) = true := by kernel_rfl
set_option maxRecDepth 100000 in
theorem cS_86 : (Region.free .any opsS (Lst 131 86) 86 && (Region.ready .any opsS (Lst 131 86)).contains 86) = true := by kernel_rfl
set_option maxRecDepth 100000 in
theorem cS_87 : (Region.free .any opsS (Lst 131 87) 87 && (Region.ready .any opsS (Lst 131 87)).contains 87) = true := by kernel_rfl
set_option maxRecDepth 100000 in
theorem cS_88 : (Region.free .any opsS (Lst 131 88) 88 && (Region.ready .any opsS (Lst 131 88)).contains 88) = true := by kernel_rfl
set_option maxRecDepth 100000 in
theorem cS_89 : (Region.free .any opsS (Lst 131 89) 89 && (Region.ready .any opsS (Lst 131 89)).contains 89) = true := by kernel_rfl
set_option maxRecDepth 100000 in
theorem cS_90 : (Region.free .any opsS (Lst 131 90) 90 && (Region.ready .any opsS (Lst 131 90)).contains 90) = true := by kernel_rfl
set_option maxRecDepth 100000 in
theorem cS_91 : (Region.free .any opsS (Lst 131 91) 91 && (Region.ready .any opsS (Lst 131 91)).contains 91) = true := by kernel_rfl
set_option maxRecDepth 100000 in
theorem cS_92 : (Region.free .any opsS (Lst 131 92) 92 && (Region.ready .any opsS (Lst 131 92)).contains 92) = true := by kernel_rfl
set_option maxRecDepth 100000 in
theorem cS_93 : (Region.free .any opsS (Lst 131 93) 93 && (Region.ready .any opsS (Lst 131 93)).contains 93) = true := by kernel_rfl
set_option maxRecDepth 100000 in
theorem cS_94 : (Region.free .any opsS (Lst 131 94) 94 && (Region.ready .any opsS (Lst 131 94)).contains 94) = true := by kernel_rfl
set_option maxRecDepth 100000 in
theorem cS_95 : (Region.ready .any opsS (Lst 131 95) == [95]) = true := by kernel_rfl
set_option maxRecDepth 100000 in
theorem cS_96 : (Region.free .any opsS (Lst 131 96) 96 && (Region.ready .any opsS (Lst 131 96)).contains 96) = true := by kernel_rfl
set_option maxRecDepth 100000 in
theorem cS_97 : (Region.free .any opsS (Lst 131 97) 97 && (Region.ready .any opsS (Lst 131 97)).contains 97) = true := by kernel_rfl
set_option maxRecDepth 100000 in
theorem cS_98 : (Region.free .any opsS (Lst 131 98) 98 && (Region.ready .any opsS (Lst 131 98)).contains 98) = true := by kernel_rfl
set_option maxRecDepth 100000 in
theorem cS_99 : (Region.free .any opsS (Lst 131 99) 99 && (Region.ready .any opsS (Lst 131 99)).contains 99) = true := by kernel_rfl
set_option maxRecDepth 100000 in
theorem cS_100 : (Region.free .any opsS (Lst 131 100) 100 && (Region.ready .any opsS (Lst 131 100)).contains 100) = true := by kernel_rfl
set_option maxRecDepth 100000 in
theorem cS_101 : (Region.free .any opsS (Lst 131 101) 101 && (Region.ready .any opsS (Lst 131 101)).contains 101) = true := by kernel_rfl
set_option maxRecDepth 100000 in
theorem cS_102 : (Region.free .any opsS (Lst 131 102) 102 && (Region.ready .any opsS (Lst 131 102)).contains 102) = true := by kernel_rfl
set_option maxRecDepth 100000 in
theorem cS_103 : (Region.free .any opsS (Lst 131 103) 103 && (Region.ready .any opsS (Lst 131 103)).contains 103) = true := by kernel_rfl
set_option maxRecDepth 100000 in
theorem cS_104 : (Region.free .any opsS (Lst 131 104) 104 && (Region.ready .any opsS (Lst 131 104)).contains 104) = true := by kernel_rfl
set_option maxRecDepth 100000 in
theorem cS_105 : (Region.free .any opsS (Lst 131 105) 105 && (Region.ready .any opsS (Lst 131 105)).contains 105) = true := by kernel_rfl
set_option maxRecDepth 100000 in
theorem cS_106 : (Region.ready .any opsS (Lst 131 106) == [106]) = true := by kernel_rfl
set_option maxRecDepth 100000 in
theorem cS_107 : (Region.free .any opsS (Lst 131 107) 107 && (Region.ready .any opsS (Lst 131 107)).contains 107) = true := by kernel_rfl
set_option maxRecDepth 100000 in
theorem cS_108 : (Region.free .any opsS (Lst 131 108) 108 && (Region.ready .any opsS (Lst 131 108)).contains 108) = true := by kernel_rfl
set_option maxRecDepth 100000 in
theorem cS_109 : (Region.free .any opsS (Lst 131 109) 109 && (Region.ready .any opsS (Lst 131 109)).contains 109) = true := by kernel_rfl
set_option maxRecDepth 100000 in
theorem cS_110 : (Region.free .any opsS (Lst 131 110) 110 && (Region.ready .any opsS (Lst 131 110)).contains 110) = true := by kernel_rfl
set_option maxRecDepth 100000 in
theorem cS_111 : (Region.free .any opsS (Lst 131 111) 111 && (Region.ready .any opsS (Lst 131 111)).contains 111) = true := by kernel_rfl
set_option maxRecDepth 100000 in
theorem cS_112 : (Region.free .any opsS (Lst 131 112) 112 && (Region.ready .any opsS (Lst 131 112)).contains 112) = true := by kernel_rfl
set_option maxRecDepth 100000 in
theorem cS_113 : (Region.free .any opsS (Lst 131 113) 113 && (Region.ready .any opsS (Lst 131 113)).contains 113) = true := by kernel_rfl
set_option maxRecDepth 100000 in
theorem cS_114 : (Region.free .any opsS (Lst 131 114) 114 && (Region.ready .any opsS (Lst 131 114)).contains 114) = true := by kernel_rfl
set_option maxRecDepth 100000 in
theorem cS_115 : (Region.free .any opsS (Lst 131 115) 115 && (Region.ready .any opsS (Lst 131 115)).contains 115) = true := by kernel_rfl
set_option maxRecDepth 100000 in
theorem cS_116 : (Region.free .any opsS (Lst 131 116) 116 && (Region.ready .any opsS (Lst 131 116)).contains 116) = true := by kernel_rfl
set_option maxRecDepth 100000 in
theorem cS_117 : (Region.ready .any opsS (Lst 131 117) == [117]) = true := by kernel_rfl
set_option maxRecDepth 100000 in
theorem cS_118 : (Region.free .any opsS (Lst 131 118) 118 && (Region.ready .any opsS (Lst 131 118)).contains 118) = true := by kernel_rfl
set_option maxRecDepth 100000 in
theorem cS_119 : (Region.free .any opsS (Lst 131 119) 119 && (Region.ready .any opsS (Lst 131 119)).contains 119) = true := by kernel_rfl
set_option maxRecDepth 100000 in
theorem cS_120 : (Region.free .any opsS (Lst 131 120) 120 && (Region.ready .any opsS (Lst 131 120)).contains 120) = true := by kernel_rfl
set_option maxRecDepth 100000 in
theorem cS_121 : (Region.free .any opsS (Lst 131 121) 121 && (Region.ready .any opsS (Lst 131 121)).contains 121) = true := by kernel_rfl
set_option maxRecDepth 100000 in
theorem cS_122 : (Region.free .any opsS (Lst 131 122) 122 && (Region.ready .any opsS (Lst 131 122)).contains 122) = true := by kernel_rfl
set_option maxRecDepth 100000 in
theorem cS_123 : (Region.free .any opsS (Lst 131 123) 123 && (Region.ready .any opsS (Lst 131 123)).contains 123) = true := by kernel_rfl
set_option maxRecDepth 100000 in
theorem cS_124 : (Region.free .any opsS (Lst 131 124) 124 && (Region.ready .any opsS (Lst 131 124)).contains 124) = true := by kernel_rfl
set_option maxRecDepth 100000 in
theorem cS_125 : (Region.free .any opsS (Lst 131 125) 125 && (Region.ready .any opsS (Lst 131 125)).contains 125) = true := by kernel_rfl
set_option maxRecDepth 100000 in
theorem cS_126 : (Region.free .any opsS (Lst 131 126) 126 && (Region.ready .any opsS (Lst 131 126)).contains 126) = true := by kernel_rfl
set_option maxRecDepth 100000 in
theorem cS_127 : (Region.free .any opsS (Lst 131 127) 127 && (Region.ready .any opsS (Lst 131 127)).contains 127) = true := by kernel_rfl
set_option maxRecDepth 100000 in
theorem cS_128 : (Region.ready .any opsS (Lst 131 128) == [128]) = true := by kernel_rfl
set_option maxRecDepth 100000 in
theorem cS_129 : (Region.free .any opsS (Lst 131 129) 129 && (Region.ready .any opsS (Lst 131 129)).contains 129) = true := by kernel_rfl
set_option maxRecDepth 100000 in
theorem cS_130 : (Region.free .any opsS (Lst 131 130) 130 && (Region.ready .any opsS (Lst 131 130)).contains 130) = true := by kernel_rfl
set_option maxRecDepth 100000 in
theorem cS_131 : (Region.ready .any opsS (Lst 131 131)).isEmpty = true := by kernel_rfl
theorem okS : OkFrom opsS opsS.size 0 schedS := by
  rw [show opsS.size = 131 by kernel_rfl]
  exact ⟨cS_0, cS_1, cS_2, cS_3, cS_4, cS_5, cS_6, cS_7, cS_8, cS_9, cS_10, cS_11, cS_12, cS_13, cS_14, cS_15, cS_16, cS_17, cS_18, cS_19, cS_20, cS_21, cS_22, cS_23, cS_24, cS_25, cS_26, cS_27, cS_28, cS_29, cS_30, cS_31, cS_32, cS_33, cS_34, cS_35, cS_36, cS_37, cS_38, cS_39, cS_40, cS_41, cS_42, cS_43, cS_44, cS_45, cS_46, cS_47, cS_48, cS_49, cS_50, cS_51, cS_52, cS_53, cS_54, cS_55, cS_56, cS_57, cS_58, cS_59, cS_60, cS_61, cS_62, cS_63, cS_64, cS_65, cS_66, cS_67, cS_68, cS_69, cS_70, cS_71, cS_72, cS_73, cS_74, cS_75, cS_76, cS_77, cS_78, cS_79, cS_80, cS_81, cS_82, cS_83, cS_84, cS_85, cS_86, cS_87, cS_88, cS_89, cS_90, cS_91, cS_92, cS_93, cS_94, cS_95, cS_96, cS_97, cS_98, cS_99, cS_100, cS_101, cS_102, cS_103, cS_104, cS_105, cS_106, cS_107, cS_108, cS_109, cS_110, cS_111, cS_112, cS_113, cS_114, cS_115, cS_116, cS_117, cS_118, cS_119, cS_120, cS_121, cS_122, cS_123, cS_124, cS_125, cS_126, cS_127, cS_128, cS_129, cS_130, cS_131⟩
end Go.Proofs.YtmpjbolopgccpaaGreat
