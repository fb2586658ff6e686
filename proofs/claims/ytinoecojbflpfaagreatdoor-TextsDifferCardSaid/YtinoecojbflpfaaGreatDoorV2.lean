/- Part 2 of a proof: texts of this work, put together. -/
import Derived.Test.YtinoecojbflpfaaGreatDoorV1
import Derived.KernelRfl
import Derived.Lib.ItoaLen
set_option linter.unusedVariables false
set_option linter.unusedSimpArgs false
section
namespace Go.S1
open Go Go.Am Go.Proofs
set_option maxRecDepth 100000
noncomputable def L19 : LCode := .seq (.ops [⟨.assign (.const (.string ⟨⟨[]⟩⟩)), some 6, none⟩]) (.seq (.seq (.ops [⟨.move (.tmp 1), some 9, none⟩, ⟨.binOp .eql 9 (.tmp 9) (.const (.string ⟨⟨[]⟩⟩)) 9, some 10, none⟩, ⟨.move (.tmp 10), some 11, none⟩, ⟨.move (.tmp 2), some 12, some (11, false)⟩, ⟨.binOp .eql 9 (.tmp 12) (.const (.string ⟨⟨[]⟩⟩)) 9, some 13, some (11, false)⟩, ⟨.pick (.tmp 11) (.const (.bool true)) (.tmp 13), some 14, none⟩]) (.cond (.tmp 14) (.seq (.ops [⟨.move (.tmp 2), some 15, none⟩, ⟨.assign (.tmp 15), some 6, none⟩]) .ret) .skip)) (.seq (.ops [⟨.move (.tmp 0), some 16, none⟩, ⟨.move (.tmp 1), some 17, none⟩, ⟨.call ⟨.builtin .len, ⟨[.tmp 17]⟩, ⟨[9]⟩⟩, some 18, none⟩, ⟨.call ⟨.value (.func 75), ⟨[.tmp 16, .tmp 18]⟩, ⟨[23, 3]⟩⟩, some 19, none⟩, ⟨.assign (.tmp 19), some 7, none⟩]) (.seq (.ops [⟨.move (.tmp 2), some 20, none⟩, ⟨.move (.tmp 0), some 21, none⟩, ⟨.move (.tmp 2), some 22, none⟩, ⟨.call ⟨.builtin .len, ⟨[.tmp 22]⟩, ⟨[9]⟩⟩, some 23, none⟩, ⟨.call ⟨.value (.func 75), ⟨[.tmp 21, .tmp 23]⟩, ⟨[23, 3]⟩⟩, some 24, none⟩, ⟨.index 9 (.tmp 20) (.tmp 24), some 25, none⟩, ⟨.assign (.tmp 25), some 8, none⟩]) (.seq (.seq (.ops [⟨.move (.tmp 0), some 26, none⟩, ⟨.call ⟨.value (.func 75), ⟨[.tmp 26, .const (.int .i64 3)]⟩, ⟨[23, 3]⟩⟩, some 27, none⟩]) (.block 0 (.seq (.ops [⟨.binOp .eql 3 (.tmp 27) (.const (.int .i64 0)) 3, some 29, none⟩, ⟨.assign (.tmp 29), some 28, none⟩]) (.cond (.tmp 28) (.seq (.draw [0, 0, 3, 0, 8, 24, 63, 0, 0, 256, 896, 2047, 4095] [⟨.move (.tmp 1), some 30, none⟩, ⟨.move (.tmp 7), some 31, none⟩, ⟨.slice 9 (.tmp 30) none (some (.tmp 31)) none, some 32, none⟩, ⟨.move (.tmp 8), some 33, none⟩, ⟨.convert 5 21 (.tmp 33), some 34, none⟩, ⟨.convert 21 9 (.tmp 34), some 35, none⟩, ⟨.binOp .add 9 (.tmp 32) (.tmp 35) 9, some 36, none⟩, ⟨.move (.tmp 1), some 37, none⟩, ⟨.move (.tmp 7), some 38, none⟩, ⟨.binOp .add 3 (.tmp 38) (.const (.int .i64 1)) 3, some 39, none⟩, ⟨.slice 9 (.tmp 37) (some (.tmp 39)) none none, some 40, none⟩, ⟨.binOp .add 9 (.tmp 36) (.tmp 40) 9, some 41, none⟩, ⟨.assign (.tmp 41), some 6, none⟩]) .ret) (.seq (.ops [⟨.binOp .eql 3 (.tmp 27) (.const (.int .i64 1)) 3, some 43, none⟩, ⟨.assign (.tmp 43), some 42, none⟩]) (.cond (.tmp 42) (.seq (.draw [0, 0, 3, 0, 8, 24, 63, 0, 0, 384, 1023, 2047] [⟨.move (.tmp 1), some 44, none⟩, ⟨.move (.tmp 7), some 45, none⟩, ⟨.slice 9 (.tmp 44) none (some (.tmp 45)) none, some 46, none⟩, ⟨.move (.tmp 8), some 47, none⟩, ⟨.convert 5 21 (.tmp 47), some 48, none⟩, ⟨.convert 21 9 (.tmp 48), some 49, none⟩, ⟨.binOp .add 9 (.tmp 46) (.tmp 49) 9, some 50, none⟩, ⟨.move (.tmp 1), some 51, none⟩, ⟨.move (.tmp 7), some 52, none⟩, ⟨.slice 9 (.tmp 51) (some (.tmp 52)) none none, some 53, none⟩, ⟨.binOp .add 9 (.tmp 50) (.tmp 53) 9, some 54, none⟩, ⟨.assign (.tmp 54), some 6, none⟩]) .ret) .skip)))))) (.seq (.draw [0, 0, 3, 0, 0, 16, 56, 127, 255] [⟨.move (.tmp 1), some 55, none⟩, ⟨.move (.tmp 7), some 56, none⟩, ⟨.slice 9 (.tmp 55) none (some (.tmp 56)) none, some 57, none⟩, ⟨.move (.tmp 1), some 58, none⟩, ⟨.move (.tmp 7), some 59, none⟩, ⟨.binOp .add 3 (.tmp 59) (.const (.int .i64 1)) 3, some 60, none⟩, ⟨.slice 9 (.tmp 58) (some (.tmp 60)) none none, some 61, none⟩, ⟨.binOp .add 9 (.tmp 57) (.tmp 61) 9, some 62, none⟩, ⟨.assign (.tmp 62), some 6, none⟩]) .ret)))))
theorem l19 : Tryz.f19.body.map lighten = some L19 := by kernel_rfl
theorem gob19 : Gob 19 63 L19 [.tmp 6] := fun hl h => ACall.goB tab_ok mixed Tryz.func19 l19 nm19 (by kernel_rfl) (by kernel_rfl) hl h
noncomputable def L23 : LCode := .seq (.ops [⟨.assign (.const (.slice none 0 0)), some 4, none⟩]) (.seq (.ops [⟨.move (.tmp 0), some 14, none⟩, ⟨.call ⟨.builtin .len, ⟨[.tmp 14]⟩, ⟨[9]⟩⟩, some 15, none⟩, ⟨.binOp .add 3 (.tmp 15) (.const (.int .i64 1)) 3, some 16, none⟩, ⟨.makeSlice 130 (.tmp 16) (.tmp 16), some 17, none⟩, ⟨.assign (.tmp 17), some 5, none⟩]) (.seq (.seq (.ops [⟨.move (.tmp 5), some 18, none⟩, ⟨.call ⟨.builtin .len, ⟨[.tmp 18]⟩, ⟨[130]⟩⟩, some 19, none⟩, ⟨.move (.const (.int .i64 0)), some 20, none⟩]) (.block 0 (.loop (.seq (.ops [⟨.binOp .lss 3 (.tmp 20) (.tmp 19) 3, some 21, none⟩]) (.seq (.cond (.tmp 21) .skip (.exit 0)) (.seq (.block 1 (.seq (.ops [⟨.move (.tmp 20), some 22, none⟩, ⟨.assign (.tmp 22), some 6, none⟩]) (.ops [⟨.move (.tmp 5), some 23, none⟩, ⟨.move (.tmp 6), some 24, none⟩, ⟨.move (.tmp 1), some 25, none⟩, ⟨.call ⟨.builtin .len, ⟨[.tmp 25]⟩, ⟨[9]⟩⟩, some 26, none⟩, ⟨.binOp .add 3 (.tmp 26) (.const (.int .i64 1)) 3, some 27, none⟩, ⟨.makeSlice 22 (.tmp 27) (.tmp 27), some 28, none⟩, ⟨.indexAddr 130 (.tmp 23) (.tmp 24), some 29, none⟩, ⟨.store 22 (.tmp 29) (.tmp 28), none, none⟩]))) (.ops [⟨.binOp .add 3 (.tmp 20) (.const (.int .i64 1)) 3, some 30, none⟩, ⟨.move (.tmp 30), some 20, none⟩]))))))) (.seq (.seq (.ops [⟨.move (.tmp 0), some 31, none⟩, ⟨.call ⟨.builtin .len, ⟨[.tmp 31]⟩, ⟨[9]⟩⟩, some 32, none⟩, ⟨.binOp .sub 3 (.tmp 32) (.const (.int .i64 1)) 3, some 33, none⟩, ⟨.assign (.tmp 33), some 7, none⟩]) (.block 2 (.loop (.seq (.seq (.ops [⟨.move (.tmp 7), some 34, none⟩, ⟨.binOp .geq 3 (.tmp 34) (.const (.int .i64 0)) 3, some 35, none⟩]) (.cond (.tmp 35) .skip (.exit 2))) (.seq (.block 3 (.seq (.ops [⟨.move (.tmp 1), some 38, none⟩, ⟨.call ⟨.builtin .len, ⟨[.tmp 38]⟩, ⟨[9]⟩⟩, some 39, none⟩, ⟨.binOp .sub 3 (.tmp 39) (.const (.int .i64 1)) 3, some 40, none⟩, ⟨.assign (.tmp 40), some 8, none⟩]) (.block 4 (.loop (.seq (.seq (.ops [⟨.move (.tmp 8), some 41, none⟩, ⟨.binOp .geq 3 (.tmp 41) (.const (.int .i64 0)) 3, some 42, none⟩]) (.cond (.tmp 42) .skip (.exit 4))) (.seq (.block 5 (.seq (.draw [0, 0, 3, 7, 0, 0, 0, 64, 224, 480, 0, 2016, 4064, 0, 0, 24576, 57344, 0, 131072, 516096, 1040384, 2097120, 4194303, 8388607] [⟨.move (.tmp 5), some 45, none⟩, ⟨.move (.tmp 7), some 46, none⟩, ⟨.indexAddr 130 (.tmp 45) (.tmp 46), some 47, none⟩, ⟨.load 22 (.tmp 47), some 48, none⟩, ⟨.move (.tmp 8), some 49, none⟩, ⟨.move (.tmp 5), some 50, none⟩, ⟨.move (.tmp 7), some 51, none⟩, ⟨.binOp .add 3 (.tmp 51) (.const (.int .i64 1)) 3, some 52, none⟩, ⟨.indexAddr 130 (.tmp 50) (.tmp 52), some 53, none⟩, ⟨.load 22 (.tmp 53), some 54, none⟩, ⟨.move (.tmp 8), some 55, none⟩, ⟨.indexAddr 22 (.tmp 54) (.tmp 55), some 56, none⟩, ⟨.load 3 (.tmp 56), some 57, none⟩, ⟨.move (.tmp 5), some 58, none⟩, ⟨.move (.tmp 7), some 59, none⟩, ⟨.indexAddr 130 (.tmp 58) (.tmp 59), some 60, none⟩, ⟨.load 22 (.tmp 60), some 61, none⟩, ⟨.move (.tmp 8), some 62, none⟩, ⟨.binOp .add 3 (.tmp 62) (.const (.int .i64 1)) 3, some 63, none⟩, ⟨.indexAddr 22 (.tmp 61) (.tmp 63), some 64, none⟩, ⟨.load 3 (.tmp 64), some 65, none⟩, ⟨.call ⟨.builtin .max, ⟨[.tmp 57, .tmp 65]⟩, ⟨[3, 3]⟩⟩, some 66, none⟩, ⟨.indexAddr 22 (.tmp 48) (.tmp 49), some 67, none⟩, ⟨.store 3 (.tmp 67) (.tmp 66), none, none⟩]) (.seq (.draw [0, 0, 3, 0, 0, 24, 63] [⟨.move (.tmp 0), some 68, none⟩, ⟨.move (.tmp 7), some 69, none⟩, ⟨.index 9 (.tmp 68) (.tmp 69), some 70, none⟩, ⟨.move (.tmp 1), some 71, none⟩, ⟨.move (.tmp 8), some 72, none⟩, ⟨.index 9 (.tmp 71) (.tmp 72), some 73, none⟩, ⟨.binOp .eql 5 (.tmp 70) (.tmp 73) 5, some 74, none⟩]) (.cond (.tmp 74) (.draw [0, 0, 3, 7, 0, 0, 0, 96, 224, 0, 992, 2016, 0, 0, 8192, 28672, 61440, 0, 131072, 520192, 1044480, 2093056, 4194272, 8388607, 16777215] [⟨.move (.tmp 5), some 75, none⟩, ⟨.move (.tmp 7), some 76, none⟩, ⟨.indexAddr 130 (.tmp 75) (.tmp 76), some 77, none⟩, ⟨.load 22 (.tmp 77), some 78, none⟩, ⟨.move (.tmp 8), some 79, none⟩, ⟨.move (.tmp 5), some 80, none⟩, ⟨.move (.tmp 7), some 81, none⟩, ⟨.indexAddr 130 (.tmp 80) (.tmp 81), some 82, none⟩, ⟨.load 22 (.tmp 82), some 83, none⟩, ⟨.move (.tmp 8), some 84, none⟩, ⟨.indexAddr 22 (.tmp 83) (.tmp 84), some 85, none⟩, ⟨.load 3 (.tmp 85), some 86, none⟩, ⟨.move (.tmp 5), some 87, none⟩, ⟨.move (.tmp 7), some 88, none⟩, ⟨.binOp .add 3 (.tmp 88) (.const (.int .i64 1)) 3, some 89, none⟩, ⟨.indexAddr 130 (.tmp 87) (.tmp 89), some 90, none⟩, ⟨.load 22 (.tmp 90), some 91, none⟩, ⟨.move (.tmp 8), some 92, none⟩, ⟨.binOp .add 3 (.tmp 92) (.const (.int .i64 1)) 3, some 93, none⟩, ⟨.indexAddr 22 (.tmp 91) (.tmp 93), some 94, none⟩, ⟨.load 3 (.tmp 94), some 95, none⟩, ⟨.binOp .add 3 (.const (.int .i64 1)) (.tmp 95) 3, some 96, none⟩, ⟨.call ⟨.builtin .max, ⟨[.tmp 86, .tmp 96]⟩, ⟨[3, 3]⟩⟩, some 97, none⟩, ⟨.indexAddr 22 (.tmp 78) (.tmp 79), some 98, none⟩, ⟨.store 3 (.tmp 98) (.tmp 97), none, none⟩]) .skip)))) (.ops [⟨.move (.tmp 8), some 43, none⟩, ⟨.binOp .sub 3 (.tmp 43) (.const (.int .i64 1)) 3, some 44, none⟩, ⟨.assign (.tmp 44), some 8, none⟩]))))))) (.ops [⟨.move (.tmp 7), some 36, none⟩, ⟨.binOp .sub 3 (.tmp 36) (.const (.int .i64 1)) 3, some 37, none⟩, ⟨.assign (.tmp 37), some 7, none⟩])))))) (.seq (.ops [⟨.move (.tmp 0), some 99, none⟩, ⟨.call ⟨.builtin .len, ⟨[.tmp 99]⟩, ⟨[9]⟩⟩, some 100, none⟩, ⟨.build 123 ⟨[(0, .tmp 100)]⟩, some 101, none⟩, ⟨.alloc 123, some 9, none⟩, ⟨.store 123 (.tmp 9) (.tmp 101), none, none⟩]) (.seq (.ops [⟨.assign (.const (.int .i64 0)), some 10, none⟩, ⟨.assign (.const (.int .i64 0)), some 11, none⟩]) (.seq (.block 6 (.loop (.seq (.seq (.ops [⟨.move (.tmp 5), some 102, none⟩, ⟨.move (.tmp 10), some 103, none⟩, ⟨.indexAddr 130 (.tmp 102) (.tmp 103), some 104, none⟩, ⟨.load 22 (.tmp 104), some 105, none⟩, ⟨.move (.tmp 11), some 106, none⟩, ⟨.indexAddr 22 (.tmp 105) (.tmp 106), some 107, none⟩, ⟨.load 3 (.tmp 107), some 108, none⟩, ⟨.binOp .gtr 3 (.tmp 108) (.const (.int .i64 0)) 3, some 109, none⟩]) (.cond (.tmp 109) .skip (.exit 6))) (.block 7 (.scope (.seq (.ops [⟨.move (.tmp 10), some 110, none⟩, ⟨.move (.tmp 11), some 111, none⟩, ⟨.assign (.tmp 110), some 12, none⟩, ⟨.assign (.tmp 111), some 13, none⟩]) (.seq .label (.seq (.seq (.ops [⟨.move (.tmp 10), some 112, none⟩, ⟨.assign (.tmp 112), some 12, none⟩]) (.block 8 (.loop (.seq (.seq (.ops [⟨.move (.tmp 12), some 113, none⟩, ⟨.move (.tmp 0), some 114, none⟩, ⟨.call ⟨.builtin .len, ⟨[.tmp 114]⟩, ⟨[9]⟩⟩, some 115, none⟩, ⟨.binOp .lss 3 (.tmp 113) (.tmp 115) 3, some 116, none⟩]) (.cond (.tmp 116) .skip (.exit 8))) (.seq (.block 9 (.seq (.ops [⟨.move (.tmp 11), some 119, none⟩, ⟨.assign (.tmp 119), some 13, none⟩]) (.block 10 (.loop (.seq (.seq (.ops [⟨.move (.tmp 13), some 120, none⟩, ⟨.move (.tmp 1), some 121, none⟩, ⟨.call ⟨.builtin .len, ⟨[.tmp 121]⟩, ⟨[9]⟩⟩, some 122, none⟩, ⟨.binOp .lss 3 (.tmp 120) (.tmp 122) 3, some 123, none⟩]) (.cond (.tmp 123) .skip (.exit 10))) (.seq (.block 11 (.seq (.draw [0, 0, 3, 0, 0, 24, 63, 127, 255, 255, 767, 2047, 4095, 255, 8447, 32767, 65535, 131071, 255, 255, 786687, 1835263, 255, 8126719, 16515327, 33554431, 67108863] [⟨.move (.tmp 0), some 126, none⟩, ⟨.move (.tmp 12), some 127, none⟩, ⟨.index 9 (.tmp 126) (.tmp 127), some 128, none⟩, ⟨.move (.tmp 1), some 129, none⟩, ⟨.move (.tmp 13), some 130, none⟩, ⟨.index 9 (.tmp 129) (.tmp 130), some 131, none⟩, ⟨.binOp .eql 5 (.tmp 128) (.tmp 131) 5, some 132, none⟩, ⟨.move (.tmp 132), some 133, none⟩, ⟨.move (.tmp 5), some 134, some (133, true)⟩, ⟨.move (.tmp 12), some 135, some (133, true)⟩, ⟨.binOp .add 3 (.tmp 135) (.const (.int .i64 1)) 3, some 136, some (133, true)⟩, ⟨.indexAddr 130 (.tmp 134) (.tmp 136), some 137, some (133, true)⟩, ⟨.load 22 (.tmp 137), some 138, some (133, true)⟩, ⟨.move (.tmp 13), some 139, some (133, true)⟩, ⟨.binOp .add 3 (.tmp 139) (.const (.int .i64 1)) 3, some 140, some (133, true)⟩, ⟨.indexAddr 22 (.tmp 138) (.tmp 140), some 141, some (133, true)⟩, ⟨.load 3 (.tmp 141), some 142, some (133, true)⟩, ⟨.binOp .add 3 (.const (.int .i64 1)) (.tmp 142) 3, some 143, some (133, true)⟩, ⟨.move (.tmp 5), some 144, some (133, true)⟩, ⟨.move (.tmp 10), some 145, some (133, true)⟩, ⟨.indexAddr 130 (.tmp 144) (.tmp 145), some 146, some (133, true)⟩, ⟨.load 22 (.tmp 146), some 147, some (133, true)⟩, ⟨.move (.tmp 11), some 148, some (133, true)⟩, ⟨.indexAddr 22 (.tmp 147) (.tmp 148), some 149, some (133, true)⟩, ⟨.load 3 (.tmp 149), some 150, some (133, true)⟩, ⟨.binOp .eql 3 (.tmp 143) (.tmp 150) 3, some 151, some (133, true)⟩, ⟨.pick (.tmp 133) (.tmp 151) (.const (.bool false)), some 152, none⟩]) (.cond (.tmp 152) (.exit 8) .skip))) (.ops [⟨.move (.tmp 13), some 124, none⟩, ⟨.binOp .add 3 (.tmp 124) (.const (.int .i64 1)) 3, some 125, none⟩, ⟨.assign (.tmp 125), some 13, none⟩]))))))) (.ops [⟨.move (.tmp 12), some 117, none⟩, ⟨.binOp .add 3 (.tmp 117) (.const (.int .i64 1)) 3, some 118, none⟩, ⟨.assign (.tmp 118), some 12, none⟩])))))) (.seq (.block 12 (.loop (.seq (.seq (.ops [⟨.move (.tmp 11), some 153, none⟩, ⟨.move (.tmp 13), some 154, none⟩, ⟨.binOp .lss 3 (.tmp 153) (.tmp 154) 3, some 155, none⟩]) (.cond (.tmp 155) .skip (.exit 12))) (.seq (.block 13 (.draw [0, 1, 0, 0, 12, 28, 60, 127, 255, 511] [⟨.fieldAddr 123 (.tmp 9) 1, some 158, none⟩, ⟨.load 121 (.tmp 158), some 159, none⟩, ⟨.move (.tmp 1), some 160, none⟩, ⟨.move (.tmp 11), some 161, none⟩, ⟨.index 9 (.tmp 160) (.tmp 161), some 162, none⟩, ⟨.build 126 ⟨[(0, .const (.int .i64 (-1))), (1, .tmp 162)]⟩, some 163, none⟩, ⟨.buildSlice 121 1 ⟨[(0, .tmp 163)]⟩, some 164, none⟩, ⟨.call ⟨.builtin .append, ⟨[.tmp 159, .tmp 164]⟩, ⟨[121, 121]⟩⟩, some 165, none⟩, ⟨.fieldAddr 123 (.tmp 9) 1, some 166, none⟩, ⟨.store 121 (.tmp 166) (.tmp 165), none, none⟩])) (.ops [⟨.move (.tmp 11), some 156, none⟩, ⟨.binOp .add 3 (.tmp 156) (.const (.int .i64 1)) 3, some 157, none⟩, ⟨.assign (.tmp 157), some 11, none⟩]))))) (.seq (.draw [0, 1, 0, 0, 0, 24, 60, 124, 255, 511, 1023] [⟨.fieldAddr 123 (.tmp 9) 1, some 167, none⟩, ⟨.load 121 (.tmp 167), some 168, none⟩, ⟨.move (.tmp 12), some 169, none⟩, ⟨.move (.tmp 0), some 170, none⟩, ⟨.move (.tmp 12), some 171, none⟩, ⟨.index 9 (.tmp 170) (.tmp 171), some 172, none⟩, ⟨.build 126 ⟨[(0, .tmp 169), (1, .tmp 172)]⟩, some 173, none⟩, ⟨.buildSlice 121 1 ⟨[(0, .tmp 173)]⟩, some 174, none⟩, ⟨.call ⟨.builtin .append, ⟨[.tmp 168, .tmp 174]⟩, ⟨[121, 121]⟩⟩, some 175, none⟩, ⟨.fieldAddr 123 (.tmp 9) 1, some 176, none⟩, ⟨.store 121 (.tmp 176) (.tmp 175), none, none⟩]) (.ops [⟨.move (.tmp 12), some 177, none⟩, ⟨.binOp .add 3 (.tmp 177) (.const (.int .i64 1)) 3, some 178, none⟩, ⟨.move (.tmp 13), some 179, none⟩, ⟨.binOp .add 3 (.tmp 179) (.const (.int .i64 1)) 3, some 180, none⟩, ⟨.assign (.tmp 178), some 10, none⟩, ⟨.assign (.tmp 180), some 11, none⟩]))))))))))) (.seq (.block 14 (.loop (.seq (.seq (.ops [⟨.move (.tmp 11), some 181, none⟩, ⟨.move (.tmp 1), some 182, none⟩, ⟨.call ⟨.builtin .len, ⟨[.tmp 182]⟩, ⟨[9]⟩⟩, some 183, none⟩, ⟨.binOp .lss 3 (.tmp 181) (.tmp 183) 3, some 184, none⟩]) (.cond (.tmp 184) .skip (.exit 14))) (.seq (.block 15 (.draw [0, 1, 0, 0, 12, 28, 60, 127, 255, 511] [⟨.fieldAddr 123 (.tmp 9) 1, some 187, none⟩, ⟨.load 121 (.tmp 187), some 188, none⟩, ⟨.move (.tmp 1), some 189, none⟩, ⟨.move (.tmp 11), some 190, none⟩, ⟨.index 9 (.tmp 189) (.tmp 190), some 191, none⟩, ⟨.build 126 ⟨[(0, .const (.int .i64 (-1))), (1, .tmp 191)]⟩, some 192, none⟩, ⟨.buildSlice 121 1 ⟨[(0, .tmp 192)]⟩, some 193, none⟩, ⟨.call ⟨.builtin .append, ⟨[.tmp 188, .tmp 193]⟩, ⟨[121, 121]⟩⟩, some 194, none⟩, ⟨.fieldAddr 123 (.tmp 9) 1, some 195, none⟩, ⟨.store 121 (.tmp 195) (.tmp 194), none, none⟩])) (.ops [⟨.move (.tmp 11), some 185, none⟩, ⟨.binOp .add 3 (.tmp 185) (.const (.int .i64 1)) 3, some 186, none⟩, ⟨.assign (.tmp 186), some 11, none⟩]))))) (.seq (.ops [⟨.load 123 (.tmp 9), some 196, none⟩, ⟨.call ⟨.value (.func 97), ⟨[.tmp 196]⟩, ⟨[123]⟩⟩, some 197, none⟩, ⟨.assign (.tmp 197), some 4, none⟩]) .ret))))))))
theorem l23 : Tryz.f23.body.map lighten = some L23 := by kernel_rfl
theorem gob23 : Gob 23 198 L23 [.tmp 4] := fun hl h => ACall.goB tab_ok mixed Tryz.func23 l23 nm23 (by kernel_rfl) (by kernel_rfl) hl h
noncomputable def L15 : LCode := .seq (.ops [⟨.assign (.const (.string ⟨⟨[]⟩⟩)), some 2, none⟩, ⟨.assign (.const (.int .i64 0)), some 3, none⟩]) (.seq (.seq (.ops [⟨.move (.tmp 0), some 9, none⟩, ⟨.call ⟨.builtin .len, ⟨[.tmp 9]⟩, ⟨[28]⟩⟩, some 10, none⟩, ⟨.binOp .gtr 3 (.tmp 10) (.const (.int .i64 2000)) 3, some 11, none⟩]) (.cond (.tmp 11) (.seq (.ops [⟨.assign (.const (.string ⟨⟨[]⟩⟩)), some 2, none⟩, ⟨.assign (.const (.int .i64 2)), some 3, none⟩]) .ret) .skip)) (.seq (.seq (.ops [⟨.move (.tmp 0), some 12, none⟩, ⟨.call ⟨.builtin .len, ⟨[.tmp 12]⟩, ⟨[28]⟩⟩, some 13, none⟩, ⟨.move (.const (.int .i64 0)), some 14, none⟩]) (.block 0 (.loop (.seq (.ops [⟨.binOp .lss 3 (.tmp 14) (.tmp 13) 3, some 15, none⟩]) (.seq (.cond (.tmp 15) .skip (.exit 0)) (.seq (.block 1 (.seq (.ops [⟨.indexAddr 28 (.tmp 12) (.tmp 14), some 16, none⟩, ⟨.load 44 (.tmp 16), some 17, none⟩, ⟨.alloc 44, some 5, none⟩, ⟨.store 44 (.tmp 5) (.tmp 17), none, none⟩]) (.seq (.ops [⟨.fieldAddr 44 (.tmp 5) 0, some 18, none⟩, ⟨.load 3 (.tmp 18), some 19, none⟩, ⟨.call ⟨.value (.func 85), ⟨[.tmp 19, .const (.int .i64 0), .const (.int .i64 20000)]⟩, ⟨[3, 3, 3]⟩⟩, some 20, none⟩, ⟨.unOp .not 4 (.tmp 20), some 21, none⟩, ⟨.move (.tmp 21), some 22, none⟩, ⟨.fieldAddr 44 (.tmp 5) 1, some 23, some (22, false)⟩, ⟨.load 3 (.tmp 23), some 24, some (22, false)⟩, ⟨.call ⟨.value (.func 85), ⟨[.tmp 24, .const (.int .i64 0), .const (.int .i64 20000)]⟩, ⟨[3, 3, 3]⟩⟩, some 25, some (22, false)⟩, ⟨.unOp .not 4 (.tmp 25), some 26, some (22, false)⟩, ⟨.pick (.tmp 22) (.const (.bool true)) (.tmp 26), some 27, none⟩]) (.cond (.tmp 27) (.seq (.ops [⟨.assign (.const (.string ⟨⟨[]⟩⟩)), some 2, none⟩, ⟨.assign (.const (.int .i64 1)), some 3, none⟩]) .ret) .skip)))) (.ops [⟨.binOp .add 3 (.tmp 14) (.const (.int .i64 1)) 3, some 28, none⟩, ⟨.move (.tmp 28), some 14, none⟩]))))))) (.seq (.ops [⟨.alloc 120, some 6, none⟩]) (.seq (.seq (.ops [⟨.move (.tmp 0), some 29, none⟩, ⟨.call ⟨.builtin .len, ⟨[.tmp 29]⟩, ⟨[28]⟩⟩, some 30, none⟩, ⟨.move (.const (.int .i64 0)), some 31, none⟩]) (.block 2 (.loop (.seq (.ops [⟨.binOp .lss 3 (.tmp 31) (.tmp 30) 3, some 32, none⟩]) (.seq (.cond (.tmp 32) .skip (.exit 2)) (.seq (.block 3 (.seq (.ops [⟨.indexAddr 28 (.tmp 29) (.tmp 31), some 33, none⟩, ⟨.load 44 (.tmp 33), some 34, none⟩, ⟨.alloc 44, some 8, none⟩, ⟨.store 44 (.tmp 8) (.tmp 34), none, none⟩]) (.seq (.ops [⟨.load 44 (.tmp 8), some 35, none⟩, ⟨.call ⟨.value (.func 87), ⟨[.tmp 35]⟩, ⟨[44]⟩⟩, some 36, none⟩, ⟨.binOp .add 9 (.tmp 36) (.const (.string ⟨⟨[10]⟩⟩)) 9, some 37, none⟩, ⟨.call ⟨.value (.func 86), ⟨[.tmp 6, .tmp 37]⟩, ⟨[120, 9]⟩⟩, some 38, none⟩]) (.seq (.ops [⟨.call ⟨.value (.func 88), ⟨[.tmp 6]⟩, ⟨[120]⟩⟩, some 39, none⟩, ⟨.binOp .gtr 3 (.tmp 39) (.const (.int .i64 20000)) 3, some 40, none⟩]) (.cond (.tmp 40) (.seq (.ops [⟨.assign (.const (.string ⟨⟨[]⟩⟩)), some 2, none⟩, ⟨.assign (.const (.int .i64 2)), some 3, none⟩]) .ret) .skip))))) (.ops [⟨.binOp .add 3 (.tmp 31) (.const (.int .i64 1)) 3, some 41, none⟩, ⟨.move (.tmp 41), some 31, none⟩]))))))) (.seq (.ops [⟨.call ⟨.value (.func 79), ⟨[.tmp 6]⟩, ⟨[120]⟩⟩, some 42, none⟩, ⟨.assign (.tmp 42), some 2, none⟩, ⟨.assign (.const (.int .i64 0)), some 3, none⟩]) .ret)))))
theorem l15 : Tryz.f15.body.map lighten = some L15 := by kernel_rfl
theorem gob15 : Gob 15 43 L15 [.tmp 2, .tmp 3] := fun hl h => ACall.goB tab_ok mixed Tryz.func15 l15 nm15 (by kernel_rfl) (by kernel_rfl) hl h
noncomputable def L20 : LCode := .seq (.ops [⟨.assign (.const (.slice none 0 0)), some 2, none⟩, ⟨.assign (.const (.int .i64 0)), some 3, none⟩, ⟨.assign (.const (.int .i64 0)), some 4, none⟩]) (.seq (.seq (.ops [⟨.move (.tmp 0), some 14, none⟩, ⟨.call ⟨.builtin .len, ⟨[.tmp 14]⟩, ⟨[9]⟩⟩, some 15, none⟩, ⟨.binOp .gtr 3 (.tmp 15) (.const (.int .i64 20000)) 3, some 16, none⟩]) (.cond (.tmp 16) (.seq (.ops [⟨.assign (.const (.slice none 0 0)), some 2, none⟩, ⟨.assign (.const (.int .i64 0)), some 3, none⟩, ⟨.assign (.const (.int .i64 2)), some 4, none⟩]) .ret) .skip)) (.seq (.ops [⟨.assign (.const (.slice none 0 0)), some 5, none⟩]) (.seq (.seq (.ops [⟨.move (.tmp 0), some 17, none⟩, ⟨.assign (.tmp 17), some 6, none⟩]) (.block 0 (.loop (.seq (.seq (.ops [⟨.move (.tmp 6), some 18, none⟩, ⟨.binOp .neq 9 (.tmp 18) (.const (.string ⟨⟨[]⟩⟩)) 9, some 19, none⟩]) (.cond (.tmp 19) .skip (.exit 0))) (.block 1 (.seq (.ops [⟨.move (.tmp 6), some 21, none⟩, ⟨.call ⟨.value (.func 92), ⟨[.tmp 21]⟩, ⟨[9]⟩⟩, some 22, none⟩, ⟨.move (.tmp 22), some 20, none⟩, ⟨.extract (.tmp 20) 0, some 23, none⟩, ⟨.extract (.tmp 20) 1, some 24, none⟩, ⟨.extract (.tmp 20) 2, some 25, none⟩, ⟨.assign (.tmp 23), some 7, none⟩, ⟨.assign (.tmp 24), some 8, none⟩, ⟨.assign (.tmp 25), some 9, none⟩]) (.seq (.ops [⟨.move (.tmp 7), some 27, none⟩, ⟨.call ⟨.value (.func 93), ⟨[.tmp 27]⟩, ⟨[9]⟩⟩, some 28, none⟩, ⟨.move (.tmp 28), some 26, none⟩, ⟨.extract (.tmp 26) 0, some 29, none⟩, ⟨.extract (.tmp 26) 1, some 30, none⟩, ⟨.alloc 44, some 10, none⟩, ⟨.store 44 (.tmp 10) (.tmp 29), none, none⟩, ⟨.assign (.tmp 30), some 11, none⟩]) (.seq (.seq (.ops [⟨.move (.tmp 9), some 31, none⟩, ⟨.unOp .not 4 (.tmp 31), some 32, none⟩, ⟨.move (.tmp 32), some 33, none⟩, ⟨.move (.tmp 11), some 34, some (33, false)⟩, ⟨.unOp .not 4 (.tmp 34), some 35, some (33, false)⟩, ⟨.pick (.tmp 33) (.const (.bool true)) (.tmp 35), some 36, none⟩]) (.cond (.tmp 36) (.seq (.ops [⟨.move (.tmp 5), some 37, none⟩, ⟨.call ⟨.builtin .len, ⟨[.tmp 37]⟩, ⟨[28]⟩⟩, some 38, none⟩, ⟨.assign (.const (.slice none 0 0)), some 2, none⟩, ⟨.assign (.tmp 38), some 3, none⟩, ⟨.assign (.const (.int .i64 9)), some 4, none⟩]) .ret) .skip)) (.seq (.ops [⟨.move (.tmp 5), some 39, none⟩, ⟨.load 44 (.tmp 10), some 40, none⟩, ⟨.buildSlice 28 1 ⟨[(0, .tmp 40)]⟩, some 41, none⟩, ⟨.call ⟨.builtin .append, ⟨[.tmp 39, .tmp 41]⟩, ⟨[28, 28]⟩⟩, some 42, none⟩, ⟨.assign (.tmp 42), some 5, none⟩]) (.ops [⟨.move (.tmp 8), some 43, none⟩, ⟨.assign (.tmp 43), some 6, none⟩])))))))))) (.seq (.seq (.ops [⟨.move (.tmp 5), some 45, none⟩, ⟨.call ⟨.value (.func 15), ⟨[.tmp 45]⟩, ⟨[28]⟩⟩, some 46, none⟩, ⟨.move (.tmp 46), some 44, none⟩, ⟨.extract (.tmp 44) 0, some 47, none⟩, ⟨.extract (.tmp 44) 1, some 48, none⟩, ⟨.assign (.tmp 47), some 12, none⟩, ⟨.assign (.tmp 48), some 13, none⟩]) (.seq (.ops [⟨.move (.tmp 13), some 49, none⟩, ⟨.binOp .neq 31 (.tmp 49) (.const (.int .i64 0)) 31, some 50, none⟩]) (.cond (.tmp 50) (.seq (.ops [⟨.move (.tmp 13), some 51, none⟩, ⟨.assign (.const (.slice none 0 0)), some 2, none⟩, ⟨.assign (.const (.int .i64 0)), some 3, none⟩, ⟨.assign (.tmp 51), some 4, none⟩]) .ret) .skip))) (.seq (.ops [⟨.move (.tmp 5), some 52, none⟩, ⟨.assign (.tmp 52), some 2, none⟩, ⟨.assign (.const (.int .i64 0)), some 3, none⟩, ⟨.assign (.const (.int .i64 0)), some 4, none⟩]) .ret)))))
theorem l20 : Tryz.f20.body.map lighten = some L20 := by kernel_rfl
theorem gob20 : Gob 20 53 L20 [.tmp 2, .tmp 3, .tmp 4] := fun hl h => ACall.goB tab_ok mixed Tryz.func20 l20 nm20 (by kernel_rfl) (by kernel_rfl) hl h
noncomputable def L16 : LCode := .seq (.ops [⟨.assign (.const (.int .i64 0)), some 2, none⟩]) (.seq (.seq (.ops [⟨.move (.tmp 0), some 8, none⟩, ⟨.call ⟨.builtin .len, ⟨[.tmp 8]⟩, ⟨[28]⟩⟩, some 9, none⟩, ⟨.binOp .gtr 3 (.tmp 9) (.const (.int .i64 2000)) 3, some 10, none⟩]) (.cond (.tmp 10) (.seq (.ops [⟨.assign (.const (.int .i64 2)), some 2, none⟩]) .ret) .skip)) (.seq (.seq (.ops [⟨.move (.tmp 0), some 11, none⟩, ⟨.call ⟨.builtin .len, ⟨[.tmp 11]⟩, ⟨[28]⟩⟩, some 12, none⟩, ⟨.move (.const (.int .i64 0)), some 13, none⟩]) (.block 0 (.loop (.seq (.ops [⟨.binOp .lss 3 (.tmp 13) (.tmp 12) 3, some 14, none⟩]) (.seq (.cond (.tmp 14) .skip (.exit 0)) (.seq (.block 1 (.seq (.ops [⟨.indexAddr 28 (.tmp 11) (.tmp 13), some 15, none⟩, ⟨.load 44 (.tmp 15), some 16, none⟩, ⟨.alloc 44, some 4, none⟩, ⟨.store 44 (.tmp 4) (.tmp 16), none, none⟩]) (.seq (.ops [⟨.fieldAddr 44 (.tmp 4) 0, some 17, none⟩, ⟨.load 3 (.tmp 17), some 18, none⟩, ⟨.call ⟨.value (.func 89), ⟨[.tmp 18, .const (.int .i64 0), .const (.int .i64 20000)]⟩, ⟨[3, 3, 3]⟩⟩, some 19, none⟩, ⟨.unOp .not 4 (.tmp 19), some 20, none⟩, ⟨.move (.tmp 20), some 21, none⟩, ⟨.fieldAddr 44 (.tmp 4) 1, some 22, some (21, false)⟩, ⟨.load 3 (.tmp 22), some 23, some (21, false)⟩, ⟨.call ⟨.value (.func 89), ⟨[.tmp 23, .const (.int .i64 0), .const (.int .i64 20000)]⟩, ⟨[3, 3, 3]⟩⟩, some 24, some (21, false)⟩, ⟨.unOp .not 4 (.tmp 24), some 25, some (21, false)⟩, ⟨.pick (.tmp 21) (.const (.bool true)) (.tmp 25), some 26, none⟩]) (.cond (.tmp 26) (.seq (.ops [⟨.assign (.const (.int .i64 1)), some 2, none⟩]) .ret) .skip)))) (.ops [⟨.binOp .add 3 (.tmp 13) (.const (.int .i64 1)) 3, some 27, none⟩, ⟨.move (.tmp 27), some 13, none⟩]))))))) (.seq (.ops [⟨.assign (.const (.int .i64 0)), some 5, none⟩]) (.seq (.seq (.ops [⟨.move (.tmp 0), some 28, none⟩, ⟨.call ⟨.builtin .len, ⟨[.tmp 28]⟩, ⟨[28]⟩⟩, some 29, none⟩, ⟨.move (.const (.int .i64 0)), some 30, none⟩]) (.block 2 (.loop (.seq (.ops [⟨.binOp .lss 3 (.tmp 30) (.tmp 29) 3, some 31, none⟩]) (.seq (.cond (.tmp 31) .skip (.exit 2)) (.seq (.block 3 (.seq (.ops [⟨.indexAddr 28 (.tmp 28) (.tmp 30), some 32, none⟩, ⟨.load 44 (.tmp 32), some 33, none⟩, ⟨.alloc 44, some 7, none⟩, ⟨.store 44 (.tmp 7) (.tmp 33), none, none⟩]) (.seq (.draw [0, 0, 2, 6, 14, 0, 32, 110, 238, 510, 0, 1024, 3310, 7406, 16382, 32766, 65535, 131071] [⟨.move (.tmp 5), some 34, none⟩, ⟨.fieldAddr 44 (.tmp 7) 0, some 35, none⟩, ⟨.load 3 (.tmp 35), some 36, none⟩, ⟨.call ⟨.value (.func 90), ⟨[.tmp 36]⟩, ⟨[3]⟩⟩, some 37, none⟩, ⟨.call ⟨.builtin .len, ⟨[.tmp 37]⟩, ⟨[9]⟩⟩, some 38, none⟩, ⟨.fieldAddr 44 (.tmp 7) 1, some 39, none⟩, ⟨.load 3 (.tmp 39), some 40, none⟩, ⟨.call ⟨.value (.func 90), ⟨[.tmp 40]⟩, ⟨[3]⟩⟩, some 41, none⟩, ⟨.call ⟨.builtin .len, ⟨[.tmp 41]⟩, ⟨[9]⟩⟩, some 42, none⟩, ⟨.binOp .add 3 (.tmp 38) (.tmp 42) 3, some 43, none⟩, ⟨.fieldAddr 44 (.tmp 7) 2, some 44, none⟩, ⟨.load 9 (.tmp 44), some 45, none⟩, ⟨.call ⟨.value (.func 91), ⟨[.tmp 45]⟩, ⟨[9]⟩⟩, some 46, none⟩, ⟨.call ⟨.builtin .len, ⟨[.tmp 46]⟩, ⟨[9]⟩⟩, some 47, none⟩, ⟨.binOp .add 3 (.tmp 43) (.tmp 47) 3, some 48, none⟩, ⟨.binOp .add 3 (.tmp 48) (.const (.int .i64 3)) 3, some 49, none⟩, ⟨.binOp .add 3 (.tmp 34) (.tmp 49) 3, some 50, none⟩, ⟨.assign (.tmp 50), some 5, none⟩]) (.seq (.ops [⟨.move (.tmp 5), some 51, none⟩, ⟨.binOp .gtr 3 (.tmp 51) (.const (.int .i64 20000)) 3, some 52, none⟩]) (.cond (.tmp 52) (.seq (.ops [⟨.assign (.const (.int .i64 2)), some 2, none⟩]) .ret) .skip))))) (.ops [⟨.binOp .add 3 (.tmp 30) (.const (.int .i64 1)) 3, some 53, none⟩, ⟨.move (.tmp 53), some 30, none⟩]))))))) (.seq (.ops [⟨.assign (.const (.int .i64 0)), some 2, none⟩]) .ret)))))
theorem l16 : Tryz.f16.body.map lighten = some L16 := by kernel_rfl
theorem gob16 : Gob 16 54 L16 [.tmp 2] := fun hl h => ACall.goB tab_ok mixed Tryz.func16 l16 nm16 (by kernel_rfl) (by kernel_rfl) hl h
noncomputable def L17 : LCode := .seq (.ops [⟨.assign (.const (.string ⟨⟨[]⟩⟩)), some 2, none⟩]) (.seq (.ops [⟨.assign (.const (.string ⟨⟨[]⟩⟩)), some 3, none⟩]) (.seq (.seq (.ops [⟨.move (.tmp 0), some 6, none⟩, ⟨.call ⟨.builtin .len, ⟨[.tmp 6]⟩, ⟨[28]⟩⟩, some 7, none⟩, ⟨.move (.const (.int .i64 0)), some 8, none⟩]) (.block 0 (.loop (.seq (.ops [⟨.binOp .lss 3 (.tmp 8) (.tmp 7) 3, some 9, none⟩]) (.seq (.cond (.tmp 9) .skip (.exit 0)) (.seq (.block 1 (.seq (.ops [⟨.indexAddr 28 (.tmp 6) (.tmp 8), some 10, none⟩, ⟨.load 44 (.tmp 10), some 11, none⟩, ⟨.alloc 44, some 5, none⟩, ⟨.store 44 (.tmp 5) (.tmp 11), none, none⟩]) (.draw [0, 0, 2, 6, 14, 0, 32, 110, 254, 510, 0, 1024, 3310, 8190, 16382, 32767, 65535] [⟨.move (.tmp 3), some 12, none⟩, ⟨.fieldAddr 44 (.tmp 5) 0, some 13, none⟩, ⟨.load 3 (.tmp 13), some 14, none⟩, ⟨.call ⟨.value (.func 90), ⟨[.tmp 14]⟩, ⟨[3]⟩⟩, some 15, none⟩, ⟨.binOp .add 9 (.tmp 15) (.const (.string ⟨⟨[32]⟩⟩)) 9, some 16, none⟩, ⟨.fieldAddr 44 (.tmp 5) 1, some 17, none⟩, ⟨.load 3 (.tmp 17), some 18, none⟩, ⟨.call ⟨.value (.func 90), ⟨[.tmp 18]⟩, ⟨[3]⟩⟩, some 19, none⟩, ⟨.binOp .add 9 (.tmp 16) (.tmp 19) 9, some 20, none⟩, ⟨.binOp .add 9 (.tmp 20) (.const (.string ⟨⟨[32]⟩⟩)) 9, some 21, none⟩, ⟨.fieldAddr 44 (.tmp 5) 2, some 22, none⟩, ⟨.load 9 (.tmp 22), some 23, none⟩, ⟨.call ⟨.value (.func 91), ⟨[.tmp 23]⟩, ⟨[9]⟩⟩, some 24, none⟩, ⟨.binOp .add 9 (.tmp 21) (.tmp 24) 9, some 25, none⟩, ⟨.binOp .add 9 (.tmp 25) (.const (.string ⟨⟨[10]⟩⟩)) 9, some 26, none⟩, ⟨.binOp .add 9 (.tmp 12) (.tmp 26) 9, some 27, none⟩, ⟨.assign (.tmp 27), some 3, none⟩]))) (.ops [⟨.binOp .add 3 (.tmp 8) (.const (.int .i64 1)) 3, some 28, none⟩, ⟨.move (.tmp 28), some 8, none⟩]))))))) (.seq (.ops [⟨.move (.tmp 3), some 29, none⟩, ⟨.assign (.tmp 29), some 2, none⟩]) .ret)))
theorem l17 : Tryz.f17.body.map lighten = some L17 := by kernel_rfl
theorem gob17 : Gob 17 30 L17 [.tmp 2] := fun hl h => ACall.goB tab_ok mixed Tryz.func17 l17 nm17 (by kernel_rfl) (by kernel_rfl) hl h
noncomputable def L21 : LCode := .seq (.ops [⟨.assign (.const (.slice none 0 0)), some 2, none⟩, ⟨.assign (.const (.int .i64 0)), some 3, none⟩, ⟨.assign (.const (.int .i64 0)), some 4, none⟩]) (.seq (.seq (.ops [⟨.move (.tmp 0), some 24, none⟩, ⟨.call ⟨.builtin .len, ⟨[.tmp 24]⟩, ⟨[9]⟩⟩, some 25, none⟩, ⟨.binOp .gtr 3 (.tmp 25) (.const (.int .i64 20000)) 3, some 26, none⟩]) (.cond (.tmp 26) (.seq (.ops [⟨.assign (.const (.slice none 0 0)), some 2, none⟩, ⟨.assign (.const (.int .i64 0)), some 3, none⟩, ⟨.assign (.const (.int .i64 2)), some 4, none⟩]) .ret) .skip)) (.seq (.ops [⟨.assign (.const (.slice none 0 0)), some 5, none⟩]) (.seq (.seq (.ops [⟨.assign (.const (.int .i64 0)), some 6, none⟩]) (.block 0 (.loop (.seq (.seq (.ops [⟨.move (.tmp 0), some 27, none⟩, ⟨.binOp .neq 9 (.tmp 27) (.const (.string ⟨⟨[]⟩⟩)) 9, some 28, none⟩]) (.cond (.tmp 28) .skip (.exit 0))) (.seq (.block 1 (.seq (.ops [⟨.move (.tmp 0), some 32, none⟩, ⟨.call { callee := .value (.func 94), args := { toList := [.tmp 32, .const (.string ⟨⟨[10]⟩⟩)] }, argTypes := ⟨[9, 9]⟩ }, some 33, none⟩, ⟨.move (.tmp 33), some 31, none⟩, ⟨.extract (.tmp 31) 0, some 34, none⟩, ⟨.extract (.tmp 31) 1, some 35, none⟩, ⟨.extract (.tmp 31) 2, some 36, none⟩, ⟨.assign (.tmp 34), some 7, none⟩, ⟨.assign (.tmp 35), some 8, none⟩, ⟨.assign (.tmp 36), some 9, none⟩]) (.seq (.ops [⟨.move (.tmp 8), some 37, none⟩, ⟨.assign (.tmp 37), some 0, none⟩]) (.seq (.ops [⟨.move (.tmp 7), some 39, none⟩, ⟨.call { callee := .value (.func 94), args := { toList := [.tmp 39, .const (.string ⟨⟨[32]⟩⟩)] }, argTypes := ⟨[9, 9]⟩ }, some 40, none⟩, ⟨.move (.tmp 40), some 38, none⟩, ⟨.extract (.tmp 38) 0, some 41, none⟩, ⟨.extract (.tmp 38) 1, some 42, none⟩, ⟨.extract (.tmp 38) 2, some 43, none⟩, ⟨.assign (.tmp 41), some 10, none⟩, ⟨.assign (.tmp 42), some 11, none⟩, ⟨.assign (.tmp 43), some 12, none⟩]) (.seq (.ops [⟨.move (.tmp 11), some 45, none⟩, ⟨.call { callee := .value (.func 94), args := { toList := [.tmp 45, .const (.string ⟨⟨[32]⟩⟩)] }, argTypes := ⟨[9, 9]⟩ }, some 46, none⟩, ⟨.move (.tmp 46), some 44, none⟩, ⟨.extract (.tmp 44) 0, some 47, none⟩, ⟨.extract (.tmp 44) 1, some 48, none⟩, ⟨.extract (.tmp 44) 2, some 49, none⟩, ⟨.assign (.tmp 47), some 13, none⟩, ⟨.assign (.tmp 48), some 14, none⟩, ⟨.assign (.tmp 49), some 15, none⟩]) (.seq (.ops [⟨.move (.tmp 10), some 51, none⟩, ⟨.call ⟨.value (.func 95), ⟨[.tmp 51, .const (.int .i64 15)]⟩, ⟨[9, 3]⟩⟩, some 52, none⟩, ⟨.move (.tmp 52), some 50, none⟩, ⟨.extract (.tmp 50) 0, some 53, none⟩, ⟨.extract (.tmp 50) 1, some 54, none⟩, ⟨.assign (.tmp 53), some 16, none⟩, ⟨.assign (.tmp 54), some 17, none⟩]) (.seq (.ops [⟨.move (.tmp 13), some 56, none⟩, ⟨.call ⟨.value (.func 95), ⟨[.tmp 56, .const (.int .i64 15)]⟩, ⟨[9, 3]⟩⟩, some 57, none⟩, ⟨.move (.tmp 57), some 55, none⟩, ⟨.extract (.tmp 55) 0, some 58, none⟩, ⟨.extract (.tmp 55) 1, some 59, none⟩, ⟨.assign (.tmp 58), some 18, none⟩, ⟨.assign (.tmp 59), some 19, none⟩]) (.seq (.ops [⟨.move (.tmp 14), some 60, none⟩, ⟨.build 154 ⟨[(0, .tmp 60)]⟩, some 61, none⟩, ⟨.box 154 (.tmp 61), some 62, none⟩, ⟨.assign (.tmp 62), some 20, none⟩]) (.seq (.ops [⟨.move (.tmp 20), some 64, none⟩, ⟨.call ⟨.value (.func 96), ⟨[.tmp 64]⟩, ⟨[152]⟩⟩, some 65, none⟩, ⟨.move (.tmp 65), some 63, none⟩, ⟨.extract (.tmp 63) 0, some 66, none⟩, ⟨.extract (.tmp 63) 1, some 67, none⟩, ⟨.assign (.tmp 66), some 21, none⟩, ⟨.assign (.tmp 67), some 22, none⟩]) (.seq (.seq (.ops [⟨.move (.tmp 9), some 68, none⟩, ⟨.unOp .not 4 (.tmp 68), some 69, none⟩, ⟨.move (.tmp 69), some 70, none⟩, ⟨.move (.tmp 12), some 71, some (70, false)⟩, ⟨.unOp .not 4 (.tmp 71), some 72, some (70, false)⟩, ⟨.pick (.tmp 70) (.const (.bool true)) (.tmp 72), some 73, none⟩, ⟨.move (.tmp 73), some 74, none⟩, ⟨.move (.tmp 15), some 75, some (74, false)⟩, ⟨.unOp .not 4 (.tmp 75), some 76, some (74, false)⟩, ⟨.pick (.tmp 74) (.const (.bool true)) (.tmp 76), some 77, none⟩, ⟨.move (.tmp 77), some 78, none⟩, ⟨.move (.tmp 17), some 79, some (78, false)⟩, ⟨.unOp .not 4 (.tmp 79), some 80, some (78, false)⟩, ⟨.pick (.tmp 78) (.const (.bool true)) (.tmp 80), some 81, none⟩, ⟨.move (.tmp 81), some 82, none⟩, ⟨.move (.tmp 19), some 83, some (82, false)⟩, ⟨.unOp .not 4 (.tmp 83), some 84, some (82, false)⟩, ⟨.pick (.tmp 82) (.const (.bool true)) (.tmp 84), some 85, none⟩, ⟨.move (.tmp 85), some 86, none⟩, ⟨.move (.tmp 22), some 87, some (86, false)⟩, ⟨.unOp .not 4 (.tmp 87), some 88, some (86, false)⟩, ⟨.pick (.tmp 86) (.const (.bool true)) (.tmp 88), some 89, none⟩, ⟨.move (.tmp 89), some 90, none⟩, ⟨.move (.tmp 20), some 91, some (90, false)⟩, ⟨.nilCheck (.tmp 91), some 92, some (90, false)⟩, ⟨.fieldAddr 154 (.tmp 92) 1, some 93, some (90, false)⟩, ⟨.load 3 (.tmp 93), some 94, some (90, false)⟩, ⟨.move (.tmp 14), some 95, some (90, false)⟩, ⟨.call ⟨.builtin .len, ⟨[.tmp 95]⟩, ⟨[9]⟩⟩, some 96, some (90, false)⟩, ⟨.binOp .neq 3 (.tmp 94) (.tmp 96) 3, some 97, some (90, false)⟩, ⟨.pick (.tmp 90) (.const (.bool true)) (.tmp 97), some 98, none⟩]) (.cond (.tmp 98) (.seq (.ops [⟨.move (.tmp 6), some 99, none⟩, ⟨.assign (.const (.slice none 0 0)), some 2, none⟩, ⟨.assign (.tmp 99), some 3, none⟩, ⟨.assign (.const (.int .i64 9)), some 4, none⟩]) .ret) .skip)) (.ops [⟨.move (.tmp 5), some 100, none⟩, ⟨.move (.tmp 16), some 101, none⟩, ⟨.move (.tmp 18), some 102, none⟩, ⟨.move (.tmp 21), some 103, none⟩, ⟨.build 44 ⟨[(0, .tmp 101), (1, .tmp 102), (2, .tmp 103)]⟩, some 104, none⟩, ⟨.buildSlice 28 1 ⟨[(0, .tmp 104)]⟩, some 105, none⟩, ⟨.call ⟨.builtin .append, ⟨[.tmp 100, .tmp 105]⟩, ⟨[28, 28]⟩⟩, some 106, none⟩, ⟨.assign (.tmp 106), some 5, none⟩]))))))))))) (.ops [⟨.move (.tmp 6), some 29, none⟩, ⟨.binOp .add 3 (.tmp 29) (.const (.int .i64 1)) 3, some 30, none⟩, ⟨.assign (.tmp 30), some 6, none⟩])))))) (.seq (.seq (.ops [⟨.move (.tmp 5), some 107, none⟩, ⟨.call ⟨.value (.func 16), ⟨[.tmp 107]⟩, ⟨[28]⟩⟩, some 108, none⟩, ⟨.assign (.tmp 108), some 23, none⟩]) (.seq (.ops [⟨.move (.tmp 23), some 109, none⟩, ⟨.binOp .neq 31 (.tmp 109) (.const (.int .i64 0)) 31, some 110, none⟩]) (.cond (.tmp 110) (.seq (.ops [⟨.move (.tmp 23), some 111, none⟩, ⟨.assign (.const (.slice none 0 0)), some 2, none⟩, ⟨.assign (.const (.int .i64 0)), some 3, none⟩, ⟨.assign (.tmp 111), some 4, none⟩]) .ret) .skip))) (.seq (.ops [⟨.move (.tmp 5), some 112, none⟩, ⟨.assign (.tmp 112), some 2, none⟩, ⟨.assign (.const (.int .i64 0)), some 3, none⟩, ⟨.assign (.const (.int .i64 0)), some 4, none⟩]) .ret)))))
theorem l21 : Tryz.f21.body.map lighten = some L21 := by kernel_rfl
theorem gob21 : Gob 21 113 L21 [.tmp 2, .tmp 3, .tmp 4] := fun hl h => ACall.goB tab_ok mixed Tryz.func21 l21 nm21 (by kernel_rfl) (by kernel_rfl) hl h
noncomputable def L87 : LCode := .seq (.ops [⟨.box 44 (.tmp 0), some 1, none⟩, ⟨.assign (.const (.string ⟨⟨[]⟩⟩)), some 2, none⟩]) (.seq (.draw [0, 1, 3, 7, 0, 16, 55, 127, 255, 0, 512, 1655, 4095, 8191] [⟨.fieldAddr 44 (.tmp 1) 0, some 3, none⟩, ⟨.load 3 (.tmp 3), some 4, none⟩, ⟨.call ⟨.value (.func 140), ⟨[.tmp 4]⟩, ⟨[3]⟩⟩, some 5, none⟩, ⟨.binOp .add 9 (.tmp 5) (.const (.string ⟨⟨[32]⟩⟩)) 9, some 6, none⟩, ⟨.fieldAddr 44 (.tmp 1) 1, some 7, none⟩, ⟨.load 3 (.tmp 7), some 8, none⟩, ⟨.call ⟨.value (.func 140), ⟨[.tmp 8]⟩, ⟨[3]⟩⟩, some 9, none⟩, ⟨.binOp .add 9 (.tmp 6) (.tmp 9) 9, some 10, none⟩, ⟨.binOp .add 9 (.tmp 10) (.const (.string ⟨⟨[32]⟩⟩)) 9, some 11, none⟩, ⟨.fieldAddr 44 (.tmp 1) 2, some 12, none⟩, ⟨.load 9 (.tmp 12), some 13, none⟩, ⟨.call ⟨.value (.func 141), ⟨[.tmp 13]⟩, ⟨[9]⟩⟩, some 14, none⟩, ⟨.binOp .add 9 (.tmp 11) (.tmp 14) 9, some 15, none⟩, ⟨.assign (.tmp 15), some 2, none⟩]) .ret)
theorem l87 : Tryz.f87.body.map lighten = some L87 := by kernel_rfl
theorem gob87 : Gob 87 16 L87 [.tmp 2] := fun hl h => ACall.goB tab_ok mixed Tryz.func87 l87 nm87 (by kernel_rfl) (by kernel_rfl) hl h
noncomputable def L91 : LCode := .seq (.ops [⟨.assign (.const (.string ⟨⟨[]⟩⟩)), some 2, none⟩]) (.seq (.ops [⟨.alloc 120, some 3, none⟩]) (.seq (.ops [⟨.call ⟨.value (.func 78), ⟨[.tmp 3, .const (.int .u8 34)]⟩, ⟨[120, 5]⟩⟩, some 6, none⟩]) (.seq (.seq (.ops [⟨.move (.tmp 0), some 7, none⟩, ⟨.call ⟨.builtin .len, ⟨[.tmp 7]⟩, ⟨[9]⟩⟩, some 8, none⟩, ⟨.move (.const (.int .i64 0)), some 9, none⟩]) (.block 0 (.loop (.seq (.ops [⟨.binOp .lss 3 (.tmp 9) (.tmp 8) 3, some 10, none⟩]) (.seq (.cond (.tmp 10) .skip (.exit 0)) (.seq (.block 1 (.seq (.ops [⟨.move (.tmp 9), some 11, none⟩, ⟨.assign (.tmp 11), some 4, none⟩]) (.seq (.ops [⟨.move (.tmp 0), some 12, none⟩, ⟨.move (.tmp 4), some 13, none⟩, ⟨.index 9 (.tmp 12) (.tmp 13), some 14, none⟩, ⟨.assign (.tmp 14), some 5, none⟩]) (.seq (.ops [⟨.move (.tmp 5), some 15, none⟩, ⟨.convert 5 3 (.tmp 15), some 16, none⟩, ⟨.call ⟨.value (.func 89), ⟨[.tmp 16, .const (.int .i64 32), .const (.int .i64 126)]⟩, ⟨[3, 3, 3]⟩⟩, some 17, none⟩, ⟨.move (.tmp 17), some 18, none⟩, ⟨.move (.tmp 5), some 19, some (18, true)⟩, ⟨.binOp .neq 5 (.tmp 19) (.const (.int .u8 34)) 5, some 20, some (18, true)⟩, ⟨.pick (.tmp 18) (.tmp 20) (.const (.bool false)), some 21, none⟩, ⟨.move (.tmp 21), some 22, none⟩, ⟨.move (.tmp 5), some 23, some (22, true)⟩, ⟨.binOp .neq 5 (.tmp 23) (.const (.int .u8 92)) 5, some 24, some (22, true)⟩, ⟨.pick (.tmp 22) (.tmp 24) (.const (.bool false)), some 25, none⟩]) (.cond (.tmp 25) (.ops [⟨.move (.tmp 5), some 26, none⟩, ⟨.call ⟨.value (.func 78), ⟨[.tmp 3, .tmp 26]⟩, ⟨[120, 5]⟩⟩, some 27, none⟩]) (.draw [0, 1, 3, 0, 8, 24, 63, 127] [⟨.move (.tmp 5), some 28, none⟩, ⟨.binOp .quo 5 (.tmp 28) (.const (.int .u8 16)) 5, some 29, none⟩, ⟨.index 9 (.const (.string ⟨⟨[48, 49, 50, 51, 52, 53, 54, 55, 56, 57, 97, 98, 99, 100, 101, 102]⟩⟩)) (.tmp 29), some 30, none⟩, ⟨.move (.tmp 5), some 31, none⟩, ⟨.binOp .rem 5 (.tmp 31) (.const (.int .u8 16)) 5, some 32, none⟩, ⟨.index 9 (.const (.string ⟨⟨[48, 49, 50, 51, 52, 53, 54, 55, 56, 57, 97, 98, 99, 100, 101, 102]⟩⟩)) (.tmp 32), some 33, none⟩, ⟨.buildSlice 118 3 ⟨[(0, .const (.int .u8 92)), (1, .tmp 30), (2, .tmp 33)]⟩, some 34, none⟩, ⟨.call ⟨.value (.func 143), ⟨[.tmp 3, .tmp 34]⟩, ⟨[120, 118]⟩⟩, some 35, none⟩])))))) (.ops [⟨.binOp .add 3 (.tmp 9) (.const (.int .i64 1)) 3, some 36, none⟩, ⟨.move (.tmp 36), some 9, none⟩]))))))) (.seq (.ops [⟨.call ⟨.value (.func 79), ⟨[.tmp 3]⟩, ⟨[120]⟩⟩, some 37, none⟩, ⟨.binOp .add 9 (.tmp 37) (.const (.string ⟨⟨[34]⟩⟩)) 9, some 38, none⟩, ⟨.assign (.tmp 38), some 2, none⟩]) .ret))))
theorem l91 : Tryz.f91.body.map lighten = some L91 := by kernel_rfl
theorem gob91 : Gob 91 39 L91 [.tmp 2] := fun hl h => ACall.goB tab_ok mixed Tryz.func91 l91 nm91 (by kernel_rfl) (by kernel_rfl) hl h
noncomputable def L90 : LCode := .seq (.ops [⟨.assign (.const (.string ⟨⟨[]⟩⟩)), some 2, none⟩]) (.seq (.ops [⟨.move (.tmp 0), some 3, none⟩, ⟨.call ⟨.value (.func 142), ⟨[.tmp 3]⟩, ⟨[3]⟩⟩, some 4, none⟩, ⟨.assign (.tmp 4), some 2, none⟩]) .ret)
theorem l90 : Tryz.f90.body.map lighten = some L90 := by kernel_rfl
theorem gob90 : Gob 90 5 L90 [.tmp 2] := fun hl h => ACall.goB tab_ok mixed Tryz.func90 l90 nm90 (by kernel_rfl) (by kernel_rfl) hl h
noncomputable def L92 : LCode := .seq (.ops [⟨.assign (.const (.string ⟨⟨[]⟩⟩)), some 2, none⟩, ⟨.assign (.const (.string ⟨⟨[]⟩⟩)), some 3, none⟩, ⟨.assign (.const (.bool false)), some 4, none⟩]) (.seq (.ops [⟨.move (.tmp 0), some 5, none⟩, ⟨.call { callee := .value (.func 94), args := { toList := [.tmp 5, .const (.string ⟨⟨[10]⟩⟩)] }, argTypes := ⟨[9, 9]⟩ }, some 6, none⟩, ⟨.extract (.tmp 6) 0, some 7, none⟩, ⟨.extract (.tmp 6) 1, some 8, none⟩, ⟨.extract (.tmp 6) 2, some 9, none⟩, ⟨.assign (.tmp 7), some 2, none⟩, ⟨.assign (.tmp 8), some 3, none⟩, ⟨.assign (.tmp 9), some 4, none⟩]) .ret)
theorem l92 : Tryz.f92.body.map lighten = some L92 := by kernel_rfl
theorem gob92 : Gob 92 10 L92 [.tmp 2, .tmp 3, .tmp 4] := fun hl h => ACall.goB tab_ok mixed Tryz.func92 l92 nm92 (by kernel_rfl) (by kernel_rfl) hl h
noncomputable def L93 : LCode := .seq (.ops [⟨.alloc 44, some 2, none⟩, ⟨.assign (.const (.bool false)), some 3, none⟩]) (.seq (.ops [⟨.move (.tmp 0), some 17, none⟩, ⟨.call { callee := .value (.func 94), args := { toList := [.tmp 17, .const (.string ⟨⟨[32]⟩⟩)] }, argTypes := ⟨[9, 9]⟩ }, some 18, none⟩, ⟨.move (.tmp 18), some 16, none⟩, ⟨.extract (.tmp 16) 0, some 19, none⟩, ⟨.extract (.tmp 16) 1, some 20, none⟩, ⟨.extract (.tmp 16) 2, some 21, none⟩, ⟨.assign (.tmp 19), some 4, none⟩, ⟨.assign (.tmp 20), some 5, none⟩, ⟨.assign (.tmp 21), some 6, none⟩]) (.seq (.ops [⟨.move (.tmp 5), some 23, none⟩, ⟨.call { callee := .value (.func 94), args := { toList := [.tmp 23, .const (.string ⟨⟨[32]⟩⟩)] }, argTypes := ⟨[9, 9]⟩ }, some 24, none⟩, ⟨.move (.tmp 24), some 22, none⟩, ⟨.extract (.tmp 22) 0, some 25, none⟩, ⟨.extract (.tmp 22) 1, some 26, none⟩, ⟨.extract (.tmp 22) 2, some 27, none⟩, ⟨.assign (.tmp 25), some 7, none⟩, ⟨.assign (.tmp 26), some 8, none⟩, ⟨.assign (.tmp 27), some 9, none⟩]) (.seq (.ops [⟨.move (.tmp 4), some 29, none⟩, ⟨.call ⟨.value (.func 144), ⟨[.tmp 29, .const (.int .i64 15)]⟩, ⟨[9, 3]⟩⟩, some 30, none⟩, ⟨.move (.tmp 30), some 28, none⟩, ⟨.extract (.tmp 28) 0, some 31, none⟩, ⟨.extract (.tmp 28) 1, some 32, none⟩, ⟨.assign (.tmp 31), some 10, none⟩, ⟨.assign (.tmp 32), some 11, none⟩]) (.seq (.ops [⟨.move (.tmp 7), some 34, none⟩, ⟨.call ⟨.value (.func 144), ⟨[.tmp 34, .const (.int .i64 15)]⟩, ⟨[9, 3]⟩⟩, some 35, none⟩, ⟨.move (.tmp 35), some 33, none⟩, ⟨.extract (.tmp 33) 0, some 36, none⟩, ⟨.extract (.tmp 33) 1, some 37, none⟩, ⟨.assign (.tmp 36), some 12, none⟩, ⟨.assign (.tmp 37), some 13, none⟩]) (.seq (.ops [⟨.move (.tmp 8), some 38, none⟩, ⟨.build 221 ⟨[(0, .tmp 38)]⟩, some 39, none⟩, ⟨.box 221 (.tmp 39), some 40, none⟩, ⟨.assign (.tmp 40), some 14, none⟩]) (.seq (.ops [⟨.move (.tmp 14), some 41, none⟩, ⟨.call ⟨.value (.func 145), ⟨[.tmp 41]⟩, ⟨[219]⟩⟩, some 42, none⟩, ⟨.assign (.tmp 42), some 15, none⟩]) (.seq (.draw [0, 0, 0, 7, 0, 16, 48, 112, 240, 496, 1008, 2032, 4080, 8176, 16368, 32752, 65520, 131056, 262128, 524272, 1048560, 2097136, 4194288, 8388592, 16777200, 33554416, 4194288, 71303152, 268435440, 536870896, 4194303, 2147483647] [⟨.move (.tmp 10), some 43, none⟩, ⟨.move (.tmp 12), some 44, none⟩, ⟨.move (.tmp 15), some 45, none⟩, ⟨.build 44 ⟨[(0, .tmp 43), (1, .tmp 44), (2, .tmp 45)]⟩, some 46, none⟩, ⟨.move (.tmp 6), some 47, none⟩, ⟨.move (.tmp 47), some 48, none⟩, ⟨.move (.tmp 9), some 49, some (48, true)⟩, ⟨.pick (.tmp 48) (.tmp 49) (.const (.bool false)), some 50, none⟩, ⟨.move (.tmp 50), some 51, none⟩, ⟨.move (.tmp 11), some 52, some (51, true)⟩, ⟨.pick (.tmp 51) (.tmp 52) (.const (.bool false)), some 53, none⟩, ⟨.move (.tmp 53), some 54, none⟩, ⟨.move (.tmp 13), some 55, some (54, true)⟩, ⟨.pick (.tmp 54) (.tmp 55) (.const (.bool false)), some 56, none⟩, ⟨.move (.tmp 56), some 57, none⟩, ⟨.move (.tmp 14), some 58, some (57, true)⟩, ⟨.nilCheck (.tmp 58), some 59, some (57, true)⟩, ⟨.fieldAddr 221 (.tmp 59) 2, some 60, some (57, true)⟩, ⟨.load 4 (.tmp 60), some 61, some (57, true)⟩, ⟨.unOp .not 4 (.tmp 61), some 62, some (57, true)⟩, ⟨.pick (.tmp 57) (.tmp 62) (.const (.bool false)), some 63, none⟩, ⟨.move (.tmp 63), some 64, none⟩, ⟨.move (.tmp 14), some 65, some (64, true)⟩, ⟨.nilCheck (.tmp 65), some 66, some (64, true)⟩, ⟨.fieldAddr 221 (.tmp 66) 1, some 67, some (64, true)⟩, ⟨.load 3 (.tmp 67), some 68, some (64, true)⟩, ⟨.move (.tmp 8), some 69, some (64, true)⟩, ⟨.call ⟨.builtin .len, ⟨[.tmp 69]⟩, ⟨[9]⟩⟩, some 70, some (64, true)⟩, ⟨.binOp .eql 3 (.tmp 68) (.tmp 70) 3, some 71, some (64, true)⟩, ⟨.pick (.tmp 64) (.tmp 71) (.const (.bool false)), some 72, none⟩, ⟨.store 44 (.tmp 2) (.tmp 46), none, none⟩, ⟨.assign (.tmp 72), some 3, none⟩]) .ret)))))))
theorem l93 : Tryz.f93.body.map lighten = some L93 := by kernel_rfl
theorem gob93 : Gob 93 73 L93 [.cell 2 44, .tmp 3] := fun hl h => ACall.goB tab_ok mixed Tryz.func93 l93 nm93 (by kernel_rfl) (by kernel_rfl) hl h
noncomputable def L94 : LCode := .seq (.ops [⟨.assign (.const (.string ⟨⟨[]⟩⟩)), some 4, none⟩, ⟨.assign (.const (.string ⟨⟨[]⟩⟩)), some 5, none⟩, ⟨.assign (.const (.bool false)), some 6, none⟩]) (.seq (.ops [⟨.move (.tmp 0), some 7, none⟩, ⟨.move (.tmp 1), some 8, none⟩, ⟨.call ⟨.value (.func 146), ⟨[.tmp 7, .tmp 8]⟩, ⟨[9, 9]⟩⟩, some 9, none⟩, ⟨.extract (.tmp 9) 0, some 10, none⟩, ⟨.extract (.tmp 9) 1, some 11, none⟩, ⟨.extract (.tmp 9) 2, some 12, none⟩, ⟨.assign (.tmp 10), some 4, none⟩, ⟨.assign (.tmp 11), some 5, none⟩, ⟨.assign (.tmp 12), some 6, none⟩]) .ret)
theorem l94 : Tryz.f94.body.map lighten = some L94 := by kernel_rfl
theorem gob94 : Gob 94 13 L94 [.tmp 4, .tmp 5, .tmp 6] := fun hl h => ACall.goB tab_ok mixed Tryz.func94 l94 nm94 (by kernel_rfl) (by kernel_rfl) hl h
noncomputable def L146 : LCode := .seq (.ops [⟨.assign (.const (.string ⟨⟨[]⟩⟩)), some 4, none⟩, ⟨.assign (.const (.string ⟨⟨[]⟩⟩)), some 5, none⟩, ⟨.assign (.const (.bool false)), some 6, none⟩]) (.seq (.seq (.ops [⟨.move (.tmp 0), some 8, none⟩, ⟨.move (.tmp 1), some 9, none⟩, ⟨.call ⟨.value (.func 194), ⟨[.tmp 8, .tmp 9]⟩, ⟨[9, 9]⟩⟩, some 10, none⟩, ⟨.assign (.tmp 10), some 7, none⟩]) (.seq (.ops [⟨.move (.tmp 7), some 11, none⟩, ⟨.binOp .geq 3 (.tmp 11) (.const (.int .i64 0)) 3, some 12, none⟩]) (.cond (.tmp 12) (.seq (.draw [0, 0, 3, 0, 0, 0, 32, 112, 248, 7, 1023, 2047] [⟨.move (.tmp 0), some 13, none⟩, ⟨.move (.tmp 7), some 14, none⟩, ⟨.slice 9 (.tmp 13) none (some (.tmp 14)) none, some 15, none⟩, ⟨.move (.tmp 0), some 16, none⟩, ⟨.move (.tmp 7), some 17, none⟩, ⟨.move (.tmp 1), some 18, none⟩, ⟨.call ⟨.builtin .len, ⟨[.tmp 18]⟩, ⟨[9]⟩⟩, some 19, none⟩, ⟨.binOp .add 3 (.tmp 17) (.tmp 19) 3, some 20, none⟩, ⟨.slice 9 (.tmp 16) (some (.tmp 20)) none none, some 21, none⟩, ⟨.assign (.tmp 15), some 4, none⟩, ⟨.assign (.tmp 21), some 5, none⟩, ⟨.assign (.const (.bool true)), some 6, none⟩]) .ret) .skip))) (.seq (.ops [⟨.move (.tmp 0), some 22, none⟩, ⟨.assign (.tmp 22), some 4, none⟩, ⟨.assign (.const (.string ⟨⟨[]⟩⟩)), some 5, none⟩, ⟨.assign (.const (.bool false)), some 6, none⟩]) .ret))
theorem l146 : Tryz.f146.body.map lighten = some L146 := by kernel_rfl
theorem gob146 : Gob 146 23 L146 [.tmp 4, .tmp 5, .tmp 6] := fun hl h => ACall.goB tab_ok mixed Tryz.func146 l146 nm146 (by kernel_rfl) (by kernel_rfl) hl h
noncomputable def L194 : LCode := .seq (.ops [⟨.assign (.const (.int .i64 0)), some 4, none⟩]) (.seq (.ops [⟨.move (.tmp 1), some 14, none⟩, ⟨.call ⟨.builtin .len, ⟨[.tmp 14]⟩, ⟨[9]⟩⟩, some 15, none⟩, ⟨.assign (.tmp 15), some 5, none⟩]) (.seq (.block 0 (.seq (.ops [⟨.move (.tmp 5), some 17, none⟩, ⟨.binOp .eql 3 (.tmp 17) (.const (.int .i64 0)) 3, some 18, none⟩, ⟨.move (.tmp 18), some 19, none⟩, ⟨.move (.tmp 1), some 20, some (19, false)⟩, ⟨.move (.tmp 0), some 21, some (19, false)⟩, ⟨.binOp .eql 9 (.tmp 20) (.tmp 21) 9, some 22, some (19, false)⟩, ⟨.pick (.tmp 19) (.const (.bool true)) (.tmp 22), some 23, none⟩, ⟨.assign (.tmp 23), some 16, none⟩]) (.cond (.tmp 16) (.seq (.ops [⟨.assign (.const (.int .i64 0)), some 4, none⟩]) .ret) (.seq (.ops [⟨.move (.tmp 5), some 25, none⟩, ⟨.binOp .eql 3 (.tmp 25) (.const (.int .i64 1)) 3, some 26, none⟩, ⟨.assign (.tmp 26), some 24, none⟩]) (.cond (.tmp 24) (.seq (.ops [⟨.move (.tmp 0), some 27, none⟩, ⟨.move (.tmp 1), some 28, none⟩, ⟨.index 9 (.tmp 28) (.const (.int .i64 0)), some 29, none⟩, ⟨.call ⟨.value (.func 138), ⟨[.tmp 27, .tmp 29]⟩, ⟨[9, 5]⟩⟩, some 30, none⟩, ⟨.assign (.tmp 30), some 4, none⟩]) .ret) (.seq (.ops [⟨.move (.tmp 5), some 32, none⟩, ⟨.move (.tmp 0), some 33, none⟩, ⟨.call ⟨.builtin .len, ⟨[.tmp 33]⟩, ⟨[9]⟩⟩, some 34, none⟩, ⟨.binOp .geq 3 (.tmp 32) (.tmp 34) 3, some 35, none⟩, ⟨.assign (.tmp 35), some 31, none⟩]) (.cond (.tmp 31) (.seq (.ops [⟨.assign (.const (.int .i64 (-1))), some 4, none⟩]) .ret) (.seq (.ops [⟨.move (.tmp 5), some 37, none⟩, ⟨.load 3 (.global 0), some 38, none⟩, ⟨.binOp .leq 3 (.tmp 37) (.tmp 38) 3, some 39, none⟩, ⟨.move (.tmp 39), some 40, none⟩, ⟨.move (.tmp 0), some 41, some (40, true)⟩, ⟨.call ⟨.builtin .len, ⟨[.tmp 41]⟩, ⟨[9]⟩⟩, some 42, some (40, true)⟩, ⟨.binOp .leq 3 (.tmp 42) (.const (.int .i64 64)) 3, some 43, some (40, true)⟩, ⟨.pick (.tmp 40) (.tmp 43) (.const (.bool false)), some 44, none⟩, ⟨.assign (.tmp 44), some 36, none⟩]) (.cond (.tmp 36) (.seq (.ops [⟨.move (.tmp 0), some 45, none⟩, ⟨.move (.tmp 1), some 46, none⟩, ⟨.call ⟨.value (.func 229), ⟨[.tmp 45, .tmp 46]⟩, ⟨[9, 9]⟩⟩, some 47, none⟩, ⟨.assign (.tmp 47), some 4, none⟩]) .ret) .skip))))))))) (.seq (.ops [⟨.move (.tmp 1), some 48, none⟩, ⟨.index 9 (.tmp 48) (.const (.int .i64 0)), some 49, none⟩, ⟨.assign (.tmp 49), some 6, none⟩]) (.seq (.ops [⟨.move (.tmp 1), some 50, none⟩, ⟨.index 9 (.tmp 50) (.const (.int .i64 1)), some 51, none⟩, ⟨.assign (.tmp 51), some 7, none⟩]) (.seq (.ops [⟨.assign (.const (.int .i64 0)), some 8, none⟩]) (.seq (.ops [⟨.move (.tmp 0), some 52, none⟩, ⟨.call ⟨.builtin .len, ⟨[.tmp 52]⟩, ⟨[9]⟩⟩, some 53, none⟩, ⟨.move (.tmp 5), some 54, none⟩, ⟨.binOp .sub 3 (.tmp 53) (.tmp 54) 3, some 55, none⟩, ⟨.binOp .add 3 (.tmp 55) (.const (.int .i64 1)) 3, some 56, none⟩, ⟨.assign (.tmp 56), some 9, none⟩]) (.seq (.ops [⟨.assign (.const (.int .i64 0)), some 10, none⟩]) (.seq (.block 1 (.loop (.seq (.seq (.ops [⟨.move (.tmp 8), some 57, none⟩, ⟨.move (.tmp 9), some 58, none⟩, ⟨.binOp .lss 3 (.tmp 57) (.tmp 58) 3, some 59, none⟩]) (.cond (.tmp 59) .skip (.exit 1))) (.block 2 (.seq (.seq (.ops [⟨.move (.tmp 0), some 60, none⟩, ⟨.move (.tmp 8), some 61, none⟩, ⟨.index 9 (.tmp 60) (.tmp 61), some 62, none⟩, ⟨.move (.tmp 6), some 63, none⟩, ⟨.binOp .neq 5 (.tmp 62) (.tmp 63) 5, some 64, none⟩]) (.cond (.tmp 64) (.seq (.ops [⟨.move (.tmp 0), some 65, none⟩, ⟨.move (.tmp 8), some 66, none⟩, ⟨.binOp .add 3 (.tmp 66) (.const (.int .i64 1)) 3, some 67, none⟩, ⟨.move (.tmp 9), some 68, none⟩, ⟨.slice 9 (.tmp 65) (some (.tmp 67)) (some (.tmp 68)) none, some 69, none⟩, ⟨.move (.tmp 6), some 70, none⟩, ⟨.call ⟨.value (.func 138), ⟨[.tmp 69, .tmp 70]⟩, ⟨[9, 5]⟩⟩, some 71, none⟩, ⟨.assign (.tmp 71), some 11, none⟩]) (.seq (.seq (.ops [⟨.move (.tmp 11), some 72, none⟩, ⟨.binOp .lss 3 (.tmp 72) (.const (.int .i64 0)) 3, some 73, none⟩]) (.cond (.tmp 73) (.seq (.ops [⟨.assign (.const (.int .i64 (-1))), some 4, none⟩]) .ret) .skip)) (.ops [⟨.move (.tmp 8), some 74, none⟩, ⟨.move (.tmp 11), some 75, none⟩, ⟨.binOp .add 3 (.tmp 75) (.const (.int .i64 1)) 3, some 76, none⟩, ⟨.binOp .add 3 (.tmp 74) (.tmp 76) 3, some 77, none⟩, ⟨.assign (.tmp 77), some 8, none⟩]))) .skip)) (.seq (.seq (.ops [⟨.move (.tmp 0), some 78, none⟩, ⟨.move (.tmp 8), some 79, none⟩, ⟨.binOp .add 3 (.tmp 79) (.const (.int .i64 1)) 3, some 80, none⟩, ⟨.index 9 (.tmp 78) (.tmp 80), some 81, none⟩, ⟨.move (.tmp 7), some 82, none⟩, ⟨.binOp .eql 5 (.tmp 81) (.tmp 82) 5, some 83, none⟩, ⟨.move (.tmp 83), some 84, none⟩, ⟨.move (.tmp 0), some 85, some (84, true)⟩, ⟨.move (.tmp 8), some 86, some (84, true)⟩, ⟨.move (.tmp 8), some 87, some (84, true)⟩, ⟨.move (.tmp 5), some 88, some (84, true)⟩, ⟨.binOp .add 3 (.tmp 87) (.tmp 88) 3, some 89, some (84, true)⟩, ⟨.slice 9 (.tmp 85) (some (.tmp 86)) (some (.tmp 89)) none, some 90, some (84, true)⟩, ⟨.move (.tmp 1), some 91, some (84, true)⟩, ⟨.binOp .eql 9 (.tmp 90) (.tmp 91) 9, some 92, some (84, true)⟩, ⟨.pick (.tmp 84) (.tmp 92) (.const (.bool false)), some 93, none⟩]) (.cond (.tmp 93) (.seq (.ops [⟨.move (.tmp 8), some 94, none⟩, ⟨.assign (.tmp 94), some 4, none⟩]) .ret) .skip)) (.seq (.ops [⟨.move (.tmp 8), some 95, none⟩, ⟨.binOp .add 3 (.tmp 95) (.const (.int .i64 1)) 3, some 96, none⟩, ⟨.assign (.tmp 96), some 8, none⟩]) (.seq (.ops [⟨.move (.tmp 10), some 97, none⟩, ⟨.binOp .add 3 (.tmp 97) (.const (.int .i64 1)) 3, some 98, none⟩, ⟨.assign (.tmp 98), some 10, none⟩]) (.seq (.ops [⟨.move (.tmp 5), some 99, none⟩, ⟨.load 3 (.global 0), some 100, none⟩, ⟨.binOp .leq 3 (.tmp 99) (.tmp 100) 3, some 101, none⟩, ⟨.move (.tmp 101), some 102, none⟩, ⟨.move (.tmp 10), some 103, some (102, true)⟩, ⟨.move (.tmp 8), some 104, some (102, true)⟩, ⟨.call ⟨.value (.func 230), ⟨[.tmp 104]⟩, ⟨[3]⟩⟩, some 105, some (102, true)⟩, ⟨.binOp .gtr 3 (.tmp 103) (.tmp 105) 3, some 106, some (102, true)⟩, ⟨.pick (.tmp 102) (.tmp 106) (.const (.bool false)), some 107, none⟩]) (.cond (.tmp 107) (.seq (.ops [⟨.move (.tmp 0), some 108, none⟩, ⟨.move (.tmp 8), some 109, none⟩, ⟨.slice 9 (.tmp 108) (some (.tmp 109)) none none, some 110, none⟩, ⟨.move (.tmp 1), some 111, none⟩, ⟨.call ⟨.value (.func 229), ⟨[.tmp 110, .tmp 111]⟩, ⟨[9, 9]⟩⟩, some 112, none⟩, ⟨.assign (.tmp 112), some 12, none⟩]) (.seq (.seq (.ops [⟨.move (.tmp 12), some 113, none⟩, ⟨.binOp .geq 3 (.tmp 113) (.const (.int .i64 0)) 3, some 114, none⟩]) (.cond (.tmp 114) (.seq (.ops [⟨.move (.tmp 12), some 115, none⟩, ⟨.move (.tmp 8), some 116, none⟩, ⟨.binOp .add 3 (.tmp 115) (.tmp 116) 3, some 117, none⟩, ⟨.assign (.tmp 117), some 4, none⟩]) .ret) .skip)) (.seq (.ops [⟨.assign (.const (.int .i64 (-1))), some 4, none⟩]) .ret))) (.seq (.ops [⟨.move (.tmp 5), some 118, none⟩, ⟨.load 3 (.global 0), some 119, none⟩, ⟨.binOp .gtr 3 (.tmp 118) (.tmp 119) 3, some 120, none⟩, ⟨.move (.tmp 120), some 121, none⟩, ⟨.move (.tmp 10), some 122, some (121, true)⟩, ⟨.move (.tmp 8), some 123, some (121, true)⟩, ⟨.binOp .shr 3 (.tmp 123) (.const (.int .u64 4)) 270, some 124, some (121, true)⟩, ⟨.binOp .add 3 (.const (.int .i64 4)) (.tmp 124) 3, some 125, some (121, true)⟩, ⟨.binOp .geq 3 (.tmp 122) (.tmp 125) 3, some 126, some (121, true)⟩, ⟨.pick (.tmp 121) (.tmp 126) (.const (.bool false)), some 127, none⟩, ⟨.move (.tmp 127), some 128, none⟩, ⟨.move (.tmp 8), some 129, some (128, true)⟩, ⟨.move (.tmp 9), some 130, some (128, true)⟩, ⟨.binOp .lss 3 (.tmp 129) (.tmp 130) 3, some 131, some (128, true)⟩, ⟨.pick (.tmp 128) (.tmp 131) (.const (.bool false)), some 132, none⟩]) (.cond (.tmp 132) (.seq (.ops [⟨.move (.tmp 0), some 133, none⟩, ⟨.move (.tmp 8), some 134, none⟩, ⟨.slice 9 (.tmp 133) (some (.tmp 134)) none none, some 135, none⟩, ⟨.move (.tmp 1), some 136, none⟩, ⟨.call ⟨.value (.func 231), ⟨[.tmp 135, .tmp 136]⟩, ⟨[9, 9]⟩⟩, some 137, none⟩, ⟨.assign (.tmp 137), some 13, none⟩]) (.seq (.seq (.ops [⟨.move (.tmp 13), some 138, none⟩, ⟨.binOp .lss 3 (.tmp 138) (.const (.int .i64 0)) 3, some 139, none⟩]) (.cond (.tmp 139) (.seq (.ops [⟨.assign (.const (.int .i64 (-1))), some 4, none⟩]) .ret) .skip)) (.seq (.ops [⟨.move (.tmp 8), some 140, none⟩, ⟨.move (.tmp 13), some 141, none⟩, ⟨.binOp .add 3 (.tmp 140) (.tmp 141) 3, some 142, none⟩, ⟨.assign (.tmp 142), some 4, none⟩]) .ret))) .skip)))))))))))) (.seq (.ops [⟨.assign (.const (.int .i64 (-1))), some 4, none⟩]) .ret)))))))))
theorem l194 : Tryz.f194.body.map lighten = some L194 := by kernel_rfl
theorem gob194 : Gob 194 143 L194 [.tmp 4] := fun hl h => ACall.goB tab_ok mixed Tryz.func194 l194 nm194 (by kernel_rfl) (by kernel_rfl) hl h
noncomputable def L95 : LCode := .seq (.ops [⟨.assign (.const (.int .i64 0)), some 4, none⟩, ⟨.assign (.const (.bool false)), some 5, none⟩]) (.seq (.ops [⟨.move (.tmp 0), some 10, none⟩, ⟨.call { callee := .value (.func 147), args := { toList := [.tmp 10, .const (.string ⟨⟨[45]⟩⟩)] }, argTypes := ⟨[9, 9]⟩ }, some 11, none⟩, ⟨.assign (.tmp 11), some 6, none⟩]) (.seq (.seq (.ops [⟨.move (.tmp 6), some 12, none⟩, ⟨.binOp .eql 9 (.tmp 12) (.const (.string ⟨⟨[]⟩⟩)) 9, some 13, none⟩, ⟨.move (.tmp 13), some 14, none⟩, ⟨.move (.tmp 6), some 15, some (14, false)⟩, ⟨.call ⟨.builtin .len, ⟨[.tmp 15]⟩, ⟨[9]⟩⟩, some 16, some (14, false)⟩, ⟨.move (.tmp 1), some 17, some (14, false)⟩, ⟨.binOp .gtr 3 (.tmp 16) (.tmp 17) 3, some 18, some (14, false)⟩, ⟨.pick (.tmp 14) (.const (.bool true)) (.tmp 18), some 19, none⟩, ⟨.move (.tmp 19), some 20, none⟩, ⟨.move (.tmp 6), some 21, some (20, false)⟩, ⟨.index 9 (.tmp 21) (.const (.int .i64 0)), some 22, some (20, false)⟩, ⟨.binOp .eql 5 (.tmp 22) (.const (.int .u8 48)) 5, some 23, some (20, false)⟩, ⟨.move (.tmp 23), some 24, some (20, false)⟩, ⟨.move (.tmp 0), some 25, some (24, true)⟩, ⟨.binOp .neq 9 (.tmp 25) (.const (.string ⟨⟨[48]⟩⟩)) 9, some 26, some (24, true)⟩, ⟨.pick (.tmp 24) (.tmp 26) (.const (.bool false)), some 27, some (20, false)⟩, ⟨.pick (.tmp 20) (.const (.bool true)) (.tmp 27), some 28, none⟩]) (.cond (.tmp 28) (.seq (.ops [⟨.assign (.const (.int .i64 0)), some 4, none⟩, ⟨.assign (.const (.bool false)), some 5, none⟩]) .ret) .skip)) (.seq (.ops [⟨.assign (.const (.int .i64 0)), some 7, none⟩]) (.seq (.seq (.ops [⟨.move (.tmp 6), some 29, none⟩, ⟨.call ⟨.builtin .len, ⟨[.tmp 29]⟩, ⟨[9]⟩⟩, some 30, none⟩, ⟨.move (.const (.int .i64 0)), some 31, none⟩]) (.block 0 (.loop (.seq (.ops [⟨.binOp .lss 3 (.tmp 31) (.tmp 30) 3, some 32, none⟩]) (.seq (.cond (.tmp 32) .skip (.exit 0)) (.seq (.block 1 (.seq (.ops [⟨.move (.tmp 31), some 33, none⟩, ⟨.assign (.tmp 33), some 8, none⟩]) (.seq (.ops [⟨.move (.tmp 6), some 34, none⟩, ⟨.move (.tmp 8), some 35, none⟩, ⟨.index 9 (.tmp 34) (.tmp 35), some 36, none⟩, ⟨.call { callee := .value (.func 81), args := { toList := [.const (.string ⟨⟨[48, 49, 50, 51, 52, 53, 54, 55, 56, 57]⟩⟩), .tmp 36] }, argTypes := ⟨[9, 5]⟩ }, some 37, none⟩, ⟨.assign (.tmp 37), some 9, none⟩]) (.seq (.seq (.ops [⟨.move (.tmp 9), some 38, none⟩, ⟨.binOp .lss 3 (.tmp 38) (.const (.int .i64 0)) 3, some 39, none⟩]) (.cond (.tmp 39) (.seq (.ops [⟨.assign (.const (.int .i64 0)), some 4, none⟩, ⟨.assign (.const (.bool false)), some 5, none⟩]) .ret) .skip)) (.ops [⟨.move (.tmp 7), some 40, none⟩, ⟨.binOp .mul 3 (.const (.int .i64 10)) (.tmp 40) 3, some 41, none⟩, ⟨.move (.tmp 9), some 42, none⟩, ⟨.binOp .add 3 (.tmp 41) (.tmp 42) 3, some 43, none⟩, ⟨.assign (.tmp 43), some 7, none⟩]))))) (.ops [⟨.binOp .add 3 (.tmp 31) (.const (.int .i64 1)) 3, some 44, none⟩, ⟨.move (.tmp 44), some 31, none⟩]))))))) (.seq (.seq (.ops [⟨.move (.tmp 6), some 45, none⟩, ⟨.call ⟨.builtin .len, ⟨[.tmp 45]⟩, ⟨[9]⟩⟩, some 46, none⟩, ⟨.move (.tmp 0), some 47, none⟩, ⟨.call ⟨.builtin .len, ⟨[.tmp 47]⟩, ⟨[9]⟩⟩, some 48, none⟩, ⟨.binOp .lss 3 (.tmp 46) (.tmp 48) 3, some 49, none⟩]) (.cond (.tmp 49) (.ops [⟨.move (.tmp 7), some 50, none⟩, ⟨.unOp .neg 3 (.tmp 50), some 51, none⟩, ⟨.assign (.tmp 51), some 7, none⟩]) .skip)) (.seq (.ops [⟨.move (.tmp 7), some 52, none⟩, ⟨.assign (.tmp 52), some 4, none⟩, ⟨.assign (.const (.bool true)), some 5, none⟩]) .ret))))))
theorem l95 : Tryz.f95.body.map lighten = some L95 := by kernel_rfl
theorem gob95 : Gob 95 53 L95 [.tmp 4, .tmp 5] := fun hl h => ACall.goB tab_ok mixed Tryz.func95 l95 nm95 (by kernel_rfl) (by kernel_rfl) hl h
noncomputable def L96 : LCode := .seq (.ops [⟨.assign (.const (.string ⟨⟨[]⟩⟩)), some 2, none⟩, ⟨.assign (.const (.bool false)), some 3, none⟩]) (.seq (.seq (.ops [⟨.move (.tmp 0), some 7, none⟩, ⟨.call ⟨.value (.func 148), ⟨[.tmp 7, .const (.int .u8 34)]⟩, ⟨[152, 5]⟩⟩, some 8, none⟩, ⟨.unOp .not 4 (.tmp 8), some 9, none⟩]) (.cond (.tmp 9) (.seq (.ops [⟨.assign (.const (.string ⟨⟨[]⟩⟩)), some 2, none⟩, ⟨.assign (.const (.bool false)), some 3, none⟩]) .ret) .skip)) (.seq (.ops [⟨.move (.tmp 0), some 10, none⟩, ⟨.nilCheck (.tmp 10), some 11, none⟩, ⟨.fieldAddr 154 (.tmp 11) 1, some 12, none⟩, ⟨.load 3 (.tmp 12), some 13, none⟩, ⟨.binOp .add 3 (.tmp 13) (.const (.int .i64 1)) 3, some 14, none⟩, ⟨.nilCheck (.tmp 10), some 15, none⟩, ⟨.fieldAddr 154 (.tmp 15) 1, some 16, none⟩, ⟨.store 3 (.tmp 16) (.tmp 14), none, none⟩]) (.seq (.ops [⟨.assign (.const (.string ⟨⟨[]⟩⟩)), some 4, none⟩]) (.block 0 (.loop (.block 1 (.block 2 (.seq (.draw [0, 1, 3, 7, 0, 16, 48, 112, 240, 511, 1023] [⟨.move (.tmp 0), some 18, none⟩, ⟨.nilCheck (.tmp 18), some 19, none⟩, ⟨.fieldAddr 154 (.tmp 19) 1, some 20, none⟩, ⟨.load 3 (.tmp 20), some 21, none⟩, ⟨.move (.tmp 0), some 22, none⟩, ⟨.nilCheck (.tmp 22), some 23, none⟩, ⟨.fieldAddr 154 (.tmp 23) 0, some 24, none⟩, ⟨.load 9 (.tmp 24), some 25, none⟩, ⟨.call ⟨.builtin .len, ⟨[.tmp 25]⟩, ⟨[9]⟩⟩, some 26, none⟩, ⟨.binOp .geq 3 (.tmp 21) (.tmp 26) 3, some 27, none⟩, ⟨.assign (.tmp 27), some 17, none⟩]) (.cond (.tmp 17) (.seq (.ops [⟨.assign (.const (.string ⟨⟨[]⟩⟩)), some 2, none⟩, ⟨.assign (.const (.bool false)), some 3, none⟩]) .ret) (.seq (.draw [0, 1, 3, 7, 0, 16, 48, 112, 255, 511, 1023] [⟨.move (.tmp 0), some 29, none⟩, ⟨.nilCheck (.tmp 29), some 30, none⟩, ⟨.fieldAddr 154 (.tmp 30) 0, some 31, none⟩, ⟨.load 9 (.tmp 31), some 32, none⟩, ⟨.move (.tmp 0), some 33, none⟩, ⟨.nilCheck (.tmp 33), some 34, none⟩, ⟨.fieldAddr 154 (.tmp 34) 1, some 35, none⟩, ⟨.load 3 (.tmp 35), some 36, none⟩, ⟨.index 9 (.tmp 32) (.tmp 36), some 37, none⟩, ⟨.binOp .eql 5 (.tmp 37) (.const (.int .u8 34)) 5, some 38, none⟩, ⟨.assign (.tmp 38), some 28, none⟩]) (.cond (.tmp 28) (.seq (.ops [⟨.move (.tmp 0), some 39, none⟩, ⟨.nilCheck (.tmp 39), some 40, none⟩, ⟨.fieldAddr 154 (.tmp 40) 1, some 41, none⟩, ⟨.load 3 (.tmp 41), some 42, none⟩, ⟨.binOp .add 3 (.tmp 42) (.const (.int .i64 1)) 3, some 43, none⟩, ⟨.nilCheck (.tmp 39), some 44, none⟩, ⟨.fieldAddr 154 (.tmp 44) 1, some 45, none⟩, ⟨.store 3 (.tmp 45) (.tmp 43), none, none⟩]) (.seq (.ops [⟨.move (.tmp 4), some 46, none⟩, ⟨.assign (.tmp 46), some 2, none⟩, ⟨.assign (.const (.bool true)), some 3, none⟩]) .ret)) (.seq (.draw [0, 1, 3, 7, 0, 16, 48, 112, 255, 511, 1023] [⟨.move (.tmp 0), some 48, none⟩, ⟨.nilCheck (.tmp 48), some 49, none⟩, ⟨.fieldAddr 154 (.tmp 49) 0, some 50, none⟩, ⟨.load 9 (.tmp 50), some 51, none⟩, ⟨.move (.tmp 0), some 52, none⟩, ⟨.nilCheck (.tmp 52), some 53, none⟩, ⟨.fieldAddr 154 (.tmp 53) 1, some 54, none⟩, ⟨.load 3 (.tmp 54), some 55, none⟩, ⟨.index 9 (.tmp 51) (.tmp 55), some 56, none⟩, ⟨.binOp .eql 5 (.tmp 56) (.const (.int .u8 92)) 5, some 57, none⟩, ⟨.assign (.tmp 57), some 47, none⟩]) (.cond (.tmp 47) (.seq (.ops [⟨.move (.tmp 0), some 59, none⟩, ⟨.call ⟨.value (.func 149), ⟨[.tmp 59]⟩, ⟨[152]⟩⟩, some 60, none⟩, ⟨.move (.tmp 60), some 58, none⟩, ⟨.extract (.tmp 58) 0, some 61, none⟩, ⟨.extract (.tmp 58) 1, some 62, none⟩, ⟨.assign (.tmp 61), some 5, none⟩, ⟨.assign (.tmp 62), some 6, none⟩]) (.seq (.seq (.ops [⟨.move (.tmp 6), some 63, none⟩, ⟨.unOp .not 4 (.tmp 63), some 64, none⟩]) (.cond (.tmp 64) (.seq (.ops [⟨.assign (.const (.string ⟨⟨[]⟩⟩)), some 2, none⟩, ⟨.assign (.const (.bool false)), some 3, none⟩]) .ret) .skip)) (.ops [⟨.move (.tmp 4), some 65, none⟩, ⟨.move (.tmp 5), some 66, none⟩, ⟨.convert 3 5 (.tmp 66), some 67, none⟩, ⟨.buildSlice 118 1 ⟨[(0, .tmp 67)]⟩, some 68, none⟩, ⟨.convert 118 9 (.tmp 68), some 69, none⟩, ⟨.binOp .add 9 (.tmp 65) (.tmp 69) 9, some 70, none⟩, ⟨.assign (.tmp 70), some 4, none⟩]))) (.seq (.draw [0, 1, 3, 7, 0, 16, 48, 112, 255, 511, 1023, 2047] [⟨.move (.tmp 0), some 72, none⟩, ⟨.nilCheck (.tmp 72), some 73, none⟩, ⟨.fieldAddr 154 (.tmp 73) 0, some 74, none⟩, ⟨.load 9 (.tmp 74), some 75, none⟩, ⟨.move (.tmp 0), some 76, none⟩, ⟨.nilCheck (.tmp 76), some 77, none⟩, ⟨.fieldAddr 154 (.tmp 77) 1, some 78, none⟩, ⟨.load 3 (.tmp 78), some 79, none⟩, ⟨.index 9 (.tmp 75) (.tmp 79), some 80, none⟩, ⟨.convert 5 3 (.tmp 80), some 81, none⟩, ⟨.call ⟨.value (.func 89), ⟨[.tmp 81, .const (.int .i64 32), .const (.int .i64 126)]⟩, ⟨[3, 3, 3]⟩⟩, some 82, none⟩, ⟨.assign (.tmp 82), some 71, none⟩]) (.cond (.tmp 71) (.seq (.draw [0, 0, 2, 6, 14, 0, 32, 96, 224, 0, 512, 1536, 3584, 7680, 16382, 32767, 65535] [⟨.move (.tmp 4), some 83, none⟩, ⟨.move (.tmp 0), some 84, none⟩, ⟨.nilCheck (.tmp 84), some 85, none⟩, ⟨.fieldAddr 154 (.tmp 85) 0, some 86, none⟩, ⟨.load 9 (.tmp 86), some 87, none⟩, ⟨.move (.tmp 0), some 88, none⟩, ⟨.nilCheck (.tmp 88), some 89, none⟩, ⟨.fieldAddr 154 (.tmp 89) 1, some 90, none⟩, ⟨.load 3 (.tmp 90), some 91, none⟩, ⟨.move (.tmp 0), some 92, none⟩, ⟨.nilCheck (.tmp 92), some 93, none⟩, ⟨.fieldAddr 154 (.tmp 93) 1, some 94, none⟩, ⟨.load 3 (.tmp 94), some 95, none⟩, ⟨.binOp .add 3 (.tmp 95) (.const (.int .i64 1)) 3, some 96, none⟩, ⟨.slice 9 (.tmp 87) (some (.tmp 91)) (some (.tmp 96)) none, some 97, none⟩, ⟨.binOp .add 9 (.tmp 83) (.tmp 97) 9, some 98, none⟩, ⟨.assign (.tmp 98), some 4, none⟩]) (.ops [⟨.move (.tmp 0), some 99, none⟩, ⟨.nilCheck (.tmp 99), some 100, none⟩, ⟨.fieldAddr 154 (.tmp 100) 1, some 101, none⟩, ⟨.load 3 (.tmp 101), some 102, none⟩, ⟨.binOp .add 3 (.tmp 102) (.const (.int .i64 1)) 3, some 103, none⟩, ⟨.nilCheck (.tmp 99), some 104, none⟩, ⟨.fieldAddr 154 (.tmp 104) 1, some 105, none⟩, ⟨.store 3 (.tmp 105) (.tmp 103), none, none⟩])) (.seq (.ops [⟨.assign (.const (.string ⟨⟨[]⟩⟩)), some 2, none⟩, ⟨.assign (.const (.bool false)), some 3, none⟩]) .ret))))))))))))))))
theorem l96 : Tryz.f96.body.map lighten = some L96 := by kernel_rfl
theorem gob96 : Gob 96 106 L96 [.tmp 2, .tmp 3] := fun hl h => ACall.goB tab_ok mixed Tryz.func96 l96 nm96 (by kernel_rfl) (by kernel_rfl) hl h
noncomputable def L148 : LCode := .seq (.ops [⟨.assign (.const (.bool false)), some 4, none⟩]) (.seq (.draw [0, 1, 3, 7, 0, 16, 48, 112, 240, 511, 1023, 2047, 4095, 8191, 16383, 2047, 34815, 100351, 231423, 524287, 2047, 2097151, 4194303, 8388607] [⟨.move (.tmp 0), some 5, none⟩, ⟨.nilCheck (.tmp 5), some 6, none⟩, ⟨.fieldAddr 154 (.tmp 6) 1, some 7, none⟩, ⟨.load 3 (.tmp 7), some 8, none⟩, ⟨.move (.tmp 0), some 9, none⟩, ⟨.nilCheck (.tmp 9), some 10, none⟩, ⟨.fieldAddr 154 (.tmp 10) 0, some 11, none⟩, ⟨.load 9 (.tmp 11), some 12, none⟩, ⟨.call ⟨.builtin .len, ⟨[.tmp 12]⟩, ⟨[9]⟩⟩, some 13, none⟩, ⟨.binOp .lss 3 (.tmp 8) (.tmp 13) 3, some 14, none⟩, ⟨.move (.tmp 14), some 15, none⟩, ⟨.move (.tmp 0), some 16, some (15, true)⟩, ⟨.nilCheck (.tmp 16), some 17, some (15, true)⟩, ⟨.fieldAddr 154 (.tmp 17) 0, some 18, some (15, true)⟩, ⟨.load 9 (.tmp 18), some 19, some (15, true)⟩, ⟨.move (.tmp 0), some 20, some (15, true)⟩, ⟨.nilCheck (.tmp 20), some 21, some (15, true)⟩, ⟨.fieldAddr 154 (.tmp 21) 1, some 22, some (15, true)⟩, ⟨.load 3 (.tmp 22), some 23, some (15, true)⟩, ⟨.index 9 (.tmp 19) (.tmp 23), some 24, some (15, true)⟩, ⟨.move (.tmp 1), some 25, some (15, true)⟩, ⟨.binOp .eql 5 (.tmp 24) (.tmp 25) 5, some 26, some (15, true)⟩, ⟨.pick (.tmp 15) (.tmp 26) (.const (.bool false)), some 27, none⟩, ⟨.assign (.tmp 27), some 4, none⟩]) .ret)
theorem l148 : Tryz.f148.body.map lighten = some L148 := by kernel_rfl
theorem gob148 : Gob 148 28 L148 [.tmp 4] := fun hl h => ACall.goB tab_ok mixed Tryz.func148 l148 nm148 (by kernel_rfl) (by kernel_rfl) hl h
noncomputable def L149 : LCode := .seq (.ops [⟨.assign (.const (.int .i64 0)), some 2, none⟩, ⟨.assign (.const (.bool false)), some 3, none⟩]) (.seq (.ops [⟨.assign (.const (.int .i64 0)), some 4, none⟩]) (.seq (.ops [⟨.move (.tmp 0), some 7, none⟩, ⟨.nilCheck (.tmp 7), some 8, none⟩, ⟨.fieldAddr 154 (.tmp 8) 1, some 9, none⟩, ⟨.load 3 (.tmp 9), some 10, none⟩, ⟨.binOp .add 3 (.tmp 10) (.const (.int .i64 1)) 3, some 11, none⟩, ⟨.nilCheck (.tmp 7), some 12, none⟩, ⟨.fieldAddr 154 (.tmp 12) 1, some 13, none⟩, ⟨.store 3 (.tmp 13) (.tmp 11), none, none⟩]) (.seq (.seq (.ops [⟨.move (.const (.int .i64 0)), some 14, none⟩]) (.block 0 (.loop (.seq (.ops [⟨.binOp .lss 3 (.tmp 14) (.const (.int .i64 2)) 3, some 15, none⟩]) (.seq (.cond (.tmp 15) .skip (.exit 0)) (.seq (.block 1 (.seq (.ops [⟨.move (.tmp 14), some 16, none⟩, ⟨.assign (.tmp 16), some 5, none⟩]) (.seq (.seq (.draw [0, 1, 3, 7, 0, 16, 48, 112, 240, 511] [⟨.move (.tmp 0), some 17, none⟩, ⟨.nilCheck (.tmp 17), some 18, none⟩, ⟨.fieldAddr 154 (.tmp 18) 1, some 19, none⟩, ⟨.load 3 (.tmp 19), some 20, none⟩, ⟨.move (.tmp 0), some 21, none⟩, ⟨.nilCheck (.tmp 21), some 22, none⟩, ⟨.fieldAddr 154 (.tmp 22) 0, some 23, none⟩, ⟨.load 9 (.tmp 23), some 24, none⟩, ⟨.call ⟨.builtin .len, ⟨[.tmp 24]⟩, ⟨[9]⟩⟩, some 25, none⟩, ⟨.binOp .geq 3 (.tmp 20) (.tmp 25) 3, some 26, none⟩]) (.cond (.tmp 26) (.seq (.ops [⟨.assign (.const (.int .i64 0)), some 2, none⟩, ⟨.assign (.const (.bool false)), some 3, none⟩]) .ret) .skip)) (.seq (.draw [0, 1, 3, 7, 0, 16, 48, 112, 255, 511, 1023] [⟨.move (.tmp 0), some 27, none⟩, ⟨.nilCheck (.tmp 27), some 28, none⟩, ⟨.fieldAddr 154 (.tmp 28) 0, some 29, none⟩, ⟨.load 9 (.tmp 29), some 30, none⟩, ⟨.move (.tmp 0), some 31, none⟩, ⟨.nilCheck (.tmp 31), some 32, none⟩, ⟨.fieldAddr 154 (.tmp 32) 1, some 33, none⟩, ⟨.load 3 (.tmp 33), some 34, none⟩, ⟨.index 9 (.tmp 30) (.tmp 34), some 35, none⟩, ⟨.call { callee := .value (.func 81), args := { toList := [.const (.string ⟨⟨[48, 49, 50, 51, 52, 53, 54, 55, 56, 57, 97, 98, 99, 100, 101, 102]⟩⟩), .tmp 35] }, argTypes := ⟨[9, 5]⟩ }, some 36, none⟩, ⟨.assign (.tmp 36), some 6, none⟩]) (.seq (.seq (.ops [⟨.move (.tmp 6), some 37, none⟩, ⟨.binOp .lss 3 (.tmp 37) (.const (.int .i64 0)) 3, some 38, none⟩, ⟨.move (.tmp 38), some 39, none⟩, ⟨.move (.tmp 5), some 40, some (39, false)⟩, ⟨.binOp .eql 3 (.tmp 40) (.const (.int .i64 0)) 3, some 41, some (39, false)⟩, ⟨.move (.tmp 41), some 42, some (39, false)⟩, ⟨.move (.tmp 6), some 43, some (42, true)⟩, ⟨.call ⟨.value (.func 196), ⟨[.tmp 43]⟩, ⟨[3]⟩⟩, some 44, some (42, true)⟩, ⟨.unOp .not 4 (.tmp 44), some 45, some (42, true)⟩, ⟨.pick (.tmp 42) (.tmp 45) (.const (.bool false)), some 46, some (39, false)⟩, ⟨.pick (.tmp 39) (.const (.bool true)) (.tmp 46), some 47, none⟩, ⟨.move (.tmp 47), some 48, none⟩, ⟨.move (.tmp 5), some 49, some (48, false)⟩, ⟨.binOp .eql 3 (.tmp 49) (.const (.int .i64 1)) 3, some 50, some (48, false)⟩, ⟨.move (.tmp 50), some 51, some (48, false)⟩, ⟨.move (.tmp 4), some 52, some (51, true)⟩, ⟨.binOp .mul 3 (.const (.int .i64 16)) (.tmp 52) 3, some 53, some (51, true)⟩, ⟨.move (.tmp 6), some 54, some (51, true)⟩, ⟨.binOp .add 3 (.tmp 53) (.tmp 54) 3, some 55, some (51, true)⟩, ⟨.call ⟨.value (.func 197), ⟨[.tmp 55]⟩, ⟨[3]⟩⟩, some 56, some (51, true)⟩, ⟨.unOp .not 4 (.tmp 56), some 57, some (51, true)⟩, ⟨.pick (.tmp 51) (.tmp 57) (.const (.bool false)), some 58, some (48, false)⟩, ⟨.pick (.tmp 48) (.const (.bool true)) (.tmp 58), some 59, none⟩]) (.cond (.tmp 59) (.seq (.ops [⟨.assign (.const (.int .i64 0)), some 2, none⟩, ⟨.assign (.const (.bool false)), some 3, none⟩]) .ret) .skip)) (.seq (.ops [⟨.move (.tmp 4), some 60, none⟩, ⟨.binOp .mul 3 (.const (.int .i64 16)) (.tmp 60) 3, some 61, none⟩, ⟨.move (.tmp 6), some 62, none⟩, ⟨.binOp .add 3 (.tmp 61) (.tmp 62) 3, some 63, none⟩, ⟨.assign (.tmp 63), some 4, none⟩]) (.ops [⟨.move (.tmp 0), some 64, none⟩, ⟨.nilCheck (.tmp 64), some 65, none⟩, ⟨.fieldAddr 154 (.tmp 65) 1, some 66, none⟩, ⟨.load 3 (.tmp 66), some 67, none⟩, ⟨.binOp .add 3 (.tmp 67) (.const (.int .i64 1)) 3, some 68, none⟩, ⟨.nilCheck (.tmp 64), some 69, none⟩, ⟨.fieldAddr 154 (.tmp 69) 1, some 70, none⟩, ⟨.store 3 (.tmp 70) (.tmp 68), none, none⟩]))))))) (.ops [⟨.binOp .add 3 (.tmp 14) (.const (.int .i64 1)) 3, some 71, none⟩, ⟨.move (.tmp 71), some 14, none⟩]))))))) (.seq (.ops [⟨.move (.tmp 4), some 72, none⟩, ⟨.assign (.tmp 72), some 2, none⟩, ⟨.assign (.const (.bool true)), some 3, none⟩]) .ret))))
theorem l149 : Tryz.f149.body.map lighten = some L149 := by kernel_rfl
theorem gob149 : Gob 149 73 L149 [.tmp 2, .tmp 3] := fun hl h => ACall.goB tab_ok mixed Tryz.func149 l149 nm149 (by kernel_rfl) (by kernel_rfl) hl h
noncomputable def L197 : LCode := .seq (.ops [⟨.assign (.const (.bool false)), some 2, none⟩]) (.seq (.ops [⟨.move (.tmp 0), some 3, none⟩, ⟨.call ⟨.value (.func 89), ⟨[.tmp 3, .const (.int .i64 32), .const (.int .i64 126)]⟩, ⟨[3, 3, 3]⟩⟩, some 4, none⟩, ⟨.unOp .not 4 (.tmp 4), some 5, none⟩, ⟨.move (.tmp 5), some 6, none⟩, ⟨.move (.tmp 0), some 7, some (6, false)⟩, ⟨.binOp .eql 3 (.tmp 7) (.const (.int .i64 34)) 3, some 8, some (6, false)⟩, ⟨.pick (.tmp 6) (.const (.bool true)) (.tmp 8), some 9, none⟩, ⟨.move (.tmp 9), some 10, none⟩, ⟨.move (.tmp 0), some 11, some (10, false)⟩, ⟨.binOp .eql 3 (.tmp 11) (.const (.int .i64 92)) 3, some 12, some (10, false)⟩, ⟨.pick (.tmp 10) (.const (.bool true)) (.tmp 12), some 13, none⟩, ⟨.assign (.tmp 13), some 2, none⟩]) .ret)
theorem l197 : Tryz.f197.body.map lighten = some L197 := by kernel_rfl
theorem gob197 : Gob 197 14 L197 [.tmp 2] := fun hl h => ACall.goB tab_ok mixed Tryz.func197 l197 nm197 (by kernel_rfl) (by kernel_rfl) hl h
noncomputable def L196 : LCode := .seq (.ops [⟨.assign (.const (.bool false)), some 2, none⟩]) (.seq (.seq (.ops [⟨.move (.const (.int .i64 0)), some 4, none⟩]) (.block 0 (.loop (.seq (.ops [⟨.binOp .lss 3 (.tmp 4) (.const (.int .i64 16)) 3, some 5, none⟩]) (.seq (.cond (.tmp 5) .skip (.exit 0)) (.seq (.block 1 (.seq (.ops [⟨.move (.tmp 4), some 6, none⟩, ⟨.assign (.tmp 6), some 3, none⟩]) (.seq (.ops [⟨.move (.tmp 0), some 7, none⟩, ⟨.binOp .mul 3 (.const (.int .i64 16)) (.tmp 7) 3, some 8, none⟩, ⟨.move (.tmp 3), some 9, none⟩, ⟨.binOp .add 3 (.tmp 8) (.tmp 9) 3, some 10, none⟩, ⟨.call ⟨.value (.func 197), ⟨[.tmp 10]⟩, ⟨[3]⟩⟩, some 11, none⟩]) (.cond (.tmp 11) (.seq (.ops [⟨.assign (.const (.bool true)), some 2, none⟩]) .ret) .skip)))) (.ops [⟨.binOp .add 3 (.tmp 4) (.const (.int .i64 1)) 3, some 12, none⟩, ⟨.move (.tmp 12), some 4, none⟩]))))))) (.seq (.ops [⟨.assign (.const (.bool false)), some 2, none⟩]) .ret))
theorem l196 : Tryz.f196.body.map lighten = some L196 := by kernel_rfl
theorem gob196 : Gob 196 13 L196 [.tmp 2] := fun hl h => ACall.goB tab_ok mixed Tryz.func196 l196 nm196 (by kernel_rfl) (by kernel_rfl) hl h
noncomputable def L140 : LCode := .seq (.ops [⟨.assign (.const (.string ⟨⟨[]⟩⟩)), some 2, none⟩]) (.seq (.ops [⟨.move (.tmp 0), some 3, none⟩, ⟨.call ⟨.value (.func 90), ⟨[.tmp 3]⟩, ⟨[3]⟩⟩, some 4, none⟩, ⟨.assign (.tmp 4), some 2, none⟩]) .ret)
theorem l140 : Tryz.f140.body.map lighten = some L140 := by kernel_rfl
theorem gob140 : Gob 140 5 L140 [.tmp 2] := fun hl h => ACall.goB tab_ok mixed Tryz.func140 l140 nm140 (by kernel_rfl) (by kernel_rfl) hl h
noncomputable def L141 : LCode := .seq (.ops [⟨.assign (.const (.string ⟨⟨[]⟩⟩)), some 2, none⟩]) (.seq (.ops [⟨.alloc 120, some 3, none⟩]) (.seq (.ops [⟨.call ⟨.value (.func 78), ⟨[.tmp 3, .const (.int .u8 34)]⟩, ⟨[120, 5]⟩⟩, some 5, none⟩]) (.seq (.seq (.ops [⟨.move (.tmp 0), some 6, none⟩, ⟨.call ⟨.builtin .len, ⟨[.tmp 6]⟩, ⟨[9]⟩⟩, some 7, none⟩, ⟨.move (.const (.int .i64 0)), some 8, none⟩]) (.block 0 (.loop (.seq (.ops [⟨.binOp .lss 3 (.tmp 8) (.tmp 7) 3, some 9, none⟩]) (.seq (.cond (.tmp 9) .skip (.exit 0)) (.seq (.block 1 (.seq (.ops [⟨.move (.tmp 8), some 10, none⟩, ⟨.assign (.tmp 10), some 4, none⟩]) (.seq (.ops [⟨.move (.tmp 0), some 11, none⟩, ⟨.move (.tmp 4), some 12, none⟩, ⟨.index 9 (.tmp 11) (.tmp 12), some 13, none⟩, ⟨.call ⟨.value (.func 185), ⟨[.tmp 13]⟩, ⟨[5]⟩⟩, some 14, none⟩]) (.cond (.tmp 14) (.ops [⟨.move (.tmp 0), some 15, none⟩, ⟨.move (.tmp 4), some 16, none⟩, ⟨.index 9 (.tmp 15) (.tmp 16), some 17, none⟩, ⟨.call ⟨.value (.func 78), ⟨[.tmp 3, .tmp 17]⟩, ⟨[120, 5]⟩⟩, some 18, none⟩]) (.ops [⟨.move (.tmp 0), some 19, none⟩, ⟨.move (.tmp 4), some 20, none⟩, ⟨.index 9 (.tmp 19) (.tmp 20), some 21, none⟩, ⟨.call ⟨.value (.func 186), ⟨[.tmp 21]⟩, ⟨[5]⟩⟩, some 22, none⟩, ⟨.binOp .add 9 (.const (.string ⟨⟨[92]⟩⟩)) (.tmp 22) 9, some 23, none⟩, ⟨.call ⟨.value (.func 86), ⟨[.tmp 3, .tmp 23]⟩, ⟨[120, 9]⟩⟩, some 24, none⟩]))))) (.ops [⟨.binOp .add 3 (.tmp 8) (.const (.int .i64 1)) 3, some 25, none⟩, ⟨.move (.tmp 25), some 8, none⟩]))))))) (.seq (.ops [⟨.call ⟨.value (.func 78), ⟨[.tmp 3, .const (.int .u8 34)]⟩, ⟨[120, 5]⟩⟩, some 26, none⟩]) (.seq (.ops [⟨.call ⟨.value (.func 79), ⟨[.tmp 3]⟩, ⟨[120]⟩⟩, some 27, none⟩, ⟨.assign (.tmp 27), some 2, none⟩]) .ret)))))
theorem l141 : Tryz.f141.body.map lighten = some L141 := by kernel_rfl
theorem gob141 : Gob 141 28 L141 [.tmp 2] := fun hl h => ACall.goB tab_ok mixed Tryz.func141 l141 nm141 (by kernel_rfl) (by kernel_rfl) hl h
noncomputable def L186 : LCode := .seq (.ops [⟨.assign (.const (.string ⟨⟨[]⟩⟩)), some 2, none⟩]) (.seq (.draw [0, 1, 0, 4, 12, 31, 0, 64, 0, 256, 768, 1984, 4095, 8191] [⟨.move (.tmp 0), some 3, none⟩, ⟨.binOp .shr 5 (.tmp 3) (.const (.int .u64 4)) 270, some 4, none⟩, ⟨.move (.tmp 0), some 5, none⟩, ⟨.binOp .shr 5 (.tmp 5) (.const (.int .u64 4)) 270, some 6, none⟩, ⟨.binOp .add 5 (.tmp 6) (.const (.int .u8 1)) 5, some 7, none⟩, ⟨.slice 9 (.const (.string ⟨⟨[48, 49, 50, 51, 52, 53, 54, 55, 56, 57, 97, 98, 99, 100, 101, 102]⟩⟩)) (some (.tmp 4)) (some (.tmp 7)) none, some 8, none⟩, ⟨.move (.tmp 0), some 9, none⟩, ⟨.binOp .and 5 (.tmp 9) (.const (.int .u8 15)) 5, some 10, none⟩, ⟨.move (.tmp 0), some 11, none⟩, ⟨.binOp .and 5 (.tmp 11) (.const (.int .u8 15)) 5, some 12, none⟩, ⟨.binOp .add 5 (.tmp 12) (.const (.int .u8 1)) 5, some 13, none⟩, ⟨.slice 9 (.const (.string ⟨⟨[48, 49, 50, 51, 52, 53, 54, 55, 56, 57, 97, 98, 99, 100, 101, 102]⟩⟩)) (some (.tmp 10)) (some (.tmp 13)) none, some 14, none⟩, ⟨.binOp .add 9 (.tmp 8) (.tmp 14) 9, some 15, none⟩, ⟨.assign (.tmp 15), some 2, none⟩]) .ret)
theorem l186 : Tryz.f186.body.map lighten = some L186 := by kernel_rfl
theorem gob186 : Gob 186 16 L186 [.tmp 2] := fun hl h => ACall.goB tab_ok mixed Tryz.func186 l186 nm186 (by kernel_rfl) (by kernel_rfl) hl h
noncomputable def L185 : LCode := .seq (.ops [⟨.assign (.const (.bool false)), some 2, none⟩]) (.seq (.ops [⟨.move (.tmp 0), some 3, none⟩, ⟨.binOp .geq 5 (.tmp 3) (.const (.int .u8 32)) 5, some 4, none⟩, ⟨.move (.tmp 4), some 5, none⟩, ⟨.move (.tmp 0), some 6, some (5, true)⟩, ⟨.binOp .leq 5 (.tmp 6) (.const (.int .u8 126)) 5, some 7, some (5, true)⟩, ⟨.pick (.tmp 5) (.tmp 7) (.const (.bool false)), some 8, none⟩, ⟨.move (.tmp 8), some 9, none⟩, ⟨.move (.tmp 0), some 10, some (9, true)⟩, ⟨.binOp .neq 5 (.tmp 10) (.const (.int .u8 34)) 5, some 11, some (9, true)⟩, ⟨.pick (.tmp 9) (.tmp 11) (.const (.bool false)), some 12, none⟩, ⟨.move (.tmp 12), some 13, none⟩, ⟨.move (.tmp 0), some 14, some (13, true)⟩, ⟨.binOp .neq 5 (.tmp 14) (.const (.int .u8 92)) 5, some 15, some (13, true)⟩, ⟨.pick (.tmp 13) (.tmp 15) (.const (.bool false)), some 16, none⟩, ⟨.assign (.tmp 16), some 2, none⟩]) .ret)
theorem l185 : Tryz.f185.body.map lighten = some L185 := by kernel_rfl
theorem gob185 : Gob 185 17 L185 [.tmp 2] := fun hl h => ACall.goB tab_ok mixed Tryz.func185 l185 nm185 (by kernel_rfl) (by kernel_rfl) hl h
noncomputable def L143 : LCode := .seq (.ops [⟨.assign (.const (.int .i64 0)), some 4, none⟩, ⟨.assign (.const .nilIface), some 5, none⟩]) (.seq (.ops [⟨.move (.tmp 0), some 6, none⟩, ⟨.call ⟨.value (.func 137), ⟨[.tmp 6]⟩, ⟨[117]⟩⟩, some 7, none⟩]) (.seq (.ops [⟨.move (.tmp 0), some 8, none⟩, ⟨.move (.tmp 0), some 9, none⟩, ⟨.nilCheck (.tmp 9), some 10, none⟩, ⟨.fieldAddr 120 (.tmp 10) 1, some 11, none⟩, ⟨.load 118 (.tmp 11), some 12, none⟩, ⟨.move (.tmp 1), some 13, none⟩, ⟨.call ⟨.builtin .append, ⟨[.tmp 12, .tmp 13]⟩, ⟨[118, 118]⟩⟩, some 14, none⟩, ⟨.nilCheck (.tmp 8), some 15, none⟩, ⟨.fieldAddr 120 (.tmp 15) 1, some 16, none⟩, ⟨.store 118 (.tmp 16) (.tmp 14), none, none⟩]) (.seq (.ops [⟨.move (.tmp 1), some 17, none⟩, ⟨.call ⟨.builtin .len, ⟨[.tmp 17]⟩, ⟨[118]⟩⟩, some 18, none⟩, ⟨.assign (.tmp 18), some 4, none⟩, ⟨.assign (.const .nilIface), some 5, none⟩]) .ret)))
theorem l143 : Tryz.f143.body.map lighten = some L143 := by kernel_rfl
theorem gob143 : Gob 143 19 L143 [.tmp 4, .tmp 5] := fun hl h => ACall.goB tab_ok mixed Tryz.func143 l143 nm143 (by kernel_rfl) (by kernel_rfl) hl h
noncomputable def L88 : LCode := .seq (.ops [⟨.assign (.const (.int .i64 0)), some 2, none⟩]) (.seq (.ops [⟨.move (.tmp 0), some 3, none⟩, ⟨.nilCheck (.tmp 3), some 4, none⟩, ⟨.fieldAddr 120 (.tmp 4) 1, some 5, none⟩, ⟨.load 118 (.tmp 5), some 6, none⟩, ⟨.call ⟨.builtin .len, ⟨[.tmp 6]⟩, ⟨[118]⟩⟩, some 7, none⟩, ⟨.assign (.tmp 7), some 2, none⟩]) .ret)
theorem l88 : Tryz.f88.body.map lighten = some L88 := by kernel_rfl
theorem gob88 : Gob 88 8 L88 [.tmp 2] := fun hl h => ACall.goB tab_ok mixed Tryz.func88 l88 nm88 (by kernel_rfl) (by kernel_rfl) hl h
noncomputable def L144 : LCode := .seq (.ops [⟨.assign (.const (.int .i64 0)), some 4, none⟩, ⟨.assign (.const (.bool false)), some 5, none⟩]) (.seq (.ops [⟨.move (.tmp 0), some 11, none⟩, ⟨.call { callee := .value (.func 188), args := { toList := [.tmp 11, .const (.string ⟨⟨[45]⟩⟩)] }, argTypes := ⟨[9, 9]⟩ }, some 12, none⟩, ⟨.move (.tmp 12), some 10, none⟩, ⟨.extract (.tmp 10) 0, some 13, none⟩, ⟨.extract (.tmp 10) 1, some 14, none⟩, ⟨.assign (.tmp 13), some 6, none⟩, ⟨.assign (.tmp 14), some 7, none⟩]) (.seq (.seq (.ops [⟨.move (.tmp 6), some 15, none⟩, ⟨.binOp .eql 9 (.tmp 15) (.const (.string ⟨⟨[]⟩⟩)) 9, some 16, none⟩, ⟨.move (.tmp 16), some 17, none⟩, ⟨.move (.tmp 6), some 18, some (17, false)⟩, ⟨.call ⟨.builtin .len, ⟨[.tmp 18]⟩, ⟨[9]⟩⟩, some 19, some (17, false)⟩, ⟨.move (.tmp 1), some 20, some (17, false)⟩, ⟨.binOp .gtr 3 (.tmp 19) (.tmp 20) 3, some 21, some (17, false)⟩, ⟨.pick (.tmp 17) (.const (.bool true)) (.tmp 21), some 22, none⟩, ⟨.move (.tmp 22), some 23, none⟩, ⟨.move (.tmp 6), some 24, some (23, false)⟩, ⟨.index 9 (.tmp 24) (.const (.int .i64 0)), some 25, some (23, false)⟩, ⟨.binOp .eql 5 (.tmp 25) (.const (.int .u8 48)) 5, some 26, some (23, false)⟩, ⟨.move (.tmp 26), some 27, some (23, false)⟩, ⟨.move (.tmp 6), some 28, some (27, true)⟩, ⟨.call ⟨.builtin .len, ⟨[.tmp 28]⟩, ⟨[9]⟩⟩, some 29, some (27, true)⟩, ⟨.binOp .gtr 3 (.tmp 29) (.const (.int .i64 1)) 3, some 30, some (27, true)⟩, ⟨.move (.tmp 30), some 31, some (27, true)⟩, ⟨.move (.tmp 7), some 32, some (31, false)⟩, ⟨.pick (.tmp 31) (.const (.bool true)) (.tmp 32), some 33, some (27, true)⟩, ⟨.pick (.tmp 27) (.tmp 33) (.const (.bool false)), some 34, some (23, false)⟩, ⟨.pick (.tmp 23) (.const (.bool true)) (.tmp 34), some 35, none⟩]) (.cond (.tmp 35) (.seq (.ops [⟨.assign (.const (.int .i64 0)), some 4, none⟩, ⟨.assign (.const (.bool false)), some 5, none⟩]) .ret) .skip)) (.seq (.ops [⟨.assign (.const (.int .i64 0)), some 8, none⟩]) (.seq (.seq (.ops [⟨.move (.tmp 6), some 36, none⟩, ⟨.call ⟨.builtin .len, ⟨[.tmp 36]⟩, ⟨[9]⟩⟩, some 37, none⟩, ⟨.move (.const (.int .i64 0)), some 38, none⟩]) (.block 0 (.loop (.seq (.ops [⟨.binOp .lss 3 (.tmp 38) (.tmp 37) 3, some 39, none⟩]) (.seq (.cond (.tmp 39) .skip (.exit 0)) (.seq (.block 1 (.seq (.ops [⟨.move (.tmp 38), some 40, none⟩, ⟨.assign (.tmp 40), some 9, none⟩]) (.seq (.seq (.ops [⟨.move (.tmp 6), some 41, none⟩, ⟨.move (.tmp 9), some 42, none⟩, ⟨.index 9 (.tmp 41) (.tmp 42), some 43, none⟩, ⟨.call ⟨.value (.func 189), ⟨[.tmp 43]⟩, ⟨[5]⟩⟩, some 44, none⟩, ⟨.unOp .not 4 (.tmp 44), some 45, none⟩]) (.cond (.tmp 45) (.seq (.ops [⟨.assign (.const (.int .i64 0)), some 4, none⟩, ⟨.assign (.const (.bool false)), some 5, none⟩]) .ret) .skip)) (.ops [⟨.move (.tmp 8), some 46, none⟩, ⟨.binOp .mul 3 (.const (.int .i64 10)) (.tmp 46) 3, some 47, none⟩, ⟨.move (.tmp 6), some 48, none⟩, ⟨.move (.tmp 9), some 49, none⟩, ⟨.index 9 (.tmp 48) (.tmp 49), some 50, none⟩, ⟨.binOp .sub 5 (.tmp 50) (.const (.int .u8 48)) 5, some 51, none⟩, ⟨.convert 5 3 (.tmp 51), some 52, none⟩, ⟨.binOp .add 3 (.tmp 47) (.tmp 52) 3, some 53, none⟩, ⟨.assign (.tmp 53), some 8, none⟩])))) (.ops [⟨.binOp .add 3 (.tmp 38) (.const (.int .i64 1)) 3, some 54, none⟩, ⟨.move (.tmp 54), some 38, none⟩]))))))) (.seq (.seq (.ops [⟨.move (.tmp 7), some 55, none⟩]) (.cond (.tmp 55) (.ops [⟨.move (.tmp 8), some 56, none⟩, ⟨.unOp .neg 3 (.tmp 56), some 57, none⟩, ⟨.assign (.tmp 57), some 8, none⟩]) .skip)) (.seq (.ops [⟨.move (.tmp 8), some 58, none⟩, ⟨.assign (.tmp 58), some 4, none⟩, ⟨.assign (.const (.bool true)), some 5, none⟩]) .ret))))))
theorem l144 : Tryz.f144.body.map lighten = some L144 := by kernel_rfl
theorem gob144 : Gob 144 59 L144 [.tmp 4, .tmp 5] := fun hl h => ACall.goB tab_ok mixed Tryz.func144 l144 nm144 (by kernel_rfl) (by kernel_rfl) hl h
noncomputable def L145 : LCode := .seq (.ops [⟨.assign (.const (.string ⟨⟨[]⟩⟩)), some 2, none⟩]) (.seq (.ops [⟨.move (.tmp 0), some 5, none⟩, ⟨.call ⟨.value (.func 190), ⟨[.tmp 5, .const (.int .u8 34)]⟩, ⟨[219, 5]⟩⟩, some 6, none⟩]) (.seq (.ops [⟨.assign (.const (.slice none 0 0)), some 3, none⟩]) (.seq (.block 0 (.loop (.seq (.seq (.draw [0, 1, 3, 7, 15, 31, 63, 7, 135, 391, 903, 2047, 4095, 8191] [⟨.move (.tmp 0), some 7, none⟩, ⟨.call ⟨.value (.func 191), ⟨[.tmp 7]⟩, ⟨[219]⟩⟩, some 8, none⟩, ⟨.move (.tmp 8), some 9, none⟩, ⟨.move (.tmp 0), some 10, some (9, true)⟩, ⟨.nilCheck (.tmp 10), some 11, some (9, true)⟩, ⟨.fieldAddr 221 (.tmp 11) 0, some 12, some (9, true)⟩, ⟨.load 9 (.tmp 12), some 13, some (9, true)⟩, ⟨.move (.tmp 0), some 14, some (9, true)⟩, ⟨.nilCheck (.tmp 14), some 15, some (9, true)⟩, ⟨.fieldAddr 221 (.tmp 15) 1, some 16, some (9, true)⟩, ⟨.load 3 (.tmp 16), some 17, some (9, true)⟩, ⟨.index 9 (.tmp 13) (.tmp 17), some 18, some (9, true)⟩, ⟨.binOp .neq 5 (.tmp 18) (.const (.int .u8 34)) 5, some 19, some (9, true)⟩, ⟨.pick (.tmp 9) (.tmp 19) (.const (.bool false)), some 20, none⟩]) (.cond (.tmp 20) .skip (.exit 0))) (.block 1 (.seq (.draw [0, 1, 3, 7, 0, 16, 48, 112, 255, 511] [⟨.move (.tmp 0), some 21, none⟩, ⟨.nilCheck (.tmp 21), some 22, none⟩, ⟨.fieldAddr 221 (.tmp 22) 0, some 23, none⟩, ⟨.load 9 (.tmp 23), some 24, none⟩, ⟨.move (.tmp 0), some 25, none⟩, ⟨.nilCheck (.tmp 25), some 26, none⟩, ⟨.fieldAddr 221 (.tmp 26) 1, some 27, none⟩, ⟨.load 3 (.tmp 27), some 28, none⟩, ⟨.index 9 (.tmp 24) (.tmp 28), some 29, none⟩, ⟨.assign (.tmp 29), some 4, none⟩]) (.block 2 (.seq (.ops [⟨.move (.tmp 4), some 33, none⟩, ⟨.call ⟨.value (.func 185), ⟨[.tmp 33]⟩, ⟨[5]⟩⟩, some 34, none⟩, ⟨.assign (.tmp 34), some 32, none⟩]) (.cond (.tmp 32) (.seq (.ops [⟨.move (.tmp 3), some 35, none⟩, ⟨.move (.tmp 4), some 36, none⟩, ⟨.buildSlice 118 1 ⟨[(0, .tmp 36)]⟩, some 37, none⟩, ⟨.call ⟨.builtin .append, ⟨[.tmp 35, .tmp 37]⟩, ⟨[118, 118]⟩⟩, some 38, none⟩, ⟨.assign (.tmp 38), some 3, none⟩]) (.ops [⟨.move (.tmp 0), some 39, none⟩, ⟨.nilCheck (.tmp 39), some 40, none⟩, ⟨.fieldAddr 221 (.tmp 40) 1, some 41, none⟩, ⟨.load 3 (.tmp 41), some 42, none⟩, ⟨.binOp .add 3 (.tmp 42) (.const (.int .i64 1)) 3, some 43, none⟩, ⟨.nilCheck (.tmp 39), some 44, none⟩, ⟨.fieldAddr 221 (.tmp 44) 1, some 45, none⟩, ⟨.store 3 (.tmp 45) (.tmp 43), none, none⟩])) (.seq (.ops [⟨.move (.tmp 4), some 47, none⟩, ⟨.binOp .eql 5 (.tmp 47) (.const (.int .u8 92)) 5, some 48, none⟩, ⟨.assign (.tmp 48), some 46, none⟩]) (.cond (.tmp 46) (.seq (.ops [⟨.move (.tmp 0), some 49, none⟩, ⟨.nilCheck (.tmp 49), some 50, none⟩, ⟨.fieldAddr 221 (.tmp 50) 1, some 51, none⟩, ⟨.load 3 (.tmp 51), some 52, none⟩, ⟨.binOp .add 3 (.tmp 52) (.const (.int .i64 1)) 3, some 53, none⟩, ⟨.nilCheck (.tmp 49), some 54, none⟩, ⟨.fieldAddr 221 (.tmp 54) 1, some 55, none⟩, ⟨.store 3 (.tmp 55) (.tmp 53), none, none⟩]) (.ops [⟨.move (.tmp 3), some 56, none⟩, ⟨.move (.tmp 0), some 57, none⟩, ⟨.call ⟨.value (.func 192), ⟨[.tmp 57]⟩, ⟨[219]⟩⟩, some 58, none⟩, ⟨.buildSlice 118 1 ⟨[(0, .tmp 58)]⟩, some 59, none⟩, ⟨.call ⟨.builtin .append, ⟨[.tmp 56, .tmp 59]⟩, ⟨[118, 118]⟩⟩, some 60, none⟩, ⟨.assign (.tmp 60), some 3, none⟩])) (.ops [⟨.move (.tmp 0), some 30, none⟩, ⟨.call ⟨.value (.func 193), ⟨[.tmp 30]⟩, ⟨[219]⟩⟩, some 31, none⟩]))))))))))) (.seq (.ops [⟨.move (.tmp 0), some 61, none⟩, ⟨.call ⟨.value (.func 190), ⟨[.tmp 61, .const (.int .u8 34)]⟩, ⟨[219, 5]⟩⟩, some 62, none⟩]) (.seq (.ops [⟨.move (.tmp 3), some 63, none⟩, ⟨.convert 118 9 (.tmp 63), some 64, none⟩, ⟨.assign (.tmp 64), some 2, none⟩]) .ret)))))
theorem l145 : Tryz.f145.body.map lighten = some L145 := by kernel_rfl
theorem gob145 : Gob 145 65 L145 [.tmp 2] := fun hl h => ACall.goB tab_ok mixed Tryz.func145 l145 nm145 (by kernel_rfl) (by kernel_rfl) hl h
noncomputable def L191 : LCode := .seq (.ops [⟨.assign (.const (.bool false)), some 2, none⟩]) (.seq (.draw [0, 1, 3, 7, 15, 31, 63, 127, 255, 511, 63, 1087, 3135, 7231, 15423, 32767, 65535, 131071] [⟨.move (.tmp 0), some 3, none⟩, ⟨.nilCheck (.tmp 3), some 4, none⟩, ⟨.fieldAddr 221 (.tmp 4) 2, some 5, none⟩, ⟨.load 4 (.tmp 5), some 6, none⟩, ⟨.unOp .not 4 (.tmp 6), some 7, none⟩, ⟨.move (.tmp 7), some 8, none⟩, ⟨.move (.tmp 0), some 9, some (8, true)⟩, ⟨.nilCheck (.tmp 9), some 10, some (8, true)⟩, ⟨.fieldAddr 221 (.tmp 10) 1, some 11, some (8, true)⟩, ⟨.load 3 (.tmp 11), some 12, some (8, true)⟩, ⟨.move (.tmp 0), some 13, some (8, true)⟩, ⟨.nilCheck (.tmp 13), some 14, some (8, true)⟩, ⟨.fieldAddr 221 (.tmp 14) 0, some 15, some (8, true)⟩, ⟨.load 9 (.tmp 15), some 16, some (8, true)⟩, ⟨.call ⟨.builtin .len, ⟨[.tmp 16]⟩, ⟨[9]⟩⟩, some 17, some (8, true)⟩, ⟨.binOp .lss 3 (.tmp 12) (.tmp 17) 3, some 18, some (8, true)⟩, ⟨.pick (.tmp 8) (.tmp 18) (.const (.bool false)), some 19, none⟩, ⟨.assign (.tmp 19), some 2, none⟩]) .ret)
theorem l191 : Tryz.f191.body.map lighten = some L191 := by kernel_rfl
theorem gob191 : Gob 191 20 L191 [.tmp 2] := fun hl h => ACall.goB tab_ok mixed Tryz.func191 l191 nm191 (by kernel_rfl) (by kernel_rfl) hl h
noncomputable def L226 : LCode := .seq (.ops [⟨.assign (.const (.bool false)), some 4, none⟩]) (.seq (.draw [0, 1, 3, 7, 15, 31, 63, 7, 135, 391, 903, 2047, 7, 8191, 16383, 32767] [⟨.move (.tmp 0), some 5, none⟩, ⟨.call ⟨.value (.func 191), ⟨[.tmp 5]⟩, ⟨[219]⟩⟩, some 6, none⟩, ⟨.move (.tmp 6), some 7, none⟩, ⟨.move (.tmp 0), some 8, some (7, true)⟩, ⟨.nilCheck (.tmp 8), some 9, some (7, true)⟩, ⟨.fieldAddr 221 (.tmp 9) 0, some 10, some (7, true)⟩, ⟨.load 9 (.tmp 10), some 11, some (7, true)⟩, ⟨.move (.tmp 0), some 12, some (7, true)⟩, ⟨.nilCheck (.tmp 12), some 13, some (7, true)⟩, ⟨.fieldAddr 221 (.tmp 13) 1, some 14, some (7, true)⟩, ⟨.load 3 (.tmp 14), some 15, some (7, true)⟩, ⟨.index 9 (.tmp 11) (.tmp 15), some 16, some (7, true)⟩, ⟨.move (.tmp 1), some 17, some (7, true)⟩, ⟨.binOp .eql 5 (.tmp 16) (.tmp 17) 5, some 18, some (7, true)⟩, ⟨.pick (.tmp 7) (.tmp 18) (.const (.bool false)), some 19, none⟩, ⟨.assign (.tmp 19), some 4, none⟩]) .ret)
theorem l226 : Tryz.f226.body.map lighten = some L226 := by kernel_rfl
theorem gob226 : Gob 226 20 L226 [.tmp 4] := fun hl h => ACall.goB tab_ok mixed Tryz.func226 l226 nm226 (by kernel_rfl) (by kernel_rfl) hl h
noncomputable def L190 : LCode := .seq (.seq (.ops [⟨.move (.tmp 0), some 4, none⟩, ⟨.nilCheck (.tmp 4), some 5, none⟩, ⟨.fieldAddr 221 (.tmp 5) 2, some 6, none⟩, ⟨.load 4 (.tmp 6), some 7, none⟩]) (.cond (.tmp 7) .ret .skip)) (.seq (.seq (.ops [⟨.move (.tmp 0), some 8, none⟩, ⟨.move (.tmp 1), some 9, none⟩, ⟨.call ⟨.value (.func 226), ⟨[.tmp 8, .tmp 9]⟩, ⟨[219, 5]⟩⟩, some 10, none⟩, ⟨.unOp .not 4 (.tmp 10), some 11, none⟩]) (.cond (.tmp 11) (.seq (.ops [⟨.move (.tmp 0), some 12, none⟩, ⟨.call ⟨.value (.func 193), ⟨[.tmp 12]⟩, ⟨[219]⟩⟩, some 13, none⟩]) .ret) .skip)) (.ops [⟨.move (.tmp 0), some 14, none⟩, ⟨.nilCheck (.tmp 14), some 15, none⟩, ⟨.fieldAddr 221 (.tmp 15) 1, some 16, none⟩, ⟨.load 3 (.tmp 16), some 17, none⟩, ⟨.binOp .add 3 (.tmp 17) (.const (.int .i64 1)) 3, some 18, none⟩, ⟨.nilCheck (.tmp 14), some 19, none⟩, ⟨.fieldAddr 221 (.tmp 19) 1, some 20, none⟩, ⟨.store 3 (.tmp 20) (.tmp 18), none, none⟩]))
theorem l190 : Tryz.f190.body.map lighten = some L190 := by kernel_rfl
theorem gob190 : Gob 190 21 L190 [] := fun hl h => ACall.goB tab_ok mixed Tryz.func190 l190 nm190 (by kernel_rfl) (by kernel_rfl) hl h
noncomputable def L193 : LCode := .ops [⟨.move (.tmp 0), some 2, none⟩, ⟨.nilCheck (.tmp 2), some 3, none⟩, ⟨.fieldAddr 221 (.tmp 3) 2, some 4, none⟩, ⟨.store 4 (.tmp 4) (.const (.bool true)), none, none⟩]
theorem l193 : Tryz.f193.body.map lighten = some L193 := by kernel_rfl
theorem gob193 : Gob 193 5 L193 [] := fun hl h => ACall.goB tab_ok mixed Tryz.func193 l193 nm193 (by kernel_rfl) (by kernel_rfl) hl h
noncomputable def L192 : LCode := .seq (.ops [⟨.assign (.const (.int .u8 0)), some 2, none⟩]) (.seq (.ops [⟨.assign (.const (.int .i64 0)), some 3, none⟩]) (.seq (.seq (.ops [⟨.move (.const (.int .i64 0)), some 6, none⟩]) (.block 0 (.loop (.seq (.ops [⟨.binOp .lss 3 (.tmp 6) (.const (.int .i64 2)) 3, some 7, none⟩]) (.seq (.cond (.tmp 7) .skip (.exit 0)) (.seq (.block 1 (.seq (.ops [⟨.move (.tmp 6), some 8, none⟩, ⟨.assign (.tmp 8), some 4, none⟩]) (.seq (.ops [⟨.assign (.const (.int .i64 (-1))), some 5, none⟩]) (.seq (.seq (.ops [⟨.move (.tmp 0), some 9, none⟩, ⟨.call ⟨.value (.func 191), ⟨[.tmp 9]⟩, ⟨[219]⟩⟩, some 10, none⟩]) (.cond (.tmp 10) (.draw [0, 1, 3, 7, 0, 16, 48, 112, 255, 511, 1023] [⟨.move (.tmp 0), some 11, none⟩, ⟨.nilCheck (.tmp 11), some 12, none⟩, ⟨.fieldAddr 221 (.tmp 12) 0, some 13, none⟩, ⟨.load 9 (.tmp 13), some 14, none⟩, ⟨.move (.tmp 0), some 15, none⟩, ⟨.nilCheck (.tmp 15), some 16, none⟩, ⟨.fieldAddr 221 (.tmp 16) 1, some 17, none⟩, ⟨.load 3 (.tmp 17), some 18, none⟩, ⟨.index 9 (.tmp 14) (.tmp 18), some 19, none⟩, ⟨.call ⟨.value (.func 227), ⟨[.tmp 19]⟩, ⟨[5]⟩⟩, some 20, none⟩, ⟨.assign (.tmp 20), some 5, none⟩]) .skip)) (.seq (.seq (.ops [⟨.move (.tmp 5), some 21, none⟩, ⟨.binOp .lss 3 (.tmp 21) (.const (.int .i64 0)) 3, some 22, none⟩, ⟨.move (.tmp 22), some 23, none⟩, ⟨.move (.tmp 3), some 24, some (23, false)⟩, ⟨.move (.tmp 5), some 25, some (23, false)⟩, ⟨.move (.tmp 4), some 26, some (23, false)⟩, ⟨.call ⟨.value (.func 228), ⟨[.tmp 24, .tmp 25, .tmp 26]⟩, ⟨[3, 3, 3]⟩⟩, some 27, some (23, false)⟩, ⟨.unOp .not 4 (.tmp 27), some 28, some (23, false)⟩, ⟨.pick (.tmp 23) (.const (.bool true)) (.tmp 28), some 29, none⟩]) (.cond (.tmp 29) (.seq (.ops [⟨.move (.tmp 0), some 30, none⟩, ⟨.call ⟨.value (.func 193), ⟨[.tmp 30]⟩, ⟨[219]⟩⟩, some 31, none⟩]) (.seq (.ops [⟨.assign (.const (.int .u8 0)), some 2, none⟩]) .ret)) .skip)) (.seq (.ops [⟨.move (.tmp 3), some 32, none⟩, ⟨.binOp .mul 3 (.const (.int .i64 16)) (.tmp 32) 3, some 33, none⟩, ⟨.move (.tmp 5), some 34, none⟩, ⟨.binOp .add 3 (.tmp 33) (.tmp 34) 3, some 35, none⟩, ⟨.assign (.tmp 35), some 3, none⟩]) (.ops [⟨.move (.tmp 0), some 36, none⟩, ⟨.nilCheck (.tmp 36), some 37, none⟩, ⟨.fieldAddr 221 (.tmp 37) 1, some 38, none⟩, ⟨.load 3 (.tmp 38), some 39, none⟩, ⟨.binOp .add 3 (.tmp 39) (.const (.int .i64 1)) 3, some 40, none⟩, ⟨.nilCheck (.tmp 36), some 41, none⟩, ⟨.fieldAddr 221 (.tmp 41) 1, some 42, none⟩, ⟨.store 3 (.tmp 42) (.tmp 40), none, none⟩]))))))) (.ops [⟨.binOp .add 3 (.tmp 6) (.const (.int .i64 1)) 3, some 43, none⟩, ⟨.move (.tmp 43), some 6, none⟩]))))))) (.seq (.ops [⟨.move (.tmp 3), some 44, none⟩, ⟨.convert 3 5 (.tmp 44), some 45, none⟩, ⟨.assign (.tmp 45), some 2, none⟩]) .ret)))
theorem l192 : Tryz.f192.body.map lighten = some L192 := by kernel_rfl
theorem gob192 : Gob 192 46 L192 [.tmp 2] := fun hl h => ACall.goB tab_ok mixed Tryz.func192 l192 nm192 (by kernel_rfl) (by kernel_rfl) hl h
noncomputable def L228 : LCode := .seq (.ops [⟨.assign (.const (.bool false)), some 6, none⟩]) (.seq (.seq (.ops [⟨.move (.tmp 2), some 8, none⟩, ⟨.binOp .eql 3 (.tmp 8) (.const (.int .i64 1)) 3, some 9, none⟩]) (.cond (.tmp 9) (.seq (.ops [⟨.move (.tmp 0), some 10, none⟩, ⟨.binOp .mul 3 (.const (.int .i64 16)) (.tmp 10) 3, some 11, none⟩, ⟨.move (.tmp 1), some 12, none⟩, ⟨.binOp .add 3 (.tmp 11) (.tmp 12) 3, some 13, none⟩, ⟨.convert 3 5 (.tmp 13), some 14, none⟩, ⟨.call ⟨.value (.func 185), ⟨[.tmp 14]⟩, ⟨[5]⟩⟩, some 15, none⟩, ⟨.unOp .not 4 (.tmp 15), some 16, none⟩, ⟨.assign (.tmp 16), some 6, none⟩]) .ret) .skip)) (.seq (.seq (.ops [⟨.move (.const (.int .i64 0)), some 17, none⟩]) (.block 0 (.loop (.seq (.ops [⟨.binOp .lss 3 (.tmp 17) (.const (.int .i64 16)) 3, some 18, none⟩]) (.seq (.cond (.tmp 18) .skip (.exit 0)) (.seq (.block 1 (.seq (.ops [⟨.move (.tmp 17), some 19, none⟩, ⟨.assign (.tmp 19), some 7, none⟩]) (.seq (.ops [⟨.move (.tmp 1), some 20, none⟩, ⟨.binOp .mul 3 (.const (.int .i64 16)) (.tmp 20) 3, some 21, none⟩, ⟨.move (.tmp 7), some 22, none⟩, ⟨.binOp .add 3 (.tmp 21) (.tmp 22) 3, some 23, none⟩, ⟨.convert 3 5 (.tmp 23), some 24, none⟩, ⟨.call ⟨.value (.func 185), ⟨[.tmp 24]⟩, ⟨[5]⟩⟩, some 25, none⟩, ⟨.unOp .not 4 (.tmp 25), some 26, none⟩]) (.cond (.tmp 26) (.seq (.ops [⟨.assign (.const (.bool true)), some 6, none⟩]) .ret) .skip)))) (.ops [⟨.binOp .add 3 (.tmp 17) (.const (.int .i64 1)) 3, some 27, none⟩, ⟨.move (.tmp 27), some 17, none⟩]))))))) (.seq (.ops [⟨.assign (.const (.bool false)), some 6, none⟩]) .ret)))
theorem l228 : Tryz.f228.body.map lighten = some L228 := by kernel_rfl
theorem gob228 : Gob 228 28 L228 [.tmp 6] := fun hl h => ACall.goB tab_ok mixed Tryz.func228 l228 nm228 (by kernel_rfl) (by kernel_rfl) hl h
noncomputable def L227 : LCode := .seq (.ops [⟨.assign (.const (.int .i64 0)), some 2, none⟩]) (.seq (.ops [⟨.move (.tmp 0), some 3, none⟩, ⟨.call { callee := .value (.func 81), args := { toList := [.const (.string ⟨⟨[48, 49, 50, 51, 52, 53, 54, 55, 56, 57, 97, 98, 99, 100, 101, 102]⟩⟩), .tmp 3] }, argTypes := ⟨[9, 5]⟩ }, some 4, none⟩, ⟨.assign (.tmp 4), some 2, none⟩]) .ret)
theorem l227 : Tryz.f227.body.map lighten = some L227 := by kernel_rfl
theorem gob227 : Gob 227 5 L227 [.tmp 2] := fun hl h => ACall.goB tab_ok mixed Tryz.func227 l227 nm227 (by kernel_rfl) (by kernel_rfl) hl h
noncomputable def L189 : LCode := .seq (.ops [⟨.assign (.const (.bool false)), some 2, none⟩]) (.seq (.ops [⟨.move (.tmp 0), some 3, none⟩, ⟨.binOp .geq 5 (.tmp 3) (.const (.int .u8 48)) 5, some 4, none⟩, ⟨.move (.tmp 4), some 5, none⟩, ⟨.move (.tmp 0), some 6, some (5, true)⟩, ⟨.binOp .leq 5 (.tmp 6) (.const (.int .u8 57)) 5, some 7, some (5, true)⟩, ⟨.pick (.tmp 5) (.tmp 7) (.const (.bool false)), some 8, none⟩, ⟨.assign (.tmp 8), some 2, none⟩]) .ret)
theorem l189 : Tryz.f189.body.map lighten = some L189 := by kernel_rfl
theorem gob189 : Gob 189 9 L189 [.tmp 2] := fun hl h => ACall.goB tab_ok mixed Tryz.func189 l189 nm189 (by kernel_rfl) (by kernel_rfl) hl h
noncomputable def L147 : LCode := .seq (.ops [⟨.assign (.const (.string ⟨⟨[]⟩⟩)), some 4, none⟩]) (.seq (.ops [⟨.move (.tmp 0), some 5, none⟩, ⟨.move (.tmp 1), some 6, none⟩, ⟨.call ⟨.value (.func 195), ⟨[.tmp 5, .tmp 6]⟩, ⟨[9, 9]⟩⟩, some 7, none⟩, ⟨.assign (.tmp 7), some 4, none⟩]) .ret)
theorem l147 : Tryz.f147.body.map lighten = some L147 := by kernel_rfl
theorem gob147 : Gob 147 8 L147 [.tmp 4] := fun hl h => ACall.goB tab_ok mixed Tryz.func147 l147 nm147 (by kernel_rfl) (by kernel_rfl) hl h
noncomputable def L195 : LCode := .seq (.ops [⟨.assign (.const (.string ⟨⟨[]⟩⟩)), some 4, none⟩]) (.seq (.seq (.ops [⟨.move (.tmp 0), some 5, none⟩, ⟨.move (.tmp 1), some 6, none⟩, ⟨.call ⟨.value (.func 232), ⟨[.tmp 5, .tmp 6]⟩, ⟨[9, 9]⟩⟩, some 7, none⟩]) (.cond (.tmp 7) (.seq (.ops [⟨.move (.tmp 0), some 8, none⟩, ⟨.move (.tmp 1), some 9, none⟩, ⟨.call ⟨.builtin .len, ⟨[.tmp 9]⟩, ⟨[9]⟩⟩, some 10, none⟩, ⟨.slice 9 (.tmp 8) (some (.tmp 10)) none none, some 11, none⟩, ⟨.assign (.tmp 11), some 4, none⟩]) .ret) .skip)) (.seq (.ops [⟨.move (.tmp 0), some 12, none⟩, ⟨.assign (.tmp 12), some 4, none⟩]) .ret))
theorem l195 : Tryz.f195.body.map lighten = some L195 := by kernel_rfl
theorem gob195 : Gob 195 13 L195 [.tmp 4] := fun hl h => ACall.goB tab_ok mixed Tryz.func195 l195 nm195 (by kernel_rfl) (by kernel_rfl) hl h
noncomputable def L232 : LCode := .seq (.ops [⟨.assign (.const (.bool false)), some 4, none⟩]) (.seq (.ops [⟨.move (.tmp 0), some 5, none⟩, ⟨.call ⟨.builtin .len, ⟨[.tmp 5]⟩, ⟨[9]⟩⟩, some 6, none⟩, ⟨.move (.tmp 1), some 7, none⟩, ⟨.call ⟨.builtin .len, ⟨[.tmp 7]⟩, ⟨[9]⟩⟩, some 8, none⟩, ⟨.binOp .geq 3 (.tmp 6) (.tmp 8) 3, some 9, none⟩, ⟨.move (.tmp 9), some 10, none⟩, ⟨.move (.tmp 0), some 11, some (10, true)⟩, ⟨.move (.tmp 1), some 12, some (10, true)⟩, ⟨.call ⟨.builtin .len, ⟨[.tmp 12]⟩, ⟨[9]⟩⟩, some 13, some (10, true)⟩, ⟨.slice 9 (.tmp 11) none (some (.tmp 13)) none, some 14, some (10, true)⟩, ⟨.move (.tmp 1), some 15, some (10, true)⟩, ⟨.binOp .eql 9 (.tmp 14) (.tmp 15) 9, some 16, some (10, true)⟩, ⟨.pick (.tmp 10) (.tmp 16) (.const (.bool false)), some 17, none⟩, ⟨.assign (.tmp 17), some 4, none⟩]) .ret)
theorem l232 : Tryz.f232.body.map lighten = some L232 := by kernel_rfl
theorem gob232 : Gob 232 18 L232 [.tmp 4] := fun hl h => ACall.goB tab_ok mixed Tryz.func232 l232 nm232 (by kernel_rfl) (by kernel_rfl) hl h
noncomputable def L188 : LCode := .seq (.ops [⟨.assign (.const (.string ⟨⟨[]⟩⟩)), some 4, none⟩, ⟨.assign (.const (.bool false)), some 5, none⟩]) (.seq (.ops [⟨.move (.tmp 0), some 6, none⟩, ⟨.move (.tmp 1), some 7, none⟩, ⟨.call ⟨.value (.func 225), ⟨[.tmp 6, .tmp 7]⟩, ⟨[9, 9]⟩⟩, some 8, none⟩, ⟨.extract (.tmp 8) 0, some 9, none⟩, ⟨.extract (.tmp 8) 1, some 10, none⟩, ⟨.assign (.tmp 9), some 4, none⟩, ⟨.assign (.tmp 10), some 5, none⟩]) .ret)
theorem l188 : Tryz.f188.body.map lighten = some L188 := by kernel_rfl
theorem gob188 : Gob 188 11 L188 [.tmp 4, .tmp 5] := fun hl h => ACall.goB tab_ok mixed Tryz.func188 l188 nm188 (by kernel_rfl) (by kernel_rfl) hl h
noncomputable def L225 : LCode := .seq (.ops [⟨.assign (.const (.string ⟨⟨[]⟩⟩)), some 4, none⟩, ⟨.assign (.const (.bool false)), some 5, none⟩]) (.seq (.seq (.ops [⟨.move (.tmp 0), some 6, none⟩, ⟨.move (.tmp 1), some 7, none⟩, ⟨.call ⟨.value (.func 232), ⟨[.tmp 6, .tmp 7]⟩, ⟨[9, 9]⟩⟩, some 8, none⟩, ⟨.unOp .not 4 (.tmp 8), some 9, none⟩]) (.cond (.tmp 9) (.seq (.ops [⟨.move (.tmp 0), some 10, none⟩, ⟨.assign (.tmp 10), some 4, none⟩, ⟨.assign (.const (.bool false)), some 5, none⟩]) .ret) .skip)) (.seq (.ops [⟨.move (.tmp 0), some 11, none⟩, ⟨.move (.tmp 1), some 12, none⟩, ⟨.call ⟨.builtin .len, ⟨[.tmp 12]⟩, ⟨[9]⟩⟩, some 13, none⟩, ⟨.slice 9 (.tmp 11) (some (.tmp 13)) none none, some 14, none⟩, ⟨.assign (.tmp 14), some 4, none⟩, ⟨.assign (.const (.bool true)), some 5, none⟩]) .ret))
theorem l225 : Tryz.f225.body.map lighten = some L225 := by kernel_rfl
theorem gob225 : Gob 225 15 L225 [.tmp 4, .tmp 5] := fun hl h => ACall.goB tab_ok mixed Tryz.func225 l225 nm225 (by kernel_rfl) (by kernel_rfl) hl h
end Go.S1
end
section
namespace Go.S1N
open Go Go.Am Go.Proofs Go.S1
set_option maxRecDepth 100000
theorem ty130 : tab.ty 130 = some { td := .slice 22, size := 1, bytes := 24, zero := .slice none 0 0, eqok := false } := by kernel_rfl
@[go_sem] theorem len130r {z b o n : Nat} : alen tab 130 (.rs z b o n) = some (.int .i64 n) := by simp [alen, ty130]
theorem ix130r {b o m : Nat} {n : Int} (h0 : 0 ≤ n) (h1 : n < m) : aindexAddr tab 130 (.rs 1 b o m) (.int .i64 n) = some (.ptr b (o + n.toNat * 1)) := by
  simp [aindexAddr, ty130, Tab.size, ty22, h0, h1]
end Go.S1N
end
section
namespace Go.S1N
open Go Go.Am Go.Proofs Go.S1
set_option maxRecDepth 100000
theorem lput_same {l : List (Nat × Option AObj)} {k : Nat} {o : AObj} (h : lget l k = some o) (i : Nat) : lget l i = lget (lput l k o) i := by
  rw [lget_lput]
  split
  · rename_i e; rw [e, h]
  · rfl
theorem cc_loc {s : AHeap} {n k : Nat} {l : List (Nat × Option AObj)} {p y : AV} (hk : lget l k = some (.cells [p, y] (some 120))) (hp : p = .nilp ∨ p = .ptr (nm s.nx k) 0) :
    ACall Tryz.prog 137 [.ptr (nm s.nx k) 0] (loc s n l) fun v t => v = .tuple [] ∧ t = loc s n (lput l k (.cells [.ptr (nm s.nx k) 0, y] (some 120))) := by
  rcases hp with rfl | rfl
  · have : aCopyCheck 120 [.ptr (nm s.nx k) 0] (loc s n l) = some (.tuple [], loc s n (lput l k (.cells [.ptr (nm s.nx k) 0, y] (some 120)))) := by simp [aCopyCheck, get_loc_nm, hk, upd_loc_nm]
    exact (aCopyCheck_ok ccWalks this)
  · have : aCopyCheck 120 [.ptr (nm s.nx k) 0] (loc s n l) = some (.tuple [], loc s n l) := by simp [aCopyCheck, get_loc_nm, hk]
    refine (aCopyCheck_ok ccWalks this).mono ?_
    rintro v t ⟨rfl, rfl⟩
    exact ⟨rfl, loc_congr (lput_same hk)⟩
theorem bytes_pul (l : List UInt8) : PuL (S1.bytes l) := by
  unfold S1.bytes
  induction l with
  | nil => simp only [List.map_nil, PuL, lowL]
  | cons e l ih =>
    rw [List.map_cons, PuL, lowL]
    exact ⟨by simp only [low], ih⟩
theorem bytes_app (a b : List UInt8) : S1.bytes (a ++ b) = S1.bytes a ++ S1.bytes b := List.map_append
theorem bytes_len (a : List UInt8) : (S1.bytes a).length = a.length := List.length_map _
theorem bytes_in : ∀ l : List UInt8, abytesIn (S1.bytes l) = some l
  | [] => rfl
  | a :: l => by
    have h1 : (0 : Int) ≤ (a.toNat : Int) ∧ (a.toNat : Int) < 256 := ⟨by omega, by have := a.toNat_lt; omega⟩
    show abytesIn (.int .u8 a.toNat :: S1.bytes l) = _
    simp only [abytesIn, if_pos h1, bytes_in l, Option.map_some]
    simp
theorem gso_bytes {x : List UInt8} : gso 5 (S1.bytes x) = if x = [] then none else some (.cells (S1.bytes x) (some 5)) := by
  cases x with
  | nil => rfl
  | cons a x => rfl
theorem gso_bytes_ne {x : List UInt8} (h : x ≠ []) : gso 5 (S1.bytes x) = some (.cells (S1.bytes x) (some 5)) := by rw [gso_bytes, if_neg h]
theorem lexit_nw {s0 s : AHeap} {v : AV} {R : AV → AHeap → Prop} (h : R v s) : lexit s0 R (some v) s := Gh.now ⟨_, rfl, h⟩
theorem bytes_all (w : List UInt8) : (S1.bytes w).all AV.one = true := by simp [S1.bytes, AV.one]
theorem appBy {s : AHeap} {n j : Nat} {l : List (Nat × Option AObj)} {x w : List UInt8} {y : AV} {u : TypeId} (hy : acellsOf (loc s n l) 1 y = some (S1.bytes w, w.length)) (hu : lappend tab 118 u (gsv 1 (nm s.nx j) x.length) y (loc s n l) = aappend tab 5 (loc s n l) (gsv 1 (nm s.nx j) x.length) y)
    (hj : lget l j = gso 5 (S1.bytes x)) (hw : w ≠ []) (hb : 2 * (x.length + w.length) + 512 ≤ 281474976710656) :
    lappend tab 118 u (gsv 1 (nm s.nx j) x.length) y (loc s n l) = some (.rs 1 (nm s.nx n) 0 (x.length + w.length), loc s (n + 1) (lput (ldel l j) n (.cells (S1.bytes (x ++ w)) (some 5)))) := by
  rw [hu, bytes_app]
  exact aappend_gs ty5 (by decide) (by decide) (new := S1.bytes w) (m := w.length) hy (by simpa using hw) (bytes_all w) hj (by rw [bytes_len]; show _ = x.length * 1; omega) (by show (2 * (x.length + w.length) + 512) * 1 ≤ _; omega) rfl
theorem apBs {x : AV} {w : List UInt8} {s : AHeap} : lappend tab 118 9 x (.str w) s = aappend tab 5 s x (.str w) := by simp [lappend, ty118, ty9]
theorem apBb {x y : AV} {s : AHeap} : lappend tab 118 118 x y s = aappend tab 5 s x y := by simp [lappend, ty118]
theorem appBs {s : AHeap} {n j : Nat} {l : List (Nat × Option AObj)} {x w : List UInt8} (hj : lget l j = gso 5 (S1.bytes x)) (hw : w ≠ []) (hb : 2 * (x.length + w.length) + 512 ≤ 281474976710656) :
    lappend tab 118 9 (gsv 1 (nm s.nx j) x.length) (.str w) (loc s n l) = some (.rs 1 (nm s.nx n) 0 (x.length + w.length), loc s (n + 1) (lput (ldel l j) n (.cells (S1.bytes (x ++ w)) (some 5)))) :=
  appBy (by simp [acellsOf, S1.bytes]) apBs hj hw hb
theorem appBb {s : AHeap} {n j k : Nat} {l : List (Nat × Option AObj)} {x w : List UInt8} {mm : Nat} (hmm : s.nx = mm) (hk : lget l k = some (.cells (S1.bytes w) (some 5))) (hj : lget l j = gso 5 (S1.bytes x)) (hw : w ≠ []) (hb : 2 * (x.length + w.length) + 512 ≤ 281474976710656) :
    lappend tab 118 118 (gsv 1 (nm mm j) x.length) (.rs 1 (nm mm k) 0 w.length) (loc s n l) = some (.rs 1 (nm mm n) 0 (x.length + w.length), loc s (n + 1) (lput (ldel l j) n (.cells (S1.bytes (x ++ w)) (some 5)))) := by
  subst hmm
  exact appBy (acellsOf_rs hk (by rw [bytes_len]; omega) rfl) apBb hj hw hb
theorem bstr_loc {s : AHeap} {n k j : Nat} {l : List (Nat × Option AObj)} {p : AV} {x : List UInt8} (hk : lget l k = some (.cells [p, gsv 1 (nm s.nx j) x.length] (some 120))) (hj : lget l j = gso 5 (S1.bytes x)) (hb : x.length ≤ 4611686018427387904) :
    ACall Tryz.prog 79 [.ptr (nm s.nx k) 0] (loc s n l) fun v t => v = .str x ∧ t = loc s n (if x = [] then l else ldel l j) := by
  by_cases hx : x = []
  · subst hx
    have : aBString 5 [.ptr (nm s.nx k) 0] (loc s n l) = some (.str [], loc s n l) := by simp [aBString, get_loc_nm, hk, gsv_zero]
    exact aBString_ok (ρ := Tryz.lays169_ren) Tryz.lays169 Tryz.Builder_Extra_169 this
  · obtain ⟨m, hm⟩ : ∃ m, x.length = m + 1 := ⟨x.length - 1, by have := List.length_pos_iff.2 hx; omega⟩
    rw [gso_bytes, if_neg hx] at hj
    have : aBString 5 [.ptr (nm s.nx k) 0] (loc s n l) = some (.str x, loc s n (ldel l j)) := by
      have ht : List.take (m + 1) (S1.bytes x) = S1.bytes x := List.take_of_length_le (by rw [bytes_len, hm]; omega)
      have hlen : m + 1 ≤ (S1.bytes x).length := by rw [bytes_len, hm]; omega
      have hsm : m + 1 ≤ 9223372036854775807 := by omega
      have hg : gsv 1 (nm s.nx j) x.length = .rs 1 (nm s.nx j) 0 (m + 1) := by rw [hm]; exact gsv_pos (Nat.succ_ne_zero _)
      rw [hg] at hk
      simp only [aBString, get_loc_nm, hk, hj, ht, bytes_in, hlen, hsm, and_self, if_true, del_loc_nm]
    rw [if_neg hx]
    exact aBString_ok (ρ := Tryz.lays169_ren) Tryz.lays169 Tryz.Builder_Extra_169 this
end Go.S1N
namespace Go.S1N
open Go Go.Am Go.Proofs Go.S1
set_option maxRecDepth 100000
attribute [local go_sem] Nat.reduceLT Nat.reduceEqDiff Nat.reduceAdd Nat.reduceLeDiff reduceIte reduceCtorEq
attribute [local irreducible] lopsB lvb lstepB lfunG lcondB lguardB lguardU ldguardU ldrawB ldrunB ldstepB ldguardB lmem lval ldmem ldval ldfun lexit ldloadB ldlenB lpostB athen ablock
def bufN (s : AHeap) (n : Nat) (l : List (Nat × Option AObj)) (k j : Nat) (x w : List UInt8) : AHeap :=
  loc s (n + 1) (lput (lput (ldel l j) n (.cells (S1.bytes (x ++ w)) (some 5))) k (.cells [.ptr (nm s.nx k) 0, .rs 1 (nm s.nx n) 0 (x.length + w.length)] (some 120)))
theorem bws_loc {s : AHeap} {n k j : Nat} {l : List (Nat × Option AObj)} {p : AV} {x : List UInt8} (w : List UInt8) (hk : lget l k = some (.cells [p, gsv 1 (nm s.nx j) x.length] (some 120))) (hp : p = .nilp ∨ p = .ptr (nm s.nx k) 0)
    (hj : lget l j = gso 5 (S1.bytes x)) (hjk : j ≠ k) (hkn : k < n) (hn : ∀ i, n ≤ i → lget l i = none) (hw : w ≠ []) (hb : 2 * (x.length + w.length) + 512 ≤ 281474976710656) :
    ACall Tryz.prog 86 [.ptr (nm s.nx k) 0, .str w] (loc s n l) fun v t => v = .tuple [.int .i64 w.length, .nili] ∧ t = bufN s n l k j x w := by
  refine gob86 (by simp) ?_
  intro tm hlen harg
  rw [loc_flat hn]
  simp +contextual only [go_sem, L86, hlen, harg, cdD, cdN, gdT, gdF, gdD]
  refine lfunG_eq (cc_loc hk hp) ?_
  simp +contextual only [go_sem, hlen, harg, lget_lput, cdD, cdN, gdT, gdF, gdD]
  refine lmem_eq (appBs (by rw [lget_lput, if_neg hjk]; exact hj) hw hb) ?_
  have hkn' : (k = n) = False := by simp; omega
  have hkj : (k = j) = False := by simp; omega
  simp +contextual only [go_sem, hlen, harg, lget_lput, lget_ldel, hkn', hkj, cdD, cdN, gdT, gdF, gdD]
  refine lexit_nw ⟨rfl, ?_⟩
  refine loc_congr fun i => ?_
  simp only [lget_lput, lget_ldel]
  by_cases h1 : i = k
  · rw [if_pos h1, if_pos h1]
  · rw [if_neg h1, if_neg h1, if_neg h1]
def bufC (s : AHeap) (n : Nat) (l : List (Nat × Option AObj)) (k j : Nat) (x : List UInt8) (c : UInt8) : AHeap :=
  loc s (n + 2) (lput (lput (ldel (lput l n (.cells [.int .u8 c.toNat] (some 5))) j) (n + 1) (.cells (S1.bytes (x ++ [c])) (some 5))) k (.cells [.ptr (nm s.nx k) 0, .rs 1 (nm s.nx (n + 1)) 0 (x.length + 1)] (some 120)))
theorem bwb_loc {s : AHeap} {n k j : Nat} {l : List (Nat × Option AObj)} {p : AV} {x : List UInt8} (c : UInt8) (hk : lget l k = some (.cells [p, gsv 1 (nm s.nx j) x.length] (some 120))) (hp : p = .nilp ∨ p = .ptr (nm s.nx k) 0)
    (hj : lget l j = gso 5 (S1.bytes x)) (hjk : j ≠ k) (hkn : k < n) (hjn : j ≠ n) (hn : ∀ i, n ≤ i → lget l i = none) (hb : 2 * (x.length + 1) + 512 ≤ 281474976710656) :
    ACall Tryz.prog 78 [.ptr (nm s.nx k) 0, .int .u8 c.toNat] (loc s n l) fun v t => v = .nili ∧ t = bufC s n l k j x c := by
  refine gob78 (by simp) ?_
  intro tm hlen harg
  rw [loc_flat hn]
  simp +contextual only [go_sem, L78, hlen, harg, cdD, cdN, gdT, gdF, gdD]
  refine lfunG_eq (cc_loc hk hp) ?_
  simp +contextual only [go_sem, hlen, harg, lget_lput, cdD, cdN, gdT, gdF, gdD]
  have hjk' : (j = k) = False := by simp; omega
  have hkn' : (k = n) = False := by simp; omega
  have hkj : (k = j) = False := by simp; omega
  have hjn' : (j = n) = False := by simp; omega
  have hkn1 : (k = n + 1) = False := by simp; omega
  refine lmem_eq (appBb (w := [c]) (s := s) rfl (by rw [lget_lput, if_pos rfl]; rfl) (by rw [lget_lput, if_neg (by omega), lget_lput, if_neg hjk]; exact hj) (by simp) (by simpa using hb)) ?_
  simp +contextual only [go_sem, hlen, harg, lget_lput, lget_ldel, hkn', hkj, hkn1, cdD, cdN, gdT, gdF, gdD]
  refine lexit_nw ⟨rfl, ?_⟩
  refine loc_congr fun i => ?_
  simp only [lget_lput, lget_ldel]
  by_cases h1 : i = k
  · rw [if_pos h1, if_pos h1]
  · rw [if_neg h1, if_neg h1]
    by_cases h2 : i = n + 1
    · rw [if_pos h2, if_neg h1]
    · rw [if_neg h2, if_neg h1]
end Go.S1N
end
section
namespace Go.S1N
open Go Go.Am Go.Proofs Go.S1
set_option maxRecDepth 100000
attribute [local go_sem] Nat.reduceLT Nat.reduceEqDiff Nat.reduceAdd Nat.reduceLeDiff reduceIte reduceCtorEq
attribute [local irreducible] lopsB lvb lstepB lfunG lcondB lguardB lguardU ldguardU ldrawB ldrunB ldstepB ldguardB lmem lval ldmem ldval ldfun lexit ldloadB ldlenB lpostB athen ablock
theorem u8_rnd (c : UInt8) : ((c.toNat : Int)).toNat.toUInt8 = c := by
  rw [Int.toNat_natCast]; exact UInt8.ofNat_toNat
theorem idxS2_ok (l : List UInt8) (c : UInt8) (s : AHeap) : ACall Tryz.prog 138 [.str l, .int .u8 c.toNat] s fun v t => v = .int .i64 (Lib.indexByte l c) ∧ t = s := by
  refine gob138 (by simp) ?_
  intro tm hlen harg
  simp +contextual only [go_sem, L138, hlen, harg, cdD, cdN, gdT, gdF, gdD]
  refine lfunG_eq (x_ib (args := [.str l, .int .u8 c.toNat]) (s := loc s 0 []) (s' := loc s 0 []) (v := .int .i64 (Lib.indexByte l c)) (by simp only [aIndexByte, u8_rnd])) ?_
  simp +contextual only [go_sem, hlen, harg, cdD, cdN, gdT, gdF, gdD]
  exact lexit_pure (.refl s) (by simp only [low]) ⟨rfl, rfl⟩
theorem idxL_ok (l : List UInt8) (c : UInt8) (s : AHeap) : ACall Tryz.prog 81 [.str l, .int .u8 c.toNat] s fun v t => v = .int .i64 (Lib.indexByte l c) ∧ t = s := by
  refine gob81 (by simp) ?_
  intro tm hlen harg
  simp +contextual only [go_sem, L81, hlen, harg, cdD, cdN, gdT, gdF, gdD]
  refine lfunG_eq (idxS2_ok l c _) ?_
  simp +contextual only [go_sem, hlen, harg, cdD, cdN, gdT, gdF, gdD]
  exact lexit_pure (.refl s) (by simp only [low]) ⟨rfl, rfl⟩
theorem sl_lo {x : List UInt8} {k : Nat} (h : k ≤ x.length) : aslice tab 9 (.str x) (some (.int .i64 ((k : Nat) : Int))) none none = some (.str (x.drop k)) := by
  have e : (x.drop k).take (x.length - k) = x.drop k := List.take_of_length_le (by simp)
  simp [aslice, ty9, abounds, aidx, h, e]
theorem sl_hi {x : List UInt8} {k : Nat} (h : k ≤ x.length) : aslice tab 9 (.str x) none (some (.int .i64 ((k : Nat) : Int))) none = some (.str (x.take k)) := by
  simp [aslice, ty9, abounds, aidx, h]
theorem sl_mid {x : List UInt8} {k n : Nat} (h : k + n ≤ x.length) : aslice tab 9 (.str x) (some (.int .i64 ((k : Nat) : Int))) (some (.int .i64 ((k + n : Nat) : Int))) none = some (.str ((x.drop k).take n)) := by
  have h1 : (0 : Int) ≤ ((k + n : Nat) : Int) ∧ ((k + n : Nat) : Int) ≤ (x.length : Int) := by omega
  have h2 : (0 : Int) ≤ ((k : Nat) : Int) ∧ ((k : Nat) : Int) ≤ ((k + n : Nat) : Int) := by omega
  simp only [aslice, ty9, Option.isSome_none, Bool.false_eq_true, if_false, abounds, aidx, Option.getD_none]
  rw [if_pos h1]
  simp only [Option.getD_some, Bool.false_and, Bool.false_eq_true, if_false, Int.toNat_natCast]
  rw [if_pos h2]
  simp only [Option.getD_some]
  rw [show k + n - k = n from by omega]
theorem str_at {l : List UInt8} {i : Nat} (h : i < l.length) : aindex tab 9 (.str l) (.int .i64 i) = some (.int .u8 (l[i].toNat : Int)) := by
  simp [aindex, ty9, List.getElem?_eq_getElem h]
theorem str_at0 {l : List UInt8} (h : 0 < l.length) : aindex tab 9 (.str l) (.int .i64 0) = some (.int .u8 (l.getD 0 0).toNat) := by
  have := str_at (l := l) (i := 0) h
  rw [show ((0 : Nat) : Int) = 0 from rfl] at this
  rw [this, List.getD_eq_getElem?_getD, List.getElem?_eq_getElem h]; rfl
theorem u8_eq {a b : UInt8} : ((a.toNat : Int) = (b.toNat : Int)) = (a = b) := propext ⟨fun h => UInt8.toNat_inj.1 (by omega), fun h => by rw [h]⟩
theorem idxB_cut (c : UInt8) : ∀ l : List UInt8, (Lib.indexByte l c = -1 ∧ cutB c l = (l, [], false)) ∨ ∃ n : Nat, n < l.length ∧ Lib.indexByte l c = n ∧ cutB c l = (l.take n, l.drop (n + 1), true)
  | [] => .inl ⟨rfl, rfl⟩
  | b :: l => by
    by_cases e : c = b
    · subst e
      refine .inr ⟨0, by simp, ?_, ?_⟩
      · simp [Lib.indexByte]
      · simp [cutB]
    · have e2 : (b == c) = false := by simpa using Ne.symm e
      rcases idxB_cut c l with ⟨h1, h2⟩ | ⟨n, h0, h1, h2⟩
      · refine .inl ⟨?_, ?_⟩
        · simp [Lib.indexByte, e2, h1]
        · rw [cutB, if_neg e, h2]
      · refine .inr ⟨n + 1, by simpa using h0, ?_, ?_⟩
        · rw [Lib.indexByte, e2]
          have h : ((n : Int) == -1) = false := by rw [beq_eq_false_iff_ne]; omega
          simp [h1, h]
        · rw [cutB, if_neg e, h2]
          rfl
theorem n10 : (((1 : Nat) : Int) = 0) = False := by simp
theorem n11 : (((1 : Nat) : Int) = 1) = True := by simp
theorem index_ok (l : List UInt8) (c : UInt8) (s : AHeap) : ACall Tryz.prog 194 [.str l, .str [c]] s fun v t => v = .int .i64 (Lib.indexByte l c) ∧ t = s := by
  refine gob194 (by simp) ?_
  intro tm hlen harg
  have x0 : aindex tab 9 (.str [c]) (.int .i64 0) = some (.int .u8 c.toNat) := str_at (l := [c]) (i := 0) (by simp)
  by_cases h : [c] = l
  · subst h
    simp +contextual only [go_sem, L194, hlen, harg, n10, n11, false_implies, cdD, cdN, gdT, gdF, gdD]
    exact lexit_pure (.refl s) (by simp only [low]) ⟨by simp [Lib.indexByte], rfl⟩
  · simp +contextual only [go_sem, L194, hlen, harg, n10, n11, h, x0, false_implies, cdD, cdN, gdT, gdF, gdD]
    refine lfunG_eq (idxS2_ok l c _) ?_
    simp +contextual only [go_sem, hlen, harg, cdD, cdN, gdT, gdF, gdD]
    exact lexit_pure (.refl s) (by simp only [low]) ⟨rfl, rfl⟩
def cutV (c : UInt8) (l : List UInt8) : AV := .tuple [.str (cutB c l).1, .str (cutB c l).2.1, .bool (cutB c l).2.2]
theorem cut2_ok (l : List UInt8) (c : UInt8) (hl : l.length ≤ 1000000000) (s : AHeap) : ACall Tryz.prog 146 [.str l, .str [c]] s fun v t => v = cutV c l ∧ t = s := by
  refine gob146 (by simp) ?_
  intro tm hlen harg
  simp +contextual only [go_sem, L146, hlen, harg, cdD, cdN, gdT, gdF, gdD]
  refine lfunG_eq (index_ok l c _) ?_
  unfold cutV
  rcases idxB_cut c l with ⟨h1, h2⟩ | ⟨n, h0, h1, h2⟩
  · rw [h1, h2]
    have hn : ¬ (0 : Int) ≤ -1 := by decide
    simp +contextual only [go_sem, hlen, harg, hn, cdD, cdN, gdT, gdF, gdD]
    exact lexit_pure (.refl s) (by simp only [low, lowL, and_self]) ⟨rfl, rfl⟩
  · rw [h1, h2]
    have hn : (0 : Int) ≤ (n : Int) := by omega
    have hw : IntKind.i64.wrap ((n : Int) + ((1 : Nat) : Int)) = ((n + 1 : Nat) : Int) := by rw [wrap_id (by omega)]; omega
    simp +contextual only [go_sem, hlen, harg, hn, cdD, cdN, gdT, gdF, gdD]
    refine ldrawB_go [] [] 10 (by decide) ?_
    simp +contextual only [go_sem, hlen, harg, hw, sl_hi (show n ≤ l.length by omega), sl_lo (show n + 1 ≤ l.length by omega), cdD, cdN, gdT, gdF, gdD]
    refine ⟨by kernel_rfl, ?_⟩
    exact lexit_pure (.refl s) (by simp only [low, lowL, and_self]) ⟨rfl, rfl⟩
theorem cut_ok (l : List UInt8) (c : UInt8) (hl : l.length ≤ 1000000000) (s : AHeap) : ACall Tryz.prog 94 [.str l, .str [c]] s fun v t => v = cutV c l ∧ t = s := by
  refine gob94 (by simp) ?_
  intro tm hlen harg
  simp +contextual only [go_sem, L94, hlen, harg, cdD, cdN, gdT, gdF, gdD]
  refine lfunG_eq (cut2_ok l c hl _) ?_
  unfold cutV
  simp +contextual only [go_sem, hlen, harg, cdD, cdN, gdT, gdF, gdD]
  exact lexit_pure (.refl s) (by simp only [low, lowL, and_self]) ⟨rfl, rfl⟩
theorem line_ok (l : List UInt8) (hl : l.length ≤ 1000000000) (s : AHeap) : ACall Tryz.prog 92 [.str l] s fun v t => v = cutV 10 l ∧ t = s := by
  refine gob92 (by simp) ?_
  intro tm hlen harg
  simp +contextual only [go_sem, L92, hlen, harg, cdD, cdN, gdT, gdF, gdD]
  refine lfunG_eq (cut_ok l 10 hl _) ?_
  unfold cutV
  simp +contextual only [go_sem, hlen, harg, cdD, cdN, gdT, gdF, gdD]
  exact lexit_pure (.refl s) (by simp only [low, lowL, and_self]) ⟨rfl, rfl⟩
theorem hasMinus_ok (l : List UInt8) (s : AHeap) : ACall Tryz.prog 232 [.str l, .str [45]] s fun v t => v = .bool (minusB l) ∧ t = s := by
  refine gob232 (by simp) ?_
  intro tm hlen harg
  by_cases h : 1 ≤ l.length
  · have h' : ((1 : Nat) : Int) ≤ (l.length : Int) := by omega
    simp +contextual only [go_sem, L232, hlen, harg, h', sl_hi h, cdD, cdN, gdT, gdF, gdD]
    exact lexit_pure (.refl s) (by simp only [low]) ⟨rfl, rfl⟩
  · have h' : ¬ ((1 : Nat) : Int) ≤ (l.length : Int) := by omega
    have hl : l = [] := List.eq_nil_of_length_eq_zero (by omega)
    simp +contextual only [go_sem, L232, hlen, harg, h', cdD, cdN, gdT, gdF, gdD]
    subst hl
    exact lexit_pure (.refl s) (by simp only [low]) ⟨rfl, rfl⟩
theorem unMinus_ok2 (l : List UInt8) (s : AHeap) : ACall Tryz.prog 195 [.str l, .str [45]] s fun v t => v = .str (unMinus l) ∧ t = s := by
  refine gob195 (by simp) ?_
  intro tm hlen harg
  simp +contextual only [go_sem, L195, hlen, harg, cdD, cdN, gdT, gdF, gdD]
  refine lfunG_eq (hasMinus_ok l _) ?_
  unfold unMinus
  cases h : minusB l with
  | true =>
    have h1 : 1 ≤ l.length := by
      cases l with
      | nil => simp [minusB] at h
      | cons a l => simp
    simp +contextual only [go_sem, hlen, harg, sl_lo h1, cdD, cdN, gdT, gdF, gdD]
    exact lexit_pure (.refl s) (by simp only [low]) ⟨rfl, rfl⟩
  | false =>
    simp +contextual only [go_sem, hlen, harg, cdD, cdN, gdT, gdF, gdD]
    exact lexit_pure (.refl s) (by simp only [low]) ⟨rfl, rfl⟩
theorem unMinus_ok (l : List UInt8) (s : AHeap) : ACall Tryz.prog 147 [.str l, .str [45]] s fun v t => v = .str (unMinus l) ∧ t = s := by
  refine gob147 (by simp) ?_
  intro tm hlen harg
  simp +contextual only [go_sem, L147, hlen, harg, cdD, cdN, gdT, gdF, gdD]
  refine lfunG_eq (unMinus_ok2 l _) ?_
  simp +contextual only [go_sem, hlen, harg, cdD, cdN, gdT, gdF, gdD]
  exact lexit_pure (.refl s) (by simp only [low]) ⟨rfl, rfl⟩
theorem cutMinus_ok2 (l : List UInt8) (s : AHeap) : ACall Tryz.prog 225 [.str l, .str [45]] s fun v t => v = .tuple [.str (unMinus l), .bool (minusB l)] ∧ t = s := by
  refine gob225 (by simp) ?_
  intro tm hlen harg
  simp +contextual only [go_sem, L225, hlen, harg, cdD, cdN, gdT, gdF, gdD]
  refine lfunG_eq (hasMinus_ok l _) ?_
  unfold unMinus
  cases h : minusB l with
  | true =>
    have h1 : 1 ≤ l.length := by
      cases l with
      | nil => simp [minusB] at h
      | cons a l => simp
    simp +contextual only [go_sem, hlen, harg, sl_lo h1, cdD, cdN, gdT, gdF, gdD]
    exact lexit_pure (.refl s) (by simp only [low, lowL, and_self]) ⟨rfl, rfl⟩
  | false =>
    simp +contextual only [go_sem, hlen, harg, cdD, cdN, gdT, gdF, gdD]
    exact lexit_pure (.refl s) (by simp only [low, lowL, and_self]) ⟨rfl, rfl⟩
theorem cutMinus_ok (l : List UInt8) (s : AHeap) : ACall Tryz.prog 188 [.str l, .str [45]] s fun v t => v = .tuple [.str (unMinus l), .bool (minusB l)] ∧ t = s := by
  refine gob188 (by simp) ?_
  intro tm hlen harg
  simp +contextual only [go_sem, L188, hlen, harg, cdD, cdN, gdT, gdF, gdD]
  refine lfunG_eq (cutMinus_ok2 l _) ?_
  simp +contextual only [go_sem, hlen, harg, cdD, cdN, gdT, gdF, gdD]
  exact lexit_pure (.refl s) (by simp only [low, lowL, and_self]) ⟨rfl, rfl⟩
theorem plain_ok (c : UInt8) (s : AHeap) : ACall Tryz.prog 185 [.int .u8 c.toNat] s fun v t => v = .bool (plainC c) ∧ t = s := by
  refine gob185 (by simp) ?_
  intro tm hlen harg
  have out : ∀ b, plainC c = b → lexit s (fun v t => v = .bool (plainC c) ∧ t = s) (some (.bool b)) (loc s 0 []) := fun b hb => lexit_pure (.refl s) (by simp only [low]) ⟨by rw [hb], rfl⟩
  have key : plainC c = (decide (32 ≤ c.toNat) && decide (c.toNat ≤ 126) && decide (c.toNat ≠ 34) && decide (c.toNat ≠ 92)) := rfl
  simp +contextual only [go_sem, L185, hlen, harg, cdD, cdN, gdT, gdF, gdD]
  refine ⟨fun h1 => ⟨fun h2 => ⟨fun h3 => out _ ?_, fun h3 => out _ ?_⟩, fun h2 => out _ ?_⟩, fun h1 => out _ ?_⟩
  · rw [key]
    have e1 : 32 ≤ c.toNat := by omega
    have e2 : c.toNat ≤ 126 := by omega
    have e3 : c.toNat ≠ 34 := by omega
    have e4 : (¬ (c.toNat : Int) = 92) = (c.toNat ≠ 92) := propext ⟨fun h h' => h (by omega), fun h h' => h (by omega)⟩
    simp only [e1, e2, e3, e4, decide_true, Bool.true_and, ne_eq, not_false_eq_true]
  · rw [key]; have e3 : c.toNat = 34 := by omega
    simp [e3]
  · rw [key]; have e3 : ¬ c.toNat ≤ 126 := by omega
    simp [e3]
  · rw [key]; have e3 : ¬ 32 ≤ c.toNat := by omega
    simp [e3]
end Go.S1N
end
section
namespace Go.S1N
open Go Go.Am Go.Proofs Go.S1
set_option maxRecDepth 100000
theorem all_bytes {p : UInt8 → Bool} (h : (List.range 256).all (fun n => p (UInt8.ofNat n)) = true) (c : UInt8) : p c = true := by
  rw [List.all_eq_true] at h
  have := h c.toNat (List.mem_range.2 c.toNat_lt)
  simpa using this
theorem digC_ix (c : UInt8) : (0 ≤ Lib.indexByte [48, 49, 50, 51, 52, 53, 54, 55, 56, 57] c) = (digC c = true) ∧ (digC c = true → Lib.indexByte [48, 49, 50, 51, 52, 53, 54, 55, 56, 57] c = ((c.toNat - 48 : Nat) : Int)) := by
  have h1 := all_bytes (p := fun c => decide (0 ≤ Lib.indexByte [48, 49, 50, 51, 52, 53, 54, 55, 56, 57] c) == digC c) (by decide +kernel) c
  have h2 := all_bytes (p := fun c => !digC c || decide (Lib.indexByte [48, 49, 50, 51, 52, 53, 54, 55, 56, 57] c = ((c.toNat - 48 : Nat) : Int))) (by decide +kernel) c
  refine ⟨?_, fun h => ?_⟩
  · have : decide (0 ≤ Lib.indexByte [48, 49, 50, 51, 52, 53, 54, 55, 56, 57] c) = digC c := by simpa using h1
    rw [← this]; simp
  · rw [h] at h2; simpa using h2
theorem hexV_lt (c : UInt8) : -1 ≤ hexV c ∧ hexV c < 16 := by
  have h1 := all_bytes (p := fun c => decide (-1 ≤ hexV c ∧ hexV c < 16)) (by decide +kernel) c
  simpa using h1
def abinN (v : Option AV) (n : Nat) : Bool := match v with
  | some (.int .u8 m) => decide (m = (n : Int))
  | _ => false
theorem abinN_ok {v : Option AV} {n : Nat} (h : abinN v n = true) : v = some (.int .u8 n) := by
  unfold abinN at h
  split at h
  · simp only [decide_eq_true_eq] at h; rw [h]
  · cases h
theorem hx1 (c : UInt8) : abin tab .shr 5 (.int .u8 c.toNat) (.int .u64 4) = some (.int .u8 ((c.toNat / 16 : Nat) : Int)) :=
  abinN_ok (all_bytes (p := fun c => abinN (abin tab .shr 5 (.int .u8 c.toNat) (.int .u64 4)) (c.toNat / 16)) (by decide +kernel) c)
theorem hx2 (c : UInt8) : abin tab .and 5 (.int .u8 c.toNat) (.int .u8 15) = some (.int .u8 ((c.toNat % 16 : Nat) : Int)) :=
  abinN_ok (all_bytes (p := fun c => abinN (abin tab .and 5 (.int .u8 c.toNat) (.int .u8 15)) (c.toNat % 16)) (by decide +kernel) c)
theorem hx3 (c : UInt8) : abin tab .quo 5 (.int .u8 c.toNat) (.int .u8 16) = some (.int .u8 ((c.toNat / 16 : Nat) : Int)) :=
  abinN_ok (all_bytes (p := fun c => abinN (abin tab .quo 5 (.int .u8 c.toNat) (.int .u8 16)) (c.toNat / 16)) (by decide +kernel) c)
theorem hx4 (c : UInt8) : abin tab .rem 5 (.int .u8 c.toNat) (.int .u8 16) = some (.int .u8 ((c.toNat % 16 : Nat) : Int)) :=
  abinN_ok (all_bytes (p := fun c => abinN (abin tab .rem 5 (.int .u8 c.toNat) (.int .u8 16)) (c.toNat % 16)) (by decide +kernel) c)
theorem hexS {n : Nat} (h : n < 16) : aslice tab 9 (.str [48, 49, 50, 51, 52, 53, 54, 55, 56, 57, 97, 98, 99, 100, 101, 102]) (some (.int .u8 (n : Int))) (some (.int .u8 (IntKind.u8.wrap ((n : Int) + 1)))) none = some (.str [hexD n]) := by
  have e : IntKind.u8.wrap ((n : Int) + 1) = ((n + 1 : Nat) : Int) := by
    have : ∀ m : Fin 16, IntKind.u8.wrap ((m.val : Int) + 1) = ((m.val + 1 : Nat) : Int) := by decide +kernel
    exact this ⟨n, h⟩
  rw [e]
  have h1 : (0 : Int) ≤ ((n + 1 : Nat) : Int) ∧ ((n + 1 : Nat) : Int) ≤ ((16 : Nat) : Int) := by omega
  have h2 : (0 : Int) ≤ ((n : Nat) : Int) ∧ ((n : Nat) : Int) ≤ ((n + 1 : Nat) : Int) := by omega
  simp only [aslice, ty9, Option.isSome_none, Bool.false_eq_true, if_false, abounds, aidx, Option.getD_none, List.length_cons, List.length_nil]
  rw [if_pos h1]
  simp only [Option.getD_some, Bool.false_and, Bool.false_eq_true, if_false, Int.toNat_natCast]
  rw [if_pos h2]
  simp only [Option.getD_some]
  rw [show n + 1 - n = 1 from by omega]
  have : ∀ m : Fin 16, (List.drop m.val [48, 49, 50, 51, 52, 53, 54, 55, 56, 57, 97, 98, 99, 100, 101, 102]).take 1 = [hexD m.val] := by decide +kernel
  rw [this ⟨n, h⟩]
theorem hexI {n : Nat} (h : n < 16) : aindex tab 9 (.str [48, 49, 50, 51, 52, 53, 54, 55, 56, 57, 97, 98, 99, 100, 101, 102]) (.int .u8 (n : Int)) = some (.int .u8 (hexD n).toNat) := by
  have e : ∀ m : Fin 16, [48, 49, 50, 51, 52, 53, 54, 55, 56, 57, 97, 98, 99, 100, 101, 102][m.val]? = some (hexD m.val) := by decide +kernel
  simp [aindex, ty9, e ⟨n, h⟩]
end Go.S1N
namespace Go.S1N
open Go Go.Am Go.Proofs Go.S1
set_option maxRecDepth 100000
attribute [local go_sem] Nat.reduceLT Nat.reduceEqDiff Nat.reduceAdd Nat.reduceLeDiff reduceIte reduceCtorEq
attribute [local irreducible] lopsB lvb lstepB lfunG lcondB lguardB lguardU ldguardU ldrawB ldrunB ldstepB ldguardB lmem lval ldmem ldval ldfun lexit ldloadB ldlenB lpostB athen ablock
theorem digit_ok (c : UInt8) (s : AHeap) : ACall Tryz.prog 189 [.int .u8 c.toNat] s fun v t => v = .bool (digC c) ∧ t = s := by
  refine gob189 (by simp) ?_
  intro tm hlen harg
  simp +contextual only [go_sem, L189, hlen, harg, cdD, cdN, gdT, gdF, gdD]
  refine ⟨fun h => ?_, fun h => ?_⟩
  · refine lexit_pure (.refl s) (by simp only [low]) ⟨?_, rfl⟩
    have e1 : 48 ≤ c.toNat := by omega
    have e2 : ((c.toNat : Int) ≤ 57) = (c.toNat ≤ 57) := propext ⟨fun h => by omega, fun h => by omega⟩
    simp only [digC, e1, e2, decide_true, Bool.true_and]
  · refine lexit_pure (.refl s) (by simp only [low]) ⟨?_, rfl⟩
    have e1 : ¬ 48 ≤ c.toNat := by omega
    simp [digC, e1]
theorem hex_ok (c : UInt8) (s : AHeap) : ACall Tryz.prog 186 [.int .u8 c.toNat] s fun v t => v = .str [hexD (c.toNat / 16), hexD (c.toNat % 16)] ∧ t = s := by
  refine gob186 (by simp) ?_
  intro tm hlen harg
  have hc := c.toNat_lt
  simp +contextual only [go_sem, L186, hlen, harg, cdD, cdN, gdT, gdF, gdD]
  refine ldrawB_go [] [] 12 (by decide) ?_
  simp +contextual only [go_sem, hlen, harg, hx1, hx2, hexS (show c.toNat / 16 < 16 by omega), hexS (show c.toNat % 16 < 16 by omega), cdD, cdN, gdT, gdF, gdD]
  refine ⟨by kernel_rfl, ?_⟩
  rw [Go.Am.abin_sadd (by simp)]
  simp +contextual only [go_sem, hlen, harg, cdD, cdN, gdT, gdF, gdD]
  exact lexit_pure (.refl s) (by simp only [low]) ⟨rfl, rfl⟩
theorem hexV_ok (c : UInt8) (s : AHeap) : ACall Tryz.prog 227 [.int .u8 c.toNat] s fun v t => v = .int .i64 (hexV c) ∧ t = s := by
  refine gob227 (by simp) ?_
  intro tm hlen harg
  simp +contextual only [go_sem, L227, hlen, harg, cdD, cdN, gdT, gdF, gdD]
  refine lfunG_eq (idxL_ok hexs c _) ?_
  simp +contextual only [go_sem, hlen, harg, cdD, cdN, gdT, gdF, gdD]
  exact lexit_pure (.refl s) (by simp only [low]) ⟨rfl, rfl⟩
end Go.S1N
end
section
namespace Go.S1N
open Go Go.Am Go.Proofs Go.S1
set_option maxRecDepth 100000
attribute [local go_sem] Nat.reduceLT Nat.reduceEqDiff Nat.reduceAdd Nat.reduceLeDiff reduceIte reduceCtorEq
attribute [local irreducible] lopsB lvb lstepB lfunG lcondB lguardB lguardU ldguardU ldrawB ldrunB ldstepB ldguardB lmem lval ldmem ldval ldfun lexit ldloadB ldlenB lpostB athen ablock
theorem itoa_ok (n : Int) (h0 : -9223372036854775808 ≤ n) (h1 : n ≤ 9223372036854775807) (s : AHeap) : ACall Tryz.prog 90 [.int .i64 n] s fun v t => v = .str (Lib.itoa n) ∧ t = s := by
  refine gob90 (by simp) ?_
  intro tm hlen harg
  simp +contextual only [go_sem, L90, hlen, harg, cdD, cdN, gdT, gdF, gdD]
  refine lfunG_eq (itoaI_ok n h0 h1 _) ?_
  simp +contextual only [go_sem, hlen, harg, cdD, cdN, gdT, gdF, gdD]
  exact lexit_pure (.refl s) (by simp only [low]) ⟨rfl, rfl⟩
theorem digits_ok (n : Int) (h0 : -9223372036854775808 ≤ n) (h1 : n ≤ 9223372036854775807) (s : AHeap) : ACall Tryz.prog 140 [.int .i64 n] s fun v t => v = .str (Lib.itoa n) ∧ t = s := by
  refine gob140 (by simp) ?_
  intro tm hlen harg
  simp +contextual only [go_sem, L140, hlen, harg, cdD, cdN, gdT, gdF, gdD]
  refine lfunG_eq (itoa_ok n h0 h1 _) ?_
  simp +contextual only [go_sem, hlen, harg, cdD, cdN, gdT, gdF, gdD]
  exact lexit_pure (.refl s) (by simp only [low]) ⟨rfl, rfl⟩
def quoN (l : List UInt8) (i : Nat) : List UInt8 := 34 :: (l.take i).flatMap qc
theorem qc_len (c : UInt8) : (qc c).length ≤ 3 := by unfold qc; split <;> simp
theorem quoN_succ {l : List UInt8} {i : Nat} (h : i < l.length) : quoN l (i + 1) = quoN l i ++ qc l[i] := by
  unfold quoN
  rw [List.take_add_one, List.getElem?_eq_getElem h]
  rw [List.flatMap_append, Option.toList_some, List.flatMap_cons, List.flatMap_nil, List.append_nil]; rfl
theorem quoN_len (l : List UInt8) : ∀ i, (quoN l i).length ≤ 3 * i + 1
  | 0 => by simp [quoN]
  | i + 1 => by
    rcases Nat.lt_or_ge i l.length with q | q
    · have := quoN_len l i
      have := qc_len l[i]
      rw [quoN_succ q, List.length_append]; omega
    · have := quoN_len l i
      have e : quoN l (i + 1) = quoN l i := by unfold quoN; rw [List.take_of_length_le (by omega), List.take_of_length_le (by omega)]
      rw [e]; omega
theorem quoN_all (l : List UInt8) : quoN l l.length ++ [34] = quoteB l := by unfold quoN quoteB; rw [List.take_length]; rfl
theorem hex_two (c : UInt8) : [92] ++ [hexD (c.toNat / 16), hexD (c.toNat % 16)] = [92, hexD (c.toNat / 16), hexD (c.toNat % 16)] := rfl
theorem quoteK_ok (l : List UInt8) (hl : l.length ≤ 100000) (s : AHeap) : ACall Tryz.prog 141 [.str l] s fun v t => v = .str (quoteB l) ∧ t = s := by
  refine gob141 (by simp) ?_
  intro tm hlen harg
  simp +contextual only [go_sem, L141, hlen, harg, cdD, cdN, gdT, gdF, gdD]
  refine lfunG_eq (bwb_loc (s := s) (p := .nilp) (x := []) (k := 0) (j := 5) 34 rfl (.inl rfl) rfl (by decide) (by decide) (by decide) (by intro j hj; simp only [lget]; rw [if_neg (by omega)]) (by decide)) ?_
  unfold bufC
  simp +contextual only [go_sem, hlen, harg, cdD, cdN, gdT, gdF, gdD]
  refine ⟨Nat, fun i => [(0, .str l), (3, .ptr (nm s.nx 0) 0), (7, .int .i64 l.length), (8, .int .i64 i)],
    fun i => loc s 2 [(0, some (.cells [.ptr (nm s.nx 0) 0, gsv 1 (nm s.nx 1) (quoN l i).length] (some 120))), (1, gso 5 (S1.bytes (quoN l i)))], fun i => i ≤ l.length, fun i => l.length - i, 0, Nat.zero_le _, ?_, ?_⟩
  · refine To.go [0, 2] _ rfl (.refl s) (by decide) (by simp) ?_ ?_
    · simp +contextual only [go_sem, hlen, harg, cdD, cdN, gdT, gdF, gdD]
      simp
    · have e0 : quoN l 0 = [34] := rfl
      simp only [go_sem, e0, map_gso_pu (bytes_pul _), gsv_pos (Nat.succ_ne_zero 0), cdD, cdN, gdT, gdF, gdD]
      exact (gso_bytes_ne (by simp)).symm
  · rintro i tm1 hi hlen1 hlv
    simp only [go_sem, hlen, cdD, cdN, gdT, gdF, gdD] at hlen1 hlv hi
    have hql := quoN_len l i
    have gone : ∀ (nn : Nat) (o1 o2 : Option AObj), ∀ j, 2 + nn ≤ j → lget [(0, o1), (1, o2)] j = none := by
      intro nn o1 o2 j hj; simp only [lget]; rw [if_neg (by omega), if_neg (by omega)]
    simp +contextual only [go_sem, hlen, hlen1, hlv, cdD, cdN, gdT, gdF, gdD]
    refine ⟨fun hlt => ?_, fun hge => ?_⟩
    · have hi2 : i < l.length := by omega
      have hwi : IntKind.i64.wrap ((i : Int) + 1) = ((i + 1 : Nat) : Int) := by rw [wrap_id (by omega)]; rfl
      have hq := quoN_succ hi2
      have hat := str_at hi2
      generalize l[i] = c at hq hat
      simp +contextual only [go_sem, hlen1, hlv, hat, cdD, cdN, gdT, gdF, gdD]
      refine lfunG_eq (plain_ok _ _) ?_
      cases hp : plainC c with
      | true =>
        have hq1 : qc c = [c] := by rw [qc, hp]; rfl
        rw [hq1] at hq
        have hq2 : (quoN l (i + 1)).length = (quoN l i).length + 1 := by rw [hq]; simp
        simp +contextual only [go_sem, hlen1, hlv, hat, cdD, cdN, gdT, gdF, gdD]
        refine lfunG_eq (bwb_loc (s := s) (p := .ptr (nm s.nx 0) 0) (x := quoN l i) (k := 0) (j := 1) c rfl (.inr rfl) rfl (by decide) (by decide) (by decide) (gone 0 _ _) (by omega)) ?_
        unfold bufC
        simp +contextual only [go_sem, hlen1, hlv, hwi, cdD, cdN, gdT, gdF, gdD]
        refine ⟨i + 1, by omega, by omega, ?_⟩
        refine To.go [0, 3] _ rfl (.refl s) (by decide) (by simp) ?_ ?_
        · simp +contextual only [go_sem, hlen1, hlv, cdD, cdN, gdT, gdF, gdD]
        · simp only [go_sem, hq2, map_gso_pu (bytes_pul _), gsv_pos (Nat.succ_ne_zero (quoN l i).length), cdD, cdN, gdT, gdF, gdD]
          rw [hq]; exact (gso_bytes_ne (by simp)).symm
      | false =>
        have hq1 : qc c = [92, hexD (c.toNat / 16), hexD (c.toNat % 16)] := by rw [qc, hp]; rfl
        rw [hq1] at hq
        have hq2 : (quoN l (i + 1)).length = (quoN l i).length + 3 := by rw [hq]; simp
        simp +contextual only [go_sem, hlen1, hlv, hat, cdD, cdN, gdT, gdF, gdD]
        refine lfunG_eq (hex_ok c _) ?_
        simp +contextual only [go_sem, hlen1, hlv, Go.Am.abin_sadd (show [(92 : UInt8)].length + [hexD (c.toNat / 16), hexD (c.toNat % 16)].length ≤ 9000000000000000000 by simp), cdD, cdN, gdT, gdF, gdD]
        refine lfunG_eq (bws_loc (s := s) (p := .ptr (nm s.nx 0) 0) (x := quoN l i) (k := 0) (j := 1) [92, hexD (c.toNat / 16), hexD (c.toNat % 16)] rfl (.inr rfl) rfl (by decide) (by decide) (gone 0 _ _) (by simp) (by simp only [List.length_cons, List.length_nil]; omega)) ?_
        unfold bufN
        simp +contextual only [go_sem, hlen1, hlv, hwi, cdD, cdN, gdT, gdF, gdD]
        refine ⟨i + 1, by omega, by omega, ?_⟩
        refine To.go [0, 2] _ rfl (.refl s) (by decide) (by simp) ?_ ?_
        · simp +contextual only [go_sem, hlen1, hlv, cdD, cdN, gdT, gdF, gdD]
        · simp only [go_sem, hq2, map_gso_pu (bytes_pul _), gsv_pos (Nat.succ_ne_zero ((quoN l i).length + 2)), cdD, cdN, gdT, gdF, gdD]
          rw [hq]; exact (gso_bytes_ne (by simp)).symm
    · have hie : i = l.length := by omega
      subst hie
      refine lfunG_eq (bwb_loc (s := s) (p := .ptr (nm s.nx 0) 0) (x := quoN l l.length) (k := 0) (j := 1) 34 rfl (.inr rfl) rfl (by decide) (by decide) (by decide) (gone 0 _ _) (by omega)) ?_
      unfold bufC
      simp +contextual only [go_sem, hlen1, hlv, cdD, cdN, gdT, gdF, gdD]
      refine lfunG_eq (bstr_loc (s := s) (p := .ptr (nm s.nx 0) 0) (x := quoN l l.length ++ [34]) (k := 0) (j := 3) (by rw [List.length_append, gsv_pos (by simp)]; rfl) (by rw [gso_bytes_ne (by simp)]; rfl) (by rw [List.length_append]; simp; omega)) ?_
      simp +contextual only [go_sem, hlen1, hlv, cdD, cdN, gdT, gdF, gdD]
      exact lexit_pure (.refl s) (by simp only [low]) ⟨by rw [quoN_all], rfl⟩
end Go.S1N
end
section
namespace Go.S1N
open Go Go.Am Go.Proofs Go.S1
set_option maxRecDepth 100000
attribute [local go_sem] Nat.reduceLT Nat.reduceEqDiff Nat.reduceAdd Nat.reduceLeDiff reduceIte reduceCtorEq
attribute [local irreducible] lopsB lvb lstepB lfunG lcondB lguardB lguardU ldguardU ldrawB ldrunB ldstepB ldguardB lmem lval ldmem ldval ldfun lexit ldloadB ldlenB lpostB athen ablock
def numV (l : List UInt8) : AV := match numP l with
  | some n => .tuple [.int .i64 n, .bool true]
  | none => .tuple [.int .i64 0, .bool false]
theorem cv53 {ev : Operand → AV} {x : Operand} {s : AHeap} {n : Int} (hx : ev x = .int .u8 n) : lop tab ev (.convert 5 3 x) s = some (.int .i64 (IntKind.i64.wrap n), s) := by
  simp [lop, aop, apure, aconv, amem, ty5, ty3, hx]
theorem cv35 {ev : Operand → AV} {x : Operand} {s : AHeap} {n : Int} (hx : ev x = .int .i64 n) : lop tab ev (.convert 3 5 x) s = some (.int .u8 (IntKind.u8.wrap n), s) := by
  simp [lop, aop, apure, aconv, amem, ty5, ty3, hx]
theorem dig_sub {c : UInt8} (h : digC c = true) : IntKind.u8.wrap ((c.toNat : Int) - 48) = ((c.toNat - 48 : Nat) : Int) := by
  have := all_bytes (p := fun c => !digC c || decide (IntKind.u8.wrap ((c.toNat : Int) - 48) = ((c.toNat - 48 : Nat) : Int))) (by decide +kernel) c
  rw [h] at this; simpa using this
theorem pow15 {i : Nat} (h : i ≤ 15) : 10 ^ i ≤ 1000000000000000 := Nat.pow_le_pow_right (n := 10) (by decide) h
theorem num_step {t : List UInt8} {i : Nat} (h15 : t.length ≤ 15) (ha : (t.take i).all digC = true) (hi : i < t.length) (hd : digC t[i] = true) :
    IntKind.i64.wrap (IntKind.i64.wrap (10 * (digN (t.take i) : Int)) + IntKind.i64.wrap ((t[i].toNat - 48 : Nat) : Int)) = ((digN (t.take (i + 1)) : Nat) : Int) ∧ (t.take (i + 1)).all digC = true := by
  have h1 := digN_lt (t.take i) ha i (by rw [List.length_take]; omega)
  rw [List.take_take, Nat.min_self] at h1
  have h2 := pow15 (i := i) (by omega)
  have hb : t[i].toNat - 48 ≤ 9 := by simp only [digC, Bool.and_eq_true, decide_eq_true_eq] at hd; omega
  rw [List.take_add_one, List.getElem?_eq_getElem hi, Option.toList_some, digN_snoc]
  refine ⟨?_, by rw [List.all_append, ha]; simp [hd]⟩
  rw [wrap_id (show -9223372036854775808 ≤ 10 * (digN (t.take i) : Int) ∧ _ by omega), wrap_id (show -9223372036854775808 ≤ ((t[i].toNat - 48 : Nat) : Int) ∧ _ by omega), wrap_id (by omega)]
  omega
theorem numK_ok (l : List UInt8) (s : AHeap) : ACall Tryz.prog 144 [.str l, .int .i64 15] s fun v t => v = numV l ∧ t = s := by
  refine gob144 (by simp) ?_
  intro tm hlen harg
  have key : numP l = if unMinus l = [] ∨ 15 < (unMinus l).length ∨ ((unMinus l).getD 0 0 = 48 ∧ (1 < (unMinus l).length ∨ minusB l = true)) then none
    else if (unMinus l).all digC then some (if minusB l then -(digN (unMinus l) : Int) else digN (unMinus l)) else none := rfl
  have hcall := fun s => cutMinus_ok l s
  generalize ht : unMinus l = t at key hcall
  generalize hm : minusB l = m at key hcall
  have none_ : ∀ {tm' : List AV} {n : Nat} {ll : List (Nat × Option AObj)}, numP l = none → lexit s (fun v t => v = numV l ∧ t = s) (some (.tuple [.int .i64 0, .bool false])) (loc s n ll) := fun h => lexit_pure (.refl s) (by simp only [low, lowL, and_self]) ⟨by rw [numV, h], rfl⟩
  simp +contextual only [go_sem, L144, hlen, harg, cdD, cdN, gdT, gdF, gdD]
  refine lfunG_eq (hcall _) ?_
  by_cases h1 : t = []
  · simp +contextual only [go_sem, hlen, harg, h1, cdD, cdN, gdT, gdF, gdD]
    exact none_ (tm' := tm) (by rw [key, if_pos (.inl h1)])
  by_cases h2 : (15 : Int) < t.length
  · simp +contextual only [go_sem, hlen, harg, h1, h2, cdD, cdN, gdT, gdF, gdD]
    exact none_ (tm' := tm) (by rw [key, if_pos (.inr (.inl (by omega)))])
  have hpos : 0 < t.length := List.length_pos_iff.2 h1
  have x0 := str_at0 hpos
  have hz : (((t.getD 0 0).toNat : Int) = 48) = (t.getD 0 0 = 48) := u8_eq (a := t.getD 0 0) (b := 48)
  have rest : ¬ (t.getD 0 0 = 48 ∧ (1 < t.length ∨ m = true)) → numP l = if t.all digC then some (if m then -(digN t : Int) else digN t) else none := fun h => by
    rw [key, if_neg]
    rintro (q | q | q)
    · exact h1 q
    · omega
    · exact h q
  by_cases h3 : t.getD 0 0 = 48
  · have hz1 : ((t.getD 0 0).toNat : Int) = 48 := by rw [h3]; rfl
    by_cases h4 : (1 : Int) < t.length
    · simp +contextual only [go_sem, hlen, harg, h1, h2, h4, x0, hz1, cdD, cdN, gdT, gdF, gdD]
      exact none_ (tm' := tm) (by rw [key, if_pos (.inr (.inr ⟨h3, .inl (by omega)⟩))])
    · cases m with
      | true =>
        simp +contextual only [go_sem, hlen, harg, h1, h2, h4, x0, hz1, cdD, cdN, gdT, gdF, gdD]
        exact none_ (tm' := tm) (by rw [key, if_pos (.inr (.inr ⟨h3, .inr rfl⟩))])
      | false =>
        simp +contextual only [go_sem, hlen, harg, h1, h2, h4, x0, hz1, cdD, cdN, gdT, gdF, gdD]
        have rest := rest (by rintro ⟨_, q | q⟩; omega; cases q)
        refine ⟨Nat, fun i => [(6, .str t), (7, .bool false), (8, .int .i64 (digN (t.take i) : Int)), (37, .int .i64 t.length), (38, .int .i64 i)], fun i => loc s 0 [], fun i => i ≤ t.length ∧ (t.take i).all digC = true, fun i => t.length - i, 0, by simp, ?_, ?_⟩
        · refine To.go [] [] rfl (.refl s) (by decide) (by simp) ?_ trivial
          simp +contextual only [go_sem, hlen, harg, cdD, cdN, gdT, gdF, gdD]
          simp [digN]
        · rintro i tm1 ⟨hi, ha⟩ hlen1 hlv
          simp only [go_sem, hlen, cdD, cdN, gdT, gdF, gdD] at hlen1 hlv hi
          simp +contextual only [go_sem, hlen, hlen1, hlv, cdD, cdN, gdT, gdF, gdD]
          refine ⟨fun hlt => ?_, fun hge => ?_⟩
          · have hi2 : i < t.length := by omega
            simp +contextual only [go_sem, hlen, hlen1, hlv, str_at hi2, cdD, cdN, gdT, gdF, gdD]
            refine lfunG_eq (digit_ok _ _) ?_
            cases hd : digC t[i] with
            | false =>
              simp +contextual only [go_sem, hlen1, hlv, cdD, cdN, gdT, gdF, gdD]
              refine none_ (tm' := tm) ?_
              rw [rest, if_neg]
              intro h
              have := List.all_eq_true.1 h _ (List.getElem_mem hi2)
              rw [hd] at this; cases this
            | true =>
              obtain ⟨hs, ha2⟩ := num_step (by omega) ha hi2 hd
              have hwi : IntKind.i64.wrap ((i : Int) + 1) = ((i + 1 : Nat) : Int) := by rw [wrap_id (by omega)]; rfl
              have hds := dig_sub hd
              simp +contextual only [go_sem, hlen1, hlv, str_at hi2, hds, cdD, cdN, gdT, gdF, gdD]
              rw [lstepB_convert]
              refine lmem_eq (cv53 (n := ((t[i].toNat - 48 : Nat) : Int)) (by simp only [go_sem, hlen1, hlv, cdD, cdN, gdT, gdF, gdD])) ?_
              simp +contextual only [go_sem, hlen1, hlv, hwi, hs, cdD, cdN, gdT, gdF, gdD]
              refine ⟨i + 1, ⟨by omega, ha2⟩, by omega, ?_⟩
              refine To.go [] [] rfl (.refl s) (by decide) (by simp) ?_ trivial
              simp +contextual only [go_sem, hlen1, hlv, cdD, cdN, gdT, gdF, gdD]
          · have hie : i = t.length := by omega
            subst hie
            rw [List.take_length] at ha hlv
            have hval := rest
            rw [if_pos ha] at hval
            exact lexit_pure (.refl s) (by simp only [low, lowL, and_self]) ⟨by rw [numV, hval]; simp, rfl⟩
  · have hz1 : ¬ ((t.getD 0 0).toNat : Int) = 48 := by rw [hz]; exact h3
    simp +contextual only [go_sem, hlen, harg, h1, h2, x0, hz1, cdD, cdN, gdT, gdF, gdD]
    have rest := rest (fun q => h3 q.1)
    refine ⟨Nat, fun i => [(6, .str t), (7, .bool m), (8, .int .i64 (digN (t.take i) : Int)), (37, .int .i64 t.length), (38, .int .i64 i)], fun i => loc s 0 [], fun i => i ≤ t.length ∧ (t.take i).all digC = true, fun i => t.length - i, 0, by simp, ?_, ?_⟩
    · refine To.go [] [] rfl (.refl s) (by decide) (by simp) ?_ trivial
      simp +contextual only [go_sem, hlen, harg, cdD, cdN, gdT, gdF, gdD]
      simp [digN]
    · rintro i tm1 ⟨hi, ha⟩ hlen1 hlv
      simp only [go_sem, hlen, cdD, cdN, gdT, gdF, gdD] at hlen1 hlv hi
      simp +contextual only [go_sem, hlen, hlen1, hlv, cdD, cdN, gdT, gdF, gdD]
      refine ⟨fun hlt => ?_, fun hge => ?_⟩
      · have hi2 : i < t.length := by omega
        simp +contextual only [go_sem, hlen, hlen1, hlv, str_at hi2, cdD, cdN, gdT, gdF, gdD]
        refine lfunG_eq (digit_ok _ _) ?_
        cases hd : digC t[i] with
        | false =>
          simp +contextual only [go_sem, hlen1, hlv, cdD, cdN, gdT, gdF, gdD]
          refine none_ (tm' := tm) ?_
          rw [rest, if_neg]
          intro h
          have := List.all_eq_true.1 h _ (List.getElem_mem hi2)
          rw [hd] at this; cases this
        | true =>
          obtain ⟨hs, ha2⟩ := num_step (by omega) ha hi2 hd
          have hwi : IntKind.i64.wrap ((i : Int) + 1) = ((i + 1 : Nat) : Int) := by rw [wrap_id (by omega)]; rfl
          have hds := dig_sub hd
          simp +contextual only [go_sem, hlen1, hlv, str_at hi2, hds, cdD, cdN, gdT, gdF, gdD]
          rw [lstepB_convert]
          refine lmem_eq (cv53 (n := ((t[i].toNat - 48 : Nat) : Int)) (by simp only [go_sem, hlen1, hlv, cdD, cdN, gdT, gdF, gdD])) ?_
          simp +contextual only [go_sem, hlen1, hlv, hwi, hs, cdD, cdN, gdT, gdF, gdD]
          refine ⟨i + 1, ⟨by omega, ha2⟩, by omega, ?_⟩
          refine To.go [] [] rfl (.refl s) (by decide) (by simp) ?_ trivial
          simp +contextual only [go_sem, hlen1, hlv, cdD, cdN, gdT, gdF, gdD]
      · have hie : i = t.length := by omega
        subst hie
        rw [List.take_length] at ha hlv
        have hval := rest
        rw [if_pos ha] at hval
        have hb := digN_lt t ha t.length (Nat.le_refl _)
        rw [List.take_length] at hb
        have hb2 := pow15 (i := t.length) (by omega)
        have hwn : IntKind.i64.wrap (0 - (digN t : Int)) = -(digN t : Int) := by rw [wrap_id (by omega)]; omega
        cases m with
        | true =>
          simp +contextual only [go_sem, hlen1, hlv, hwn, cdD, cdN, gdT, gdF, gdD]
          exact lexit_pure (.refl s) (by simp only [low, lowL, and_self]) ⟨by rw [numV, hval]; simp, rfl⟩
        | false =>
          simp +contextual only [go_sem, hlen1, hlv, cdD, cdN, gdT, gdF, gdD]
          exact lexit_pure (.refl s) (by simp only [low, lowL, and_self]) ⟨by rw [numV, hval]; simp, rfl⟩
end Go.S1N
end
section
namespace Go.S1N
open Go Go.Am Go.Proofs Go.S1
set_option maxRecDepth 100000
attribute [local go_sem] Nat.reduceLT Nat.reduceEqDiff Nat.reduceAdd Nat.reduceLeDiff reduceIte reduceCtorEq
attribute [local irreducible] lopsB lvb lstepB lfunG lcondB lguardB lguardU ldguardU ldrawB ldrunB ldstepB ldguardB lmem lval ldmem ldval ldfun lexit ldloadB ldlenB lpostB athen ablock
theorem bwr_loc {s : AHeap} {n k j m : Nat} {l : List (Nat × Option AObj)} {p : AV} {x : List UInt8} (w : List UInt8) (hk : lget l k = some (.cells [p, gsv 1 (nm s.nx j) x.length] (some 120))) (hp : p = .nilp ∨ p = .ptr (nm s.nx k) 0)
    (hj : lget l j = gso 5 (S1.bytes x)) (hm : lget l m = some (.cells (S1.bytes w) (some 5))) (hmk : m ≠ k) (hjk : j ≠ k) (hkn : k < n) (hn : ∀ i, n ≤ i → lget l i = none) (hw : w ≠ []) (hb : 2 * (x.length + w.length) + 512 ≤ 281474976710656) :
    ACall Tryz.prog 143 [.ptr (nm s.nx k) 0, .rs 1 (nm s.nx m) 0 w.length] (loc s n l) fun v t => v = .tuple [.int .i64 w.length, .nili] ∧ t = bufN s n l k j x w := by
  refine gob143 (by simp) ?_
  intro tm hlen harg
  have hal : alen tab 118 (.rs 1 (nm s.nx m) 0 w.length) = some (.int .i64 w.length) := by simp only [go_sem, cdD, cdN, gdT, gdF, gdD]
  rw [loc_flat hn]
  simp +contextual only [go_sem, L143, hlen, harg, cdD, cdN, gdT, gdF, gdD]
  refine lfunG_eq (cc_loc hk hp) ?_
  simp +contextual only [go_sem, hlen, harg, lget_lput, cdD, cdN, gdT, gdF, gdD]
  refine lmem_eq (appBb rfl (by rw [lget_lput, if_neg hmk]; exact hm) (by rw [lget_lput, if_neg hjk]; exact hj) hw hb) ?_
  have hkn' : (k = n) = False := by simp; omega
  have hkj : (k = j) = False := by simp; omega
  simp +contextual only [go_sem, hlen, harg, lget_lput, lget_ldel, hkn', hkj, hal, cdD, cdN, gdT, gdF, gdD]
  refine lexit_nw ⟨rfl, ?_⟩
  refine loc_congr fun i => ?_
  simp only [lget_lput, lget_ldel]
  by_cases h1 : i = k
  · rw [if_pos h1, if_pos h1]
  · rw [if_neg h1, if_neg h1, if_neg h1]
theorem quoteQ_ok (l : List UInt8) (hl : l.length ≤ 100000) (s : AHeap) : ACall Tryz.prog 91 [.str l] s fun v t => v = .str (quoteB l) ∧ t = s := by
  refine gob91 (by simp) ?_
  intro tm hlen harg
  simp +contextual only [go_sem, L91, hlen, harg, cdD, cdN, gdT, gdF, gdD]
  refine lfunG_eq (bwb_loc (s := s) (p := .nilp) (x := []) (k := 0) (j := 5) 34 rfl (.inl rfl) rfl (by decide) (by decide) (by decide) (by intro j hj; simp only [lget]; rw [if_neg (by omega)]) (by decide)) ?_
  unfold bufC
  simp +contextual only [go_sem, hlen, harg, cdD, cdN, gdT, gdF, gdD]
  refine ⟨Nat, fun i => [(0, .str l), (3, .ptr (nm s.nx 0) 0), (8, .int .i64 l.length), (9, .int .i64 i)],
    fun i => loc s 2 [(0, some (.cells [.ptr (nm s.nx 0) 0, gsv 1 (nm s.nx 1) (quoN l i).length] (some 120))), (1, gso 5 (S1.bytes (quoN l i)))], fun i => i ≤ l.length, fun i => l.length - i, 0, Nat.zero_le _, ?_, ?_⟩
  · refine To.go [0, 2] _ rfl (.refl s) (by decide) (by simp) ?_ ?_
    · simp +contextual only [go_sem, hlen, harg, cdD, cdN, gdT, gdF, gdD]
      simp
    · have e0 : quoN l 0 = [34] := rfl
      simp only [go_sem, e0, map_gso_pu (bytes_pul _), gsv_pos (Nat.succ_ne_zero 0), cdD, cdN, gdT, gdF, gdD]
      exact (gso_bytes_ne (by simp)).symm
  · rintro i tm1 hi hlen1 hlv
    simp only [go_sem, hlen, cdD, cdN, gdT, gdF, gdD] at hlen1 hlv hi
    have hql := quoN_len l i
    have gone : ∀ (nn : Nat) (o1 o2 : Option AObj), ∀ j, 2 + nn ≤ j → lget [(0, o1), (1, o2)] j = none := by
      intro nn o1 o2 j hj; simp only [lget]; rw [if_neg (by omega), if_neg (by omega)]
    simp +contextual only [go_sem, hlen, hlen1, hlv, cdD, cdN, gdT, gdF, gdD]
    refine ⟨fun hlt => ?_, fun hge => ?_⟩
    · have hi2 : i < l.length := by omega
      have hwi : IntKind.i64.wrap ((i : Int) + 1) = ((i + 1 : Nat) : Int) := by rw [wrap_id (by omega)]; rfl
      have hq := quoN_succ hi2
      have hat := str_at hi2
      generalize l[i] = c at hq hat
      have hc := c.toNat_lt
      simp +contextual only [go_sem, hlen1, hlv, hat, cdD, cdN, gdT, gdF, gdD]
      rw [lstepB_convert]
      refine lmem_eq (cv53 (n := (c.toNat : Int)) (by simp only [go_sem, hlen1, hlv, cdD, cdN, gdT, gdF, gdD])) ?_
      rw [wrap_id (by omega)]
      simp +contextual only [go_sem, hlen1, hlv, cdD, cdN, gdT, gdF, gdD]
      refine lfunG_eq (refin_ok _ _ _ _) ?_
      have key : plainC c = (decide (32 ≤ c.toNat) && decide (c.toNat ≤ 126) && decide (c.toNat ≠ 34) && decide (c.toNat ≠ 92)) := rfl
      cases hp : plainC c with
      | true =>
        have hq1 : qc c = [c] := by rw [qc, hp]; rfl
        rw [hq1] at hq
        have hq2 : (quoN l (i + 1)).length = (quoN l i).length + 1 := by rw [hq]; simp
        rw [hp] at key
        have k2 : 32 ≤ c.toNat ∧ c.toNat ≤ 126 ∧ c.toNat ≠ 34 ∧ c.toNat ≠ 92 := by
          have := key.symm
          simp only [Bool.and_eq_true, decide_eq_true_eq] at this
          exact ⟨this.1.1.1, this.1.1.2, this.1.2, this.2⟩
        have f1 : ((32 : Int) ≤ c.toNat ∧ (c.toNat : Int) ≤ 126) = True := by simp; omega
        have f2 : ((c.toNat : Int) = 34) = False := by simp; omega
        have f3 : ((c.toNat : Int) = 92) = False := by simp; omega
        simp +contextual only [go_sem, hlen1, hlv, f1, f2, f3, cdD, cdN, gdT, gdF, gdD]
        refine lfunG_eq (bwb_loc (s := s) (p := .ptr (nm s.nx 0) 0) (x := quoN l i) (k := 0) (j := 1) c rfl (.inr rfl) rfl (by decide) (by decide) (by decide) (gone 0 _ _) (by omega)) ?_
        unfold bufC
        simp +contextual only [go_sem, hlen1, hlv, hwi, cdD, cdN, gdT, gdF, gdD]
        refine ⟨i + 1, by omega, by omega, ?_⟩
        refine To.go [0, 3] _ rfl (.refl s) (by decide) (by simp) ?_ ?_
        · simp +contextual only [go_sem, hlen1, hlv, cdD, cdN, gdT, gdF, gdD]
        · simp only [go_sem, hq2, map_gso_pu (bytes_pul _), gsv_pos (Nat.succ_ne_zero (quoN l i).length), cdD, cdN, gdT, gdF, gdD]
          rw [hq]; exact (gso_bytes_ne (by simp)).symm
      | false =>
        have hq1 : qc c = [92, hexD (c.toNat / 16), hexD (c.toNat % 16)] := by rw [qc, hp]; rfl
        rw [hq1] at hq
        have hq2 : (quoN l (i + 1)).length = (quoN l i).length + 3 := by rw [hq]; simp
        rw [hp] at key
        have kk : ¬ (32 ≤ c.toNat ∧ c.toNat ≤ 126 ∧ c.toNat ≠ 34 ∧ c.toNat ≠ 92) := by
          rintro ⟨q1, q2, q3, q4⟩
          simp [q1, q2, q3, q4] at key
        by_cases f1 : (32 : Int) ≤ c.toNat ∧ (c.toNat : Int) ≤ 126
        · by_cases f2 : (c.toNat : Int) = 34
          · have f1' := eq_true f1
            have f2' := eq_true f2
            simp +contextual only [go_sem, hlen1, hlv, f1', f2', cdD, cdN, gdT, gdF, gdD]
            refine ldrawB_go [] [] 6 (by decide) ?_
            simp +contextual only [go_sem, hlen1, hlv, hx3, hx4, hexI (show c.toNat / 16 < 16 by omega), hexI (show c.toNat % 16 < 16 by omega), cdD, cdN, gdT, gdF, gdD]
            refine ⟨by kernel_rfl, ?_⟩
            refine lfunG_eq (bwr_loc (s := s) (p := .ptr (nm s.nx 0) 0) (x := quoN l i) (k := 0) (j := 1) (m := 8) [92, hexD (c.toNat / 16), hexD (c.toNat % 16)] rfl (.inr rfl) rfl rfl (by decide) (by decide) (by decide) (by intro j hj; simp only [lget]; rw [if_neg (by omega), if_neg (by omega), if_neg (by omega)]) (by simp) (by simp only [List.length_cons, List.length_nil]; omega)) ?_
            unfold bufN
            simp +contextual only [go_sem, hlen1, hlv, hwi, cdD, cdN, gdT, gdF, gdD]
            refine ⟨i + 1, by omega, by omega, ?_⟩
            refine To.go [0, 9] _ rfl (.refl s) (by decide) (by simp) ?_ ?_
            · simp +contextual only [go_sem, hlen1, hlv, cdD, cdN, gdT, gdF, gdD]
            · simp only [go_sem, hq2, map_gso_pu (bytes_pul _), gsv_pos (Nat.succ_ne_zero ((quoN l i).length + 2)), cdD, cdN, gdT, gdF, gdD]
              rw [hq]; exact (gso_bytes_ne (by simp)).symm
          · have f3 : (c.toNat : Int) = 92 := by omega
            have f1' := eq_true f1
            have f3' := eq_true f3
            simp +contextual only [go_sem, hlen1, hlv, f1', f2, f3', cdD, cdN, gdT, gdF, gdD]
            refine ldrawB_go [] [] 6 (by decide) ?_
            simp +contextual only [go_sem, hlen1, hlv, hx3, hx4, hexI (show c.toNat / 16 < 16 by omega), hexI (show c.toNat % 16 < 16 by omega), cdD, cdN, gdT, gdF, gdD]
            refine ⟨by kernel_rfl, ?_⟩
            refine lfunG_eq (bwr_loc (s := s) (p := .ptr (nm s.nx 0) 0) (x := quoN l i) (k := 0) (j := 1) (m := 8) [92, hexD (c.toNat / 16), hexD (c.toNat % 16)] rfl (.inr rfl) rfl rfl (by decide) (by decide) (by decide) (by intro j hj; simp only [lget]; rw [if_neg (by omega), if_neg (by omega), if_neg (by omega)]) (by simp) (by simp only [List.length_cons, List.length_nil]; omega)) ?_
            unfold bufN
            simp +contextual only [go_sem, hlen1, hlv, hwi, cdD, cdN, gdT, gdF, gdD]
            refine ⟨i + 1, by omega, by omega, ?_⟩
            refine To.go [0, 9] _ rfl (.refl s) (by decide) (by simp) ?_ ?_
            · simp +contextual only [go_sem, hlen1, hlv, cdD, cdN, gdT, gdF, gdD]
            · simp only [go_sem, hq2, map_gso_pu (bytes_pul _), gsv_pos (Nat.succ_ne_zero ((quoN l i).length + 2)), cdD, cdN, gdT, gdF, gdD]
              rw [hq]; exact (gso_bytes_ne (by simp)).symm
        · simp +contextual only [go_sem, hlen1, hlv, f1, cdD, cdN, gdT, gdF, gdD]
          refine ldrawB_go [] [] 6 (by decide) ?_
          simp +contextual only [go_sem, hlen1, hlv, hx3, hx4, hexI (show c.toNat / 16 < 16 by omega), hexI (show c.toNat % 16 < 16 by omega), cdD, cdN, gdT, gdF, gdD]
          refine ⟨by kernel_rfl, ?_⟩
          refine lfunG_eq (bwr_loc (s := s) (p := .ptr (nm s.nx 0) 0) (x := quoN l i) (k := 0) (j := 1) (m := 8) [92, hexD (c.toNat / 16), hexD (c.toNat % 16)] rfl (.inr rfl) rfl rfl (by decide) (by decide) (by decide) (by intro j hj; simp only [lget]; rw [if_neg (by omega), if_neg (by omega), if_neg (by omega)]) (by simp) (by simp only [List.length_cons, List.length_nil]; omega)) ?_
          unfold bufN
          simp +contextual only [go_sem, hlen1, hlv, hwi, cdD, cdN, gdT, gdF, gdD]
          refine ⟨i + 1, by omega, by omega, ?_⟩
          refine To.go [0, 9] _ rfl (.refl s) (by decide) (by simp) ?_ ?_
          · simp +contextual only [go_sem, hlen1, hlv, cdD, cdN, gdT, gdF, gdD]
          · simp only [go_sem, hq2, map_gso_pu (bytes_pul _), gsv_pos (Nat.succ_ne_zero ((quoN l i).length + 2)), cdD, cdN, gdT, gdF, gdD]
            rw [hq]; exact (gso_bytes_ne (by simp)).symm
    · have hie : i = l.length := by omega
      subst hie
      refine lfunG_eq (bstr_loc (s := s) (p := .ptr (nm s.nx 0) 0) (x := quoN l l.length) (k := 0) (j := 1) rfl rfl (by omega)) ?_
      simp +contextual only [go_sem, hlen1, hlv, Go.Am.abin_sadd (show (quoN l l.length).length + [(34 : UInt8)].length ≤ 9000000000000000000 by simp; omega), cdD, cdN, gdT, gdF, gdD]
      exact lexit_pure (.refl s) (by simp only [low]) ⟨by rw [quoN_all], rfl⟩
end Go.S1N
end
section
namespace Go.S1N
open Go Go.Am Go.Proofs Go.S1
set_option maxRecDepth 100000
attribute [local go_sem] Nat.reduceLT Nat.reduceEqDiff Nat.reduceAdd Nat.reduceLeDiff reduceIte reduceCtorEq
attribute [local irreducible] lopsB lvb lstepB lfunG lcondB lguardB lguardU ldguardU ldrawB ldrunB ldstepB ldguardB lmem lval ldmem ldval ldfun lexit ldloadB ldlenB lpostB athen ablock
theorem quoteB_len (l : List UInt8) : (quoteB l).length ≤ 3 * l.length + 2 := by
  have := quoN_len l l.length
  rw [← quoN_all, List.length_append]; simp; omega
def lineK (e : Ed) : List UInt8 := Lib.itoa e.at_ ++ [32] ++ Lib.itoa e.cut ++ [32] ++ quoteB e.new
theorem lineE_K (e : Ed) : lineE e = lineK e ++ [10] := by simp [lineE, lineK]
structure EdB (e : Ed) : Prop where
  a0 : -9223372036854775808 ≤ e.at_
  a1 : e.at_ ≤ 9223372036854775807
  c0 : -9223372036854775808 ≤ e.cut
  c1 : e.cut ≤ 9223372036854775807
  n : e.new.length ≤ 100000
theorem lineK_len {e : Ed} (h : EdB e) : (lineK e).length ≤ 3 * e.new.length + 46 := by
  have h1 := Lib.itoa_length_le e.at_ h.a0 h.a1
  have h2 := Lib.itoa_length_le e.cut h.c0 h.c1
  have h3 := quoteB_len e.new
  simp only [lineK, List.length_append, List.length_cons, List.length_nil]; omega
theorem editLine_ok (e : Ed) (h : EdB e) (s : AHeap) : ACall Tryz.prog 87 [.agg [.int .i64 e.at_, .int .i64 e.cut, .str e.new]] s fun v t => v = .str (lineK e) ∧ t = s := by
  refine gob87 (by simp) ?_
  intro tm hlen harg
  have h1 := Lib.itoa_length_le e.at_ h.a0 h.a1
  have h2 := Lib.itoa_length_le e.cut h.c0 h.c1
  have h3 := quoteB_len e.new
  have hn := h.n
  have d1 := fun s => digits_ok e.at_ h.a0 h.a1 s
  have d2 := fun s => digits_ok e.cut h.c0 h.c1 s
  have d3 := fun s => quoteK_ok e.new hn s
  have hK : lineK e = Lib.itoa e.at_ ++ [32] ++ Lib.itoa e.cut ++ [32] ++ quoteB e.new := rfl
  generalize Lib.itoa e.at_ = A at h1 d1 hK
  generalize Lib.itoa e.cut = B at h2 d2 hK
  generalize quoteB e.new = Q at h3 d3 hK
  have s1 : A.length + [(32 : UInt8)].length ≤ 9000000000000000000 := by simp; omega
  have s2 : (A ++ [32]).length + B.length ≤ 9000000000000000000 := by simp; omega
  have s3 : (A ++ [32] ++ B).length + [(32 : UInt8)].length ≤ 9000000000000000000 := by simp; omega
  have s4 : (A ++ [32] ++ B ++ [32]).length + Q.length ≤ 9000000000000000000 := by simp; omega
  simp +contextual only [go_sem, L87, hlen, harg, cdD, cdN, gdT, gdF, gdD]
  refine ldrawB_go [] [] 12 (by decide) ?_
  simp +contextual only [go_sem, hlen, harg, cdD, cdN, gdT, gdF, gdD]
  refine ldfun_pure (.str A) d1 ?_
  simp +contextual only [go_sem, hlen, harg, Go.Am.abin_sadd s1, cdD, cdN, gdT, gdF, gdD]
  refine ldfun_pure (.str B) d2 ?_
  simp +contextual only [go_sem, hlen, harg, Go.Am.abin_sadd s2, Go.Am.abin_sadd s3, cdD, cdN, gdT, gdF, gdD]
  refine ldfun_pure (.str Q) d3 ?_
  simp +contextual only [go_sem, hlen, harg, Go.Am.abin_sadd s4, cdD, cdN, gdT, gdF, gdD]
  refine ⟨by kernel_rfl, ?_⟩
  exact lexit_pure (.refl s) (by simp only [low]) ⟨by rw [hK], rfl⟩
def linesN (l : List Ed) (i : Nat) : List UInt8 := linesE (l.take i)
theorem linesN_succ {l : List Ed} {i : Nat} (h : i < l.length) : linesN l (i + 1) = linesN l i ++ lineE l[i] := by
  unfold linesN linesE
  rw [List.take_add_one, List.getElem?_eq_getElem h, List.flatMap_append, Option.toList_some, List.flatMap_cons, List.flatMap_nil, List.append_nil]
theorem linesN_all (l : List Ed) : linesN l l.length = linesE l := by unfold linesN; rw [List.take_length]
theorem linesN_len {l : List Ed} (h : ∀ e ∈ l, EdB e) : ∀ i, (linesN l i).length ≤ 400000 * i
  | 0 => by simp [linesN, linesE]
  | i + 1 => by
    rcases Nat.lt_or_ge i l.length with q | q
    · have h1 := linesN_len h i
      have hb := h l[i] (List.getElem_mem q)
      have h2 := lineK_len hb
      have h3 := hb.n
      rw [linesN_succ q, lineE_K]; simp only [List.length_append, List.length_cons, List.length_nil]; omega
    · have h1 := linesN_len h i
      have e : linesN l (i + 1) = linesN l i := by unfold linesN; rw [List.take_of_length_le (by omega), List.take_of_length_le (by omega)]
      rw [e]; omega
theorem linesN_mono (l : List Ed) : ∀ i j, i ≤ j → (linesN l i).length ≤ (linesN l j).length := by
  intro i j h
  induction j with
  | zero => have : i = 0 := by omega
            rw [this]; exact Nat.le_refl _
  | succ j ih =>
    rcases Nat.lt_or_ge i (j + 1) with q | q
    · refine Nat.le_trans (ih (by omega)) ?_
      rcases Nat.lt_or_ge j l.length with q2 | q2
      · rw [linesN_succ q2, List.length_append]; omega
      · have e : linesN l (j + 1) = linesN l j := by unfold linesN; rw [List.take_of_length_le (by omega), List.take_of_length_le (by omega)]
        rw [e]; exact Nat.le_refl _
    · have : i = j + 1 := by omega
      rw [this]; exact Nat.le_refl _
theorem editLines_ok (l : List Ed) (hl : l.length ≤ 100000) (hb : ∀ e ∈ l, EdB e) (s : AHeap) : ACall Tryz.prog 17 [edv l] s fun v t => v = .str (linesE l) ∧ t = s := by
  refine gob17 (by simp) ?_
  intro tm hlen harg
  have hsl := edv_sl l
  have hp := edv_pu l
  simp +contextual only [go_sem, L17, hlen, harg, hsl.len, cdD, cdN, gdT, gdF, gdD]
  refine ⟨Nat, fun i => [(3, .str (linesN l i)), (6, edv l), (7, .int .i64 l.length), (8, .int .i64 i)], fun i => loc s 0 [], fun i => i ≤ l.length, fun i => l.length - i, 0, Nat.zero_le _, ?_, ?_⟩
  · refine To.go [] [] rfl (.refl s) (by decide) (by simp) ?_ trivial
    simp +contextual only [go_sem, hlen, harg, pu_ren hp, cdD, cdN, gdT, gdF, gdD]
    simp [linesN, linesE]
  · rintro i tm1 hi hlen1 hlv
    simp only [go_sem, hlen, cdD, cdN, gdT, gdF, gdD] at hlen1 hlv hi
    simp +contextual only [go_sem, hlen, hlen1, hlv, cdD, cdN, gdT, gdF, gdD]
    refine ⟨fun hlt => ?_, fun hge => ?_⟩
    · have hi2 : i < l.length := by omega
      have hwi : IntKind.i64.wrap ((i : Int) + 1) = ((i + 1 : Nat) : Int) := by rw [wrap_id (by omega)]; rfl
      have hat := hsl.at (List.getElem?_eq_getElem hi2)
      have hsu := linesN_succ hi2
      have he := hb _ (List.getElem_mem hi2)
      have hlN := linesN_len hb i
      generalize l[i] = e at hat hsu he
      have h1 := Lib.itoa_length_le e.at_ he.a0 he.a1
      have h2 := Lib.itoa_length_le e.cut he.c0 he.c1
      have h3 := quoteB_len e.new
      have hn := he.n
      have d1 := fun s => itoa_ok e.at_ he.a0 he.a1 s
      have d2 := fun s => itoa_ok e.cut he.c0 he.c1 s
      have d3 := fun s => quoteQ_ok e.new hn s
      have hK : lineE e = Lib.itoa e.at_ ++ [32] ++ Lib.itoa e.cut ++ [32] ++ quoteB e.new ++ [10] := rfl
      generalize Lib.itoa e.at_ = A at h1 d1 hK
      generalize Lib.itoa e.cut = B at h2 d2 hK
      generalize quoteB e.new = Q at h3 d3 hK
      rw [hK] at hsu
      generalize linesN l i = X at hsu hlN hlv
      have s1 : A.length + [(32 : UInt8)].length ≤ 9000000000000000000 := by simp; omega
      have s2 : (A ++ [32]).length + B.length ≤ 9000000000000000000 := by simp; omega
      have s3 : (A ++ [32] ++ B).length + [(32 : UInt8)].length ≤ 9000000000000000000 := by simp; omega
      have s4 : (A ++ [32] ++ B ++ [32]).length + Q.length ≤ 9000000000000000000 := by simp; omega
      have s5 : (A ++ [32] ++ B ++ [32] ++ Q).length + [(10 : UInt8)].length ≤ 9000000000000000000 := by simp; omega
      have s6 : X.length + (A ++ [32] ++ B ++ [32] ++ Q ++ [10]).length ≤ 9000000000000000000 := by simp; omega
      simp +contextual only [go_sem, hlen1, hlv, hat, cdD, cdN, gdT, gdF, gdD]
      refine ldrawB_go [] [] 15 (by decide) ?_
      simp +contextual only [go_sem, hlen1, hlv, cdD, cdN, gdT, gdF, gdD]
      refine ldfun_pure (.str A) d1 ?_
      simp +contextual only [go_sem, hlen1, hlv, Go.Am.abin_sadd s1, cdD, cdN, gdT, gdF, gdD]
      refine ldfun_pure (.str B) d2 ?_
      simp +contextual only [go_sem, hlen1, hlv, Go.Am.abin_sadd s2, Go.Am.abin_sadd s3, cdD, cdN, gdT, gdF, gdD]
      refine ldfun_pure (.str Q) d3 ?_
      simp +contextual only [go_sem, hlen1, hlv, Go.Am.abin_sadd s4, Go.Am.abin_sadd s5, Go.Am.abin_sadd s6, cdD, cdN, gdT, gdF, gdD]
      refine ⟨by kernel_rfl, ?_⟩
      simp +contextual only [go_sem, hlen1, hlv, hwi, Go.Am.abin_sadd s6, cdD, cdN, gdT, gdF, gdD]
      refine ⟨i + 1, by omega, by omega, ?_⟩
      refine To.go [] [] rfl (.refl s) (by decide) (by simp) ?_ trivial
      simp +contextual only [go_sem, hlen1, hlv, pu_ren hp, hsu, cdD, cdN, gdT, gdF, gdD]
    · have hie : i = l.length := by omega
      subst hie
      exact lexit_pure (.refl s) (by simp only [low]) ⟨by rw [linesN_all], rfl⟩
end Go.S1N
end
section
namespace Go.S1N
open Go Go.Am Go.Proofs Go.S1
set_option maxRecDepth 100000
attribute [local go_sem] Nat.reduceLT Nat.reduceEqDiff Nat.reduceAdd Nat.reduceLeDiff reduceIte reduceCtorEq
attribute [local irreducible] lopsB lvb lstepB lfunG lcondB lguardB lguardU ldguardU ldrawB ldrunB ldstepB ldguardB lmem lval ldmem ldval ldfun lexit ldloadB ldlenB lpostB athen ablock
theorem all_take {α : Type} {p : α → Prop} {l : List α} {i : Nat} (h : ∀ x ∈ l.take i, p x) (hi : i < l.length) (hp : p l[i]) : ∀ x ∈ l.take (i + 1), p x := by
  intro x hx
  rw [List.take_add_one, List.getElem?_eq_getElem hi, Option.toList_some, List.mem_append, List.mem_singleton] at hx
  rcases hx with hx | rfl
  · exact h x hx
  · exact hp
def EdR (e : Ed) : Prop := inR e.at_ ∧ inR e.cut
theorem EdR.b {e : Ed} (h : EdR e) (hn : e.new.length ≤ 100000) : EdB e := by
  obtain ⟨⟨h1, h2⟩, h3, h4⟩ := h
  exact ⟨by omega, by omega, by omega, by omega, hn⟩
theorem fault_one {l : List Ed} (h1 : ¬ 2000 < l.length) {i : Nat} (hi : i < l.length) (h : ¬ EdR l[i]) : linesFault l = 1 := by
  have : l.all (fun e => decide (inR e.at_) && decide (inR e.cut)) = false := by
    rw [List.all_eq_false]
    refine ⟨_, List.getElem_mem hi, ?_⟩
    intro hh
    simp only [Bool.and_eq_true, decide_eq_true_eq] at hh
    exact h hh
  rw [linesFault, if_neg h1, if_pos this]
theorem fault_rest {l : List Ed} (h1 : ¬ 2000 < l.length) (h : ∀ x ∈ l, EdR x) : linesFault l = if 20000 < (linesE l).length then 2 else 0 := by
  have : ¬ l.all (fun e => decide (inR e.at_) && decide (inR e.cut)) = false := by
    rw [Bool.not_eq_false, List.all_eq_true]
    intro x hx
    obtain ⟨h1, h2⟩ := h x hx
    simp [h1, h2]
  rw [linesFault, if_neg h1, if_neg this]
theorem fault_two {l : List Ed} (h1 : ¬ 2000 < l.length) (h : ∀ x ∈ l, EdR x) {i : Nat} (hi : i ≤ l.length) (hb : 20000 < (linesN l i).length) : linesFault l = 2 := by
  have := linesN_mono l i l.length hi
  rw [linesN_all] at this
  rw [fault_rest h1 h, if_pos (by omega)]
theorem editsFault_ok (l : List Ed) (hl : l.length ≤ 100000) (hn : ∀ e ∈ l, e.new.length ≤ 100000) (s : AHeap) : ACall Tryz.prog 16 [edv l] s fun v t => v = .int .i64 (linesFault l) ∧ t = s := by
  refine gob16 (by simp) ?_
  intro tm hlen harg
  have hsl := edv_sl l
  have hp := edv_pu l
  have out : ∀ {z : Int} {nn : Nat} {ll : List (Nat × Option AObj)}, linesFault l = z → lexit s (fun v t => v = .int .i64 (linesFault l) ∧ t = s) (some (.int .i64 z)) (loc s nn ll) := fun h => lexit_pure (.refl s) (by simp only [low]) ⟨by rw [h], rfl⟩
  simp +contextual only [go_sem, L16, hlen, harg, hsl.len, cdD, cdN, gdT, gdF, gdD]
  refine ⟨fun h2000 => out ?_, fun h2000 => ?_⟩
  · rw [linesFault, if_pos (by omega)]
  have h2000' : ¬ 2000 < l.length := by omega
  refine ⟨Nat, fun i => [(0, edv l), (11, edv l), (12, .int .i64 l.length), (13, .int .i64 i)], fun i => loc s 0 [], fun i => i ≤ l.length ∧ ∀ x ∈ l.take i, EdR x, fun i => l.length - i, 0, ⟨Nat.zero_le _, by simp⟩, ?_, ?_⟩
  · refine To.go [] [] rfl (.refl s) (by decide) (by simp) ?_ trivial
    simp +contextual only [go_sem, hlen, harg, pu_ren hp, cdD, cdN, gdT, gdF, gdD]
    simp
  · rintro i tm1 ⟨hi, ha⟩ hlen1 hlv
    simp only [go_sem, hlen, cdD, cdN, gdT, gdF, gdD] at hlen1 hlv hi
    simp +contextual only [go_sem, hlen, hlen1, hlv, hsl.len, cdD, cdN, gdT, gdF, gdD]
    refine ⟨fun hlt => ?_, fun hge => ?_⟩
    · have hi2 : i < l.length := by omega
      have hwi : IntKind.i64.wrap ((i : Int) + 1) = ((i + 1 : Nat) : Int) := by rw [wrap_id (by omega)]; rfl
      have hat := hsl.at (List.getElem?_eq_getElem hi2)
      simp +contextual only [go_sem, hlen1, hlv, hat, cdD, cdN, gdT, gdF, gdD]
      refine lfunG_eq (refin_ok _ _ _ _) ?_
      by_cases g1 : 0 ≤ l[i].at_ ∧ l[i].at_ ≤ 20000
      · simp +contextual only [go_sem, hlen1, hlv, g1, cdD, cdN, gdT, gdF, gdD]
        refine lfunG_eq (refin_ok _ _ _ _) ?_
        by_cases g2 : 0 ≤ l[i].cut ∧ l[i].cut ≤ 20000
        · simp +contextual only [go_sem, hlen1, hlv, g1, g2, hwi, cdD, cdN, gdT, gdF, gdD]
          refine ⟨i + 1, ⟨by omega, all_take ha hi2 ⟨g1, g2⟩⟩, by omega, ?_⟩
          refine To.go [] [] rfl (.refl s) (by decide) (by simp) ?_ trivial
          simp +contextual only [go_sem, hlen1, hlv, pu_ren hp, cdD, cdN, gdT, gdF, gdD]
        · simp +contextual only [go_sem, hlen1, hlv, g1, g2, cdD, cdN, gdT, gdF, gdD]
          exact out (fault_one h2000' hi2 fun h => g2 h.2)
      · simp +contextual only [go_sem, hlen1, hlv, g1, cdD, cdN, gdT, gdF, gdD]
        exact out (fault_one h2000' hi2 fun h => g1 h.1)
    · have hie : i = l.length := by omega
      subst hie
      rw [List.take_length] at ha
      have hb : ∀ e ∈ l, EdB e := fun e he => (ha e he).b (hn e he)
      refine ⟨Nat, fun i => [(5, .int .i64 ((linesN l i).length : Int)), (28, edv l), (29, .int .i64 l.length), (30, .int .i64 i)], fun i => loc s 0 [], fun i => i ≤ l.length ∧ (linesN l i).length ≤ 20000, fun i => l.length - i, 0, ⟨Nat.zero_le _, by simp [linesN, linesE]⟩, ?_, ?_⟩
      · refine To.go [] [] rfl (.refl s) (by decide) (by simp) ?_ trivial
        simp +contextual only [go_sem, hlen1, hlv, pu_ren hp, cdD, cdN, gdT, gdF, gdD]
        simp [linesN, linesE]
      · rintro i tm2 ⟨hi, h20⟩ hlen2 hlv2
        simp only [go_sem, hlen1, cdD, cdN, gdT, gdF, gdD] at hlen2 hlv2 hi h20
        simp +contextual only [go_sem, hlen1, hlen2, hlv2, cdD, cdN, gdT, gdF, gdD]
        refine ⟨fun hlt => ?_, fun hge => ?_⟩
        · have hi2 : i < l.length := by omega
          have hwi : IntKind.i64.wrap ((i : Int) + 1) = ((i + 1 : Nat) : Int) := by rw [wrap_id (by omega)]; rfl
          have hat := hsl.at (List.getElem?_eq_getElem hi2)
          have hsu := congrArg List.length (linesN_succ hi2)
          have he := hb _ (List.getElem_mem hi2)
          generalize l[i] = e at hat hsu he
          have h1 := Lib.itoa_length_le e.at_ he.a0 he.a1
          have h2 := Lib.itoa_length_le e.cut he.c0 he.c1
          have h3 := quoteB_len e.new
          have hn := he.n
          have d1 := fun s => itoa_ok e.at_ he.a0 he.a1 s
          have d2 := fun s => itoa_ok e.cut he.c0 he.c1 s
          have d3 := fun s => quoteQ_ok e.new hn s
          have hK : lineE e = Lib.itoa e.at_ ++ [32] ++ Lib.itoa e.cut ++ [32] ++ quoteB e.new ++ [10] := rfl
          generalize Lib.itoa e.at_ = A at h1 d1 hK
          generalize Lib.itoa e.cut = B at h2 d2 hK
          generalize quoteB e.new = Q at h3 d3 hK
          rw [hK] at hsu
          simp only [List.length_append, List.length_cons, List.length_nil] at hsu
          have w1 : IntKind.i64.wrap ((A.length : Int) + (B.length : Int)) = ((A.length + B.length : Nat) : Int) := by rw [wrap_id (by omega)]; rfl
          have w2 : IntKind.i64.wrap (((A.length + B.length : Nat) : Int) + (Q.length : Int)) = ((A.length + B.length + Q.length : Nat) : Int) := by rw [wrap_id (by omega)]; rfl
          have w3 : IntKind.i64.wrap (((A.length + B.length + Q.length : Nat) : Int) + 3) = ((A.length + B.length + Q.length + 3 : Nat) : Int) := by rw [wrap_id (by omega)]; rfl
          have w4 : IntKind.i64.wrap (((linesN l i).length : Int) + ((A.length + B.length + Q.length + 3 : Nat) : Int)) = ((linesN l (i + 1)).length : Int) := by rw [wrap_id (by omega)]; omega
          simp +contextual only [go_sem, hlen1, hlen2, hlv2, hat, cdD, cdN, gdT, gdF, gdD]
          refine ldrawB_go [] [] 16 (by decide) ?_
          simp +contextual only [go_sem, hlen1, hlen2, hlv2, cdD, cdN, gdT, gdF, gdD]
          refine ldfun_pure (.str A) d1 ?_
          simp +contextual only [go_sem, hlen1, hlen2, hlv2, cdD, cdN, gdT, gdF, gdD]
          refine ldfun_pure (.str B) d2 ?_
          simp +contextual only [go_sem, hlen1, hlen2, hlv2, w1, cdD, cdN, gdT, gdF, gdD]
          refine ldfun_pure (.str Q) d3 ?_
          simp +contextual only [go_sem, hlen1, hlen2, hlv2, w2, w3, w4, cdD, cdN, gdT, gdF, gdD]
          refine ⟨by kernel_rfl, ?_⟩
          simp +contextual only [go_sem, hlen1, hlen2, hlv2, w2, w3, w4, hwi, cdD, cdN, gdT, gdF, gdD]
          refine ⟨fun hbig => ?_, fun hsm => ?_⟩
          · exact out (fault_two h2000' ha (i := i + 1) (by omega) (by omega))
          · refine ⟨i + 1, ⟨by omega, by omega⟩, by omega, ?_⟩
            refine To.go [] [] rfl (.refl s) (by decide) (by simp) ?_ trivial
            simp +contextual only [go_sem, hlen1, hlen2, hlv2, pu_ren hp, cdD, cdN, gdT, gdF, gdD]
        · have hie : i = l.length := by omega
          subst hie
          rw [linesN_all] at h20
          exact out (by rw [fault_rest h2000' ha, if_neg (by omega)])
end Go.S1N
end
section
namespace Go.S1N
open Go Go.Am Go.Proofs Go.S1
set_option maxRecDepth 100000
attribute [local go_sem] Nat.reduceLT Nat.reduceEqDiff Nat.reduceAdd Nat.reduceLeDiff reduceIte reduceCtorEq
attribute [local irreducible] lopsB lvb lstepB lfunG lcondB lguardB lguardU ldguardU ldrawB ldrunB ldstepB ldguardB lmem lval ldmem ldval ldfun lexit ldloadB ldlenB lpostB athen ablock
theorem blen_ok {s : AHeap} {n k j : Nat} {l : List (Nat × Option AObj)} {p : AV} {x : List UInt8} (hk : lget l k = some (.cells [p, gsv 1 (nm s.nx j) x.length] (some 120))) (hn : ∀ i, n ≤ i → lget l i = none) :
    ACall Tryz.prog 88 [.ptr (nm s.nx k) 0] (loc s n l) fun v t => v = .int .i64 x.length ∧ t = loc s n l := by
  refine gob88 (by simp) ?_
  intro tm hlen harg
  have hal : alen tab 118 (gsv 1 (nm s.nx j) x.length) = some (.int .i64 x.length) := by
    unfold gsv
    split
    · rename_i h; simp [alen, ty118, h]
    · simp [alen, ty118]
  rw [loc_flat hn]
  simp +contextual only [go_sem, L88, hlen, harg, hk, hal, cdD, cdN, gdT, gdF, gdD]
  exact lexit_nw ⟨rfl, rfl⟩
def textVA (l : List Ed) : AV := .tuple [.str (textVal l).1, .int .i64 (textVal l).2]
theorem textVA_fault {l : List Ed} {z : Int} (h : linesFault l = z) (hz : z ≠ 0) : textVA l = .tuple [.str [], .int .i64 z] := by
  unfold textVA textVal
  rw [h, if_pos hz]
theorem text_ok (l : List Ed) (hl : l.length ≤ 100000) (hn : ∀ e ∈ l, e.new.length ≤ 100000) (s : AHeap) : ACall Tryz.prog 15 [edv l] s fun v t => v = textVA l ∧ t = s := by
  refine gob15 (by simp) ?_
  intro tm hlen harg
  have hsl := edv_sl l
  have hp := edv_pu l
  have out : ∀ {z : Int} {nn : Nat} {ll : List (Nat × Option AObj)}, z ≠ 0 → linesFault l = z → lexit s (fun v t => v = textVA l ∧ t = s) (some (.tuple [.str [], .int .i64 z])) (loc s nn ll) := fun hz h => lexit_pure (.refl s) (by simp only [low, lowL, and_self]) ⟨by rw [textVA_fault h hz], rfl⟩
  simp +contextual only [go_sem, L15, hlen, harg, hsl.len, cdD, cdN, gdT, gdF, gdD]
  refine ⟨fun h2000 => out (by decide) ?_, fun h2000 => ?_⟩
  · rw [linesFault, if_pos (by omega)]
  have h2000' : ¬ 2000 < l.length := by omega
  refine ⟨Nat, fun i => [(0, edv l), (12, edv l), (13, .int .i64 l.length), (14, .int .i64 i)], fun i => loc s 0 [], fun i => i ≤ l.length ∧ ∀ x ∈ l.take i, EdR x, fun i => l.length - i, 0, ⟨Nat.zero_le _, by simp⟩, ?_, ?_⟩
  · refine To.go [] [] rfl (.refl s) (by decide) (by simp) ?_ trivial
    simp +contextual only [go_sem, hlen, harg, pu_ren hp, cdD, cdN, gdT, gdF, gdD]
    simp
  · rintro i tm1 ⟨hi, ha⟩ hlen1 hlv
    simp only [go_sem, hlen, cdD, cdN, gdT, gdF, gdD] at hlen1 hlv hi
    simp +contextual only [go_sem, hlen, hlen1, hlv, hsl.len, cdD, cdN, gdT, gdF, gdD]
    refine ⟨fun hlt => ?_, fun hge => ?_⟩
    · have hi2 : i < l.length := by omega
      have hwi : IntKind.i64.wrap ((i : Int) + 1) = ((i + 1 : Nat) : Int) := by rw [wrap_id (by omega)]; rfl
      have hat := hsl.at (List.getElem?_eq_getElem hi2)
      simp +contextual only [go_sem, hlen1, hlv, hat, cdD, cdN, gdT, gdF, gdD]
      refine lfunG_eq (in_ok _ _ _ _) ?_
      by_cases g1 : 0 ≤ l[i].at_ ∧ l[i].at_ ≤ 20000
      · simp +contextual only [go_sem, hlen1, hlv, g1, cdD, cdN, gdT, gdF, gdD]
        refine lfunG_eq (in_ok _ _ _ _) ?_
        by_cases g2 : 0 ≤ l[i].cut ∧ l[i].cut ≤ 20000
        · simp +contextual only [go_sem, hlen1, hlv, g1, g2, hwi, cdD, cdN, gdT, gdF, gdD]
          refine ⟨i + 1, ⟨by omega, all_take ha hi2 ⟨g1, g2⟩⟩, by omega, ?_⟩
          refine To.go [] [] rfl (.refl s) (by decide) (by simp) ?_ trivial
          simp +contextual only [go_sem, hlen1, hlv, pu_ren hp, cdD, cdN, gdT, gdF, gdD]
        · simp +contextual only [go_sem, hlen1, hlv, g1, g2, cdD, cdN, gdT, gdF, gdD]
          exact out (by decide) (fault_one h2000' hi2 fun h => g2 h.2)
      · simp +contextual only [go_sem, hlen1, hlv, g1, cdD, cdN, gdT, gdF, gdD]
        exact out (by decide) (fault_one h2000' hi2 fun h => g1 h.1)
    · have hie : i = l.length := by omega
      subst hie
      rw [List.take_length] at ha
      have hb : ∀ e ∈ l, EdB e := fun e he => (ha e he).b (hn e he)
      refine ⟨Nat × Bool, fun x => [(6, .ptr (nm s.nx 0) 0), (29, edv l), (30, .int .i64 l.length), (31, .int .i64 x.1)],
        fun x => loc s 2 [(0, some (.cells [if x.2 then .ptr (nm s.nx 0) 0 else .nilp, gsv 1 (nm s.nx 1) (linesN l x.1).length] (some 120))), (1, gso 5 (S1.bytes (linesN l x.1)))],
        fun x => x.1 ≤ l.length ∧ (linesN l x.1).length ≤ 20000, fun x => l.length - x.1, (0, false), ⟨Nat.zero_le _, by simp [linesN, linesE]⟩, ?_, ?_⟩
      · refine To.go [0, 9] [(0, some (.cells [.nilp, .nils] (some 120))), (1, none)] (by simp only [linesN, linesE, List.take_zero, List.flatMap_nil]; rfl) (.refl s) (by decide) (by simp) ?_ ?_
        · simp +contextual only [go_sem, hlen1, hlv, pu_ren hp, cdD, cdN, gdT, gdF, gdD]
          simp
        · simp only [go_sem, cdD, cdN, gdT, gdF, gdD]
      · rintro ⟨i, c⟩ tm2 ⟨hi, h20⟩ hlen2 hlv2
        simp only [go_sem, hlen1, cdD, cdN, gdT, gdF, gdD] at hlen2 hlv2 hi h20
        have gone : ∀ (nn : Nat) (o1 o2 : Option AObj), ∀ j, 2 + nn ≤ j → lget [(0, o1), (1, o2)] j = none := by
          intro nn o1 o2 j hj; simp only [lget]; rw [if_neg (by omega), if_neg (by omega)]
        simp +contextual only [go_sem, hlen1, hlen2, hlv2, cdD, cdN, gdT, gdF, gdD]
        refine ⟨fun hlt => ?_, fun hge => ?_⟩
        · have hi2 : i < l.length := by omega
          have hwi : IntKind.i64.wrap ((i : Int) + 1) = ((i + 1 : Nat) : Int) := by rw [wrap_id (by omega)]; rfl
          have hat := hsl.at (List.getElem?_eq_getElem hi2)
          have hsu := linesN_succ hi2
          have he := hb _ (List.getElem_mem hi2)
          generalize l[i] = e at hat hsu he
          rw [lineE_K] at hsu
          have hkl := lineK_len he
          have hn := he.n
          simp +contextual only [go_sem, hlen1, hlen2, hlv2, hat, cdD, cdN, gdT, gdF, gdD]
          refine lfunG_eq (editLine_ok e he _) ?_
          generalize lineK e = w at hsu hkl
          simp +contextual only [go_sem, hlen1, hlen2, hlv2, Go.Am.abin_sadd (show w.length + [(10 : UInt8)].length ≤ 9000000000000000000 by simp; omega), cdD, cdN, gdT, gdF, gdD]
          refine lfunG_eq (bws_loc (s := s) (x := linesN l i) (w ++ [10]) (k := 0) (j := 1) (p := if c then .ptr (nm s.nx 0) 0 else .nilp) rfl (by cases c <;> simp) rfl (by decide) (by decide) (by intro j hj; simp only [lget]; rw [if_neg (by omega), if_neg (by omega), if_neg (by omega)]) (by simp) (by simp only [List.length_append, List.length_cons, List.length_nil]; omega)) ?_
          unfold bufN
          have hne : linesN l i ++ (w ++ [10]) ≠ [] := by simp
          have hlen9 : (linesN l (i + 1)).length = (linesN l i).length + (w ++ [10]).length := by rw [hsu, List.length_append]
          simp +contextual only [go_sem, hlen1, hlen2, hlv2, cdD, cdN, gdT, gdF, gdD]
          refine lfunG_eq (blen_ok (s := s) (x := linesN l (i + 1)) (p := .ptr (nm s.nx 0) 0) (k := 0) (j := 3) (by rw [hlen9, gsv_pos (by simp)]; rfl) (by intro j hj; simp only [lget]; rw [if_neg (by omega), if_neg (by omega), if_neg (by omega)])) ?_
          simp +contextual only [go_sem, hlen1, hlen2, hlv2, hwi, cdD, cdN, gdT, gdF, gdD]
          refine ⟨fun hbig => ?_, fun hsm => ?_⟩
          · exact out (by decide) (fault_two h2000' ha (i := i + 1) (by omega) (by omega))
          · refine ⟨(i + 1, true), ⟨by simp only; omega, by simp only; omega⟩, by simp only; omega, ?_⟩
            refine To.go [0, 3] _ rfl (.refl s) (by decide) (by simp) ?_ ?_
            · simp +contextual only [go_sem, hlen1, hlen2, hlv2, pu_ren hp, cdD, cdN, gdT, gdF, gdD]
            · simp only [go_sem, hlen9, map_gso_pu (bytes_pul _), cdD, cdN, gdT, gdF, gdD]
              rw [gsv_pos (by simp), hsu]; exact ⟨rfl, (gso_bytes_ne hne).symm⟩
        · have hie : i = l.length := by omega
          subst hie
          refine lfunG_eq (bstr_loc (s := s) (p := if c then .ptr (nm s.nx 0) 0 else .nilp) (x := linesN l l.length) (k := 0) (j := 1) rfl rfl (by omega)) ?_
          simp +contextual only [go_sem, hlen1, hlen2, hlv2, cdD, cdN, gdT, gdF, gdD]
          have hf : linesFault l = 0 := by rw [linesN_all] at h20; rw [fault_rest h2000' ha, if_neg (by omega)]
          exact lexit_pure (.refl s) (by simp only [low, lowL, and_self]) ⟨by rw [textVA, textVal, hf, linesN_all]; rfl, rfl⟩
end Go.S1N
end
section
namespace Go.S1N
open Go Go.Am Go.Proofs Go.S1
set_option maxRecDepth 100000
theorem ty154 : tab.ty 154 = some { td := .struct [(9, 0, true), (3, 1, true)], size := 2, bytes := 24, zero := .agg #[.string ⟨#[]⟩, .int .i64 0], eqok := false } := by kernel_rfl
theorem ty221 : tab.ty 221 = some { td := .struct [(9, 0, true), (3, 1, true), (4, 2, true)], size := 3, bytes := 32, zero := .agg #[.string ⟨#[]⟩, .int .i64 0, .bool false], eqok := false } := by kernel_rfl
@[go_sem] theorem fa154_0p {b o : Nat} : afieldAddr tab 154 (.ptr b o) 0 = some (.ptr b (o + 0)) := by simp [afieldAddr, ty154, Tab.size, ty9]
@[go_sem] theorem fa154_1p {b o : Nat} : afieldAddr tab 154 (.ptr b o) 1 = some (.ptr b (o + 1)) := by simp [afieldAddr, ty154, Tab.size, ty3]
@[go_sem] theorem bd154 {parts : List (Nat × AV)} : abuild tab 154 parts = if parts.any (·.2.israw) = true then none else (afill (fun i => ([(0, 1), (1, 1)] : List (Nat × Nat))[i]?) [.str [], .int .i64 0] parts).map .agg := abuild_struct ty154 rfl rfl (by simp [Tab.size, ty3, ty9])
@[go_sem] theorem fa221_0p {b o : Nat} : afieldAddr tab 221 (.ptr b o) 0 = some (.ptr b (o + 0)) := by simp [afieldAddr, ty221, Tab.size, ty9]
@[go_sem] theorem fa221_1p {b o : Nat} : afieldAddr tab 221 (.ptr b o) 1 = some (.ptr b (o + 1)) := by simp [afieldAddr, ty221, Tab.size, ty3]
@[go_sem] theorem fa221_2p {b o : Nat} : afieldAddr tab 221 (.ptr b o) 2 = some (.ptr b (o + 2)) := by simp [afieldAddr, ty221, Tab.size, ty4]
@[go_sem] theorem bd221 {parts : List (Nat × AV)} : abuild tab 221 parts = if parts.any (·.2.israw) = true then none else (afill (fun i => ([(0, 1), (1, 1), (2, 1)] : List (Nat × Nat))[i]?) [.str [], .int .i64 0, .bool false] parts).map .agg := abuild_struct ty221 rfl rfl (by simp [Tab.size, ty3, ty4, ty9])
end Go.S1N
end
section
namespace Go.S1N
open Go Go.Am Go.Proofs Go.S1
set_option maxRecDepth 100000
attribute [local go_sem] Nat.reduceLT Nat.reduceEqDiff Nat.reduceAdd Nat.reduceLeDiff reduceIte reduceCtorEq
attribute [local irreducible] lopsB lvb lstepB lfunG lcondB lguardB lguardU ldguardU ldrawB ldrunB ldstepB ldguardB lmem lval ldmem ldval ldfun lexit ldloadB ldlenB lpostB athen ablock
def rdr (S : List UInt8) (a : Nat) (bad : Bool) : AObj := .cells [.str S, .int .i64 a, .bool bad] (some 221)
theorem rdr_low {n : Nat} (S : List UInt8) (a : Nat) (bad : Bool) : lowO n (rdr S a bad) := by simp only [rdr, Am.lowO, lowL, low, and_true]
structure Rd (s : AHeap) (b : Nat) (S : List UInt8) (a : Nat) (bad : Bool) : Prop where
  lt : b < s.nx
  get : s.get b = some (rdr S a bad)
  len : S.length ≤ 1000000
  le : a ≤ S.length
theorem Rd.upd {s : AHeap} {b : Nat} {S : List UInt8} {a a' : Nat} {bad bad' : Bool} (h : Rd s b S a bad) (h1 : a' ≤ S.length) : Rd (s.upd b (rdr S a' bad')) b S a' bad' :=
  ⟨by rw [AHeap.nx_upd]; exact h.lt, get_upd_same, h.len, h1⟩
theorem Rd.loc {s : AHeap} {b : Nat} {S : List UInt8} {a : Nat} {bad : Bool} (h : Rd s b S a bad) {n : Nat} {l : List (Nat × Option AObj)} : Rd (loc s n l) b S a bad :=
  ⟨by rw [nx_loc]; exact lt_nm h.lt, by rw [get_loc_out h.lt]; exact h.get, h.len, h.le⟩
theorem loc_same {s : AHeap} {b : Nat} {o : AObj} {n : Nat} {l : List (Nat × Option AObj)} (h : s.get b = some o) : loc (s.upd b o) n l = loc s n l := by
  unfold loc
  rw [AHeap.nx_upd]
  congr 1
  funext m
  rw [AHeap.get_upd]
  by_cases e : m = b
  · subst e; rw [if_pos rfl, h]
  · rw [if_neg e]
def more (S : List UInt8) (a : Nat) (bad : Bool) : Bool := !bad && decide (a < S.length)
theorem more_ok {s : AHeap} {b : Nat} {S : List UInt8} {a : Nat} {bad : Bool} (h : Rd s b S a bad) : ACall Tryz.prog 191 [.ptr b 0] s fun v t => v = .bool (more S a bad) ∧ t = s := by
  refine gob191 (by simp) ?_
  intro tm hlen harg
  have hb := h.lt
  have hg := h.get
  rw [rdr] at hg
  simp +contextual only [go_sem, L191, hlen, harg, hb, hg, cdD, cdN, gdT, gdF, gdD]
  refine ldrawB_go [] [] 15 (by decide) ?_
  cases bad with
  | true =>
    simp +contextual only [go_sem, hlen, harg, hb, hg, cdD, cdN, gdT, gdF, gdD]
    refine ⟨by kernel_rfl, ?_⟩
    exact lexit_pure (.refl s) (by simp only [low]) ⟨rfl, rfl⟩
  | false =>
    simp +contextual only [go_sem, hlen, harg, hb, hg, cdD, cdN, gdT, gdF, gdD]
    refine ⟨by kernel_rfl, ?_⟩
    refine lexit_pure (.refl s) (by simp only [low]) ⟨?_, rfl⟩
    have : ((a : Int) < (S.length : Int)) = (a < S.length) := propext ⟨fun h => by omega, fun h => by omega⟩
    simp only [more, this, Bool.not_false, Bool.true_and]
def isAt (S : List UInt8) (a : Nat) (bad : Bool) (c : UInt8) : Bool := more S a bad && decide (S.getD a 0 = c)
theorem is_ok {s : AHeap} {b : Nat} {S : List UInt8} {a : Nat} {bad : Bool} (h : Rd s b S a bad) (c : UInt8) : ACall Tryz.prog 226 [.ptr b 0, .int .u8 c.toNat] s fun v t => v = .bool (isAt S a bad c) ∧ t = s := by
  refine gob226 (by simp) ?_
  intro tm hlen harg
  have hb := h.lt
  have hg := h.get
  rw [rdr] at hg
  simp +contextual only [go_sem, L226, hlen, harg, hb, hg, cdD, cdN, gdT, gdF, gdD]
  refine ldrawB_go [] [] 13 (by decide) ?_
  simp +contextual only [go_sem, hlen, harg, hb, hg, cdD, cdN, gdT, gdF, gdD]
  refine ldfun_eff (.bool (more S a bad)) _ (more_ok h.loc) ?_
  unfold isAt
  cases hm : more S a bad with
  | true =>
    have ha : a < S.length := by
      simp only [more, Bool.and_eq_true, decide_eq_true_eq] at hm; exact hm.2
    have he : ((S[a].toNat : Int) = (c.toNat : Int)) = (S.getD a 0 = c) := by
      rw [u8_eq, List.getD_eq_getElem?_getD, List.getElem?_eq_getElem ha]; rfl
    simp +contextual only [go_sem, hlen, harg, hb, hg, str_at ha, he, cdD, cdN, gdT, gdF, gdD]
    refine ⟨by kernel_rfl, ?_⟩
    exact lexit_pure (.refl s) (by simp only [low]) ⟨rfl, rfl⟩
  | false =>
    simp +contextual only [go_sem, hlen, harg, hb, hg, cdD, cdN, gdT, gdF, gdD]
    refine ⟨by kernel_rfl, ?_⟩
    exact lexit_pure (.refl s) (by simp only [low]) ⟨rfl, rfl⟩
theorem fail_ok {s : AHeap} {b : Nat} {S : List UInt8} {a : Nat} {bad : Bool} (h : Rd s b S a bad) : ACall Tryz.prog 193 [.ptr b 0] s fun v t => v = .tuple [] ∧ t = s.upd b (rdr S a true) := by
  refine gob193 (by simp) ?_
  intro tm hlen harg
  have hb := h.lt
  have hg := h.get
  rw [rdr] at hg
  simp +contextual only [go_sem, L193, hlen, harg, hb, hg, cdD, cdN, gdT, gdF, gdD]
  exact lexit_pure ((OKo.refl s).upd hb (rdr_low S a true)) (by simp only [low, lowL]) ⟨rfl, rfl⟩
def eatA (S : List UInt8) (a : Nat) (bad : Bool) (c : UInt8) : Nat := if isAt S a bad c then a + 1 else a
theorem eat_ok {s : AHeap} {b : Nat} {S : List UInt8} {a : Nat} {bad : Bool} (h : Rd s b S a bad) (c : UInt8) :
    ACall Tryz.prog 190 [.ptr b 0, .int .u8 c.toNat] s fun v t => v = .tuple [] ∧ t = s.upd b (rdr S (eatA S a bad c) (!isAt S a bad c)) := by
  refine gob190 (by simp) ?_
  intro tm hlen harg
  have hb := h.lt
  have hg := h.get
  rw [rdr] at hg
  have hlow := fun x y => rdr_low (n := s.nx) S x y
  cases bad with
  | true =>
    have hi : isAt S a true c = false := by simp [isAt, more]
    simp +contextual only [go_sem, L190, hlen, harg, hb, hg, cdD, cdN, gdT, gdF, gdD]
    rw [← loc_same h.get]
    exact lexit_pure ((OKo.refl s).upd hb (hlow _ _)) (by simp only [low, lowL]) ⟨rfl, by rw [eatA, hi]; rfl⟩
  | false =>
    simp +contextual only [go_sem, L190, hlen, harg, hb, hg, cdD, cdN, gdT, gdF, gdD]
    refine lfunG_eq (is_ok h.loc c) ?_
    unfold eatA
    cases hi : isAt S a false c with
    | true =>
      have hw : IntKind.i64.wrap ((a : Int) + 1) = ((a + 1 : Nat) : Int) := by rw [wrap_id (by have := h.len; have := h.le; omega)]; rfl
      simp +contextual only [go_sem, hlen, harg, hb, hg, hw, cdD, cdN, gdT, gdF, gdD]
      exact lexit_pure ((OKo.refl s).upd hb (hlow _ _)) (by simp only [low, lowL]) ⟨rfl, rfl⟩
    | false =>
      simp +contextual only [go_sem, hlen, harg, hb, hg, cdD, cdN, gdT, gdF, gdD]
      refine lfunG_eq (fail_ok h.loc) ?_
      simp +contextual only [go_sem, hlen, harg, hb, hg, cdD, cdN, gdT, gdF, gdD]
      exact lexit_pure ((OKo.refl s).upd hb (hlow _ _)) (by simp only [low, lowL]) ⟨rfl, rfl⟩
end Go.S1N
end
section
namespace Go.S1N
open Go Go.Am Go.Proofs Go.S1
set_option maxRecDepth 100000
attribute [local go_sem] Nat.reduceLT Nat.reduceEqDiff Nat.reduceAdd Nat.reduceLeDiff reduceIte reduceCtorEq
attribute [local irreducible] lopsB lvb lstepB lfunG lcondB lguardB lguardU ldguardU ldrawB ldrunB ldstepB ldguardB lmem lval ldmem ldval ldfun lexit ldloadB ldlenB lpostB athen ablock
def begunN (d : Nat) : Bool := (List.range 16).any fun k => !plainN (16 * d + k)
theorem u8_of {n : Nat} (h : n < 256) : (UInt8.ofNat n).toNat = n := by simp; omega
theorem wrapB {n : Int} (h0 : 0 ≤ n) (h1 : n < 256) : IntKind.u8.wrap n = n := by
  obtain ⟨m, rfl⟩ : ∃ m : Nat, n = m := ⟨n.toNat, by omega⟩
  have : ∀ m : Fin 256, IntKind.u8.wrap (m.val : Int) = (m.val : Int) := by decide +kernel
  exact this ⟨m, by omega⟩
theorem escapes1_ok (n v : Int) (hn : 0 ≤ n ∧ n < 16) (hv : 0 ≤ v ∧ v < 16) (s : AHeap) : ACall Tryz.prog 228 [.int .i64 n, .int .i64 v, .int .i64 1] s fun r t => r = .bool (!plainN (16 * n + v).toNat) ∧ t = s := by
  refine gob228 (by simp) ?_
  intro tm hlen harg
  have hw1 : IntKind.i64.wrap (16 * n) = 16 * n := wrap_id (by omega)
  have hw2 : IntKind.i64.wrap (16 * n + v) = 16 * n + v := wrap_id (by omega)
  have hw3 := wrapB (n := 16 * n + v) (by omega) (by omega)
  have hc : (16 * n + v) = ((UInt8.ofNat (16 * n + v).toNat).toNat : Int) := by rw [u8_of (by omega)]; omega
  simp +contextual only [go_sem, L228, hlen, harg, hw1, hw2, cdD, cdN, gdT, gdF, gdD]
  rw [lstepB_convert]
  refine lmem_eq (cv35 (n := 16 * n + v) (by simp only [go_sem, hlen, harg, cdD, cdN, gdT, gdF, gdD])) ?_
  rw [hw3, hc]
  simp +contextual only [go_sem, hlen, harg, cdD, cdN, gdT, gdF, gdD]
  refine lfunG_eq (plain_ok _ _) ?_
  simp +contextual only [go_sem, hlen, harg, aun, cdD, cdN, gdT, gdF, gdD]
  refine lexit_pure (.refl s) (by simp only [low]) ⟨?_, rfl⟩
  rw [plainC, u8_of (by omega), Int.toNat_natCast]
theorem i01 : ((0 : Int) = 1) = False := by simp
theorem escapes0_ok (n v : Int) (hv : 0 ≤ v ∧ v < 16) (s : AHeap) : ACall Tryz.prog 228 [.int .i64 n, .int .i64 v, .int .i64 0] s fun r t => r = .bool (begunN v.toNat) ∧ t = s := by
  obtain ⟨d, rfl⟩ : ∃ d : Nat, v = d := ⟨v.toNat, by omega⟩
  refine gob228 (by simp) ?_
  intro tm hlen harg
  have hw1 : IntKind.i64.wrap (16 * (d : Int)) = 16 * (d : Int) := wrap_id (by omega)
  simp +contextual only [go_sem, L228, hlen, harg, hw1, i01, cdD, cdN, gdT, gdF, gdD]
  refine ⟨Nat, fun i => [(1, .int .i64 (d : Int)), (17, .int .i64 i)], fun i => loc s 0 [], fun i => i ≤ 16 ∧ ∀ k, k < i → plainN (16 * d + k) = true, fun i => 16 - i, 0, by simp, ?_, ?_⟩
  · refine To.go [] [] rfl (.refl s) (by decide) (by simp) ?_ trivial
    simp +contextual only [go_sem, hlen, harg, cdD, cdN, gdT, gdF, gdD]
    simp
  · rintro i tm1 ⟨hi, ha⟩ hlen1 hlv
    simp only [go_sem, hlen, cdD, cdN, gdT, gdF, gdD] at hlen1 hlv hi
    have hw2 : IntKind.i64.wrap (16 * (d : Int) + (i : Int)) = 16 * (d : Int) + i := wrap_id (by omega)
    have hwi : IntKind.i64.wrap ((i : Int) + 1) = ((i + 1 : Nat) : Int) := by rw [wrap_id (by omega)]; rfl
    simp +contextual only [go_sem, hlen, hlen1, hlv, hw1, hw2, cdD, cdN, gdT, gdF, gdD]
    refine ⟨fun hlt => ?_, fun hge => ?_⟩
    · rw [lstepB_convert]
      refine lmem_eq (cv35 (n := 16 * (d : Int) + i) (by simp only [go_sem, hlen, hlen1, hlv, cdD, cdN, gdT, gdF, gdD])) ?_
      have hc : (16 * (d : Int) + i) = ((UInt8.ofNat (16 * d + i)).toNat : Int) := by rw [u8_of (by omega)]; omega
      rw [wrapB (by omega) (by omega), hc]
      simp +contextual only [go_sem, hlen1, hlv, cdD, cdN, gdT, gdF, gdD]
      refine lfunG_eq (plain_ok _ _) ?_
      have hp : plainC (UInt8.ofNat (16 * d + i)) = plainN (16 * d + i) := by rw [plainC, u8_of (by omega)]
      rw [hp]
      cases h : plainN (16 * d + i) with
      | true =>
        simp +contextual only [go_sem, hlen1, hlv, hwi, cdD, cdN, gdT, gdF, gdD]
        refine ⟨i + 1, ⟨by omega, fun k hk => ?_⟩, by omega, ?_⟩
        · rcases Nat.lt_or_ge k i with q | q
          · exact ha k q
          · rw [show k = i from by omega]; exact h
        · refine To.go [] [] rfl (.refl s) (by decide) (by simp) ?_ trivial
          simp +contextual only [go_sem, hlen1, hlv, cdD, cdN, gdT, gdF, gdD]
      | false =>
        simp +contextual only [go_sem, hlen1, hlv, cdD, cdN, gdT, gdF, gdD]
        refine lexit_pure (.refl s) (by simp only [low]) ⟨?_, rfl⟩
        have : begunN d = true := by
          rw [begunN, List.any_eq_true]
          exact ⟨i, List.mem_range.2 (by omega), by rw [h]; rfl⟩
        rw [show ((d : Int)).toNat = d from rfl, this]
    · refine lexit_pure (.refl s) (by simp only [low]) ⟨?_, rfl⟩
      have : begunN d = false := by
        rw [begunN, List.any_eq_false]
        intro k hk
        have := ha k (by have := List.mem_range.1 hk; omega)
        simp [this]
      rw [show ((d : Int)).toNat = d from rfl, this]
theorem begun_of {h l : UInt8} {e : UInt8} (he : escB h l = some e) : 0 ≤ hexV h ∧ 0 ≤ hexV l ∧ plainN (16 * hexV h + hexV l).toNat = false ∧ e = UInt8.ofNat (16 * hexV h + hexV l).toNat ∧ begunN (hexV h).toNat = true := by
  unfold escB at he
  split at he
  · rename_i hc
    obtain ⟨h1, h2, h3⟩ := hc
    cases he
    refine ⟨h1, h2, h3, rfl, ?_⟩
    have := hexV_lt l
    rw [begunN, List.any_eq_true]
    refine ⟨(hexV l).toNat, List.mem_range.2 (by omega), ?_⟩
    rw [show 16 * (hexV h).toNat + (hexV l).toNat = (16 * hexV h + hexV l).toNat from by omega, h3]; rfl
  · cases he
def escAt (S : List UInt8) (a : Nat) : Option UInt8 := match S.drop a with
  | h :: l :: _ => escB h l
  | _ => none
theorem escAt_two {S : List UInt8} {a : Nat} (h : a + 1 < S.length) : escAt S a = escB (S.getD a 0) (S.getD (a + 1) 0) := by
  have d1 : S.drop a = S[a]'(by omega) :: S.drop (a + 1) := List.drop_eq_getElem_cons (by omega)
  have d2 : S.drop (a + 1) = S[a + 1] :: S.drop (a + 1 + 1) := List.drop_eq_getElem_cons h
  unfold escAt
  rw [d1, d2]
  simp only [List.getD_eq_getElem?_getD]
  rw [List.getElem?_eq_getElem h, List.getElem?_eq_getElem (show a < S.length by omega)]; rfl
theorem escAt_short {S : List UInt8} {a : Nat} (h : S.length ≤ a + 1) : escAt S a = none := by
  unfold escAt
  have : (S.drop a).length ≤ 1 := by rw [List.length_drop]; omega
  generalize S.drop a = r at this
  match r, this with
  | [], _ => rfl
  | [x], _ => rfl
def escN (S : List UInt8) (a : Nat) : Nat → Int
  | 0 => 0
  | 1 => hexV (S.getD a 0)
  | _ => 16 * hexV (S.getD a 0) + hexV (S.getD (a + 1) 0)
structure EscI (S : List UInt8) (a k : Nat) : Prop where
  le : k ≤ 2
  one : 1 ≤ k → a < S.length ∧ 0 ≤ hexV (S.getD a 0) ∧ begunN (hexV (S.getD a 0)).toNat = true
  two : 2 ≤ k → a + 1 < S.length ∧ 0 ≤ hexV (S.getD (a + 1) 0) ∧ plainN (16 * hexV (S.getD a 0) + hexV (S.getD (a + 1) 0)).toNat = false
theorem EscI.done {S : List UInt8} {a : Nat} (h : EscI S a 2) : a + 2 ≤ S.length ∧ escAt S a = some (UInt8.ofNat (escN S a 2).toNat) ∧ 0 ≤ escN S a 2 ∧ escN S a 2 < 256 := by
  obtain ⟨h1, h2, h3⟩ := h.one (by omega)
  obtain ⟨h4, h5, h6⟩ := h.two (by omega)
  have g1 := hexV_lt (S.getD a 0)
  have g2 := hexV_lt (S.getD (a + 1) 0)
  refine ⟨by omega, ?_, ?_, ?_⟩
  · rw [escAt_two h4, escB, if_pos ⟨h2, h5, h6⟩]; rfl
  · simp only [escN]; omega
  · simp only [escN]; omega
end Go.S1N
end
section
namespace Go.S1N
open Go Go.Am Go.Proofs Go.S1
set_option maxRecDepth 100000
attribute [local go_sem] Nat.reduceLT Nat.reduceEqDiff Nat.reduceAdd Nat.reduceLeDiff reduceIte reduceCtorEq
attribute [local irreducible] lopsB lvb lstepB lfunG lcondB lguardB lguardU ldguardU ldrawB ldrunB ldstepB ldguardB lmem lval ldmem ldval ldfun lexit ldloadB ldlenB lpostB athen ablock
def EscR (S : List UInt8) (a b : Nat) (s : AHeap) (v : AV) (t : AHeap) : Prop :=
  (∃ e, escAt S a = some e ∧ v = .int .u8 e.toNat ∧ a + 2 ≤ S.length ∧ t = s.upd b (rdr S (a + 2) false)) ∨
  (escAt S a = none ∧ v = .int .u8 0 ∧ ∃ a', a ≤ a' ∧ a' ≤ S.length ∧ t = s.upd b (rdr S a' true))
theorem escaped_ok {s : AHeap} {b : Nat} {S : List UInt8} {a : Nat} (h : Rd s b S a false) : ACall Tryz.prog 192 [.ptr b 0] s (EscR S a b s) := by
  refine gob192 (by simp) ?_
  intro tm hlen harg
  have hb := h.lt
  have hg := h.get
  have hle := h.le
  have hln := h.len
  have hlow := fun x y => rdr_low (n := s.nx) S x y
  simp +contextual only [go_sem, L192, hlen, harg, cdD, cdN, gdT, gdF, gdD]
  refine ⟨Nat, fun k => [(0, .ptr b 0), (3, .int .i64 (escN S a k)), (6, .int .i64 k)], fun k => loc (s.upd b (rdr S (a + k) false)) 0 [], fun k => EscI S a k, fun k => 2 - k, 0, ⟨by omega, fun h => by omega, fun h => by omega⟩, ?_, ?_⟩
  · refine To.go [] [] (loc_same h.get) (.refl s) (by decide) (by simp) ?_ trivial
    simp +contextual only [go_sem, hlen, harg, rnm_low hb, cdD, cdN, gdT, gdF, gdD]
    simp [escN]
  · rintro k tm1 hI hlen1 hlv
    simp only [go_sem, hlen, cdD, cdN, gdT, gdF, gdD] at hlen1 hlv
    have c02 : ((0 : Nat) : Int) < 2 := by decide
    have c12 : ((1 : Nat) : Int) < 2 := by decide
    have c22 : ¬ ((2 : Nat) : Int) < 2 := by decide
    have c01 : IntKind.i64.wrap (((0 : Nat) : Int) + 1) = ((1 : Nat) : Int) := by decide
    have c11 : IntKind.i64.wrap (((1 : Nat) : Int) + 1) = ((2 : Nat) : Int) := by decide
    rcases k with _ | _ | _ | k
    · simp +contextual only [go_sem, hlen, hlen1, hlv, c02, c12, cdD, cdN, gdT, gdF, gdD]
      refine lfunG_eq (more_ok ((h.upd (a' := a) (by omega)).loc)) ?_
      have hR := (h.upd (bad' := false) (a' := a) (by omega)).get
      rw [rdr] at hR
      by_cases hm : a < S.length
      · have hmore : more S a false = true := by simp [more, hm]
        rw [hmore]
        have hsd : S[a] = S.getD a 0 := by rw [List.getD_eq_getElem?_getD, List.getElem?_eq_getElem hm]; rfl
        simp +contextual only [go_sem, hlen1, hlv, cdD, cdN, gdT, gdF, gdD]
        refine ldrawB_go [] [] 8 (by decide) ?_
        simp +contextual only [go_sem, hlen1, hlv, hb, hR, rdr, str_at hm, hsd, cdD, cdN, gdT, gdF, gdD]
        refine ⟨by kernel_rfl, ?_⟩
        refine lfunG_eq (hexV_ok _ _) ?_
        have hr := hexV_lt (S.getD a 0)
        by_cases hv : hexV (S.getD a 0) < 0
        · simp +contextual only [go_sem, hlen1, hlv, hb, hv, cdD, cdN, gdT, gdF, gdD]
          refine lfunG_eq (fail_ok ((h.upd (bad' := false) (a' := a) (by omega)).loc)) ?_
          simp +contextual only [go_sem, hlen1, hlv, hb, cdD, cdN, gdT, gdF, gdD]
          refine lexit_pure ((OKo.refl s).upd hb (hlow _ _)) (by simp only [low]) (.inr ⟨?_, rfl, a, by omega, by omega, rfl⟩)
          rcases Nat.lt_or_ge (a + 1) S.length with q | q
          · rw [escAt_two q]
            cases he : escB (S.getD a 0) (S.getD (a + 1) 0) with
            | none => rfl
            | some e =>
              obtain ⟨g1, g2, g3, g4, g5⟩ := begun_of he
              omega
          · exact escAt_short q
        · have hv0 : 0 ≤ hexV (S.getD a 0) := by omega
          simp +contextual only [go_sem, hlen1, hlv, hb, hv, cdD, cdN, gdT, gdF, gdD]
          refine lfunG_eq (escapes0_ok _ _ ⟨hv0, hr.2⟩ _) ?_
          cases hbg : begunN (hexV (S.getD a 0)).toNat
          · simp +contextual only [go_sem, hlen1, hlv, hb, cdD, cdN, gdT, gdF, gdD]
            refine lfunG_eq (fail_ok ((h.upd (bad' := false) (a' := a) (by omega)).loc)) ?_
            simp +contextual only [go_sem, hlen1, hlv, hb, cdD, cdN, gdT, gdF, gdD]
            refine lexit_pure ((OKo.refl s).upd hb (hlow _ _)) (by simp only [low]) (.inr ⟨?_, rfl, a, by omega, by omega, rfl⟩)
            rcases Nat.lt_or_ge (a + 1) S.length with q | q
            · rw [escAt_two q]
              cases he : escB (S.getD a 0) (S.getD (a + 1) 0) with
              | none => rfl
              | some e =>
                obtain ⟨g1, g2, g3, g4, g5⟩ := begun_of he
                rw [hbg] at g5; cases g5
            · exact escAt_short q
          · have hwa : IntKind.i64.wrap (((a : Nat) : Int) + 1) = ((a + 1 : Nat) : Int) := by rw [wrap_id (by omega)]; rfl
            have hwn : IntKind.i64.wrap (IntKind.i64.wrap (16 * escN S a 0) + hexV (S.getD a 0)) = escN S a (0 + 1) := by
              rw [show escN S a 0 = 0 from rfl]
              show IntKind.i64.wrap (IntKind.i64.wrap (16 * 0) + hexV (S.getD a 0)) = hexV (S.getD a 0)
              rw [wrap_id (n := 16 * 0) (by omega), wrap_id (by omega)]; omega
            simp +contextual only [go_sem, hlen1, hlv, hb, hR, rdr, c01, c11, hwa, hwn, cdD, cdN, gdT, gdF, gdD]
            refine ⟨0 + 1, ⟨by omega, fun _ => ⟨hm, hv0, hbg⟩, fun h => by omega⟩, by omega, ?_⟩
            refine To.go [] [] rfl ((OKo.refl s).upd hb (hlow _ _)) (by decide) (by simp) ?_ trivial
            simp +contextual only [go_sem, hlen1, hlv, rnm_low hb, cdD, cdN, gdT, gdF, gdD]
      · have hmore : more S a false = false := by simp [more, hm]
        rw [hmore]
        have hv : (-1 : Int) < 0 := by decide
        simp +contextual only [go_sem, hlen1, hlv, hv, cdD, cdN, gdT, gdF, gdD]
        refine lfunG_eq (fail_ok ((h.upd (bad' := false) (a' := a) (by omega)).loc)) ?_
        simp +contextual only [go_sem, hlen1, hlv, hb, cdD, cdN, gdT, gdF, gdD]
        exact lexit_pure ((OKo.refl s).upd hb (hlow _ _)) (by simp only [low]) (.inr ⟨escAt_short (by omega), rfl, a, by omega, by omega, rfl⟩)
    · obtain ⟨ho1, ho2, ho3⟩ := hI.one (by omega)
      have hr1 := hexV_lt (S.getD a 0)
      simp +contextual only [go_sem, hlen, hlen1, hlv, c02, c12, cdD, cdN, gdT, gdF, gdD]
      refine lfunG_eq (more_ok ((h.upd (a' := (a + 1)) (by omega)).loc)) ?_
      have hR := (h.upd (bad' := false) (a' := (a + 1)) (by omega)).get
      rw [rdr] at hR
      by_cases hm : (a + 1) < S.length
      · have hmore : more S (a + 1) false = true := by simp [more, hm]
        rw [hmore]
        have hsd : S[(a + 1)] = S.getD (a + 1) 0 := by rw [List.getD_eq_getElem?_getD, List.getElem?_eq_getElem hm]; rfl
        simp +contextual only [go_sem, hlen1, hlv, cdD, cdN, gdT, gdF, gdD]
        refine ldrawB_go [] [] 8 (by decide) ?_
        simp +contextual only [go_sem, hlen1, hlv, hb, hR, rdr, str_at hm, hsd, cdD, cdN, gdT, gdF, gdD]
        refine ⟨by kernel_rfl, ?_⟩
        refine lfunG_eq (hexV_ok _ _) ?_
        have hr := hexV_lt (S.getD (a + 1) 0)
        by_cases hv : hexV (S.getD (a + 1) 0) < 0
        · simp +contextual only [go_sem, hlen1, hlv, hb, hv, cdD, cdN, gdT, gdF, gdD]
          refine lfunG_eq (fail_ok ((h.upd (bad' := false) (a' := (a + 1)) (by omega)).loc)) ?_
          simp +contextual only [go_sem, hlen1, hlv, hb, cdD, cdN, gdT, gdF, gdD]
          refine lexit_pure ((OKo.refl s).upd hb (hlow _ _)) (by simp only [low]) (.inr ⟨?_, rfl, (a + 1), by omega, by omega, rfl⟩)
          rw [escAt_two (by omega)]
          cases he : escB (S.getD a 0) (S.getD (a + 1) 0) with
          | none => rfl
          | some e =>
            obtain ⟨g1, g2, g3, g4, g5⟩ := begun_of he
            omega
        · have hv0 : 0 ≤ hexV (S.getD (a + 1) 0) := by omega
          simp +contextual only [go_sem, hlen1, hlv, hb, hv, cdD, cdN, gdT, gdF, gdD]
          rw [show escN S a 1 = hexV (S.getD a 0) from rfl]
          refine lfunG_eq (escapes1_ok _ _ ⟨ho2, hr1.2⟩ ⟨hv0, hr.2⟩ _) ?_
          cases hbg : plainN (16 * hexV (S.getD a 0) + hexV (S.getD (a + 1) 0)).toNat
          rotate_left
          · simp +contextual only [go_sem, hlen1, hlv, hb, Bool.not_true, Bool.not_false, cdD, cdN, gdT, gdF, gdD]
            refine lfunG_eq (fail_ok ((h.upd (bad' := false) (a' := (a + 1)) (by omega)).loc)) ?_
            simp +contextual only [go_sem, hlen1, hlv, hb, Bool.not_true, Bool.not_false, cdD, cdN, gdT, gdF, gdD]
            refine lexit_pure ((OKo.refl s).upd hb (hlow _ _)) (by simp only [low]) (.inr ⟨?_, rfl, (a + 1), by omega, by omega, rfl⟩)
            rw [escAt_two (by omega)]
            cases he : escB (S.getD a 0) (S.getD (a + 1) 0) with
            | none => rfl
            | some e =>
              obtain ⟨g1, g2, g3, g4, g5⟩ := begun_of he
              rw [hbg] at g3; cases g3
          · have hwa : IntKind.i64.wrap ((((a + 1) : Nat) : Int) + 1) = (((a + 1) + 1 : Nat) : Int) := by rw [wrap_id (by omega)]; rfl
            have hwn : IntKind.i64.wrap (IntKind.i64.wrap (16 * escN S a 1) + hexV (S.getD (a + 1) 0)) = escN S a (1 + 1) := by
              rw [show escN S a 1 = hexV (S.getD a 0) from rfl]
              show IntKind.i64.wrap (IntKind.i64.wrap (16 * hexV (S.getD a 0)) + hexV (S.getD (a + 1) 0)) = 16 * hexV (S.getD a 0) + hexV (S.getD (a + 1) 0)
              rw [wrap_id (n := 16 * hexV (S.getD a 0)) (by omega), wrap_id (by omega)]
            simp +contextual only [go_sem, hlen1, hlv, hb, hR, rdr, c01, c11, hwa, hwn, Bool.not_true, Bool.not_false, cdD, cdN, gdT, gdF, gdD]
            refine ⟨1 + 1, ⟨by omega, fun _ => hI.one (by omega), fun _ => ⟨hm, hv0, hbg⟩⟩, by omega, ?_⟩
            refine To.go [] [] rfl ((OKo.refl s).upd hb (hlow _ _)) (by decide) (by simp) ?_ trivial
            simp +contextual only [go_sem, hlen1, hlv, rnm_low hb, cdD, cdN, gdT, gdF, gdD]
      · have hmore : more S (a + 1) false = false := by simp [more, hm]
        rw [hmore]
        have hv : (-1 : Int) < 0 := by decide
        simp +contextual only [go_sem, hlen1, hlv, hv, cdD, cdN, gdT, gdF, gdD]
        refine lfunG_eq (fail_ok ((h.upd (bad' := false) (a' := (a + 1)) (by omega)).loc)) ?_
        simp +contextual only [go_sem, hlen1, hlv, hb, Bool.not_true, Bool.not_false, cdD, cdN, gdT, gdF, gdD]
        exact lexit_pure ((OKo.refl s).upd hb (hlow _ _)) (by simp only [low]) (.inr ⟨escAt_short (by omega), rfl, (a + 1), by omega, by omega, rfl⟩)
    · obtain ⟨e1, e2, e3, e4⟩ := hI.done
      simp +contextual only [go_sem, hlen, hlen1, hlv, c22, cdD, cdN, gdT, gdF, gdD]
      rw [lstepB_convert]
      refine lmem_eq (cv35 (n := escN S a 2) (by simp only [go_sem, hlen1, hlv, cdD, cdN, gdT, gdF, gdD])) ?_
      rw [wrapB e3 e4]
      simp +contextual only [go_sem, hlen1, hlv, cdD, cdN, gdT, gdF, gdD]
      refine lexit_pure ((OKo.refl s).upd hb (hlow _ _)) (by simp only [low]) (.inl ⟨_, e2, ?_, e1, rfl⟩)
      rw [u8_of (by omega)]
      congr 1
      omega
    · have := hI.le; omega
end Go.S1N
end
section
namespace Go.S1N
open Go Go.Am Go.Proofs Go.S1
set_option maxRecDepth 100000
def qAll (S : List UInt8) : Option (List UInt8 × List UInt8) := match S with
  | c :: r => if c = 34 then qs r else none
  | [] => none
theorem quoteP_all (S : List UInt8) : quoteP S = match qAll S with
    | some (t, []) => some t
    | _ => none := by
  cases S with
  | nil => rfl
  | cons c r =>
    by_cases h : c = 34
    · have e : qAll (c :: r) = qs r := if_pos h
      rw [e]
      exact if_pos h
    · have e : qAll (c :: r) = none := if_neg h
      rw [e]
      exact if_neg h
theorem qs_end {S : List UInt8} {i : Nat} (h : S.length ≤ i) : qs (S.drop i) = none := by rw [List.drop_of_length_le h, qs_nil]
theorem qs_at {S : List UInt8} {i : Nat} (h : i < S.length) : S.drop i = S.getD i 0 :: S.drop (i + 1) := by
  rw [List.drop_eq_getElem_cons h, List.getD_eq_getElem?_getD, List.getElem?_eq_getElem h]; rfl
theorem qs_quote {S : List UInt8} {i : Nat} (h : i < S.length) (hc : S.getD i 0 = 34) : qs (S.drop i) = some ([], S.drop (i + 1)) := by
  rw [qs_at h, qs_cons, if_pos hc]
theorem qs_plain {S : List UInt8} {i : Nat} (h : i < S.length) (hp : plainC (S.getD i 0) = true) : qs (S.drop i) = (qs (S.drop (i + 1))).map fun x => (S.getD i 0 :: x.1, x.2) := by
  have hc : S.getD i 0 ≠ 34 := by intro e; rw [e] at hp; cases hp
  rw [qs_at h, qs_cons, if_neg hc, if_pos hp]
theorem escT_at (S : List UInt8) (a : Nat) : escT (S.drop a) = (escAt S a).map fun e => (e, S.drop (a + 2)) := by
  rcases Nat.lt_or_ge (a + 1) S.length with q | q
  · rw [escAt_two q, qs_at (show a < S.length by omega), qs_at q, escT]
  · rw [escAt_short q]
    have : (S.drop a).length ≤ 1 := by rw [List.length_drop]; omega
    generalize S.drop a = r at this
    match r, this with
    | [], _ => rfl
    | [x], _ => rfl
theorem qs_esc {S : List UInt8} {i : Nat} (h : i < S.length) (hc : S.getD i 0 = 92) {e : UInt8} (he : escAt S (i + 1) = some e) : qs (S.drop i) = (qs (S.drop (i + 3))).map fun x => (e :: x.1, x.2) := by
  have hp : plainC (92 : UInt8) = false := by decide
  rw [qs_at h, qs_cons, hc, if_neg (by decide), hp, if_neg (by decide), if_pos rfl, escT_at, he]
  rfl
theorem qs_esc_none {S : List UInt8} {i : Nat} (h : i < S.length) (hc : S.getD i 0 = 92) (he : escAt S (i + 1) = none) : qs (S.drop i) = none := by
  have hp : plainC (92 : UInt8) = false := by decide
  rw [qs_at h, qs_cons, hc, if_neg (by decide), hp, if_neg (by decide), if_pos rfl, escT_at, he]
  rfl
theorem qs_bad {S : List UInt8} {i : Nat} (h : i < S.length) (h1 : S.getD i 0 ≠ 34) (h2 : plainC (S.getD i 0) = false) (h3 : S.getD i 0 ≠ 92) : qs (S.drop i) = none := by
  rw [qs_at h, qs_cons, if_neg h1, h2, if_neg (by decide), if_neg h3]
structure QI (S acc : List UInt8) (i : Nat) (bad : Bool) : Prop where
  le : i ≤ S.length
  al : acc.length ≤ i
  good : bad = false → qAll S = (qs (S.drop i)).map fun x => (acc ++ x.1, x.2)
  bad_ : bad = true → qAll S = none
theorem QI.plain {S acc : List UInt8} {i : Nat} (h : QI S acc i false) (hi : i < S.length) (hp : plainC (S.getD i 0) = true) : QI S (acc ++ [S.getD i 0]) (i + 1) false :=
  ⟨by omega, (by have := h.al; simp; omega), fun _ => (by rw [h.good rfl, qs_plain hi hp]; cases qs (S.drop (i + 1)) <;> simp), fun h => by cases h⟩
theorem QI.esc {S acc : List UInt8} {i : Nat} (h : QI S acc i false) (hi : i < S.length) (hc : S.getD i 0 = 92) {e : UInt8} (he : escAt S (i + 1) = some e) (h3 : i + 3 ≤ S.length) : QI S (acc ++ [e]) (i + 3) false :=
  ⟨h3, (by have := h.al; simp; omega), fun _ => (by rw [h.good rfl, qs_esc hi hc he]; cases qs (S.drop (i + 3)) <;> simp), fun h => by cases h⟩
theorem QI.spoil {S acc : List UInt8} {i : Nat} (h : QI S acc i false) (hq : qs (S.drop i) = none) {acc' : List UInt8} {i' : Nat} (h1 : i' ≤ S.length) (h2 : acc'.length ≤ i') : QI S acc' i' true :=
  ⟨h1, h2, fun h => (by cases h), fun _ => by rw [h.good rfl, hq]; rfl⟩
end Go.S1N
end
section
namespace Go.S1N
open Go Go.Am Go.Proofs Go.S1
set_option maxRecDepth 100000
theorem abytes_bytes : ∀ l : List UInt8, abytes (S1.bytes l) = some l
  | [] => rfl
  | a :: l => by
    show abytes (.int .u8 a.toNat :: S1.bytes l) = _
    simp only [abytes, abytes_bytes l, Option.map_some]
    simp
theorem cvS {ev : Operand → AV} {x : Operand} {s : AHeap} {n k : Nat} {l : List (Nat × Option AObj)} {acc : List UInt8} {mm : Nat} (hmm : s.nx = mm) (hx : ev x = gsv 1 (nm mm k) acc.length) (hk : lget l k = gso 5 (S1.bytes acc)) :
    lop tab ev (.convert 118 9 x) (loc s n l) = some (.str acc, loc s n l) := by
  subst hmm
  cases acc with
  | nil =>
    rw [List.length_nil, gsv_zero] at hx
    simp [lop, aop, apure, aconv, amem, ty118, ty9, ty5, hx, acellsOf, abytes]
  | cons a r =>
    rw [gsv_pos (by simp)] at hx
    rw [gso_bytes_ne (by simp)] at hk
    have h1 : acellsOf (loc s n l) 1 (.rs 1 (nm s.nx k) 0 (a :: r).length) = some (S1.bytes (a :: r), (a :: r).length) := acellsOf_rs hk (by rw [bytes_len]; omega) rfl
    simp [lop, aop, apure, aconv, amem, ty118, ty9, ty5, hx]
    simp at h1
    rw [h1]
    simp [abytes_bytes]
end Go.S1N
namespace Go.S1N
open Go Go.Am Go.Proofs Go.S1
set_option maxRecDepth 100000
attribute [local go_sem] Nat.reduceLT Nat.reduceEqDiff Nat.reduceAdd Nat.reduceLeDiff reduceIte reduceCtorEq
attribute [local irreducible] lopsB lvb lstepB lfunG lcondB lguardB lguardU ldguardU ldrawB ldrunB ldstepB ldguardB lmem lval ldmem ldval ldfun lexit ldloadB ldlenB lpostB athen ablock
def QuoR (S : List UInt8) (b : Nat) (s : AHeap) (v : AV) (t : AHeap) : Prop := ∃ txt a', v = .str txt ∧ a' ≤ S.length ∧ ((∃ rest, qAll S = some (txt, rest) ∧ a' + rest.length = S.length ∧ t = s.upd b (rdr S a' false)) ∨ (qAll S = none ∧ t = s.upd b (rdr S a' true)))
theorem QI.fin {S acc : List UInt8} {i b : Nat} {bad : Bool} {s : AHeap} (h : QI S acc i bad) (hc : more S i bad = false ∨ S.getD i 0 = 34) : QuoR S b s (.str acc) (s.upd b (rdr S (eatA S i bad 34) (!isAt S i bad 34))) := by
  have hle := h.le
  cases hm : more S i bad with
  | false =>
    have e1 : isAt S i bad 34 = false := by simp [isAt, hm]
    refine ⟨acc, i, rfl, hle, .inr ⟨?_, by rw [eatA, e1]; rfl⟩⟩
    cases bad with
    | true => exact h.bad_ rfl
    | false =>
      have : S.length ≤ i := by simp [more] at hm; exact hm
      rw [h.good rfl, qs_end this]; rfl
  | true =>
    have hbad : bad = false := by simp only [more, Bool.and_eq_true] at hm; simpa using hm.1
    subst hbad
    have hi2 : i < S.length := by simp only [more, Bool.and_eq_true, decide_eq_true_eq] at hm; exact hm.2
    have hq : S.getD i 0 = 34 := by
      rcases hc with q | q
      · rw [hm] at q; cases q
      · exact q
    have e1 : isAt S i false 34 = true := by rw [isAt, hm, hq]; rfl
    refine ⟨acc, i + 1, rfl, hi2, .inl ⟨S.drop (i + 1), ?_, by rw [List.length_drop]; omega, by rw [eatA, e1]; rfl⟩⟩
    rw [h.good rfl, qs_quote hi2 hq]; simp
theorem quoteR_ok {s : AHeap} {b : Nat} {S : List UInt8} (h : Rd s b S 0 false) : ACall Tryz.prog 145 [.ptr b 0] s (QuoR S b s) := by
  refine gob145 (by simp) ?_
  intro tm hlen harg
  have hb := h.lt
  have hle := h.le
  have hln := h.len
  have hlow := fun x y => rdr_low (n := s.nx) S x y
  simp +contextual only [go_sem, L145, hlen, harg, cdD, cdN, gdT, gdF, gdD]
  refine lfunG_eq (eat_ok h.loc 34) ?_
  simp +contextual only [go_sem, hlen, harg, hb, cdD, cdN, gdT, gdF, gdD]
  have start : ∃ i0 bad0, eatA S 0 false 34 = i0 ∧ (!isAt S 0 false 34) = bad0 ∧ QI S [] i0 bad0 := by
    cases S with
    | nil => exact ⟨0, true, by simp [eatA, isAt, more], by simp [isAt, more], by simp, by simp, fun h => (by cases h), fun _ => rfl⟩
    | cons c r =>
      by_cases hc : c = 34
      · subst hc
        exact ⟨1, false, by simp [eatA, isAt, more], by simp [isAt, more], by simp, by simp, fun _ => (by
          show qs r = _
          cases hq : qs r <;> simp [hq]), fun h => by cases h⟩
      · exact ⟨0, true, by simp [eatA, isAt, more, hc], by simp [isAt, more, hc], by simp, by simp, fun h => (by cases h), fun _ => if_neg hc⟩
  obtain ⟨i0, bad0, e1, e2, hI0⟩ := start
  rw [e1, e2]
  refine ⟨Nat × List UInt8 × Bool, fun x => [(0, .ptr b 0), (3, gsv 1 (nm s.nx 0) x.2.1.length)], fun x => loc (s.upd b (rdr S x.1 x.2.2)) 1 [(0, gso 5 (S1.bytes x.2.1))], fun x => QI S x.2.1 x.1 x.2.2, fun x => 2 * (S.length - x.1) + (if x.2.2 then 0 else 1), (i0, [], bad0), hI0, ?_, ?_⟩
  · refine To.go [9] [(0, none)] rfl ((OKo.refl s).upd hb (hlow _ _)) (by decide) (by simp) ?_ ?_
    · simp +contextual only [go_sem, hlen, harg, gsv_zero, rnm_low hb, List.length_nil, cdD, cdN, gdT, gdF, gdD]
    · simp only [go_sem, cdD, cdN, gdT, gdF, gdD]
  · rintro ⟨i, acc, bad⟩ tm1 hI hlen1 hlv
    simp only [go_sem, hlen, cdD, cdN, gdT, gdF, gdD] at hlen1 hlv hI
    have hR := fun n l => (h.upd (bad' := bad) (a' := i) hI.le).loc (n := n) (l := l)
    have hG := (h.upd (bad' := bad) (a' := i) hI.le).get
    rw [rdr] at hG
    have hac := hI.al
    have hil := hI.le
    simp +contextual only [go_sem, hlen, hlen1, hlv, hb, rdr, cdD, cdN, gdT, gdF, gdD]
    refine ldrawB_go [] [] 11 (by decide) ?_
    simp +contextual only [go_sem, hlen1, hlv, hb, cdD, cdN, gdT, gdF, gdD]
    refine ldfun_eff (.bool (more S i bad)) _ (more_ok (hR _ _)) ?_
    cases hm : more S i bad with
    | false =>
      simp +contextual only [go_sem, hlen1, hlv, hb, cdD, cdN, gdT, gdF, gdD]
      refine ⟨by kernel_rfl, ?_⟩
      refine lfunG_eq (eat_ok (hR _ _) 34) ?_
      simp +contextual only [go_sem, hlen1, hlv, hb, cdD, cdN, gdT, gdF, gdD]
      rw [lstepB_convert]
      refine lmem_eq (cvS (k := 0) (acc := acc) (AHeap.nx_upd _ _ _) (by simp only [go_sem, hlen1, hlv, cdD, cdN, gdT, gdF, gdD]) (by simp only [go_sem, cdD, cdN, gdT, gdF, gdD])) ?_
      simp +contextual only [go_sem, hlen1, hlv, hb, cdD, cdN, gdT, gdF, gdD]
      exact lexit_pure ((OKo.refl s).upd hb (hlow _ _)) (by simp only [low]) (hI.fin (.inl hm))
    | true =>
      have hbad : bad = false := by simp only [more, Bool.and_eq_true] at hm; simpa using hm.1
      subst hbad
      have hi2 : i < S.length := by simp only [more, Bool.and_eq_true, decide_eq_true_eq] at hm; exact hm.2
      have hsd : S[i] = S.getD i 0 := by rw [List.getD_eq_getElem?_getD, List.getElem?_eq_getElem hi2]; rfl
      simp +contextual only [go_sem, hlen1, hlv, hb, str_at hi2, hsd, cdD, cdN, gdT, gdF, gdD]
      refine ⟨by kernel_rfl, fun hne => ?_, fun heq => ?_⟩
      · refine ldrawB_go [] [] 8 (by decide) ?_
        simp +contextual only [go_sem, hlen1, hlv, hb, str_at hi2, hsd, cdD, cdN, gdT, gdF, gdD]
        refine ⟨by kernel_rfl, ?_⟩
        refine lfunG_eq (plain_ok _ _) ?_
        have hwi : IntKind.i64.wrap ((i : Int) + 1) = ((i + 1 : Nat) : Int) := by rw [wrap_id (by omega)]; rfl
        have hne2 : S.getD i 0 ≠ 34 := fun e => hne (by rw [e]; rfl)
        cases hp : plainC (S.getD i 0) with
        | true =>
          simp +contextual only [go_sem, hlen1, hlv, hb, hwi, cdD, cdN, gdT, gdF, gdD]
          refine lmem_eq (appBb (w := [S.getD i 0]) (k := 20) (j := 0) (AHeap.nx_upd _ _ _) (by simp only [go_sem, cdD, cdN, gdT, gdF, gdD]; rfl) (by simp only [go_sem, cdD, cdN, gdT, gdF, gdD]) (by simp) (by simp only [List.length_cons, List.length_nil]; omega)) ?_
          simp +contextual only [go_sem, hlen1, hlv, hb, hwi, cdD, cdN, gdT, gdF, gdD]
          refine ⟨(i + 1, acc ++ [S.getD i 0], false), hI.plain hi2 hp, (by simp; omega), ?_⟩
          refine To.go [21] [(0, gso 5 (S1.bytes (acc ++ [S.getD i 0])))] rfl ((OKo.refl s).upd hb (hlow _ _)) (by decide) (by simp) ?_ ?_
          · simp +contextual only [go_sem, hlen1, hlv, rnm_low hb, List.length_append, gsv_pos (Nat.succ_ne_zero acc.length), cdD, cdN, gdT, gdF, gdD]
          · simp only [go_sem, map_gso_pu (bytes_pul _), cdD, cdN, gdT, gdF, gdD]
            exact (gso_bytes_ne (by simp)).symm
        | false =>
          simp +contextual only [go_sem, hlen1, hlv, hb, hwi, cdD, cdN, gdT, gdF, gdD]
          refine ⟨fun h92 => ?_, fun h92 => ?_⟩
          · have hq : S.getD i 0 = 92 := UInt8.toNat_inj.1 (by
              have : ((92 : UInt8).toNat : Int) = 92 := rfl
              omega)
            refine lfunG_of (escaped_ok ((h.upd (bad' := false) (a' := i + 1) (by omega)).loc)) ?_
            rintro _ _ (⟨e, g1, rfl, g2, rfl⟩ | ⟨g1, rfl, a', g0, g2, rfl⟩)
            · simp +contextual only [go_sem, hlen1, hlv, hb, cdD, cdN, gdT, gdF, gdD]
              refine lmem_eq (appBb (w := [e]) (k := 20) (j := 0) (AHeap.nx_upd _ _ _) (by simp only [go_sem, cdD, cdN, gdT, gdF, gdD]; rfl) (by simp only [go_sem, cdD, cdN, gdT, gdF, gdD]) (by simp) (by simp only [List.length_cons, List.length_nil]; omega)) ?_
              simp +contextual only [go_sem, hlen1, hlv, hb, cdD, cdN, gdT, gdF, gdD]
              refine ⟨(i + 3, acc ++ [e], false), hI.esc hi2 hq g1 (by omega), (by simp; omega), ?_⟩
              refine To.go [21] [(0, gso 5 (S1.bytes (acc ++ [e])))] rfl ((OKo.refl s).upd hb (hlow _ _)) (by decide) (by simp) ?_ ?_
              · simp +contextual only [go_sem, hlen1, hlv, rnm_low hb, List.length_append, gsv_pos (Nat.succ_ne_zero acc.length), cdD, cdN, gdT, gdF, gdD]
              · simp only [go_sem, map_gso_pu (bytes_pul _), cdD, cdN, gdT, gdF, gdD]
                exact (gso_bytes_ne (by simp)).symm
            · have hz : AV.int IntKind.u8 0 = AV.int IntKind.u8 ((0 : UInt8).toNat : Int) := rfl
              rw [hz]
              simp +contextual only [go_sem, hlen1, hlv, hb, cdD, cdN, gdT, gdF, gdD]
              refine lmem_eq (appBb (w := [0]) (k := 20) (j := 0) (AHeap.nx_upd _ _ _) (by simp only [go_sem, cdD, cdN, gdT, gdF, gdD]; rfl) (by simp only [go_sem, cdD, cdN, gdT, gdF, gdD]) (by simp) (by simp only [List.length_cons, List.length_nil]; omega)) ?_
              simp +contextual only [go_sem, hlen1, hlv, hb, cdD, cdN, gdT, gdF, gdD]
              refine ⟨(a', acc ++ [0], true), hI.spoil (qs_esc_none hi2 hq g1) g2 (by simp; omega), (by simp; omega), ?_⟩
              refine To.go [21] [(0, gso 5 (S1.bytes (acc ++ [0])))] rfl ((OKo.refl s).upd hb (hlow _ _)) (by decide) (by simp) ?_ ?_
              · simp +contextual only [go_sem, hlen1, hlv, rnm_low hb, List.length_append, gsv_pos (Nat.succ_ne_zero acc.length), cdD, cdN, gdT, gdF, gdD]
              · simp only [go_sem, map_gso_pu (bytes_pul _), cdD, cdN, gdT, gdF, gdD]
                exact (gso_bytes_ne (by simp)).symm
          · have hq : S.getD i 0 ≠ 92 := fun e => h92 (by rw [e]; rfl)
            refine lfunG_eq (fail_ok (hR _ _)) ?_
            simp +contextual only [go_sem, hlen1, hlv, hb, cdD, cdN, gdT, gdF, gdD]
            refine ⟨(i, acc, true), hI.spoil (qs_bad hi2 hne2 hp hq) hil hac, (by simp), ?_⟩
            refine To.go [0] [(0, gso 5 (S1.bytes acc))] rfl ((OKo.refl s).upd hb (hlow _ _)) (by decide) (by simp) ?_ ?_
            · simp +contextual only [go_sem, hlen1, hlv, rnm_low hb, cdD, cdN, gdT, gdF, gdD]
            · simp only [go_sem, map_gso_pu (bytes_pul _), cdD, cdN, gdT, gdF, gdD]
      · have hq : S.getD i 0 = 34 := UInt8.toNat_inj.1 (by
          have : ((34 : UInt8).toNat : Int) = 34 := rfl
          omega)
        refine lfunG_eq (eat_ok (hR _ _) 34) ?_
        simp +contextual only [go_sem, hlen1, hlv, hb, cdD, cdN, gdT, gdF, gdD]
        rw [lstepB_convert]
        refine lmem_eq (cvS (k := 0) (acc := acc) (AHeap.nx_upd _ _ _) (by simp only [go_sem, hlen1, hlv, cdD, cdN, gdT, gdF, gdD]) (by simp only [go_sem, cdD, cdN, gdT, gdF, gdD])) ?_
        simp +contextual only [go_sem, hlen1, hlv, hb, cdD, cdN, gdT, gdF, gdD]
        exact lexit_pure ((OKo.refl s).upd hb (hlow _ _)) (by simp only [low]) (hI.fin (.inr hq))
end Go.S1N
end
section
namespace Go.S1N
open Go Go.Am Go.Proofs Go.S1
set_option maxRecDepth 100000
attribute [local go_sem] Nat.reduceLT Nat.reduceEqDiff Nat.reduceAdd Nat.reduceLeDiff reduceIte reduceCtorEq
attribute [local irreducible] lopsB lvb lstepB lfunG lcondB lguardB lguardU ldguardU ldrawB ldrunB ldstepB ldguardB lmem lval ldmem ldval ldfun lexit ldloadB ldlenB lpostB athen ablock
theorem QuoR.out {S : List UInt8} {b : Nat} {s : AHeap} (v : AV) (t : AHeap) (h : QuoR S b s v t) : ∃ txt a' bad, v = .str txt ∧ a' ≤ S.length ∧ t = s.upd b (rdr S a' bad) ∧ ((bad = false ∧ ∃ rest, qAll S = some (txt, rest) ∧ a' + rest.length = S.length) ∨ (bad = true ∧ qAll S = none)) := by
  obtain ⟨txt, a', h1, h2, ⟨rest, q1, q2, h3⟩ | ⟨q1, h3⟩⟩ := h
  · exact ⟨txt, a', false, h1, h2, h3, .inl ⟨rfl, rest, q1, q2⟩⟩
  · exact ⟨txt, a', true, h1, h2, h3, .inr ⟨rfl, q1⟩⟩
theorem readEd_ok (l : List UInt8) (hl : l.length ≤ 100000) (s : AHeap) : ACall Tryz.prog 93 [.str l] s fun v t => t = s ∧ ∃ e, v = .tuple [Ed.enc e, .bool (edP l).isSome] ∧ (∀ x, edP l = some x → e = x) := by
  refine gob93 (by simp) ?_
  intro tm hlen harg
  obtain ⟨g1, g2, _⟩ := cut_len 32 l
  obtain ⟨g3, g4, _⟩ := cut_len 32 (cutB 32 l).2.1
  have key : edP l = match numP (cutB 32 l).1, numP (cutB 32 (cutB 32 l).2.1).1, quoteP (cutB 32 (cutB 32 l).2.1).2.1 with
    | some n, some m, some t => if (cutB 32 l).2.2 ∧ (cutB 32 (cutB 32 l).2.1).2.2 then some ⟨n, m, t⟩ else none
    | _, _, _ => none := rfl
  have c1 := fun s => cut_ok l 32 (by omega) s
  unfold cutV at c1
  have c2 := fun s => cut_ok (cutB 32 l).2.1 32 (by omega) s
  unfold cutV at c2
  generalize (cutB 32 l).1 = x1 at key c1 g1
  generalize (cutB 32 l).2.2 = b1 at key c1
  generalize (cutB 32 l).2.1 = r1 at key c1 c2 g2 g3 g4
  generalize (cutB 32 r1).1 = x2 at key c2 g3
  generalize (cutB 32 r1).2.2 = b2 at key c2
  generalize (cutB 32 r1).2.1 = q at key c2 g4
  simp +contextual only [go_sem, L93, hlen, harg, cdD, cdN, gdT, gdF, gdD]
  refine lfunG_eq (c1 _) ?_
  simp +contextual only [go_sem, hlen, harg, cdD, cdN, gdT, gdF, gdD]
  refine lfunG_eq (c2 _) ?_
  simp +contextual only [go_sem, hlen, harg, cdD, cdN, gdT, gdF, gdD]
  refine lfunG_eq (numK_ok _ _) ?_
  obtain ⟨n, bn, hn, hn2⟩ : ∃ n bn, numV x1 = .tuple [.int .i64 n, .bool bn] ∧ ((bn = true ∧ numP x1 = some n) ∨ (bn = false ∧ numP x1 = none)) := by
    unfold numV; cases numP x1 <;> simp
  rw [hn]
  simp +contextual only [go_sem, hlen, harg, cdD, cdN, gdT, gdF, gdD]
  refine lfunG_eq (numK_ok _ _) ?_
  obtain ⟨m, bm, hm, hm2⟩ : ∃ n bn, numV x2 = .tuple [.int .i64 n, .bool bn] ∧ ((bn = true ∧ numP x2 = some n) ∨ (bn = false ∧ numP x2 = none)) := by
    unfold numV; cases numP x2 <;> simp
  rw [hm]
  simp +contextual only [go_sem, hlen, harg, cdD, cdN, gdT, gdF, gdD]
  have hR : Rd (loc s 2 [(0, some (.cells [.int .i64 0, .int .i64 0, .str []] (some 44))), (1, some (rdr q 0 false))]) (nm s.nx 1) q 0 false :=
    ⟨by rw [nx_loc, nm_lt]; omega, by simp only [go_sem, cdD, cdN, gdT, gdF, gdD], by omega, by omega⟩
  refine lfunG_of ((quoteR_ok hR).mono QuoR.out) ?_
  rintro _ _ ⟨txt, a', bad, rfl, ha, rfl, hq2⟩
  have out : ∀ {B : Bool} {nn : Nat} {ll : List (Nat × Option AObj)}, (edP l).isSome = B → (∀ x, edP l = some x → (⟨n, m, txt⟩ : Ed) = x) →
      lexit s (fun v t => t = s ∧ ∃ e, v = .tuple [Ed.enc e, .bool (edP l).isSome] ∧ (∀ x, edP l = some x → e = x)) (some (.tuple [.agg [.int .i64 n, .int .i64 m, .str txt], .bool B])) (loc s nn ll) :=
    fun h1 h2 => lexit_pure (.refl s) (by simp only [low, lowL, and_self]) ⟨rfl, ⟨n, m, txt⟩, by rw [h1]; rfl, h2⟩
  have no : ∀ {nn : Nat} {ll : List (Nat × Option AObj)}, edP l = none → lexit s (fun v t => t = s ∧ ∃ e, v = .tuple [Ed.enc e, .bool (edP l).isSome] ∧ (∀ x, edP l = some x → e = x)) (some (.tuple [.agg [.int .i64 n, .int .i64 m, .str txt], .bool false])) (loc s nn ll) :=
    fun h => out (by rw [h]; rfl) (fun x hx => by rw [h] at hx; cases hx)
  have no1 : b1 = false ∨ b2 = false ∨ numP x1 = none ∨ numP x2 = none ∨ quoteP q = none → edP l = none := by
    rw [key]
    rintro (rfl | rfl | h | h | h)
    · cases numP x1 <;> cases numP x2 <;> cases quoteP q <;> simp
    · cases numP x1 <;> cases numP x2 <;> cases quoteP q <;> simp
    · rw [h]
    · rw [h]; cases numP x1 <;> rfl
    · rw [h]; cases numP x1 <;> cases numP x2 <;> rfl
  simp +contextual only [go_sem, hlen, harg, cdD, cdN, gdT, gdF, gdD]
  cases b1 with
  | false =>
    refine ldrawB_go [] [] 31 (by decide) ?_
    simp +contextual only [go_sem, hlen, harg, rdr, cdD, cdN, gdT, gdF, gdD]
    refine ⟨by kernel_rfl, ?_⟩
    exact no (no1 (.inl rfl))
  | true =>
  cases b2 with
  | false =>
    refine ldrawB_go [] [] 31 (by decide) ?_
    simp +contextual only [go_sem, hlen, harg, rdr, cdD, cdN, gdT, gdF, gdD]
    refine ⟨by kernel_rfl, ?_⟩
    exact no (no1 (.inr (.inl rfl)))
  | true =>
  rcases hn2 with ⟨rfl, hn2⟩ | ⟨rfl, hn2⟩
  rotate_left
  · refine ldrawB_go [] [] 31 (by decide) ?_
    simp +contextual only [go_sem, hlen, harg, rdr, cdD, cdN, gdT, gdF, gdD]
    refine ⟨by kernel_rfl, ?_⟩
    exact no (no1 (.inr (.inr (.inl hn2))))
  rcases hm2 with ⟨rfl, hm2⟩ | ⟨rfl, hm2⟩
  rotate_left
  · refine ldrawB_go [] [] 31 (by decide) ?_
    simp +contextual only [go_sem, hlen, harg, rdr, cdD, cdN, gdT, gdF, gdD]
    refine ⟨by kernel_rfl, ?_⟩
    exact no (no1 (.inr (.inr (.inr (.inl hm2)))))
  rcases hq2 with ⟨rfl, rest, hq2, hq3⟩ | ⟨rfl, hq2⟩
  rotate_left
  · refine ldrawB_go [] [(18, 1)] 31 (by decide) ?_
    simp +contextual only [go_sem, hlen, harg, rdr, cdD, cdN, gdT, gdF, gdD]
    refine ⟨by kernel_rfl, ?_⟩
    exact no (no1 (.inr (.inr (.inr (.inr (by rw [quoteP_all, hq2]))))))
  · have hdec : ((a' : Int) = (q.length : Int)) = (rest = []) := propext ⟨fun h => List.eq_nil_of_length_eq_zero (by omega), fun h => by rw [h] at hq3; simp at hq3; omega⟩
    refine ldrawB_go [] [(18, 1), (25, 1)] 31 (by decide) ?_
    simp +contextual only [go_sem, hlen, harg, rdr, hdec, cdD, cdN, gdT, gdF, gdD]
    refine ⟨by kernel_rfl, ?_⟩
    rw [hn2, hm2, quoteP_all, hq2] at key
    cases rest with
    | nil =>
      have hk : edP l = some ⟨n, m, txt⟩ := by rw [key]; simp
      exact out (by rw [hk]; rfl) (fun x hx => by rw [hk] at hx; exact Option.some.inj hx)
    | cons z zs => exact no (by rw [key])
end Go.S1N
end
section
namespace Go.S1N
open Go Go.Am Go.Proofs Go.S1
set_option maxRecDepth 100000
theorem qsF_len : ∀ (k : Nat) (S t r : List UInt8), qsF k S = some (t, r) → t.length + r.length ≤ S.length
  | 0, _, _, _, h => by cases h
  | _ + 1, [], _, _, h => by cases h
  | k + 1, c :: S, t, r, h => by
    rw [qsF] at h
    split at h
    · cases h; simp
    · split at h
      · cases hq : qsF k S with
        | none => rw [hq] at h; cases h
        | some x =>
          rw [hq] at h; cases h
          have := qsF_len k S x.1 x.2 hq
          simp only [List.length_cons]; omega
      · split at h
        · cases he : escT S with
          | none => rw [he] at h; cases h
          | some x =>
            rw [he] at h
            simp only at h
            have hl := escT_len (r := S) (r' := x.2) (e := x.1) he
            cases hq : qsF k x.2 with
            | none => rw [hq] at h; cases h
            | some y =>
              rw [hq] at h; cases h
              have := qsF_len k x.2 y.1 y.2 hq
              simp only [List.length_cons]; omega
        · cases h
theorem quoteP_len {S t : List UInt8} (h : quoteP S = some t) : t.length ≤ S.length := by
  cases S with
  | nil => cases h
  | cons c r =>
    unfold quoteP at h
    simp only at h
    split at h
    · cases hq : qs r with
      | none => rw [hq] at h; cases h
      | some x =>
        rw [hq] at h
        have hl := qsF_len r.length r x.1 x.2 hq
        obtain ⟨x1, x2⟩ := x
        cases x2 with
        | nil => simp only [Option.some.injEq] at h; subst h; simp only [List.length_cons]; simp at hl; omega
        | cons a b => cases h
    · cases h
theorem edP_len {s : List UInt8} {x : Ed} (h : edP s = some x) : x.new.length ≤ s.length := by
  obtain ⟨g1, g2, _⟩ := cut_len 32 s
  obtain ⟨g3, g4, _⟩ := cut_len 32 (cutB 32 s).2.1
  have key : edP s = match numP (cutB 32 s).1, numP (cutB 32 (cutB 32 s).2.1).1, quoteP (cutB 32 (cutB 32 s).2.1).2.1 with
    | some n, some m, some t => if (cutB 32 s).2.2 ∧ (cutB 32 (cutB 32 s).2.1).2.2 then some ⟨n, m, t⟩ else none
    | _, _, _ => none := rfl
  rw [h] at key
  cases h1 : numP (cutB 32 s).1 with
  | none => rw [h1] at key; cases key
  | some n =>
    cases h2 : numP (cutB 32 (cutB 32 s).2.1).1 with
    | none => rw [h1, h2] at key; cases key
    | some m =>
      cases h3 : quoteP (cutB 32 (cutB 32 s).2.1).2.1 with
      | none => rw [h1, h2, h3] at key; cases key
      | some t =>
        rw [h1, h2, h3] at key
        simp only at key
        split at key
        · cases key
          have := quoteP_len h3
          simp only; omega
        · cases key
theorem read_bad {T : List UInt8} {acc : List Ed} (h : rdG T.length T = (false, acc)) (hT : ¬ 20000 < T.length) : readVal T = ([], (acc.length : Int), 9) := by
  rw [readVal, if_neg hT, h]; rfl
theorem read_good {T : List UInt8} {acc : List Ed} (h : rdG T.length T = (true, acc)) (hT : ¬ 20000 < T.length) : readVal T = if linesFault acc ≠ 0 then ([], 0, linesFault acc) else (acc, 0, 0) := by
  rw [readVal, if_neg hT, h]; rfl
structure RI (T rest : List UInt8) (acc : List Ed) : Prop where
  len : acc.length + rest.length ≤ 20000
  new : ∀ e ∈ acc, e.new.length ≤ 100000
  eq : rdG T.length T = ((rdG rest.length rest).1, acc ++ (rdG rest.length rest).2)
theorem RI.next {T rest : List UInt8} {acc : List Ed} (h : RI T rest acc) (hne : rest ≠ []) {x : Ed} (he : (cutB 10 rest).2.2 = true) (hx : edP (cutB 10 rest).1 = some x) : RI T (cutB 10 rest).2.1 (acc ++ [x]) ∧ (cutB 10 rest).2.1.length < rest.length := by
  obtain ⟨g1, g2, g3⟩ := cut_len 10 rest
  have g4 := g3 he
  have hl := h.len
  refine ⟨⟨by rw [List.length_append]; simp; omega, ?_, ?_⟩, g4⟩
  · intro e hm
    rcases List.mem_append.1 hm with hm | hm
    · exact h.new e hm
    · rw [List.mem_singleton.1 hm]
      have := edP_len hx
      omega
  · rw [h.eq, rdG_step hne he hx]
    simp
theorem RI.stop {T rest : List UInt8} {acc : List Ed} (h : RI T rest acc) (hne : rest ≠ []) (he : ¬ ((cutB 10 rest).2.2 = true ∧ (edP (cutB 10 rest).1).isSome)) : rdG T.length T = (false, acc) := by
  rw [h.eq, rdG_stop hne he]; simp
theorem RI.done {T : List UInt8} {acc : List Ed} (h : RI T [] acc) : rdG T.length T = (true, acc) := by
  rw [h.eq, rdG_nil]; simp
def readVA (T : List UInt8) : AV := .tuple [edv (readVal T).1, .int .i64 (readVal T).2.1, .int .i64 (readVal T).2.2]
theorem edv_nil : edv [] = .nils := rfl
end Go.S1N
namespace Go.S1N
open Go Go.Am Go.Proofs Go.S1
set_option maxRecDepth 100000
attribute [local go_sem] Nat.reduceLT Nat.reduceEqDiff Nat.reduceAdd Nat.reduceLeDiff reduceIte reduceCtorEq
attribute [local irreducible] lopsB lvb lstepB lfunG lcondB lguardB lguardU ldguardU ldrawB ldrunB ldstepB ldguardB lmem lval ldmem ldval ldfun lexit ldloadB ldlenB lpostB athen ablock
theorem read_ok (T : List UInt8) (s : AHeap) : ACall Tryz.prog 20 [.str T] s fun v t => v = readVA T ∧ t = s := by
  refine gob20 (by simp) ?_
  intro tm hlen harg
  have out : ∀ {a b : Int} {nn : Nat} {ll : List (Nat × Option AObj)}, readVal T = ([], a, b) → lexit s (fun v t => v = readVA T ∧ t = s) (some (.tuple [.nils, .int .i64 a, .int .i64 b])) (loc s nn ll) := fun h => lexit_pure (.refl s) (by simp only [low, lowL, and_self]) ⟨by rw [readVA, h]; rfl, rfl⟩
  simp +contextual only [go_sem, L20, hlen, harg, cdD, cdN, gdT, gdF, gdD]
  refine ⟨fun hb => out ?_, fun hb => ?_⟩
  · rw [readVal, if_pos (by omega)]
  have hT : ¬ 20000 < T.length := by omega
  refine ⟨List UInt8 × List Ed, fun x => [(5, gsv 3 (nm s.nx 0) x.2.length), (6, .str x.1)], fun x => loc s 1 [(0, gso 44 (edc x.2))], fun x => RI T x.1 x.2, fun x => x.1.length, (T, []), ⟨by simp; omega, by simp, by simp⟩, ?_, ?_⟩
  · refine To.go [9] [(0, none)] (by simp only [edc, List.map_nil, List.flatMap_nil, gso_nil]; rfl) (.refl s) (by decide) (by simp) ?_ ?_
    · simp +contextual only [go_sem, hlen, harg, List.length_nil, gsv_zero, cdD, cdN, gdT, gdF, gdD]
    · simp only [go_sem, cdD, cdN, gdT, gdF, gdD]
  · rintro ⟨rest, acc⟩ tm1 hI hlen1 hlv
    simp only [go_sem, hlen, cdD, cdN, gdT, gdF, gdD] at hlen1 hlv hI
    have hl := hI.len
    simp +contextual only [go_sem, hlen, hlen1, hlv, cdD, cdN, gdT, gdF, gdD]
    refine ⟨fun hne => ?_, fun heq => ?_⟩
    · have hcl := cut_len 10 rest
      have hnext := fun x a b => hI.next hne (x := x) a b
      have hstop := fun a => hI.stop hne a
      refine lfunG_eq (line_ok rest (by omega) _) ?_
      unfold cutV
      generalize cutB 10 rest = C at hcl hnext hstop
      obtain ⟨c1, c2, c3⟩ := C
      simp only at hcl hnext hstop
      simp +contextual only [go_sem, hlen1, hlv, cdD, cdN, gdT, gdF, gdD]
      refine lfunG_of (readEd_ok c1 (by omega) _) ?_
      rintro _ _ ⟨rfl, e, rfl, hx⟩
      have hal : alen tab 28 (gsv 3 (nm s.nx 0) acc.length) = some (.int .i64 acc.length) := by
        unfold gsv
        split
        · rename_i h; simp [alen, ty28, h]
        · simp [alen, ty28]
      simp only [Ed.enc]
      cases c3 with
      | false =>
        simp +contextual only [go_sem, hlen1, hlv, hal, cdD, cdN, gdT, gdF, gdD]
        exact out (read_bad (hstop (by simp)) hT)
      | true =>
        cases hs : edP c1 with
        | none =>
          simp +contextual only [go_sem, hlen1, hlv, hal, Option.isSome_none, Bool.not_false, cdD, cdN, gdT, gdF, gdD]
          exact out (read_bad (hstop (by rw [hs]; simp)) hT)
        | some x =>
          obtain rfl := hx x hs
          obtain ⟨hI2, hlt⟩ := hnext e rfl hs
          simp +contextual only [go_sem, hlen1, hlv, Option.isSome_some, Bool.not_true, cdD, cdN, gdT, gdF, gdD]
          refine lmem_eq (app28 (acellsOf_rs (by simp only [go_sem, cdD, cdN, gdT, gdF, gdD]; rfl) (by rfl) rfl) (by decide) (by simp only [go_sem, cdD, cdN, gdT, gdF, gdD]) (by simp only [go_sem, cdD, cdN, gdT, gdF, gdD]) (edc_len acc) (by omega) rfl) ?_
          simp +contextual only [go_sem, hlen1, hlv, cdD, cdN, gdT, gdF, gdD]
          refine ⟨(c2, acc ++ [e]), hI2, hlt, ?_⟩
          refine To.go [3] [(0, gso 44 (edc (acc ++ [e])))] rfl (.refl s) (by decide) (by simp) ?_ ?_
          · simp +contextual only [go_sem, hlen1, hlv, List.length_append, gsv_pos (Nat.succ_ne_zero acc.length), cdD, cdN, gdT, gdF, gdD]
          · simp only [go_sem, map_gso_pu (edc_pul _), cdD, cdN, gdT, gdF, gdD]
            simp only [edc_snoc, gso_pos (List.append_ne_nil_of_right_ne_nil (edc acc) (List.cons_ne_nil _ _))]
    · subst heq
      have hd := read_good hI.done hT
      refine lfunG_freezeG 0 3 (acc.map Ed.enc) (by simp only [go_sem, cdD, cdN, gdT, gdF, gdD]; rfl) (enc_len acc) (by decide) ?_
      simp +contextual only [go_sem, hlen1, hlv, len_fz, cdD, cdN, gdT, gdF, gdD]
      refine lfunG_eq (text_ok acc (by omega) hI.new _) ?_
      unfold textVA textVal
      by_cases hf : linesFault acc = 0
      · simp +contextual only [go_sem, hlen1, hlv, hf, len_fz, cdD, cdN, gdT, gdF, gdD]
        rw [hf, if_neg (by simp)] at hd
        exact lexit_pure (.refl s) (by simp only [low, lowL, and_true]; exact low.mono (Nat.zero_le _) (edv_pu acc)) ⟨by rw [readVA, hd], rfl⟩
      · rw [if_pos hf] at hd
        simp +contextual only [go_sem, hlen1, hlv, hf, len_fz, cdD, cdN, gdT, gdF, gdD]
        exact out hd
end Go.S1N
end
section
namespace Go.S1N
open Go Go.Am Go.Proofs Go.S1
set_option maxRecDepth 100000
attribute [local go_sem] Nat.reduceLT Nat.reduceEqDiff Nat.reduceAdd Nat.reduceLeDiff reduceIte reduceCtorEq
attribute [local irreducible] lopsB lvb lstepB lfunG lcondB lguardB lguardU ldguardU ldrawB ldrunB ldstepB ldguardB lmem lval ldmem ldval ldfun lexit ldloadB ldlenB lpostB athen ablock
def dmr (S : List UInt8) (a : Nat) : AObj := .cells [.str S, .int .i64 a] (some 154)
theorem dmr_low {n : Nat} (S : List UInt8) (a : Nat) : lowO n (dmr S a) := by simp only [dmr, Am.lowO, lowL, low, and_true]
structure Dm (s : AHeap) (b : Nat) (S : List UInt8) (a : Nat) : Prop where
  lt : b < s.nx
  get : s.get b = some (dmr S a)
  len : S.length ≤ 1000000
  le : a ≤ S.length
theorem Dm.upd {s : AHeap} {b : Nat} {S : List UInt8} {a a' : Nat} (h : Dm s b S a) (h1 : a' ≤ S.length) : Dm (s.upd b (dmr S a')) b S a' :=
  ⟨by rw [AHeap.nx_upd]; exact h.lt, get_upd_same, h.len, h1⟩
theorem Dm.loc {s : AHeap} {b : Nat} {S : List UInt8} {a : Nat} (h : Dm s b S a) {n : Nat} {l : List (Nat × Option AObj)} : Dm (loc s n l) b S a :=
  ⟨by rw [nx_loc]; exact lt_nm h.lt, by rw [get_loc_out h.lt]; exact h.get, h.len, h.le⟩
theorem is2_ok {s : AHeap} {b : Nat} {S : List UInt8} {a : Nat} (h : Dm s b S a) (c : UInt8) : ACall Tryz.prog 148 [.ptr b 0, .int .u8 c.toNat] s fun v t => v = .bool (isAt S a false c) ∧ t = s := by
  refine gob148 (by simp) ?_
  intro tm hlen harg
  have hb := h.lt
  have hg := h.get
  rw [dmr] at hg
  simp +contextual only [go_sem, L148, hlen, harg, hb, hg, cdD, cdN, gdT, gdF, gdD]
  refine ldrawB_go [] [] 21 (by decide) ?_
  by_cases ha : a < S.length
  · have he : ((S[a].toNat : Int) = (c.toNat : Int)) = (S.getD a 0 = c) := by
      rw [u8_eq, List.getD_eq_getElem?_getD, List.getElem?_eq_getElem ha]; rfl
    have hI : ((a : Int) < (S.length : Int)) = True := by simp; omega
    simp +contextual only [go_sem, hlen, harg, hb, hg, str_at ha, he, hI, cdD, cdN, gdT, gdF, gdD]
    refine ⟨by kernel_rfl, ?_⟩
    exact lexit_pure (.refl s) (by simp only [low]) ⟨by simp [isAt, more, ha], rfl⟩
  · have hI : ((a : Int) < (S.length : Int)) = False := by simp; omega
    simp +contextual only [go_sem, hlen, harg, hb, hg, hI, cdD, cdN, gdT, gdF, gdD]
    refine ⟨by kernel_rfl, ?_⟩
    exact lexit_pure (.refl s) (by simp only [low]) ⟨by simp [isAt, more, ha], rfl⟩
theorem coded_ok (n : Nat) (hn : n < 100000) (s : AHeap) : ACall Tryz.prog 197 [.int .i64 n] s fun v t => v = .bool (!plainN n) ∧ t = s := by
  refine gob197 (by simp) ?_
  intro tm hlen harg
  have out : ∀ b, (!plainN n) = b → lexit s (fun v t => v = .bool (!plainN n) ∧ t = s) (some (.bool b)) (loc s 0 []) := fun b hb => lexit_pure (.refl s) (by simp only [low]) ⟨by rw [hb], rfl⟩
  simp +contextual only [go_sem, L197, hlen, harg, cdD, cdN, gdT, gdF, gdD]
  refine lfunG_eq (refin_ok _ _ _ _) ?_
  have key : plainN n = (decide (32 ≤ n) && decide (n ≤ 126) && decide (n ≠ 34) && decide (n ≠ 92)) := rfl
  by_cases h1 : (32 : Int) ≤ n ∧ (n : Int) ≤ 126
  · simp +contextual only [go_sem, hlen, harg, h1, cdD, cdN, gdT, gdF, gdD]
    refine ⟨fun h2 => out _ ?_, fun h2 => out _ ?_⟩
    · rw [key]; have : n = 34 := by omega
      simp [this]
    · rw [key]
      have e1 : 32 ≤ n := by omega
      have e2 : n ≤ 126 := by omega
      have e3 : n ≠ 34 := by omega
      have e4 : ((n : Int) = 92) = (n = 92) := propext ⟨fun h => by omega, fun h => by omega⟩
      simp [e1, e2, e3, e4]
  · simp +contextual only [go_sem, hlen, harg, h1, cdD, cdN, gdT, gdF, gdD]
    refine out _ ?_
    rw [key]
    by_cases e1 : 32 ≤ n
    · have : ¬ n ≤ 126 := by omega
      simp [this]
    · simp [e1]
theorem begun_ok (d : Nat) (hd : d < 16) (s : AHeap) : ACall Tryz.prog 196 [.int .i64 d] s fun v t => v = .bool (begunN d) ∧ t = s := by
  refine gob196 (by simp) ?_
  intro tm hlen harg
  simp +contextual only [go_sem, L196, hlen, harg, cdD, cdN, gdT, gdF, gdD]
  refine ⟨Nat, fun i => [(0, .int .i64 (d : Int)), (4, .int .i64 i)], fun i => loc s 0 [], fun i => i ≤ 16 ∧ ∀ k, k < i → plainN (16 * d + k) = true, fun i => 16 - i, 0, by simp, ?_, ?_⟩
  · refine To.go [] [] rfl (.refl s) (by decide) (by simp) ?_ trivial
    simp +contextual only [go_sem, hlen, harg, cdD, cdN, gdT, gdF, gdD]
    simp
  · rintro i tm1 ⟨hi, ha⟩ hlen1 hlv
    simp only [go_sem, hlen, cdD, cdN, gdT, gdF, gdD] at hlen1 hlv hi
    have hw1 : IntKind.i64.wrap (16 * (d : Int)) = 16 * (d : Int) := wrap_id (by omega)
    have hw2 : IntKind.i64.wrap (16 * (d : Int) + (i : Int)) = ((16 * d + i : Nat) : Int) := by rw [wrap_id (by omega)]; omega
    have hwi : IntKind.i64.wrap ((i : Int) + 1) = ((i + 1 : Nat) : Int) := by rw [wrap_id (by omega)]; rfl
    simp +contextual only [go_sem, hlen, hlen1, hlv, hw1, hw2, cdD, cdN, gdT, gdF, gdD]
    refine ⟨fun hlt => ?_, fun hge => ?_⟩
    · refine lfunG_eq (coded_ok _ (by omega) _) ?_
      cases h : plainN (16 * d + i) with
      | true =>
        simp +contextual only [go_sem, hlen1, hlv, hwi, Bool.not_true, cdD, cdN, gdT, gdF, gdD]
        refine ⟨i + 1, ⟨by omega, fun k hk => ?_⟩, by omega, ?_⟩
        · rcases Nat.lt_or_ge k i with q | q
          · exact ha k q
          · rw [show k = i from by omega]; exact h
        · refine To.go [] [] rfl (.refl s) (by decide) (by simp) ?_ trivial
          simp +contextual only [go_sem, hlen1, hlv, cdD, cdN, gdT, gdF, gdD]
      | false =>
        simp +contextual only [go_sem, hlen1, hlv, Bool.not_false, cdD, cdN, gdT, gdF, gdD]
        refine lexit_pure (.refl s) (by simp only [low]) ⟨?_, rfl⟩
        have : begunN d = true := by
          rw [begunN, List.any_eq_true]
          exact ⟨i, List.mem_range.2 (by omega), by rw [h]; rfl⟩
        rw [this]
    · refine lexit_pure (.refl s) (by simp only [low]) ⟨?_, rfl⟩
      have : begunN d = false := by
        rw [begunN, List.any_eq_false]
        intro k hk
        have := ha k (by have := List.mem_range.1 hk; omega)
        simp [this]
      rw [this]
end Go.S1N
end
section
namespace Go.S1N
open Go Go.Am Go.Proofs Go.S1
set_option maxRecDepth 100000
attribute [local go_sem] Nat.reduceLT Nat.reduceEqDiff Nat.reduceAdd Nat.reduceLeDiff reduceIte reduceCtorEq
attribute [local irreducible] lopsB lvb lstepB lfunG lcondB lguardB lguardU ldguardU ldrawB ldrunB ldstepB ldguardB lmem lval ldmem ldval ldfun lexit ldloadB ldlenB lpostB athen ablock
def CodR (S : List UInt8) (a b : Nat) (s : AHeap) (v : AV) (t : AHeap) : Prop :=
  (∃ e, escAt S (a + 1) = some e ∧ v = .tuple [.int .i64 e.toNat, .bool true] ∧ a + 3 ≤ S.length ∧ t = s.upd b (dmr S (a + 3))) ∨
  (escAt S (a + 1) = none ∧ v = .tuple [.int .i64 0, .bool false] ∧ ∃ a', a' ≤ S.length ∧ t = s.upd b (dmr S a'))
theorem code_ok {s : AHeap} {b : Nat} {S : List UInt8} {a : Nat} (h : Dm s b S a) (ha : a < S.length) : ACall Tryz.prog 149 [.ptr b 0] s (CodR S a b s) := by
  refine gob149 (by simp) ?_
  intro tm hlen harg
  have hb := h.lt
  have hg := h.get
  have hln := h.len
  rw [dmr] at hg
  have hlow := fun x => dmr_low (n := s.nx) S x
  have hwa0 : IntKind.i64.wrap ((a : Int) + 1) = ((a + 1 : Nat) : Int) := by rw [wrap_id (by omega)]; rfl
  simp +contextual only [go_sem, L149, hlen, harg, hb, hg, hwa0, cdD, cdN, gdT, gdF, gdD]
  refine ⟨Nat, fun k => [(0, .ptr b 0), (4, .int .i64 (escN S (a + 1) k)), (14, .int .i64 k)], fun k => loc (s.upd b (dmr S (a + 1 + k))) 0 [], fun k => EscI S (a + 1) k, fun k => 2 - k, 0, ⟨by omega, fun h => by omega, fun h => by omega⟩, ?_, ?_⟩
  · refine To.go [] [] rfl ((OKo.refl s).upd hb (hlow _)) (by decide) (by simp) ?_ trivial
    simp +contextual only [go_sem, hlen, harg, rnm_low hb, cdD, cdN, gdT, gdF, gdD]
    simp [escN]
  · rintro k tm1 hI hlen1 hlv
    simp only [go_sem, hlen, cdD, cdN, gdT, gdF, gdD] at hlen1 hlv
    have c02 : ((0 : Nat) : Int) < 2 := by decide
    have c12 : ((1 : Nat) : Int) < 2 := by decide
    have c22 : ¬ ((2 : Nat) : Int) < 2 := by decide
    have c00 : (((0 : Nat) : Int) = 0) = True := by simp
    have c0a : (((0 : Nat) : Int) = 1) = False := by simp
    have c10 : (((1 : Nat) : Int) = 0) = False := by simp
    have c1a : (((1 : Nat) : Int) = 1) = True := by simp
    have c01 : IntKind.i64.wrap (((0 : Nat) : Int) + 1) = ((1 : Nat) : Int) := by decide
    have c11 : IntKind.i64.wrap (((1 : Nat) : Int) + 1) = ((2 : Nat) : Int) := by decide
    have fin : ∀ {nn : Nat} {ll : List (Nat × Option AObj)} {a' : Nat}, escAt S (a + 1) = none → a' ≤ S.length → lexit s (CodR S a b s) (some (.tuple [.int .i64 0, .bool false])) (loc (s.upd b (.cells [.str S, .int .i64 a'] (some 154))) nn ll) := fun h1 h2 =>
      lexit_pure ((OKo.refl s).upd hb (hlow _)) (by simp only [low, lowL, and_self]) (.inr ⟨h1, rfl, _, h2, rfl⟩)
    rcases k with _ | _ | _ | k
    · skip
      simp +contextual only [go_sem, hlen, hlen1, hlv, hb, dmr, c02, c12, cdD, cdN, gdT, gdF, gdD]
      refine ldrawB_go [] [] 9 (by decide) ?_
      by_cases hm : (a + 1) < S.length
      · have hI1 : ((S.length : Int) ≤ (((a + 1) : Nat) : Int)) = False := by simp; omega
        have hsd : S[(a + 1)] = S.getD (a + 1) 0 := by rw [List.getD_eq_getElem?_getD, List.getElem?_eq_getElem hm]; rfl
        simp +contextual only [go_sem, hlen1, hlv, hb, hI1, cdD, cdN, gdT, gdF, gdD]
        refine ⟨by kernel_rfl, ?_⟩
        refine ldrawB_go [] [] 8 (by decide) ?_
        simp +contextual only [go_sem, hlen1, hlv, hb, str_at hm, hsd, cdD, cdN, gdT, gdF, gdD]
        refine ⟨by kernel_rfl, ?_⟩
        refine lfunG_eq (idxL_ok hexs _ _) ?_
        rw [show Lib.indexByte hexs (S.getD (a + 1) 0) = hexV (S.getD (a + 1) 0) from rfl]
        have hr := hexV_lt (S.getD (a + 1) 0)
        by_cases hv : hexV (S.getD (a + 1) 0) < 0
        · simp +contextual only [go_sem, hlen1, hlv, hb, hv, cdD, cdN, gdT, gdF, gdD]
          refine fin ?_ (by omega)
          rcases Nat.lt_or_ge (a + 1 + 1) S.length with q | q
          · rw [escAt_two q]
            cases he : escB (S.getD (a + 1) 0) (S.getD (a + 1 + 1) 0) with
            | none => rfl
            | some e =>
              obtain ⟨g1, g2, g3, g4, g5⟩ := begun_of he
              omega
          · exact escAt_short q
        · have hv0 : 0 ≤ hexV (S.getD (a + 1) 0) := by omega
          simp +contextual only [go_sem, hlen1, hlv, hb, hv, c00, c0a, c10, c1a, cdD, cdN, gdT, gdF, gdD]
          have hvn : hexV (S.getD (a + 1) 0) = ((hexV (S.getD (a + 1) 0)).toNat : Int) := by omega
          rw [hvn]
          refine lfunG_eq (begun_ok _ (by omega) _) ?_
          rw [← hvn]
          cases hbg : begunN (hexV (S.getD (a + 1) 0)).toNat
          · simp +contextual only [go_sem, hlen1, hlv, hb, c00, c0a, c10, c1a, Bool.not_true, Bool.not_false, cdD, cdN, gdT, gdF, gdD]
            refine fin ?_ (by omega)
            rcases Nat.lt_or_ge (a + 1 + 1) S.length with q | q
            · rw [escAt_two q]
              cases he : escB (S.getD (a + 1) 0) (S.getD (a + 1 + 1) 0) with
              | none => rfl
              | some e =>
                obtain ⟨g1, g2, g3, g4, g5⟩ := begun_of he
                rw [hbg] at g5; cases g5
            · exact escAt_short q
          · have hwa : IntKind.i64.wrap ((((a + 1) : Nat) : Int) + 1) = (((a + 1) + 1 : Nat) : Int) := by rw [wrap_id (by omega)]; rfl
            have hwn : IntKind.i64.wrap (IntKind.i64.wrap (16 * escN S (a + 1) 0) + hexV (S.getD (a + 1) 0)) = escN S (a + 1) (0 + 1) := by
              rw [show escN S (a + 1) 0 = 0 from rfl]
              show IntKind.i64.wrap (IntKind.i64.wrap (16 * 0) + hexV (S.getD (a + 1) 0)) = hexV (S.getD (a + 1) 0)
              rw [wrap_id (n := 16 * 0) (by omega), wrap_id (by omega)]; omega
            simp +contextual only [go_sem, hlen1, hlv, hb, c01, c11, c00, c0a, c10, c1a, hwa, hwn, Bool.not_true, Bool.not_false, cdD, cdN, gdT, gdF, gdD]
            refine ⟨0 + 1, ⟨by omega, fun _ => ⟨hm, hv0, hbg⟩, fun h => by omega⟩, by omega, ?_⟩
            refine To.go [] [] rfl ((OKo.refl s).upd hb (hlow _)) (by decide) (by simp) ?_ trivial
            simp +contextual only [go_sem, hlen1, hlv, rnm_low hb, cdD, cdN, gdT, gdF, gdD]
      · have hI1 : ((S.length : Int) ≤ (((a + 1) : Nat) : Int)) = True := by simp; omega
        simp +contextual only [go_sem, hlen1, hlv, hb, hI1, cdD, cdN, gdT, gdF, gdD]
        refine ⟨by kernel_rfl, ?_⟩
        exact fin (escAt_short (by omega)) (by omega)
    · obtain ⟨ho1, ho2, ho3⟩ := hI.one (by omega)
      have hr1 := hexV_lt (S.getD (a + 1) 0)
      simp +contextual only [go_sem, hlen, hlen1, hlv, hb, dmr, c02, c12, cdD, cdN, gdT, gdF, gdD]
      refine ldrawB_go [] [] 9 (by decide) ?_
      by_cases hm : (a + 1 + 1) < S.length
      · have hI1 : ((S.length : Int) ≤ (((a + 1 + 1) : Nat) : Int)) = False := by simp; omega
        have hsd : S[(a + 1 + 1)] = S.getD (a + 1 + 1) 0 := by rw [List.getD_eq_getElem?_getD, List.getElem?_eq_getElem hm]; rfl
        simp +contextual only [go_sem, hlen1, hlv, hb, hI1, cdD, cdN, gdT, gdF, gdD]
        refine ⟨by kernel_rfl, ?_⟩
        refine ldrawB_go [] [] 8 (by decide) ?_
        simp +contextual only [go_sem, hlen1, hlv, hb, str_at hm, hsd, cdD, cdN, gdT, gdF, gdD]
        refine ⟨by kernel_rfl, ?_⟩
        refine lfunG_eq (idxL_ok hexs _ _) ?_
        rw [show Lib.indexByte hexs (S.getD (a + 1 + 1) 0) = hexV (S.getD (a + 1 + 1) 0) from rfl]
        have hr := hexV_lt (S.getD (a + 1 + 1) 0)
        by_cases hv : hexV (S.getD (a + 1 + 1) 0) < 0
        · simp +contextual only [go_sem, hlen1, hlv, hb, hv, cdD, cdN, gdT, gdF, gdD]
          refine fin ?_ (by omega)
          rw [escAt_two (by omega)]
          cases he : escB (S.getD (a + 1) 0) (S.getD (a + 1 + 1) 0) with
          | none => rfl
          | some e =>
            obtain ⟨g1, g2, g3, g4, g5⟩ := begun_of he
            omega
        · have hv0 : 0 ≤ hexV (S.getD (a + 1 + 1) 0) := by omega
          have e16 : IntKind.i64.wrap (IntKind.i64.wrap (16 * escN S (a + 1) 1) + hexV (S.getD (a + 1 + 1) 0)) = (((16 * hexV (S.getD (a + 1) 0) + hexV (S.getD (a + 1 + 1) 0)).toNat : Nat) : Int) := by
            show IntKind.i64.wrap (IntKind.i64.wrap (16 * hexV (S.getD (a + 1) 0)) + hexV (S.getD (a + 1 + 1) 0)) = _
            rw [wrap_id (n := 16 * hexV (S.getD (a + 1) 0)) (by omega), wrap_id (by omega)]; omega
          simp +contextual only [go_sem, hlen1, hlv, hb, hv, c00, c0a, c10, c1a, e16, cdD, cdN, gdT, gdF, gdD]
          refine lfunG_eq (coded_ok _ (by omega) _) ?_
          cases hbg : plainN (16 * hexV (S.getD (a + 1) 0) + hexV (S.getD (a + 1 + 1) 0)).toNat
          rotate_left
          · simp +contextual only [go_sem, hlen1, hlv, hb, c00, c0a, c10, c1a, Bool.not_true, Bool.not_false, cdD, cdN, gdT, gdF, gdD]
            refine fin ?_ (by omega)
            rw [escAt_two (by omega)]
            cases he : escB (S.getD (a + 1) 0) (S.getD (a + 1 + 1) 0) with
            | none => rfl
            | some e =>
              obtain ⟨g1, g2, g3, g4, g5⟩ := begun_of he
              rw [hbg] at g3; cases g3
          · have hwa : IntKind.i64.wrap ((((a + 1 + 1) : Nat) : Int) + 1) = (((a + 1 + 1) + 1 : Nat) : Int) := by rw [wrap_id (by omega)]; rfl
            have hwn : IntKind.i64.wrap (IntKind.i64.wrap (16 * escN S (a + 1) 1) + hexV (S.getD (a + 1 + 1) 0)) = escN S (a + 1) (1 + 1) := by
              rw [e16]
              show _ = 16 * hexV (S.getD (a + 1) 0) + hexV (S.getD (a + 1 + 1) 0)
              omega
            simp +contextual only [go_sem, hlen1, hlv, hb, c01, c11, c00, c0a, c10, c1a, hwa, hwn, Bool.not_true, Bool.not_false, cdD, cdN, gdT, gdF, gdD]
            refine ⟨1 + 1, ⟨by omega, fun _ => hI.one (by omega), fun _ => ⟨hm, hv0, hbg⟩⟩, by omega, ?_⟩
            refine To.go [] [] rfl ((OKo.refl s).upd hb (hlow _)) (by decide) (by simp) ?_ trivial
            simp +contextual only [go_sem, hlen1, hlv, rnm_low hb, cdD, cdN, gdT, gdF, gdD]
      · have hI1 : ((S.length : Int) ≤ (((a + 1 + 1) : Nat) : Int)) = True := by simp; omega
        simp +contextual only [go_sem, hlen1, hlv, hb, hI1, cdD, cdN, gdT, gdF, gdD]
        refine ⟨by kernel_rfl, ?_⟩
        exact fin (escAt_short (by omega)) (by omega)
    · obtain ⟨e1, e2, e3, e4⟩ := hI.done
      simp +contextual only [go_sem, hlen, hlen1, hlv, c22, cdD, cdN, gdT, gdF, gdD]
      refine lexit_pure ((OKo.refl s).upd hb (hlow _)) (by simp only [low, lowL, and_self]) (.inl ⟨_, e2, ?_, by omega, rfl⟩)
      rw [u8_of (by omega)]
      congr 3
      omega
    · have := hI.le; omega
end Go.S1N
end
