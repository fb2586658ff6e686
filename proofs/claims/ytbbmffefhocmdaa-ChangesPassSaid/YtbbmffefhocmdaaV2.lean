/- Part 2 of a proof: texts of this work, put together. -/
import Derived.Test.YtbbmffefhocmdaaV1
import Derived.KernelRfl
import Derived.Shelf.Lay
import Derived.Ground.NamesProg
section
set_option linter.unusedVariables false
set_option linter.unusedSimpArgs false
namespace Go.S1
open Go Go.Am Go.Proofs
set_option maxRecDepth 100000
noncomputable def L7 : LCode := LCode.seq (LCode.ops [⟨Op.assign (Operand.const (Value.bool false)), some 2, none⟩]) (LCode.seq (LCode.ops [⟨Op.move (Operand.tmp 0), some 21, none⟩, ⟨Op.build 25 { toList := [(0, Operand.tmp 21)] }, some 22, none⟩, ⟨Op.box 25 (Operand.tmp 22), some 23, none⟩, ⟨Op.assign (Operand.tmp 23), some 3, none⟩]) (LCode.seq (LCode.ops [⟨Op.move (Operand.tmp 3), some 24, none⟩, ⟨Op.call { callee := Callee.value (Operand.func 10), args := { toList := [Operand.tmp 24, Operand.const (Value.int IntKind.i64 0), Operand.const (Value.int IntKind.i64 10)] }, argTypes := { toList := [23, 3, 3] } }, some 25, none⟩, ⟨Op.assign (Operand.tmp 25), some 4, none⟩]) (LCode.seq (LCode.ops [⟨Op.move (Operand.tmp 3), some 26, none⟩, ⟨Op.move (Operand.tmp 4), some 27, none⟩, ⟨Op.call { callee := Callee.value (Operand.func 9), args := { toList := [Operand.tmp 26, Operand.tmp 27] }, argTypes := { toList := [23, 3] } }, some 28, none⟩, ⟨Op.move (Operand.tmp 3), some 29, none⟩, ⟨Op.move (Operand.tmp 4), some 30, none⟩, ⟨Op.call { callee := Callee.value (Operand.func 9), args := { toList := [Operand.tmp 29, Operand.tmp 30] }, argTypes := { toList := [23, 3] } }, some 31, none⟩, ⟨Op.assign (Operand.tmp 28), some 5, none⟩, ⟨Op.assign (Operand.tmp 31), some 6, none⟩]) (LCode.seq (LCode.ops [⟨Op.move (Operand.tmp 4), some 33, none⟩, ⟨Op.move (Operand.tmp 5), some 34, none⟩, ⟨Op.move (Operand.tmp 6), some 35, none⟩, ⟨Op.call { callee := Callee.value (Operand.func 60), args := { toList := [Operand.tmp 33, Operand.tmp 34, Operand.tmp 35] }, argTypes := { toList := [3, 27, 27] } }, some 36, none⟩, ⟨Op.move (Operand.tmp 36), some 32, none⟩, ⟨Op.extract (Operand.tmp 32) 0, some 37, none⟩, ⟨Op.extract (Operand.tmp 32) 1, some 38, none⟩, ⟨Op.extract (Operand.tmp 32) 2, some 39, none⟩, ⟨Op.assign (Operand.tmp 37), some 7, none⟩, ⟨Op.assign (Operand.tmp 38), some 8, none⟩, ⟨Op.assign (Operand.tmp 39), some 9, none⟩]) (LCode.seq (LCode.ops [⟨Op.move (Operand.tmp 4), some 41, none⟩, ⟨Op.move (Operand.tmp 5), some 42, none⟩, ⟨Op.move (Operand.tmp 6), some 43, none⟩, ⟨Op.call { callee := Callee.value (Operand.func 61), args := { toList := [Operand.tmp 41, Operand.tmp 42, Operand.tmp 43] }, argTypes := { toList := [3, 27, 27] } }, some 44, none⟩, ⟨Op.move (Operand.tmp 44), some 40, none⟩, ⟨Op.extract (Operand.tmp 40) 0, some 45, none⟩, ⟨Op.extract (Operand.tmp 40) 1, some 46, none⟩, ⟨Op.assign (Operand.tmp 45), some 10, none⟩, ⟨Op.assign (Operand.tmp 46), some 11, none⟩]) (LCode.seq (LCode.ops [⟨Op.move (Operand.tmp 4), some 48, none⟩, ⟨Op.move (Operand.tmp 5), some 49, none⟩, ⟨Op.move (Operand.tmp 6), some 50, none⟩, ⟨Op.call { callee := Callee.value (Operand.func 62), args := { toList := [Operand.tmp 48, Operand.tmp 49, Operand.tmp 50] }, argTypes := { toList := [3, 27, 27] } }, some 51, none⟩, ⟨Op.move (Operand.tmp 51), some 47, none⟩, ⟨Op.extract (Operand.tmp 47) 0, some 52, none⟩, ⟨Op.extract (Operand.tmp 47) 1, some 53, none⟩, ⟨Op.assign (Operand.tmp 52), some 12, none⟩, ⟨Op.assign (Operand.tmp 53), some 13, none⟩]) (LCode.seq (LCode.ops [⟨Op.move (Operand.tmp 4), some 54, none⟩, ⟨Op.move (Operand.tmp 5), some 55, none⟩, ⟨Op.call { callee := Callee.value (Operand.func 14), args := { toList := [Operand.tmp 54, Operand.tmp 55] }, argTypes := { toList := [3, 27] } }, some 56, none⟩, ⟨Op.move (Operand.tmp 4), some 57, none⟩, ⟨Op.move (Operand.tmp 6), some 58, none⟩, ⟨Op.call { callee := Callee.value (Operand.func 14), args := { toList := [Operand.tmp 57, Operand.tmp 58] }, argTypes := { toList := [3, 27] } }, some 59, none⟩, ⟨Op.buildSlice 107 2 { toList := [(0, Operand.tmp 56), (1, Operand.tmp 59)] }, some 60, none⟩, ⟨Op.call { callee := Callee.value (Operand.func 15), args := { toList := [Operand.tmp 60] }, argTypes := { toList := [107] } }, some 61, none⟩, ⟨Op.assign (Operand.tmp 61), some 14, none⟩]) (LCode.seq (LCode.ops [⟨Op.move (Operand.tmp 4), some 63, none⟩, ⟨Op.move (Operand.tmp 5), some 64, none⟩, ⟨Op.move (Operand.tmp 6), some 65, none⟩, ⟨Op.call { callee := Callee.value (Operand.func 63), args := { toList := [Operand.tmp 63, Operand.tmp 64, Operand.tmp 65] }, argTypes := { toList := [3, 27, 27] } }, some 66, none⟩, ⟨Op.move (Operand.tmp 66), some 62, none⟩, ⟨Op.extract (Operand.tmp 62) 0, some 67, none⟩, ⟨Op.extract (Operand.tmp 62) 1, some 68, none⟩, ⟨Op.extract (Operand.tmp 62) 2, some 69, none⟩, ⟨Op.assign (Operand.tmp 67), some 15, none⟩, ⟨Op.assign (Operand.tmp 68), some 16, none⟩, ⟨Op.assign (Operand.tmp 69), some 17, none⟩]) (LCode.seq (LCode.ops [⟨Op.move (Operand.tmp 4), some 71, none⟩, ⟨Op.move (Operand.tmp 5), some 72, none⟩, ⟨Op.move (Operand.tmp 6), some 73, none⟩, ⟨Op.call { callee := Callee.value (Operand.func 64), args := { toList := [Operand.tmp 71, Operand.tmp 72, Operand.tmp 73] }, argTypes := { toList := [3, 27, 27] } }, some 74, none⟩, ⟨Op.move (Operand.tmp 74), some 70, none⟩, ⟨Op.extract (Operand.tmp 70) 0, some 75, none⟩, ⟨Op.extract (Operand.tmp 70) 1, some 76, none⟩, ⟨Op.assign (Operand.tmp 75), some 18, none⟩, ⟨Op.assign (Operand.tmp 76), some 19, none⟩]) (LCode.seq (LCode.ops [⟨Op.move (Operand.tmp 14), some 77, none⟩, ⟨Op.binOp BinOp.eql 31 (Operand.tmp 77) (Operand.const (Value.int IntKind.i64 0)) 31, some 78, none⟩, ⟨Op.move (Operand.tmp 78), some 79, none⟩, ⟨Op.move (Operand.tmp 5), some 80, some (79, true)⟩, ⟨Op.move (Operand.tmp 6), some 81, some (79, true)⟩, ⟨Op.call { callee := Callee.value (Operand.func 65), args := { toList := [Operand.tmp 80, Operand.tmp 81] }, argTypes := { toList := [27, 27] } }, some 82, some (79, true)⟩, ⟨Op.pick (Operand.tmp 79) (Operand.tmp 82) (Operand.const (Value.bool false)), some 83, none⟩, ⟨Op.assign (Operand.tmp 83), some 20, none⟩]) (LCode.seq (LCode.ops [⟨Op.move (Operand.tmp 9), some 84, none⟩, ⟨Op.move (Operand.tmp 17), some 85, none⟩, ⟨Op.binOp BinOp.eql 31 (Operand.tmp 84) (Operand.tmp 85) 31, some 86, none⟩, ⟨Op.move (Operand.tmp 86), some 87, none⟩, ⟨Op.move (Operand.tmp 7), some 88, some (87, true)⟩, ⟨Op.move (Operand.tmp 15), some 89, some (87, true)⟩, ⟨Op.call { callee := Callee.value (Operand.func 33), args := { toList := [Operand.tmp 88, Operand.tmp 89] }, argTypes := { toList := [27, 27] } }, some 90, some (87, true)⟩, ⟨Op.pick (Operand.tmp 87) (Operand.tmp 90) (Operand.const (Value.bool false)), some 91, none⟩, ⟨Op.move (Operand.tmp 91), some 92, none⟩, ⟨Op.move (Operand.tmp 8), some 93, some (92, true)⟩, ⟨Op.move (Operand.tmp 16), some 94, some (92, true)⟩, ⟨Op.call { callee := Callee.value (Operand.func 33), args := { toList := [Operand.tmp 93, Operand.tmp 94] }, argTypes := { toList := [27, 27] } }, some 95, some (92, true)⟩, ⟨Op.pick (Operand.tmp 92) (Operand.tmp 95) (Operand.const (Value.bool false)), some 96, none⟩, ⟨Op.move (Operand.tmp 96), some 97, none⟩, ⟨Op.move (Operand.tmp 11), some 98, some (97, true)⟩, ⟨Op.move (Operand.tmp 19), some 99, some (97, true)⟩, ⟨Op.binOp BinOp.eql 31 (Operand.tmp 98) (Operand.tmp 99) 31, some 100, some (97, true)⟩, ⟨Op.pick (Operand.tmp 97) (Operand.tmp 100) (Operand.const (Value.bool false)), some 101, none⟩, ⟨Op.move (Operand.tmp 101), some 102, none⟩, ⟨Op.move (Operand.tmp 10), some 103, some (102, true)⟩, ⟨Op.move (Operand.tmp 18), some 104, some (102, true)⟩, ⟨Op.call { callee := Callee.value (Operand.func 33), args := { toList := [Operand.tmp 103, Operand.tmp 104] }, argTypes := { toList := [27, 27] } }, some 105, some (102, true)⟩, ⟨Op.pick (Operand.tmp 102) (Operand.tmp 105) (Operand.const (Value.bool false)), some 106, none⟩, ⟨Op.move (Operand.tmp 106), some 107, none⟩, ⟨Op.move (Operand.tmp 13), some 108, some (107, true)⟩, ⟨Op.move (Operand.tmp 14), some 109, some (107, true)⟩, ⟨Op.binOp BinOp.eql 31 (Operand.tmp 108) (Operand.tmp 109) 31, some 110, some (107, true)⟩, ⟨Op.pick (Operand.tmp 107) (Operand.tmp 110) (Operand.const (Value.bool false)), some 111, none⟩, ⟨Op.move (Operand.tmp 111), some 112, none⟩, ⟨Op.move (Operand.tmp 12), some 113, some (112, true)⟩, ⟨Op.move (Operand.tmp 20), some 114, some (112, true)⟩, ⟨Op.binOp BinOp.eql 4 (Operand.tmp 113) (Operand.tmp 114) 4, some 115, some (112, true)⟩, ⟨Op.pick (Operand.tmp 112) (Operand.tmp 115) (Operand.const (Value.bool false)), some 116, none⟩, ⟨Op.move (Operand.tmp 116), some 117, none⟩, ⟨Op.call { callee := Callee.value (Operand.func 19), args := { toList := [] }, argTypes := { toList := [] } }, some 118, some (117, true)⟩, ⟨Op.pick (Operand.tmp 117) (Operand.tmp 118) (Operand.const (Value.bool false)), some 119, none⟩, ⟨Op.assign (Operand.tmp 119), some 2, none⟩]) LCode.ret)))))))))))
theorem l7 : Try.f7.body.map lighten = some L7 := by kernel_rfl
theorem rs7 : Try.f7.results.toList = [ResultVar.tmp 2] := by kernel_rfl
theorem nt7 : Try.f7.ntmps = 120 := by kernel_rfl
theorem gob7 {args : List AV} {s : AHeap} {R : AV → AHeap → Prop} (hl : args.length ≤ 120) (h : ∀ tm, tm.length = 120 → (∀ i, aev tm (.tmp i) = args.getD i aundef) → lvb Try.prog tab s L7 (lpostB tab s [ResultVar.tmp 2] R) tm (loc s 0 [])) : ACall Try.prog 7 args s R := ACall.goB tab_ok mixed Try.func7 l7 nm7 rs7 nt7 hl h
noncomputable def L60 : LCode := LCode.seq (LCode.ops [⟨Op.assign (Operand.const (Value.slice none 0 0)), some 6, none⟩, ⟨Op.assign (Operand.const (Value.slice none 0 0)), some 7, none⟩, ⟨Op.assign (Operand.const (Value.int IntKind.i64 0)), some 8, none⟩]) (LCode.seq (LCode.seq (LCode.ops [⟨Op.move (Operand.tmp 0), some 13, none⟩, ⟨Op.move (Operand.tmp 1), some 14, none⟩, ⟨Op.move (Operand.tmp 2), some 15, none⟩, ⟨Op.call { callee := Callee.value (Operand.func 110), args := { toList := [Operand.tmp 13, Operand.tmp 14, Operand.tmp 15] }, argTypes := { toList := [3, 27, 27] } }, some 16, none⟩, ⟨Op.assign (Operand.tmp 16), some 9, none⟩]) (LCode.seq (LCode.ops [⟨Op.move (Operand.tmp 9), some 17, none⟩, ⟨Op.binOp BinOp.neq 31 (Operand.tmp 17) (Operand.const (Value.int IntKind.i64 0)) 31, some 18, none⟩]) (LCode.cond (Operand.tmp 18) (LCode.seq (LCode.ops [⟨Op.move (Operand.tmp 9), some 19, none⟩, ⟨Op.assign (Operand.const (Value.slice none 0 0)), some 6, none⟩, ⟨Op.assign (Operand.const (Value.slice none 0 0)), some 7, none⟩, ⟨Op.assign (Operand.tmp 19), some 8, none⟩]) LCode.ret) LCode.skip))) (LCode.seq (LCode.ops [⟨Op.move (Operand.tmp 0), some 20, none⟩, ⟨Op.move (Operand.tmp 1), some 21, none⟩, ⟨Op.move (Operand.tmp 2), some 22, none⟩, ⟨Op.call { callee := Callee.value (Operand.func 111), args := { toList := [Operand.tmp 20, Operand.tmp 21, Operand.tmp 22] }, argTypes := { toList := [3, 27, 27] } }, some 23, none⟩, ⟨Op.alloc 164, some 10, none⟩, ⟨Op.store 164 (Operand.tmp 10) (Operand.tmp 23), none, none⟩]) (LCode.seq (LCode.draw [0, 0, 3, 0, 8, 31, 0, 0, 255, 0, 512, 2047, 4095, 8191] [⟨Op.move (Operand.tmp 0), some 24, none⟩, ⟨Op.move (Operand.tmp 1), some 25, none⟩, ⟨Op.call { callee := Callee.value (Operand.func 72), args := { toList := [Operand.tmp 24, Operand.tmp 25] }, argTypes := { toList := [3, 27] } }, some 26, none⟩, ⟨Op.fieldAddr 164 (Operand.tmp 10) 1, some 27, none⟩, ⟨Op.load 108 (Operand.tmp 27), some 28, none⟩, ⟨Op.call { callee := Callee.value (Operand.func 112), args := { toList := [Operand.tmp 26, Operand.tmp 28] }, argTypes := { toList := [3, 108] } }, some 29, none⟩, ⟨Op.move (Operand.tmp 0), some 30, none⟩, ⟨Op.move (Operand.tmp 2), some 31, none⟩, ⟨Op.call { callee := Callee.value (Operand.func 72), args := { toList := [Operand.tmp 30, Operand.tmp 31] }, argTypes := { toList := [3, 27] } }, some 32, none⟩, ⟨Op.fieldAddr 164 (Operand.tmp 10) 2, some 33, none⟩, ⟨Op.load 108 (Operand.tmp 33), some 34, none⟩, ⟨Op.call { callee := Callee.value (Operand.func 112), args := { toList := [Operand.tmp 32, Operand.tmp 34] }, argTypes := { toList := [3, 108] } }, some 35, none⟩, ⟨Op.assign (Operand.tmp 29), some 11, none⟩, ⟨Op.assign (Operand.tmp 35), some 12, none⟩]) (LCode.seq (LCode.seq (LCode.ops [⟨Op.move (Operand.tmp 11), some 36, none⟩, ⟨Op.call { callee := Callee.builtin Builtin.len, args := { toList := [Operand.tmp 36] }, argTypes := { toList := [27] } }, some 37, none⟩, ⟨Op.binOp BinOp.gtr 3 (Operand.tmp 37) (Operand.const (Value.int IntKind.i64 2000)) 3, some 38, none⟩, ⟨Op.move (Operand.tmp 38), some 39, none⟩, ⟨Op.move (Operand.tmp 12), some 40, some (39, false)⟩, ⟨Op.call { callee := Callee.builtin Builtin.len, args := { toList := [Operand.tmp 40] }, argTypes := { toList := [27] } }, some 41, some (39, false)⟩, ⟨Op.binOp BinOp.gtr 3 (Operand.tmp 41) (Operand.const (Value.int IntKind.i64 2000)) 3, some 42, some (39, false)⟩, ⟨Op.pick (Operand.tmp 39) (Operand.const (Value.bool true)) (Operand.tmp 42), some 43, none⟩, ⟨Op.move (Operand.tmp 43), some 44, none⟩, ⟨Op.fieldAddr 164 (Operand.tmp 10) 3, some 45, some (44, false)⟩, ⟨Op.load 3 (Operand.tmp 45), some 46, some (44, false)⟩, ⟨Op.binOp BinOp.gtr 3 (Operand.tmp 46) (Operand.const (Value.int IntKind.i64 20000)) 3, some 47, some (44, false)⟩, ⟨Op.pick (Operand.tmp 44) (Operand.const (Value.bool true)) (Operand.tmp 47), some 48, none⟩]) (LCode.cond (Operand.tmp 48) (LCode.seq (LCode.ops [⟨Op.assign (Operand.const (Value.slice none 0 0)), some 6, none⟩, ⟨Op.assign (Operand.const (Value.slice none 0 0)), some 7, none⟩, ⟨Op.assign (Operand.const (Value.int IntKind.i64 2)), some 8, none⟩]) LCode.ret) LCode.skip)) (LCode.seq (LCode.ops [⟨Op.move (Operand.tmp 11), some 49, none⟩, ⟨Op.move (Operand.tmp 12), some 50, none⟩, ⟨Op.assign (Operand.tmp 49), some 6, none⟩, ⟨Op.assign (Operand.tmp 50), some 7, none⟩, ⟨Op.assign (Operand.const (Value.int IntKind.i64 0)), some 8, none⟩]) LCode.ret)))))
theorem l60 : Try.f60.body.map lighten = some L60 := by kernel_rfl
theorem rs60 : Try.f60.results.toList = [ResultVar.tmp 6, ResultVar.tmp 7, ResultVar.tmp 8] := by kernel_rfl
theorem nt60 : Try.f60.ntmps = 51 := by kernel_rfl
theorem gob60 {args : List AV} {s : AHeap} {R : AV → AHeap → Prop} (hl : args.length ≤ 51) (h : ∀ tm, tm.length = 51 → (∀ i, aev tm (.tmp i) = args.getD i aundef) → lvb Try.prog tab s L60 (lpostB tab s [ResultVar.tmp 6, ResultVar.tmp 7, ResultVar.tmp 8] R) tm (loc s 0 [])) : ACall Try.prog 60 args s R := ACall.goB tab_ok mixed Try.func60 l60 nm60 rs60 nt60 hl h
noncomputable def L61 : LCode := LCode.seq (LCode.ops [⟨Op.assign (Operand.const (Value.slice none 0 0)), some 6, none⟩, ⟨Op.assign (Operand.const (Value.int IntKind.i64 0)), some 7, none⟩]) (LCode.seq (LCode.seq (LCode.ops [⟨Op.move (Operand.tmp 0), some 11, none⟩, ⟨Op.move (Operand.tmp 1), some 12, none⟩, ⟨Op.move (Operand.tmp 2), some 13, none⟩, ⟨Op.call { callee := Callee.value (Operand.func 110), args := { toList := [Operand.tmp 11, Operand.tmp 12, Operand.tmp 13] }, argTypes := { toList := [3, 27, 27] } }, some 14, none⟩, ⟨Op.assign (Operand.tmp 14), some 8, none⟩]) (LCode.seq (LCode.ops [⟨Op.move (Operand.tmp 8), some 15, none⟩, ⟨Op.binOp BinOp.neq 31 (Operand.tmp 15) (Operand.const (Value.int IntKind.i64 0)) 31, some 16, none⟩]) (LCode.cond (Operand.tmp 16) (LCode.seq (LCode.ops [⟨Op.move (Operand.tmp 8), some 17, none⟩, ⟨Op.assign (Operand.const (Value.slice none 0 0)), some 6, none⟩, ⟨Op.assign (Operand.tmp 17), some 7, none⟩]) LCode.ret) LCode.skip))) (LCode.seq (LCode.ops [⟨Op.move (Operand.tmp 0), some 18, none⟩, ⟨Op.move (Operand.tmp 1), some 19, none⟩, ⟨Op.move (Operand.tmp 2), some 20, none⟩, ⟨Op.call { callee := Callee.value (Operand.func 111), args := { toList := [Operand.tmp 18, Operand.tmp 19, Operand.tmp 20] }, argTypes := { toList := [3, 27, 27] } }, some 21, none⟩, ⟨Op.alloc 164, some 9, none⟩, ⟨Op.store 164 (Operand.tmp 9) (Operand.tmp 21), none, none⟩]) (LCode.seq (LCode.ops [⟨Op.move (Operand.tmp 0), some 22, none⟩, ⟨Op.fieldAddr 164 (Operand.tmp 9) 0, some 23, none⟩, ⟨Op.load 108 (Operand.tmp 23), some 24, none⟩, ⟨Op.call { callee := Callee.value (Operand.func 112), args := { toList := [Operand.tmp 22, Operand.tmp 24] }, argTypes := { toList := [3, 108] } }, some 25, none⟩, ⟨Op.assign (Operand.tmp 25), some 10, none⟩]) (LCode.seq (LCode.seq (LCode.ops [⟨Op.move (Operand.tmp 10), some 26, none⟩, ⟨Op.call { callee := Callee.builtin Builtin.len, args := { toList := [Operand.tmp 26] }, argTypes := { toList := [27] } }, some 27, none⟩, ⟨Op.binOp BinOp.gtr 3 (Operand.tmp 27) (Operand.const (Value.int IntKind.i64 2000)) 3, some 28, none⟩, ⟨Op.move (Operand.tmp 28), some 29, none⟩, ⟨Op.fieldAddr 164 (Operand.tmp 9) 3, some 30, some (29, false)⟩, ⟨Op.load 3 (Operand.tmp 30), some 31, some (29, false)⟩, ⟨Op.binOp BinOp.gtr 3 (Operand.tmp 31) (Operand.const (Value.int IntKind.i64 20000)) 3, some 32, some (29, false)⟩, ⟨Op.pick (Operand.tmp 29) (Operand.const (Value.bool true)) (Operand.tmp 32), some 33, none⟩]) (LCode.cond (Operand.tmp 33) (LCode.seq (LCode.ops [⟨Op.assign (Operand.const (Value.slice none 0 0)), some 6, none⟩, ⟨Op.assign (Operand.const (Value.int IntKind.i64 2)), some 7, none⟩]) LCode.ret) LCode.skip)) (LCode.seq (LCode.ops [⟨Op.move (Operand.tmp 10), some 34, none⟩, ⟨Op.assign (Operand.tmp 34), some 6, none⟩, ⟨Op.assign (Operand.const (Value.int IntKind.i64 0)), some 7, none⟩]) LCode.ret)))))
theorem l61 : Try.f61.body.map lighten = some L61 := by kernel_rfl
theorem rs61 : Try.f61.results.toList = [ResultVar.tmp 6, ResultVar.tmp 7] := by kernel_rfl
theorem nt61 : Try.f61.ntmps = 35 := by kernel_rfl
theorem gob61 {args : List AV} {s : AHeap} {R : AV → AHeap → Prop} (hl : args.length ≤ 35) (h : ∀ tm, tm.length = 35 → (∀ i, aev tm (.tmp i) = args.getD i aundef) → lvb Try.prog tab s L61 (lpostB tab s [ResultVar.tmp 6, ResultVar.tmp 7] R) tm (loc s 0 [])) : ACall Try.prog 61 args s R := ACall.goB tab_ok mixed Try.func61 l61 nm61 rs61 nt61 hl h
noncomputable def L62 : LCode := LCode.seq (LCode.ops [⟨Op.assign (Operand.const (Value.bool false)), some 6, none⟩, ⟨Op.assign (Operand.const (Value.int IntKind.i64 0)), some 7, none⟩]) (LCode.seq (LCode.seq (LCode.ops [⟨Op.move (Operand.tmp 0), some 12, none⟩, ⟨Op.move (Operand.tmp 1), some 13, none⟩, ⟨Op.move (Operand.tmp 2), some 14, none⟩, ⟨Op.call { callee := Callee.value (Operand.func 110), args := { toList := [Operand.tmp 12, Operand.tmp 13, Operand.tmp 14] }, argTypes := { toList := [3, 27, 27] } }, some 15, none⟩, ⟨Op.assign (Operand.tmp 15), some 8, none⟩]) (LCode.seq (LCode.ops [⟨Op.move (Operand.tmp 8), some 16, none⟩, ⟨Op.binOp BinOp.neq 31 (Operand.tmp 16) (Operand.const (Value.int IntKind.i64 0)) 31, some 17, none⟩]) (LCode.cond (Operand.tmp 17) (LCode.seq (LCode.ops [⟨Op.move (Operand.tmp 8), some 18, none⟩, ⟨Op.assign (Operand.const (Value.bool false)), some 6, none⟩, ⟨Op.assign (Operand.tmp 18), some 7, none⟩]) LCode.ret) LCode.skip))) (LCode.seq (LCode.ops [⟨Op.assign (Operand.const (Value.int IntKind.i64 0)), some 9, none⟩]) (LCode.seq (LCode.seq (LCode.ops [⟨Op.move (Operand.tmp 1), some 19, none⟩, ⟨Op.call { callee := Callee.builtin Builtin.len, args := { toList := [Operand.tmp 19] }, argTypes := { toList := [27] } }, some 20, none⟩, ⟨Op.move (Operand.const (Value.int IntKind.i64 0)), some 21, none⟩]) (LCode.block 0 (LCode.loop (LCode.seq (LCode.ops [⟨Op.binOp BinOp.lss 3 (Operand.tmp 21) (Operand.tmp 20) 3, some 22, none⟩]) (LCode.seq (LCode.cond (Operand.tmp 22) LCode.skip (LCode.exit 0)) (LCode.seq (LCode.block 1 (LCode.seq (LCode.ops [⟨Op.indexAddr 27 (Operand.tmp 19) (Operand.tmp 21), some 23, none⟩, ⟨Op.load 35 (Operand.tmp 23), some 24, none⟩, ⟨Op.alloc 35, some 11, none⟩, ⟨Op.store 35 (Operand.tmp 11) (Operand.tmp 24), none, none⟩]) (LCode.seq (LCode.block 2 (LCode.loop (LCode.seq (LCode.seq (LCode.draw [0, 0, 2, 7, 15, 31, 31, 127, 255, 511, 31, 31, 3103, 7199, 15391, 32767, 31, 65567, 262143, 524287] [⟨Op.move (Operand.tmp 9), some 25, none⟩, ⟨Op.move (Operand.tmp 2), some 26, none⟩, ⟨Op.call { callee := Callee.builtin Builtin.len, args := { toList := [Operand.tmp 26] }, argTypes := { toList := [27] } }, some 27, none⟩, ⟨Op.binOp BinOp.lss 3 (Operand.tmp 25) (Operand.tmp 27) 3, some 28, none⟩, ⟨Op.move (Operand.tmp 28), some 29, none⟩, ⟨Op.move (Operand.tmp 2), some 30, some (29, true)⟩, ⟨Op.move (Operand.tmp 9), some 31, some (29, true)⟩, ⟨Op.indexAddr 27 (Operand.tmp 30) (Operand.tmp 31), some 32, some (29, true)⟩, ⟨Op.fieldAddr 35 (Operand.tmp 32) 0, some 33, some (29, true)⟩, ⟨Op.load 3 (Operand.tmp 33), some 34, some (29, true)⟩, ⟨Op.move (Operand.tmp 2), some 35, some (29, true)⟩, ⟨Op.move (Operand.tmp 9), some 36, some (29, true)⟩, ⟨Op.indexAddr 27 (Operand.tmp 35) (Operand.tmp 36), some 37, some (29, true)⟩, ⟨Op.fieldAddr 35 (Operand.tmp 37) 1, some 38, some (29, true)⟩, ⟨Op.load 3 (Operand.tmp 38), some 39, some (29, true)⟩, ⟨Op.binOp BinOp.add 3 (Operand.tmp 34) (Operand.tmp 39) 3, some 40, some (29, true)⟩, ⟨Op.fieldAddr 35 (Operand.tmp 11) 0, some 41, some (29, true)⟩, ⟨Op.load 3 (Operand.tmp 41), some 42, some (29, true)⟩, ⟨Op.binOp BinOp.lss 3 (Operand.tmp 40) (Operand.tmp 42) 3, some 43, some (29, true)⟩, ⟨Op.pick (Operand.tmp 29) (Operand.tmp 43) (Operand.const (Value.bool false)), some 44, none⟩]) (LCode.cond (Operand.tmp 44) LCode.skip (LCode.exit 2))) (LCode.block 3 (LCode.ops [⟨Op.move (Operand.tmp 9), some 45, none⟩, ⟨Op.binOp BinOp.add 3 (Operand.tmp 45) (Operand.const (Value.int IntKind.i64 1)) 3, some 46, none⟩, ⟨Op.assign (Operand.tmp 46), some 9, none⟩]))))) (LCode.seq (LCode.draw [0, 0, 2, 7, 15, 31, 31, 127, 255, 511, 31, 1055, 31, 4127, 15391, 32767, 65535] [⟨Op.move (Operand.tmp 9), some 47, none⟩, ⟨Op.move (Operand.tmp 2), some 48, none⟩, ⟨Op.call { callee := Callee.builtin Builtin.len, args := { toList := [Operand.tmp 48] }, argTypes := { toList := [27] } }, some 49, none⟩, ⟨Op.binOp BinOp.lss 3 (Operand.tmp 47) (Operand.tmp 49) 3, some 50, none⟩, ⟨Op.move (Operand.tmp 50), some 51, none⟩, ⟨Op.move (Operand.tmp 2), some 52, some (51, true)⟩, ⟨Op.move (Operand.tmp 9), some 53, some (51, true)⟩, ⟨Op.indexAddr 27 (Operand.tmp 52) (Operand.tmp 53), some 54, some (51, true)⟩, ⟨Op.fieldAddr 35 (Operand.tmp 54) 0, some 55, some (51, true)⟩, ⟨Op.load 3 (Operand.tmp 55), some 56, some (51, true)⟩, ⟨Op.fieldAddr 35 (Operand.tmp 11) 0, some 57, some (51, true)⟩, ⟨Op.load 3 (Operand.tmp 57), some 58, some (51, true)⟩, ⟨Op.fieldAddr 35 (Operand.tmp 11) 1, some 59, some (51, true)⟩, ⟨Op.load 3 (Operand.tmp 59), some 60, some (51, true)⟩, ⟨Op.binOp BinOp.add 3 (Operand.tmp 58) (Operand.tmp 60) 3, some 61, some (51, true)⟩, ⟨Op.binOp BinOp.leq 3 (Operand.tmp 56) (Operand.tmp 61) 3, some 62, some (51, true)⟩, ⟨Op.pick (Operand.tmp 51) (Operand.tmp 62) (Operand.const (Value.bool false)), some 63, none⟩]) (LCode.cond (Operand.tmp 63) (LCode.seq (LCode.ops [⟨Op.assign (Operand.const (Value.bool true)), some 6, none⟩, ⟨Op.assign (Operand.const (Value.int IntKind.i64 0)), some 7, none⟩]) LCode.ret) LCode.skip))))) (LCode.ops [⟨Op.binOp BinOp.add 3 (Operand.tmp 21) (Operand.const (Value.int IntKind.i64 1)) 3, some 64, none⟩, ⟨Op.move (Operand.tmp 64), some 21, none⟩]))))))) (LCode.seq (LCode.ops [⟨Op.assign (Operand.const (Value.bool false)), some 6, none⟩, ⟨Op.assign (Operand.const (Value.int IntKind.i64 0)), some 7, none⟩]) LCode.ret))))
theorem l62 : Try.f62.body.map lighten = some L62 := by kernel_rfl
theorem rs62 : Try.f62.results.toList = [ResultVar.tmp 6, ResultVar.tmp 7] := by kernel_rfl
theorem nt62 : Try.f62.ntmps = 65 := by kernel_rfl
theorem gob62 {args : List AV} {s : AHeap} {R : AV → AHeap → Prop} (hl : args.length ≤ 65) (h : ∀ tm, tm.length = 65 → (∀ i, aev tm (.tmp i) = args.getD i aundef) → lvb Try.prog tab s L62 (lpostB tab s [ResultVar.tmp 6, ResultVar.tmp 7] R) tm (loc s 0 [])) : ACall Try.prog 62 args s R := ACall.goB tab_ok mixed Try.func62 l62 nm62 rs62 nt62 hl h
noncomputable def L63 : LCode := LCode.seq (LCode.ops [⟨Op.assign (Operand.const (Value.slice none 0 0)), some 6, none⟩, ⟨Op.assign (Operand.const (Value.slice none 0 0)), some 7, none⟩, ⟨Op.assign (Operand.const (Value.int IntKind.i64 0)), some 8, none⟩]) (LCode.seq (LCode.seq (LCode.ops [⟨Op.move (Operand.tmp 0), some 18, none⟩, ⟨Op.move (Operand.tmp 1), some 19, none⟩, ⟨Op.move (Operand.tmp 2), some 20, none⟩, ⟨Op.call { callee := Callee.value (Operand.func 113), args := { toList := [Operand.tmp 18, Operand.tmp 19, Operand.tmp 20] }, argTypes := { toList := [3, 27, 27] } }, some 21, none⟩, ⟨Op.assign (Operand.tmp 21), some 9, none⟩]) (LCode.seq (LCode.ops [⟨Op.move (Operand.tmp 9), some 22, none⟩, ⟨Op.binOp BinOp.neq 31 (Operand.tmp 22) (Operand.const (Value.int IntKind.i64 0)) 31, some 23, none⟩]) (LCode.cond (Operand.tmp 23) (LCode.seq (LCode.ops [⟨Op.move (Operand.tmp 9), some 24, none⟩, ⟨Op.assign (Operand.const (Value.slice none 0 0)), some 6, none⟩, ⟨Op.assign (Operand.const (Value.slice none 0 0)), some 7, none⟩, ⟨Op.assign (Operand.tmp 24), some 8, none⟩]) LCode.ret) LCode.skip))) (LCode.seq (LCode.ops [⟨Op.move (Operand.tmp 0), some 26, none⟩, ⟨Op.move (Operand.tmp 1), some 27, none⟩, ⟨Op.move (Operand.tmp 2), some 28, none⟩, ⟨Op.call { callee := Callee.value (Operand.func 114), args := { toList := [Operand.tmp 26, Operand.tmp 27, Operand.tmp 28] }, argTypes := { toList := [3, 27, 27] } }, some 29, none⟩, ⟨Op.move (Operand.tmp 29), some 25, none⟩, ⟨Op.extract (Operand.tmp 25) 0, some 30, none⟩, ⟨Op.extract (Operand.tmp 25) 1, some 31, none⟩, ⟨Op.extract (Operand.tmp 25) 2, some 32, none⟩, ⟨Op.alloc 118, some 10, none⟩, ⟨Op.store 118 (Operand.tmp 10) (Operand.tmp 30), none, none⟩, ⟨Op.assign (Operand.tmp 31), some 11, none⟩, ⟨Op.assign (Operand.tmp 32), some 12, none⟩]) (LCode.seq (LCode.seq (LCode.ops [⟨Op.fieldAddr 118 (Operand.tmp 10) 1, some 33, none⟩, ⟨Op.load 116 (Operand.tmp 33), some 34, none⟩, ⟨Op.call { callee := Callee.builtin Builtin.len, args := { toList := [Operand.tmp 34] }, argTypes := { toList := [116] } }, some 35, none⟩, ⟨Op.binOp BinOp.gtr 3 (Operand.tmp 35) (Operand.const (Value.int IntKind.i64 20000)) 3, some 36, none⟩]) (LCode.cond (Operand.tmp 36) (LCode.seq (LCode.ops [⟨Op.assign (Operand.const (Value.slice none 0 0)), some 6, none⟩, ⟨Op.assign (Operand.const (Value.slice none 0 0)), some 7, none⟩, ⟨Op.assign (Operand.const (Value.int IntKind.i64 2)), some 8, none⟩]) LCode.ret) LCode.skip)) (LCode.seq (LCode.draw [0, 0, 0, 0, 15, 0, 0, 0, 0, 511, 1023, 2047] [⟨Op.move (Operand.tmp 0), some 37, none⟩, ⟨Op.move (Operand.tmp 1), some 38, none⟩, ⟨Op.load 118 (Operand.tmp 10), some 39, none⟩, ⟨Op.move (Operand.tmp 11), some 40, none⟩, ⟨Op.call { callee := Callee.value (Operand.func 115), args := { toList := [Operand.tmp 37, Operand.tmp 38, Operand.tmp 39, Operand.tmp 40] }, argTypes := { toList := [3, 27, 118, 167] } }, some 41, none⟩, ⟨Op.move (Operand.tmp 0), some 42, none⟩, ⟨Op.move (Operand.tmp 2), some 43, none⟩, ⟨Op.load 118 (Operand.tmp 10), some 44, none⟩, ⟨Op.move (Operand.tmp 12), some 45, none⟩, ⟨Op.call { callee := Callee.value (Operand.func 115), args := { toList := [Operand.tmp 42, Operand.tmp 43, Operand.tmp 44, Operand.tmp 45] }, argTypes := { toList := [3, 27, 118, 167] } }, some 46, none⟩, ⟨Op.assign (Operand.tmp 41), some 13, none⟩, ⟨Op.assign (Operand.tmp 46), some 14, none⟩]) (LCode.seq (LCode.seq (LCode.ops [⟨Op.move (Operand.tmp 13), some 47, none⟩, ⟨Op.move (Operand.tmp 14), some 48, none⟩, ⟨Op.buildSlice 60 2 { toList := [(0, Operand.tmp 47), (1, Operand.tmp 48)] }, some 49, none⟩, ⟨Op.call { callee := Callee.builtin Builtin.len, args := { toList := [Operand.tmp 49] }, argTypes := { toList := [60] } }, some 50, none⟩, ⟨Op.move (Operand.const (Value.int IntKind.i64 0)), some 51, none⟩]) (LCode.block 0 (LCode.loop (LCode.seq (LCode.ops [⟨Op.binOp BinOp.lss 3 (Operand.tmp 51) (Operand.tmp 50) 3, some 52, none⟩]) (LCode.seq (LCode.cond (Operand.tmp 52) LCode.skip (LCode.exit 0)) (LCode.seq (LCode.block 1 (LCode.seq (LCode.ops [⟨Op.indexAddr 60 (Operand.tmp 49) (Operand.tmp 51), some 53, none⟩, ⟨Op.load 27 (Operand.tmp 53), some 54, none⟩, ⟨Op.assign (Operand.tmp 54), some 16, none⟩]) (LCode.seq (LCode.ops [⟨Op.move (Operand.tmp 16), some 55, none⟩, ⟨Op.call { callee := Callee.value (Operand.func 83), args := { toList := [Operand.tmp 55] }, argTypes := { toList := [27] } }, some 56, none⟩, ⟨Op.assign (Operand.tmp 56), some 17, none⟩]) (LCode.seq (LCode.ops [⟨Op.move (Operand.tmp 17), some 57, none⟩, ⟨Op.binOp BinOp.neq 31 (Operand.tmp 57) (Operand.const (Value.int IntKind.i64 0)) 31, some 58, none⟩]) (LCode.cond (Operand.tmp 58) (LCode.seq (LCode.ops [⟨Op.move (Operand.tmp 17), some 59, none⟩, ⟨Op.assign (Operand.const (Value.slice none 0 0)), some 6, none⟩, ⟨Op.assign (Operand.const (Value.slice none 0 0)), some 7, none⟩, ⟨Op.assign (Operand.tmp 59), some 8, none⟩]) LCode.ret) LCode.skip))))) (LCode.ops [⟨Op.binOp BinOp.add 3 (Operand.tmp 51) (Operand.const (Value.int IntKind.i64 1)) 3, some 60, none⟩, ⟨Op.move (Operand.tmp 60), some 51, none⟩]))))))) (LCode.seq (LCode.ops [⟨Op.move (Operand.tmp 13), some 61, none⟩, ⟨Op.move (Operand.tmp 14), some 62, none⟩, ⟨Op.assign (Operand.tmp 61), some 6, none⟩, ⟨Op.assign (Operand.tmp 62), some 7, none⟩, ⟨Op.assign (Operand.const (Value.int IntKind.i64 0)), some 8, none⟩]) LCode.ret))))))
theorem l63 : Try.f63.body.map lighten = some L63 := by kernel_rfl
theorem rs63 : Try.f63.results.toList = [ResultVar.tmp 6, ResultVar.tmp 7, ResultVar.tmp 8] := by kernel_rfl
theorem nt63 : Try.f63.ntmps = 63 := by kernel_rfl
theorem gob63 {args : List AV} {s : AHeap} {R : AV → AHeap → Prop} (hl : args.length ≤ 63) (h : ∀ tm, tm.length = 63 → (∀ i, aev tm (.tmp i) = args.getD i aundef) → lvb Try.prog tab s L63 (lpostB tab s [ResultVar.tmp 6, ResultVar.tmp 7, ResultVar.tmp 8] R) tm (loc s 0 [])) : ACall Try.prog 63 args s R := ACall.goB tab_ok mixed Try.func63 l63 nm63 rs63 nt63 hl h
noncomputable def L64 : LCode := LCode.seq (LCode.ops [⟨Op.assign (Operand.const (Value.slice none 0 0)), some 6, none⟩, ⟨Op.assign (Operand.const (Value.int IntKind.i64 0)), some 7, none⟩]) (LCode.seq (LCode.seq (LCode.ops [⟨Op.move (Operand.tmp 0), some 14, none⟩, ⟨Op.move (Operand.tmp 1), some 15, none⟩, ⟨Op.move (Operand.tmp 2), some 16, none⟩, ⟨Op.call { callee := Callee.value (Operand.func 113), args := { toList := [Operand.tmp 14, Operand.tmp 15, Operand.tmp 16] }, argTypes := { toList := [3, 27, 27] } }, some 17, none⟩, ⟨Op.assign (Operand.tmp 17), some 8, none⟩]) (LCode.seq (LCode.ops [⟨Op.move (Operand.tmp 8), some 18, none⟩, ⟨Op.binOp BinOp.neq 31 (Operand.tmp 18) (Operand.const (Value.int IntKind.i64 0)) 31, some 19, none⟩]) (LCode.cond (Operand.tmp 19) (LCode.seq (LCode.ops [⟨Op.move (Operand.tmp 8), some 20, none⟩, ⟨Op.assign (Operand.const (Value.slice none 0 0)), some 6, none⟩, ⟨Op.assign (Operand.tmp 20), some 7, none⟩]) LCode.ret) LCode.skip))) (LCode.seq (LCode.ops [⟨Op.move (Operand.tmp 0), some 22, none⟩, ⟨Op.move (Operand.tmp 1), some 23, none⟩, ⟨Op.move (Operand.tmp 2), some 24, none⟩, ⟨Op.call { callee := Callee.value (Operand.func 114), args := { toList := [Operand.tmp 22, Operand.tmp 23, Operand.tmp 24] }, argTypes := { toList := [3, 27, 27] } }, some 25, none⟩, ⟨Op.move (Operand.tmp 25), some 21, none⟩, ⟨Op.extract (Operand.tmp 21) 0, some 26, none⟩, ⟨Op.extract (Operand.tmp 21) 1, some 27, none⟩, ⟨Op.extract (Operand.tmp 21) 2, some 28, none⟩, ⟨Op.alloc 118, some 9, none⟩, ⟨Op.store 118 (Operand.tmp 9) (Operand.tmp 26), none, none⟩, ⟨Op.assign (Operand.tmp 27), some 10, none⟩, ⟨Op.assign (Operand.tmp 28), some 11, none⟩]) (LCode.seq (LCode.ops [⟨Op.load 118 (Operand.tmp 9), some 29, none⟩, ⟨Op.call { callee := Callee.value (Operand.func 79), args := { toList := [Operand.tmp 29] }, argTypes := { toList := [118] } }, some 30, none⟩, ⟨Op.assign (Operand.tmp 30), some 12, none⟩]) (LCode.seq (LCode.seq (LCode.ops [⟨Op.fieldAddr 118 (Operand.tmp 9) 1, some 31, none⟩, ⟨Op.load 116 (Operand.tmp 31), some 32, none⟩, ⟨Op.call { callee := Callee.builtin Builtin.len, args := { toList := [Operand.tmp 32] }, argTypes := { toList := [116] } }, some 33, none⟩, ⟨Op.binOp BinOp.gtr 3 (Operand.tmp 33) (Operand.const (Value.int IntKind.i64 20000)) 3, some 34, none⟩]) (LCode.cond (Operand.tmp 34) (LCode.seq (LCode.ops [⟨Op.assign (Operand.const (Value.slice none 0 0)), some 6, none⟩, ⟨Op.assign (Operand.const (Value.int IntKind.i64 2)), some 7, none⟩]) LCode.ret) LCode.skip)) (LCode.seq (LCode.seq (LCode.ops [⟨Op.move (Operand.tmp 12), some 35, none⟩, ⟨Op.call { callee := Callee.value (Operand.func 83), args := { toList := [Operand.tmp 35] }, argTypes := { toList := [27] } }, some 36, none⟩, ⟨Op.assign (Operand.tmp 36), some 13, none⟩]) (LCode.seq (LCode.ops [⟨Op.move (Operand.tmp 13), some 37, none⟩, ⟨Op.binOp BinOp.neq 31 (Operand.tmp 37) (Operand.const (Value.int IntKind.i64 0)) 31, some 38, none⟩]) (LCode.cond (Operand.tmp 38) (LCode.seq (LCode.ops [⟨Op.move (Operand.tmp 13), some 39, none⟩, ⟨Op.assign (Operand.const (Value.slice none 0 0)), some 6, none⟩, ⟨Op.assign (Operand.tmp 39), some 7, none⟩]) LCode.ret) LCode.skip))) (LCode.seq (LCode.ops [⟨Op.move (Operand.tmp 12), some 40, none⟩, ⟨Op.assign (Operand.tmp 40), some 6, none⟩, ⟨Op.assign (Operand.const (Value.int IntKind.i64 0)), some 7, none⟩]) LCode.ret))))))
theorem l64 : Try.f64.body.map lighten = some L64 := by kernel_rfl
theorem rs64 : Try.f64.results.toList = [ResultVar.tmp 6, ResultVar.tmp 7] := by kernel_rfl
theorem nt64 : Try.f64.ntmps = 41 := by kernel_rfl
theorem gob64 {args : List AV} {s : AHeap} {R : AV → AHeap → Prop} (hl : args.length ≤ 41) (h : ∀ tm, tm.length = 41 → (∀ i, aev tm (.tmp i) = args.getD i aundef) → lvb Try.prog tab s L64 (lpostB tab s [ResultVar.tmp 6, ResultVar.tmp 7] R) tm (loc s 0 [])) : ACall Try.prog 64 args s R := ACall.goB tab_ok mixed Try.func64 l64 nm64 rs64 nt64 hl h
noncomputable def L65 : LCode := LCode.seq (LCode.ops [⟨Op.assign (Operand.const (Value.bool false)), some 4, none⟩]) (LCode.seq (LCode.seq (LCode.ops [⟨Op.move (Operand.tmp 0), some 9, none⟩, ⟨Op.call { callee := Callee.builtin Builtin.len, args := { toList := [Operand.tmp 9] }, argTypes := { toList := [27] } }, some 10, none⟩, ⟨Op.move (Operand.const (Value.int IntKind.i64 0)), some 11, none⟩]) (LCode.block 0 (LCode.loop (LCode.seq (LCode.ops [⟨Op.binOp BinOp.lss 3 (Operand.tmp 11) (Operand.tmp 10) 3, some 12, none⟩]) (LCode.seq (LCode.cond (Operand.tmp 12) LCode.skip (LCode.exit 0)) (LCode.seq (LCode.block 1 (LCode.seq (LCode.ops [⟨Op.indexAddr 27 (Operand.tmp 9) (Operand.tmp 11), some 13, none⟩, ⟨Op.load 35 (Operand.tmp 13), some 14, none⟩, ⟨Op.alloc 35, some 6, none⟩, ⟨Op.store 35 (Operand.tmp 6) (Operand.tmp 14), none, none⟩]) (LCode.seq (LCode.ops [⟨Op.move (Operand.tmp 1), some 15, none⟩, ⟨Op.call { callee := Callee.builtin Builtin.len, args := { toList := [Operand.tmp 15] }, argTypes := { toList := [27] } }, some 16, none⟩, ⟨Op.move (Operand.const (Value.int IntKind.i64 0)), some 17, none⟩]) (LCode.block 2 (LCode.loop (LCode.seq (LCode.ops [⟨Op.binOp BinOp.lss 3 (Operand.tmp 17) (Operand.tmp 16) 3, some 18, none⟩]) (LCode.seq (LCode.cond (Operand.tmp 18) LCode.skip (LCode.exit 2)) (LCode.seq (LCode.block 3 (LCode.seq (LCode.ops [⟨Op.indexAddr 27 (Operand.tmp 15) (Operand.tmp 17), some 19, none⟩, ⟨Op.load 35 (Operand.tmp 19), some 20, none⟩, ⟨Op.alloc 35, some 8, none⟩, ⟨Op.store 35 (Operand.tmp 8) (Operand.tmp 20), none, none⟩]) (LCode.seq (LCode.ops [⟨Op.fieldAddr 35 (Operand.tmp 6) 0, some 21, none⟩, ⟨Op.load 3 (Operand.tmp 21), some 22, none⟩, ⟨Op.fieldAddr 35 (Operand.tmp 8) 0, some 23, none⟩, ⟨Op.load 3 (Operand.tmp 23), some 24, none⟩, ⟨Op.fieldAddr 35 (Operand.tmp 8) 1, some 25, none⟩, ⟨Op.load 3 (Operand.tmp 25), some 26, none⟩, ⟨Op.binOp BinOp.add 3 (Operand.tmp 24) (Operand.tmp 26) 3, some 27, none⟩, ⟨Op.binOp BinOp.leq 3 (Operand.tmp 22) (Operand.tmp 27) 3, some 28, none⟩, ⟨Op.move (Operand.tmp 28), some 29, none⟩, ⟨Op.fieldAddr 35 (Operand.tmp 8) 0, some 30, some (29, true)⟩, ⟨Op.load 3 (Operand.tmp 30), some 31, some (29, true)⟩, ⟨Op.fieldAddr 35 (Operand.tmp 6) 0, some 32, some (29, true)⟩, ⟨Op.load 3 (Operand.tmp 32), some 33, some (29, true)⟩, ⟨Op.fieldAddr 35 (Operand.tmp 6) 1, some 34, some (29, true)⟩, ⟨Op.load 3 (Operand.tmp 34), some 35, some (29, true)⟩, ⟨Op.binOp BinOp.add 3 (Operand.tmp 33) (Operand.tmp 35) 3, some 36, some (29, true)⟩, ⟨Op.binOp BinOp.leq 3 (Operand.tmp 31) (Operand.tmp 36) 3, some 37, some (29, true)⟩, ⟨Op.pick (Operand.tmp 29) (Operand.tmp 37) (Operand.const (Value.bool false)), some 38, none⟩]) (LCode.cond (Operand.tmp 38) (LCode.seq (LCode.ops [⟨Op.assign (Operand.const (Value.bool true)), some 4, none⟩]) LCode.ret) LCode.skip)))) (LCode.ops [⟨Op.binOp BinOp.add 3 (Operand.tmp 17) (Operand.const (Value.int IntKind.i64 1)) 3, some 39, none⟩, ⟨Op.move (Operand.tmp 39), some 17, none⟩]))))))))) (LCode.ops [⟨Op.binOp BinOp.add 3 (Operand.tmp 11) (Operand.const (Value.int IntKind.i64 1)) 3, some 40, none⟩, ⟨Op.move (Operand.tmp 40), some 11, none⟩]))))))) (LCode.seq (LCode.ops [⟨Op.assign (Operand.const (Value.bool false)), some 4, none⟩]) LCode.ret))
theorem l65 : Try.f65.body.map lighten = some L65 := by kernel_rfl
theorem rs65 : Try.f65.results.toList = [ResultVar.tmp 4] := by kernel_rfl
theorem nt65 : Try.f65.ntmps = 41 := by kernel_rfl
theorem gob65 {args : List AV} {s : AHeap} {R : AV → AHeap → Prop} (hl : args.length ≤ 41) (h : ∀ tm, tm.length = 41 → (∀ i, aev tm (.tmp i) = args.getD i aundef) → lvb Try.prog tab s L65 (lpostB tab s [ResultVar.tmp 4] R) tm (loc s 0 [])) : ACall Try.prog 65 args s R := ACall.goB tab_ok mixed Try.func65 l65 nm65 rs65 nt65 hl h
noncomputable def L110 : LCode := LCode.seq (LCode.ops [⟨Op.assign (Operand.const (Value.int IntKind.i64 0)), some 6, none⟩]) (LCode.seq (LCode.seq (LCode.ops [⟨Op.move (Operand.tmp 0), some 8, none⟩, ⟨Op.move (Operand.tmp 1), some 9, none⟩, ⟨Op.call { callee := Callee.value (Operand.func 31), args := { toList := [Operand.tmp 8, Operand.tmp 9] }, argTypes := { toList := [3, 27] } }, some 10, none⟩, ⟨Op.assign (Operand.tmp 10), some 7, none⟩]) (LCode.seq (LCode.ops [⟨Op.move (Operand.tmp 7), some 11, none⟩, ⟨Op.binOp BinOp.neq 31 (Operand.tmp 11) (Operand.const (Value.int IntKind.i64 0)) 31, some 12, none⟩]) (LCode.cond (Operand.tmp 12) (LCode.seq (LCode.ops [⟨Op.move (Operand.tmp 7), some 13, none⟩, ⟨Op.assign (Operand.tmp 13), some 6, none⟩]) LCode.ret) LCode.skip))) (LCode.seq (LCode.ops [⟨Op.move (Operand.tmp 0), some 14, none⟩, ⟨Op.move (Operand.tmp 2), some 15, none⟩, ⟨Op.call { callee := Callee.value (Operand.func 31), args := { toList := [Operand.tmp 14, Operand.tmp 15] }, argTypes := { toList := [3, 27] } }, some 16, none⟩, ⟨Op.assign (Operand.tmp 16), some 6, none⟩]) LCode.ret))
theorem l110 : Try.f110.body.map lighten = some L110 := by kernel_rfl
theorem rs110 : Try.f110.results.toList = [ResultVar.tmp 6] := by kernel_rfl
theorem nt110 : Try.f110.ntmps = 17 := by kernel_rfl
theorem gob110 {args : List AV} {s : AHeap} {R : AV → AHeap → Prop} (hl : args.length ≤ 17) (h : ∀ tm, tm.length = 17 → (∀ i, aev tm (.tmp i) = args.getD i aundef) → lvb Try.prog tab s L110 (lpostB tab s [ResultVar.tmp 6] R) tm (loc s 0 [])) : ACall Try.prog 110 args s R := ACall.goB tab_ok mixed Try.func110 l110 nm110 rs110 nt110 hl h
noncomputable def L111 : LCode := LCode.seq (LCode.ops [⟨Op.alloc 164, some 6, none⟩]) (LCode.seq (LCode.ops [⟨Op.alloc 164, some 7, none⟩]) (LCode.seq (LCode.ops [⟨Op.assign (Operand.const (Value.int IntKind.i64 0)), some 8, none⟩, ⟨Op.assign (Operand.const (Value.int IntKind.i64 0)), some 9, none⟩]) (LCode.seq (LCode.ops [⟨Op.move (Operand.tmp 0), some 20, none⟩, ⟨Op.move (Operand.tmp 1), some 21, none⟩, ⟨Op.move (Operand.tmp 2), some 22, none⟩, ⟨Op.call { callee := Callee.value (Operand.func 141), args := { toList := [Operand.tmp 20, Operand.tmp 21, Operand.tmp 22] }, argTypes := { toList := [3, 27, 27] } }, some 23, none⟩, ⟨Op.assign (Operand.tmp 23), some 10, none⟩]) (LCode.seq (LCode.seq (LCode.ops [⟨Op.move (Operand.tmp 10), some 24, none⟩, ⟨Op.call { callee := Callee.builtin Builtin.len, args := { toList := [Operand.tmp 24] }, argTypes := { toList := [22] } }, some 25, none⟩, ⟨Op.move (Operand.const (Value.int IntKind.i64 0)), some 26, none⟩]) (LCode.block 0 (LCode.loop (LCode.seq (LCode.ops [⟨Op.binOp BinOp.lss 3 (Operand.tmp 26) (Operand.tmp 25) 3, some 27, none⟩]) (LCode.seq (LCode.cond (Operand.tmp 27) LCode.skip (LCode.exit 0)) (LCode.seq (LCode.block 1 (LCode.seq (LCode.ops [⟨Op.move (Operand.tmp 26), some 28, none⟩, ⟨Op.indexAddr 22 (Operand.tmp 24) (Operand.tmp 26), some 29, none⟩, ⟨Op.load 3 (Operand.tmp 29), some 30, none⟩, ⟨Op.assign (Operand.tmp 28), some 11, none⟩, ⟨Op.assign (Operand.tmp 30), some 12, none⟩]) (LCode.seq (LCode.seq (LCode.ops [⟨Op.move (Operand.tmp 1), some 32, none⟩, ⟨Op.move (Operand.tmp 12), some 33, none⟩, ⟨Op.call { callee := Callee.value (Operand.func 142), args := { toList := [Operand.tmp 32, Operand.tmp 33] }, argTypes := { toList := [27, 3] } }, some 34, none⟩, ⟨Op.move (Operand.tmp 34), some 31, none⟩, ⟨Op.extract (Operand.tmp 31) 0, some 35, none⟩, ⟨Op.extract (Operand.tmp 31) 1, some 36, none⟩, ⟨Op.assign (Operand.tmp 35), some 13, none⟩, ⟨Op.assign (Operand.tmp 36), some 14, none⟩]) (LCode.seq (LCode.ops [⟨Op.move (Operand.tmp 14), some 37, none⟩]) (LCode.cond (Operand.tmp 37) (LCode.seq (LCode.draw [0, 1, 0, 4, 12, 31, 0, 64, 0, 0, 512, 1855, 3903, 8191, 0, 16384, 0, 81919, 212991, 524287, 49407, 2097151, 4194303, 8388607, 16777215, 33554431] [⟨Op.fieldAddr 164 (Operand.tmp 7) 0, some 38, none⟩, ⟨Op.load 108 (Operand.tmp 38), some 39, none⟩, ⟨Op.move (Operand.tmp 13), some 40, none⟩, ⟨Op.call { callee := Callee.value (Operand.func 118), args := { toList := [Operand.tmp 40] }, argTypes := { toList := [9] } }, some 41, none⟩, ⟨Op.buildSlice 108 1 { toList := [(0, Operand.tmp 41)] }, some 42, none⟩, ⟨Op.call { callee := Callee.builtin Builtin.append, args := { toList := [Operand.tmp 39, Operand.tmp 42] }, argTypes := { toList := [108, 108] } }, some 43, none⟩, ⟨Op.fieldAddr 164 (Operand.tmp 7) 1, some 44, none⟩, ⟨Op.load 108 (Operand.tmp 44), some 45, none⟩, ⟨Op.move (Operand.tmp 8), some 46, none⟩, ⟨Op.move (Operand.tmp 13), some 47, none⟩, ⟨Op.call { callee := Callee.builtin Builtin.len, args := { toList := [Operand.tmp 47] }, argTypes := { toList := [9] } }, some 48, none⟩, ⟨Op.call { callee := Callee.value (Operand.func 117), args := { toList := [Operand.tmp 46, Operand.tmp 48] }, argTypes := { toList := [3, 3] } }, some 49, none⟩, ⟨Op.buildSlice 108 1 { toList := [(0, Operand.tmp 49)] }, some 50, none⟩, ⟨Op.call { callee := Callee.builtin Builtin.append, args := { toList := [Operand.tmp 45, Operand.tmp 50] }, argTypes := { toList := [108, 108] } }, some 51, none⟩, ⟨Op.fieldAddr 164 (Operand.tmp 7) 2, some 52, none⟩, ⟨Op.load 108 (Operand.tmp 52), some 53, none⟩, ⟨Op.move (Operand.tmp 13), some 54, none⟩, ⟨Op.call { callee := Callee.value (Operand.func 118), args := { toList := [Operand.tmp 54] }, argTypes := { toList := [9] } }, some 55, none⟩, ⟨Op.buildSlice 108 1 { toList := [(0, Operand.tmp 55)] }, some 56, none⟩, ⟨Op.call { callee := Callee.builtin Builtin.append, args := { toList := [Operand.tmp 53, Operand.tmp 56] }, argTypes := { toList := [108, 108] } }, some 57, none⟩, ⟨Op.fieldAddr 164 (Operand.tmp 7) 0, some 58, none⟩, ⟨Op.store 108 (Operand.tmp 58) (Operand.tmp 43), none, none⟩, ⟨Op.fieldAddr 164 (Operand.tmp 7) 1, some 59, none⟩, ⟨Op.store 108 (Operand.tmp 59) (Operand.tmp 51), none, none⟩, ⟨Op.fieldAddr 164 (Operand.tmp 7) 2, some 60, none⟩, ⟨Op.store 108 (Operand.tmp 60) (Operand.tmp 57), none, none⟩]) (LCode.seq (LCode.ops [⟨Op.move (Operand.tmp 8), some 61, none⟩, ⟨Op.move (Operand.tmp 13), some 62, none⟩, ⟨Op.call { callee := Callee.builtin Builtin.len, args := { toList := [Operand.tmp 62] }, argTypes := { toList := [9] } }, some 63, none⟩, ⟨Op.binOp BinOp.add 3 (Operand.tmp 61) (Operand.tmp 63) 3, some 64, none⟩, ⟨Op.assign (Operand.tmp 64), some 8, none⟩]) (LCode.ops [⟨Op.fieldAddr 164 (Operand.tmp 7) 3, some 65, none⟩, ⟨Op.load 3 (Operand.tmp 65), some 66, none⟩, ⟨Op.move (Operand.tmp 13), some 67, none⟩, ⟨Op.call { callee := Callee.builtin Builtin.len, args := { toList := [Operand.tmp 67] }, argTypes := { toList := [9] } }, some 68, none⟩, ⟨Op.binOp BinOp.add 3 (Operand.tmp 66) (Operand.tmp 68) 3, some 69, none⟩, ⟨Op.fieldAddr 164 (Operand.tmp 7) 3, some 70, none⟩, ⟨Op.store 3 (Operand.tmp 70) (Operand.tmp 69), none, none⟩]))) LCode.skip))) (LCode.seq (LCode.seq (LCode.ops [⟨Op.move (Operand.tmp 2), some 72, none⟩, ⟨Op.move (Operand.tmp 12), some 73, none⟩, ⟨Op.call { callee := Callee.value (Operand.func 142), args := { toList := [Operand.tmp 72, Operand.tmp 73] }, argTypes := { toList := [27, 3] } }, some 74, none⟩, ⟨Op.move (Operand.tmp 74), some 71, none⟩, ⟨Op.extract (Operand.tmp 71) 0, some 75, none⟩, ⟨Op.extract (Operand.tmp 71) 1, some 76, none⟩, ⟨Op.assign (Operand.tmp 75), some 15, none⟩, ⟨Op.assign (Operand.tmp 76), some 16, none⟩]) (LCode.seq (LCode.ops [⟨Op.move (Operand.tmp 16), some 77, none⟩]) (LCode.cond (Operand.tmp 77) (LCode.seq (LCode.draw [0, 1, 0, 4, 12, 31, 0, 64, 0, 319, 831, 2047, 0, 4096, 0, 0, 32768, 118783, 249855, 524287, 12543, 2097151, 4194303, 8388607, 16777215, 33554431] [⟨Op.fieldAddr 164 (Operand.tmp 7) 0, some 78, none⟩, ⟨Op.load 108 (Operand.tmp 78), some 79, none⟩, ⟨Op.move (Operand.tmp 15), some 80, none⟩, ⟨Op.call { callee := Callee.value (Operand.func 118), args := { toList := [Operand.tmp 80] }, argTypes := { toList := [9] } }, some 81, none⟩, ⟨Op.buildSlice 108 1 { toList := [(0, Operand.tmp 81)] }, some 82, none⟩, ⟨Op.call { callee := Callee.builtin Builtin.append, args := { toList := [Operand.tmp 79, Operand.tmp 82] }, argTypes := { toList := [108, 108] } }, some 83, none⟩, ⟨Op.fieldAddr 164 (Operand.tmp 7) 1, some 84, none⟩, ⟨Op.load 108 (Operand.tmp 84), some 85, none⟩, ⟨Op.move (Operand.tmp 15), some 86, none⟩, ⟨Op.call { callee := Callee.value (Operand.func 118), args := { toList := [Operand.tmp 86] }, argTypes := { toList := [9] } }, some 87, none⟩, ⟨Op.buildSlice 108 1 { toList := [(0, Operand.tmp 87)] }, some 88, none⟩, ⟨Op.call { callee := Callee.builtin Builtin.append, args := { toList := [Operand.tmp 85, Operand.tmp 88] }, argTypes := { toList := [108, 108] } }, some 89, none⟩, ⟨Op.fieldAddr 164 (Operand.tmp 7) 2, some 90, none⟩, ⟨Op.load 108 (Operand.tmp 90), some 91, none⟩, ⟨Op.move (Operand.tmp 9), some 92, none⟩, ⟨Op.move (Operand.tmp 15), some 93, none⟩, ⟨Op.call { callee := Callee.builtin Builtin.len, args := { toList := [Operand.tmp 93] }, argTypes := { toList := [9] } }, some 94, none⟩, ⟨Op.call { callee := Callee.value (Operand.func 117), args := { toList := [Operand.tmp 92, Operand.tmp 94] }, argTypes := { toList := [3, 3] } }, some 95, none⟩, ⟨Op.buildSlice 108 1 { toList := [(0, Operand.tmp 95)] }, some 96, none⟩, ⟨Op.call { callee := Callee.builtin Builtin.append, args := { toList := [Operand.tmp 91, Operand.tmp 96] }, argTypes := { toList := [108, 108] } }, some 97, none⟩, ⟨Op.fieldAddr 164 (Operand.tmp 7) 0, some 98, none⟩, ⟨Op.store 108 (Operand.tmp 98) (Operand.tmp 83), none, none⟩, ⟨Op.fieldAddr 164 (Operand.tmp 7) 1, some 99, none⟩, ⟨Op.store 108 (Operand.tmp 99) (Operand.tmp 89), none, none⟩, ⟨Op.fieldAddr 164 (Operand.tmp 7) 2, some 100, none⟩, ⟨Op.store 108 (Operand.tmp 100) (Operand.tmp 97), none, none⟩]) (LCode.seq (LCode.ops [⟨Op.move (Operand.tmp 9), some 101, none⟩, ⟨Op.move (Operand.tmp 15), some 102, none⟩, ⟨Op.call { callee := Callee.builtin Builtin.len, args := { toList := [Operand.tmp 102] }, argTypes := { toList := [9] } }, some 103, none⟩, ⟨Op.binOp BinOp.add 3 (Operand.tmp 101) (Operand.tmp 103) 3, some 104, none⟩, ⟨Op.assign (Operand.tmp 104), some 9, none⟩]) (LCode.ops [⟨Op.fieldAddr 164 (Operand.tmp 7) 3, some 105, none⟩, ⟨Op.load 3 (Operand.tmp 105), some 106, none⟩, ⟨Op.move (Operand.tmp 15), some 107, none⟩, ⟨Op.call { callee := Callee.builtin Builtin.len, args := { toList := [Operand.tmp 107] }, argTypes := { toList := [9] } }, some 108, none⟩, ⟨Op.binOp BinOp.add 3 (Operand.tmp 106) (Operand.tmp 108) 3, some 109, none⟩, ⟨Op.fieldAddr 164 (Operand.tmp 7) 3, some 110, none⟩, ⟨Op.store 3 (Operand.tmp 110) (Operand.tmp 109), none, none⟩]))) LCode.skip))) (LCode.seq (LCode.seq (LCode.ops [⟨Op.move (Operand.tmp 11), some 111, none⟩, ⟨Op.move (Operand.tmp 10), some 112, none⟩, ⟨Op.call { callee := Callee.builtin Builtin.len, args := { toList := [Operand.tmp 112] }, argTypes := { toList := [22] } }, some 113, none⟩, ⟨Op.binOp BinOp.sub 3 (Operand.tmp 113) (Operand.const (Value.int IntKind.i64 1)) 3, some 114, none⟩, ⟨Op.binOp BinOp.eql 3 (Operand.tmp 111) (Operand.tmp 114) 3, some 115, none⟩]) (LCode.cond (Operand.tmp 115) (LCode.exit 0) LCode.skip)) (LCode.seq (LCode.ops [⟨Op.move (Operand.tmp 10), some 116, none⟩, ⟨Op.move (Operand.tmp 11), some 117, none⟩, ⟨Op.binOp BinOp.add 3 (Operand.tmp 117) (Operand.const (Value.int IntKind.i64 1)) 3, some 118, none⟩, ⟨Op.indexAddr 22 (Operand.tmp 116) (Operand.tmp 118), some 119, none⟩, ⟨Op.load 3 (Operand.tmp 119), some 120, none⟩, ⟨Op.move (Operand.tmp 12), some 121, none⟩, ⟨Op.binOp BinOp.sub 3 (Operand.tmp 120) (Operand.tmp 121) 3, some 122, none⟩, ⟨Op.assign (Operand.tmp 122), some 17, none⟩]) (LCode.seq (LCode.ops [⟨Op.move (Operand.tmp 1), some 123, none⟩, ⟨Op.move (Operand.tmp 12), some 124, none⟩, ⟨Op.call { callee := Callee.value (Operand.func 143), args := { toList := [Operand.tmp 123, Operand.tmp 124] }, argTypes := { toList := [27, 3] } }, some 125, none⟩, ⟨Op.move (Operand.tmp 2), some 126, none⟩, ⟨Op.move (Operand.tmp 12), some 127, none⟩, ⟨Op.call { callee := Callee.value (Operand.func 143), args := { toList := [Operand.tmp 126, Operand.tmp 127] }, argTypes := { toList := [27, 3] } }, some 128, none⟩, ⟨Op.assign (Operand.tmp 125), some 18, none⟩, ⟨Op.assign (Operand.tmp 128), some 19, none⟩]) (LCode.seq (LCode.seq (LCode.ops [⟨Op.move (Operand.tmp 18), some 129, none⟩, ⟨Op.move (Operand.tmp 129), some 130, none⟩, ⟨Op.move (Operand.tmp 19), some 131, some (130, true)⟩, ⟨Op.pick (Operand.tmp 130) (Operand.tmp 131) (Operand.const (Value.bool false)), some 132, none⟩]) (LCode.cond (Operand.tmp 132) (LCode.seq (LCode.draw [0, 1, 0, 0, 12, 28, 63, 0, 128, 0, 0, 1663, 3711, 8191, 0, 16384, 0, 0, 212991, 475135, 1048575, 49663, 4194303, 8388607, 16777215, 33554431, 67108863] [⟨Op.fieldAddr 164 (Operand.tmp 7) 0, some 133, none⟩, ⟨Op.load 108 (Operand.tmp 133), some 134, none⟩, ⟨Op.move (Operand.tmp 12), some 135, none⟩, ⟨Op.move (Operand.tmp 17), some 136, none⟩, ⟨Op.call { callee := Callee.value (Operand.func 117), args := { toList := [Operand.tmp 135, Operand.tmp 136] }, argTypes := { toList := [3, 3] } }, some 137, none⟩, ⟨Op.buildSlice 108 1 { toList := [(0, Operand.tmp 137)] }, some 138, none⟩, ⟨Op.call { callee := Callee.builtin Builtin.append, args := { toList := [Operand.tmp 134, Operand.tmp 138] }, argTypes := { toList := [108, 108] } }, some 139, none⟩, ⟨Op.fieldAddr 164 (Operand.tmp 7) 1, some 140, none⟩, ⟨Op.load 108 (Operand.tmp 140), some 141, none⟩, ⟨Op.move (Operand.tmp 8), some 142, none⟩, ⟨Op.move (Operand.tmp 17), some 143, none⟩, ⟨Op.call { callee := Callee.value (Operand.func 117), args := { toList := [Operand.tmp 142, Operand.tmp 143] }, argTypes := { toList := [3, 3] } }, some 144, none⟩, ⟨Op.buildSlice 108 1 { toList := [(0, Operand.tmp 144)] }, some 145, none⟩, ⟨Op.call { callee := Callee.builtin Builtin.append, args := { toList := [Operand.tmp 141, Operand.tmp 145] }, argTypes := { toList := [108, 108] } }, some 146, none⟩, ⟨Op.fieldAddr 164 (Operand.tmp 7) 2, some 147, none⟩, ⟨Op.load 108 (Operand.tmp 147), some 148, none⟩, ⟨Op.move (Operand.tmp 9), some 149, none⟩, ⟨Op.move (Operand.tmp 17), some 150, none⟩, ⟨Op.call { callee := Callee.value (Operand.func 117), args := { toList := [Operand.tmp 149, Operand.tmp 150] }, argTypes := { toList := [3, 3] } }, some 151, none⟩, ⟨Op.buildSlice 108 1 { toList := [(0, Operand.tmp 151)] }, some 152, none⟩, ⟨Op.call { callee := Callee.builtin Builtin.append, args := { toList := [Operand.tmp 148, Operand.tmp 152] }, argTypes := { toList := [108, 108] } }, some 153, none⟩, ⟨Op.fieldAddr 164 (Operand.tmp 7) 0, some 154, none⟩, ⟨Op.store 108 (Operand.tmp 154) (Operand.tmp 139), none, none⟩, ⟨Op.fieldAddr 164 (Operand.tmp 7) 1, some 155, none⟩, ⟨Op.store 108 (Operand.tmp 155) (Operand.tmp 146), none, none⟩, ⟨Op.fieldAddr 164 (Operand.tmp 7) 2, some 156, none⟩, ⟨Op.store 108 (Operand.tmp 156) (Operand.tmp 153), none, none⟩]) (LCode.ops [⟨Op.fieldAddr 164 (Operand.tmp 7) 3, some 157, none⟩, ⟨Op.load 3 (Operand.tmp 157), some 158, none⟩, ⟨Op.move (Operand.tmp 17), some 159, none⟩, ⟨Op.binOp BinOp.add 3 (Operand.tmp 158) (Operand.tmp 159) 3, some 160, none⟩, ⟨Op.fieldAddr 164 (Operand.tmp 7) 3, some 161, none⟩, ⟨Op.store 3 (Operand.tmp 161) (Operand.tmp 160), none, none⟩])) LCode.skip)) (LCode.seq (LCode.seq (LCode.ops [⟨Op.move (Operand.tmp 18), some 162, none⟩]) (LCode.cond (Operand.tmp 162) (LCode.ops [⟨Op.move (Operand.tmp 8), some 163, none⟩, ⟨Op.move (Operand.tmp 17), some 164, none⟩, ⟨Op.binOp BinOp.add 3 (Operand.tmp 163) (Operand.tmp 164) 3, some 165, none⟩, ⟨Op.assign (Operand.tmp 165), some 8, none⟩]) LCode.skip)) (LCode.seq (LCode.ops [⟨Op.move (Operand.tmp 19), some 166, none⟩]) (LCode.cond (Operand.tmp 166) (LCode.ops [⟨Op.move (Operand.tmp 9), some 167, none⟩, ⟨Op.move (Operand.tmp 17), some 168, none⟩, ⟨Op.binOp BinOp.add 3 (Operand.tmp 167) (Operand.tmp 168) 3, some 169, none⟩, ⟨Op.assign (Operand.tmp 169), some 9, none⟩]) LCode.skip))))))))))) (LCode.ops [⟨Op.binOp BinOp.add 3 (Operand.tmp 26) (Operand.const (Value.int IntKind.i64 1)) 3, some 170, none⟩, ⟨Op.move (Operand.tmp 170), some 26, none⟩]))))))) (LCode.seq (LCode.ops [⟨Op.load 164 (Operand.tmp 7), some 171, none⟩, ⟨Op.store 164 (Operand.tmp 6) (Operand.tmp 171), none, none⟩]) LCode.ret)))))
theorem l111 : Try.f111.body.map lighten = some L111 := by kernel_rfl
theorem rs111 : Try.f111.results.toList = [ResultVar.cell 6 164] := by kernel_rfl
theorem nt111 : Try.f111.ntmps = 172 := by kernel_rfl
theorem gob111 {args : List AV} {s : AHeap} {R : AV → AHeap → Prop} (hl : args.length ≤ 172) (h : ∀ tm, tm.length = 172 → (∀ i, aev tm (.tmp i) = args.getD i aundef) → lvb Try.prog tab s L111 (lpostB tab s [ResultVar.cell 6 164] R) tm (loc s 0 [])) : ACall Try.prog 111 args s R := ACall.goB tab_ok mixed Try.func111 l111 nm111 rs111 nt111 hl h
noncomputable def L113 : LCode := LCode.seq (LCode.ops [⟨Op.assign (Operand.const (Value.int IntKind.i64 0)), some 6, none⟩]) (LCode.seq (LCode.seq (LCode.ops [⟨Op.move (Operand.tmp 0), some 8, none⟩, ⟨Op.move (Operand.tmp 1), some 9, none⟩, ⟨Op.call { callee := Callee.value (Operand.func 14), args := { toList := [Operand.tmp 8, Operand.tmp 9] }, argTypes := { toList := [3, 27] } }, some 10, none⟩, ⟨Op.assign (Operand.tmp 10), some 7, none⟩]) (LCode.seq (LCode.ops [⟨Op.move (Operand.tmp 7), some 11, none⟩, ⟨Op.binOp BinOp.neq 31 (Operand.tmp 11) (Operand.const (Value.int IntKind.i64 0)) 31, some 12, none⟩]) (LCode.cond (Operand.tmp 12) (LCode.seq (LCode.ops [⟨Op.move (Operand.tmp 7), some 13, none⟩, ⟨Op.assign (Operand.tmp 13), some 6, none⟩]) LCode.ret) LCode.skip))) (LCode.seq (LCode.ops [⟨Op.move (Operand.tmp 0), some 14, none⟩, ⟨Op.move (Operand.tmp 2), some 15, none⟩, ⟨Op.call { callee := Callee.value (Operand.func 14), args := { toList := [Operand.tmp 14, Operand.tmp 15] }, argTypes := { toList := [3, 27] } }, some 16, none⟩, ⟨Op.assign (Operand.tmp 16), some 6, none⟩]) LCode.ret))
theorem l113 : Try.f113.body.map lighten = some L113 := by kernel_rfl
theorem rs113 : Try.f113.results.toList = [ResultVar.tmp 6] := by kernel_rfl
theorem nt113 : Try.f113.ntmps = 17 := by kernel_rfl
theorem gob113 {args : List AV} {s : AHeap} {R : AV → AHeap → Prop} (hl : args.length ≤ 17) (h : ∀ tm, tm.length = 17 → (∀ i, aev tm (.tmp i) = args.getD i aundef) → lvb Try.prog tab s L113 (lpostB tab s [ResultVar.tmp 6] R) tm (loc s 0 [])) : ACall Try.prog 113 args s R := ACall.goB tab_ok mixed Try.func113 l113 nm113 rs113 nt113 hl h
noncomputable def L114 : LCode := LCode.seq (LCode.ops [⟨Op.alloc 118, some 6, none⟩, ⟨Op.alloc 167, some 7, none⟩, ⟨Op.alloc 167, some 8, none⟩]) (LCode.seq (LCode.ops [⟨Op.move (Operand.tmp 0), some 18, none⟩, ⟨Op.fieldAddr 118 (Operand.tmp 6) 0, some 19, none⟩, ⟨Op.store 3 (Operand.tmp 19) (Operand.tmp 18), none, none⟩]) (LCode.seq (LCode.ops [⟨Op.makeFunc (Fn.func 145) { toList := [] } { toList := [Operand.tmp 6, Operand.tmp 7, Operand.tmp 8] }, some 20, none⟩, ⟨Op.assign (Operand.tmp 20), some 9, none⟩]) (LCode.seq (LCode.ops [⟨Op.assign (Operand.func 146), some 10, none⟩]) (LCode.seq (LCode.seq (LCode.ops [⟨Op.assign (Operand.const (Value.int IntKind.i64 0)), some 11, none⟩]) (LCode.block 0 (LCode.loop (LCode.seq (LCode.seq (LCode.ops [⟨Op.move (Operand.tmp 11), some 21, none⟩, ⟨Op.move (Operand.tmp 0), some 22, none⟩, ⟨Op.binOp BinOp.leq 3 (Operand.tmp 21) (Operand.tmp 22) 3, some 23, none⟩]) (LCode.cond (Operand.tmp 23) LCode.skip (LCode.exit 0))) (LCode.seq (LCode.block 1 (LCode.seq (LCode.seq (LCode.ops [⟨Op.move (Operand.tmp 1), some 26, none⟩, ⟨Op.call { callee := Callee.builtin Builtin.len, args := { toList := [Operand.tmp 26] }, argTypes := { toList := [27] } }, some 27, none⟩, ⟨Op.move (Operand.const (Value.int IntKind.i64 0)), some 28, none⟩]) (LCode.block 2 (LCode.loop (LCode.seq (LCode.ops [⟨Op.binOp BinOp.lss 3 (Operand.tmp 28) (Operand.tmp 27) 3, some 29, none⟩]) (LCode.seq (LCode.cond (Operand.tmp 29) LCode.skip (LCode.exit 2)) (LCode.seq (LCode.block 3 (LCode.seq (LCode.ops [⟨Op.indexAddr 27 (Operand.tmp 26) (Operand.tmp 28), some 30, none⟩, ⟨Op.load 35 (Operand.tmp 30), some 31, none⟩, ⟨Op.alloc 35, some 13, none⟩, ⟨Op.store 35 (Operand.tmp 13) (Operand.tmp 31), none, none⟩]) (LCode.seq (LCode.ops [⟨Op.assign (Operand.const (Value.int IntKind.i64 0)), some 14, none⟩]) (LCode.block 4 (LCode.loop (LCode.seq (LCode.seq (LCode.ops [⟨Op.fieldAddr 35 (Operand.tmp 13) 0, some 32, none⟩, ⟨Op.load 3 (Operand.tmp 32), some 33, none⟩, ⟨Op.move (Operand.tmp 11), some 34, none⟩, ⟨Op.binOp BinOp.eql 3 (Operand.tmp 33) (Operand.tmp 34) 3, some 35, none⟩, ⟨Op.move (Operand.tmp 35), some 36, none⟩, ⟨Op.move (Operand.tmp 14), some 37, some (36, true)⟩, ⟨Op.fieldAddr 35 (Operand.tmp 13) 2, some 38, some (36, true)⟩, ⟨Op.load 9 (Operand.tmp 38), some 39, some (36, true)⟩, ⟨Op.call { callee := Callee.builtin Builtin.len, args := { toList := [Operand.tmp 39] }, argTypes := { toList := [9] } }, some 40, some (36, true)⟩, ⟨Op.binOp BinOp.lss 3 (Operand.tmp 37) (Operand.tmp 40) 3, some 41, some (36, true)⟩, ⟨Op.pick (Operand.tmp 36) (Operand.tmp 41) (Operand.const (Value.bool false)), some 42, none⟩]) (LCode.cond (Operand.tmp 42) LCode.skip (LCode.exit 4))) (LCode.seq (LCode.block 5 (LCode.ops [⟨Op.move (Operand.tmp 9), some 45, none⟩, ⟨Op.fieldAddr 35 (Operand.tmp 13) 2, some 46, none⟩, ⟨Op.load 9 (Operand.tmp 46), some 47, none⟩, ⟨Op.move (Operand.tmp 14), some 48, none⟩, ⟨Op.index 9 (Operand.tmp 47) (Operand.tmp 48), some 49, none⟩, ⟨Op.build 121 { toList := [(0, Operand.const (Value.int IntKind.i64 (-1))), (1, Operand.tmp 49)] }, some 50, none⟩, ⟨Op.call { callee := Callee.value (Operand.tmp 45), args := { toList := [Operand.tmp 50, Operand.const (Value.bool true), Operand.const (Value.bool false)] }, argTypes := { toList := [121, 4, 4] } }, some 51, none⟩])) (LCode.ops [⟨Op.move (Operand.tmp 14), some 43, none⟩, ⟨Op.binOp BinOp.add 3 (Operand.tmp 43) (Operand.const (Value.int IntKind.i64 1)) 3, some 44, none⟩, ⟨Op.assign (Operand.tmp 44), some 14, none⟩])))))))) (LCode.ops [⟨Op.binOp BinOp.add 3 (Operand.tmp 28) (Operand.const (Value.int IntKind.i64 1)) 3, some 52, none⟩, ⟨Op.move (Operand.tmp 52), some 28, none⟩]))))))) (LCode.seq (LCode.seq (LCode.ops [⟨Op.move (Operand.tmp 2), some 53, none⟩, ⟨Op.call { callee := Callee.builtin Builtin.len, args := { toList := [Operand.tmp 53] }, argTypes := { toList := [27] } }, some 54, none⟩, ⟨Op.move (Operand.const (Value.int IntKind.i64 0)), some 55, none⟩]) (LCode.block 6 (LCode.loop (LCode.seq (LCode.ops [⟨Op.binOp BinOp.lss 3 (Operand.tmp 55) (Operand.tmp 54) 3, some 56, none⟩]) (LCode.seq (LCode.cond (Operand.tmp 56) LCode.skip (LCode.exit 6)) (LCode.seq (LCode.block 7 (LCode.seq (LCode.ops [⟨Op.indexAddr 27 (Operand.tmp 53) (Operand.tmp 55), some 57, none⟩, ⟨Op.load 35 (Operand.tmp 57), some 58, none⟩, ⟨Op.alloc 35, some 16, none⟩, ⟨Op.store 35 (Operand.tmp 16) (Operand.tmp 58), none, none⟩]) (LCode.seq (LCode.ops [⟨Op.assign (Operand.const (Value.int IntKind.i64 0)), some 17, none⟩]) (LCode.block 8 (LCode.loop (LCode.seq (LCode.seq (LCode.ops [⟨Op.fieldAddr 35 (Operand.tmp 16) 0, some 59, none⟩, ⟨Op.load 3 (Operand.tmp 59), some 60, none⟩, ⟨Op.move (Operand.tmp 11), some 61, none⟩, ⟨Op.binOp BinOp.eql 3 (Operand.tmp 60) (Operand.tmp 61) 3, some 62, none⟩, ⟨Op.move (Operand.tmp 62), some 63, none⟩, ⟨Op.move (Operand.tmp 17), some 64, some (63, true)⟩, ⟨Op.fieldAddr 35 (Operand.tmp 16) 2, some 65, some (63, true)⟩, ⟨Op.load 9 (Operand.tmp 65), some 66, some (63, true)⟩, ⟨Op.call { callee := Callee.builtin Builtin.len, args := { toList := [Operand.tmp 66] }, argTypes := { toList := [9] } }, some 67, some (63, true)⟩, ⟨Op.binOp BinOp.lss 3 (Operand.tmp 64) (Operand.tmp 67) 3, some 68, some (63, true)⟩, ⟨Op.pick (Operand.tmp 63) (Operand.tmp 68) (Operand.const (Value.bool false)), some 69, none⟩]) (LCode.cond (Operand.tmp 69) LCode.skip (LCode.exit 8))) (LCode.seq (LCode.block 9 (LCode.ops [⟨Op.move (Operand.tmp 9), some 72, none⟩, ⟨Op.fieldAddr 35 (Operand.tmp 16) 2, some 73, none⟩, ⟨Op.load 9 (Operand.tmp 73), some 74, none⟩, ⟨Op.move (Operand.tmp 17), some 75, none⟩, ⟨Op.index 9 (Operand.tmp 74) (Operand.tmp 75), some 76, none⟩, ⟨Op.build 121 { toList := [(0, Operand.const (Value.int IntKind.i64 (-1))), (1, Operand.tmp 76)] }, some 77, none⟩, ⟨Op.call { callee := Callee.value (Operand.tmp 72), args := { toList := [Operand.tmp 77, Operand.const (Value.bool false), Operand.const (Value.bool true)] }, argTypes := { toList := [121, 4, 4] } }, some 78, none⟩])) (LCode.ops [⟨Op.move (Operand.tmp 17), some 70, none⟩, ⟨Op.binOp BinOp.add 3 (Operand.tmp 70) (Operand.const (Value.int IntKind.i64 1)) 3, some 71, none⟩, ⟨Op.assign (Operand.tmp 71), some 17, none⟩])))))))) (LCode.ops [⟨Op.binOp BinOp.add 3 (Operand.tmp 55) (Operand.const (Value.int IntKind.i64 1)) 3, some 79, none⟩, ⟨Op.move (Operand.tmp 79), some 55, none⟩]))))))) (LCode.seq (LCode.ops [⟨Op.move (Operand.tmp 11), some 80, none⟩, ⟨Op.move (Operand.tmp 0), some 81, none⟩, ⟨Op.binOp BinOp.lss 3 (Operand.tmp 80) (Operand.tmp 81) 3, some 82, none⟩, ⟨Op.move (Operand.tmp 82), some 83, none⟩, ⟨Op.move (Operand.tmp 10), some 84, some (83, true)⟩, ⟨Op.move (Operand.tmp 1), some 85, some (83, true)⟩, ⟨Op.move (Operand.tmp 11), some 86, some (83, true)⟩, ⟨Op.call { callee := Callee.value (Operand.tmp 84), args := { toList := [Operand.tmp 85, Operand.tmp 86] }, argTypes := { toList := [27, 3] } }, some 87, some (83, true)⟩, ⟨Op.unOp UnOp.not 4 (Operand.tmp 87), some 88, some (83, true)⟩, ⟨Op.pick (Operand.tmp 83) (Operand.tmp 88) (Operand.const (Value.bool false)), some 89, none⟩, ⟨Op.move (Operand.tmp 89), some 90, none⟩, ⟨Op.move (Operand.tmp 10), some 91, some (90, true)⟩, ⟨Op.move (Operand.tmp 2), some 92, some (90, true)⟩, ⟨Op.move (Operand.tmp 11), some 93, some (90, true)⟩, ⟨Op.call { callee := Callee.value (Operand.tmp 91), args := { toList := [Operand.tmp 92, Operand.tmp 93] }, argTypes := { toList := [27, 3] } }, some 94, some (90, true)⟩, ⟨Op.unOp UnOp.not 4 (Operand.tmp 94), some 95, some (90, true)⟩, ⟨Op.pick (Operand.tmp 90) (Operand.tmp 95) (Operand.const (Value.bool false)), some 96, none⟩]) (LCode.cond (Operand.tmp 96) (LCode.ops [⟨Op.move (Operand.tmp 9), some 97, none⟩, ⟨Op.move (Operand.tmp 11), some 98, none⟩, ⟨Op.build 121 { toList := [(0, Operand.tmp 98)] }, some 99, none⟩, ⟨Op.call { callee := Callee.value (Operand.tmp 97), args := { toList := [Operand.tmp 99, Operand.const (Value.bool false), Operand.const (Value.bool false)] }, argTypes := { toList := [121, 4, 4] } }, some 100, none⟩]) LCode.skip))))) (LCode.ops [⟨Op.move (Operand.tmp 11), some 24, none⟩, ⟨Op.binOp BinOp.add 3 (Operand.tmp 24) (Operand.const (Value.int IntKind.i64 1)) 3, some 25, none⟩, ⟨Op.assign (Operand.tmp 25), some 11, none⟩])))))) (LCode.seq (LCode.draw [0, 0, 0, 1, 11, 31] [⟨Op.load 118 (Operand.tmp 6), some 101, none⟩, ⟨Op.load 167 (Operand.tmp 7), some 102, none⟩, ⟨Op.load 167 (Operand.tmp 8), some 103, none⟩, ⟨Op.store 118 (Operand.tmp 6) (Operand.tmp 101), none, none⟩, ⟨Op.store 167 (Operand.tmp 7) (Operand.tmp 102), none, none⟩, ⟨Op.store 167 (Operand.tmp 8) (Operand.tmp 103), none, none⟩]) LCode.ret)))))
theorem l114 : Try.f114.body.map lighten = some L114 := by kernel_rfl
theorem rs114 : Try.f114.results.toList = [ResultVar.cell 6 118, ResultVar.cell 7 167, ResultVar.cell 8 167] := by kernel_rfl
theorem nt114 : Try.f114.ntmps = 104 := by kernel_rfl
theorem gob114 {args : List AV} {s : AHeap} {R : AV → AHeap → Prop} (hl : args.length ≤ 104) (h : ∀ tm, tm.length = 104 → (∀ i, aev tm (.tmp i) = args.getD i aundef) → lvb Try.prog tab s L114 (lpostB tab s [ResultVar.cell 6 118, ResultVar.cell 7 167, ResultVar.cell 8 167] R) tm (loc s 0 [])) : ACall Try.prog 114 args s R := ACall.goB tab_ok mixed Try.func114 l114 nm114 rs114 nt114 hl h
noncomputable def L115 : LCode := LCode.seq (LCode.ops [⟨Op.box 118 (Operand.tmp 2), some 6, none⟩, ⟨Op.assign (Operand.const (Value.slice none 0 0)), some 8, none⟩]) (LCode.seq (LCode.ops [⟨Op.move (Operand.tmp 0), some 17, none⟩, ⟨Op.move (Operand.tmp 1), some 18, none⟩, ⟨Op.call { callee := Callee.value (Operand.func 74), args := { toList := [Operand.tmp 17, Operand.tmp 18] }, argTypes := { toList := [3, 27] } }, some 19, none⟩, ⟨Op.alloc 118, some 9, none⟩, ⟨Op.store 118 (Operand.tmp 9) (Operand.tmp 19), none, none⟩]) (LCode.seq (LCode.ops [⟨Op.assign (Operand.const (Value.slice none 0 0)), some 10, none⟩, ⟨Op.assign (Operand.const (Value.slice none 0 0)), some 11, none⟩]) (LCode.seq (LCode.ops [⟨Op.buildSlice 22 1 { toList := [(0, Operand.const (Value.int IntKind.i64 (-1)))] }, some 20, none⟩, ⟨Op.move (Operand.tmp 0), some 21, none⟩, ⟨Op.call { callee := Callee.value (Operand.func 149), args := { toList := [Operand.tmp 20, Operand.tmp 21] }, argTypes := { toList := [22, 3] } }, some 22, none⟩, ⟨Op.assign (Operand.tmp 22), some 11, none⟩]) (LCode.seq (LCode.seq (LCode.ops [⟨Op.fieldAddr 118 (Operand.tmp 9) 1, some 23, none⟩, ⟨Op.load 116 (Operand.tmp 23), some 24, none⟩, ⟨Op.call { callee := Callee.builtin Builtin.len, args := { toList := [Operand.tmp 24] }, argTypes := { toList := [116] } }, some 25, none⟩, ⟨Op.move (Operand.const (Value.int IntKind.i64 0)), some 26, none⟩]) (LCode.block 0 (LCode.loop (LCode.seq (LCode.ops [⟨Op.binOp BinOp.lss 3 (Operand.tmp 26) (Operand.tmp 25) 3, some 27, none⟩]) (LCode.seq (LCode.cond (Operand.tmp 27) LCode.skip (LCode.exit 0)) (LCode.seq (LCode.block 1 (LCode.seq (LCode.ops [⟨Op.move (Operand.tmp 26), some 28, none⟩, ⟨Op.indexAddr 116 (Operand.tmp 24) (Operand.tmp 26), some 29, none⟩, ⟨Op.load 121 (Operand.tmp 29), some 30, none⟩, ⟨Op.alloc 121, some 13, none⟩, ⟨Op.assign (Operand.tmp 28), some 12, none⟩, ⟨Op.store 121 (Operand.tmp 13) (Operand.tmp 30), none, none⟩]) (LCode.seq (LCode.ops [⟨Op.fieldAddr 121 (Operand.tmp 13) 0, some 31, none⟩, ⟨Op.load 3 (Operand.tmp 31), some 32, none⟩, ⟨Op.binOp BinOp.lss 3 (Operand.tmp 32) (Operand.const (Value.int IntKind.i64 0)) 3, some 33, none⟩]) (LCode.cond (Operand.tmp 33) (LCode.ops [⟨Op.move (Operand.tmp 10), some 34, none⟩, ⟨Op.move (Operand.tmp 12), some 35, none⟩, ⟨Op.buildSlice 22 1 { toList := [(0, Operand.tmp 35)] }, some 36, none⟩, ⟨Op.call { callee := Callee.builtin Builtin.append, args := { toList := [Operand.tmp 34, Operand.tmp 36] }, argTypes := { toList := [22, 22] } }, some 37, none⟩, ⟨Op.assign (Operand.tmp 37), some 10, none⟩]) (LCode.ops [⟨Op.move (Operand.tmp 11), some 38, none⟩, ⟨Op.fieldAddr 121 (Operand.tmp 13) 0, some 39, none⟩, ⟨Op.load 3 (Operand.tmp 39), some 40, none⟩, ⟨Op.move (Operand.tmp 12), some 41, none⟩, ⟨Op.indexAddr 22 (Operand.tmp 38) (Operand.tmp 40), some 42, none⟩, ⟨Op.store 3 (Operand.tmp 42) (Operand.tmp 41), none, none⟩]))))) (LCode.ops [⟨Op.binOp BinOp.add 3 (Operand.tmp 26) (Operand.const (Value.int IntKind.i64 1)) 3, some 43, none⟩, ⟨Op.move (Operand.tmp 43), some 26, none⟩]))))))) (LCode.seq (LCode.ops [⟨Op.fieldAddr 118 (Operand.tmp 9) 1, some 44, none⟩, ⟨Op.load 116 (Operand.tmp 44), some 45, none⟩, ⟨Op.call { callee := Callee.builtin Builtin.len, args := { toList := [Operand.tmp 45] }, argTypes := { toList := [116] } }, some 46, none⟩, ⟨Op.build 118 { toList := [(0, Operand.tmp 46)] }, some 47, none⟩, ⟨Op.alloc 118, some 14, none⟩, ⟨Op.store 118 (Operand.tmp 14) (Operand.tmp 47), none, none⟩]) (LCode.seq (LCode.seq (LCode.ops [⟨Op.fieldAddr 118 (Operand.tmp 6) 1, some 48, none⟩, ⟨Op.load 116 (Operand.tmp 48), some 49, none⟩, ⟨Op.call { callee := Callee.builtin Builtin.len, args := { toList := [Operand.tmp 49] }, argTypes := { toList := [116] } }, some 50, none⟩, ⟨Op.move (Operand.const (Value.int IntKind.i64 0)), some 51, none⟩]) (LCode.block 2 (LCode.loop (LCode.seq (LCode.ops [⟨Op.binOp BinOp.lss 3 (Operand.tmp 51) (Operand.tmp 50) 3, some 52, none⟩]) (LCode.seq (LCode.cond (Operand.tmp 52) LCode.skip (LCode.exit 2)) (LCode.seq (LCode.block 3 (LCode.seq (LCode.ops [⟨Op.move (Operand.tmp 51), some 53, none⟩, ⟨Op.indexAddr 116 (Operand.tmp 49) (Operand.tmp 51), some 54, none⟩, ⟨Op.load 121 (Operand.tmp 54), some 55, none⟩, ⟨Op.alloc 121, some 16, none⟩, ⟨Op.assign (Operand.tmp 53), some 15, none⟩, ⟨Op.store 121 (Operand.tmp 16) (Operand.tmp 55), none, none⟩]) (LCode.seq (LCode.block 4 (LCode.seq (LCode.ops [⟨Op.fieldAddr 121 (Operand.tmp 16) 0, some 57, none⟩, ⟨Op.load 3 (Operand.tmp 57), some 58, none⟩, ⟨Op.binOp BinOp.geq 3 (Operand.tmp 58) (Operand.const (Value.int IntKind.i64 0)) 3, some 59, none⟩, ⟨Op.assign (Operand.tmp 59), some 56, none⟩]) (LCode.cond (Operand.tmp 56) (LCode.ops [⟨Op.move (Operand.tmp 11), some 60, none⟩, ⟨Op.fieldAddr 121 (Operand.tmp 16) 0, some 61, none⟩, ⟨Op.load 3 (Operand.tmp 61), some 62, none⟩, ⟨Op.indexAddr 22 (Operand.tmp 60) (Operand.tmp 62), some 63, none⟩, ⟨Op.load 3 (Operand.tmp 63), some 64, none⟩, ⟨Op.fieldAddr 121 (Operand.tmp 16) 0, some 65, none⟩, ⟨Op.store 3 (Operand.tmp 65) (Operand.tmp 64), none, none⟩]) (LCode.seq (LCode.ops [⟨Op.move (Operand.tmp 3), some 67, none⟩, ⟨Op.move (Operand.tmp 15), some 68, none⟩, ⟨Op.indexAddr 167 (Operand.tmp 67) (Operand.tmp 68), some 69, none⟩, ⟨Op.load 4 (Operand.tmp 69), some 70, none⟩, ⟨Op.assign (Operand.tmp 70), some 66, none⟩]) (LCode.cond (Operand.tmp 66) (LCode.seq (LCode.ops [⟨Op.move (Operand.tmp 10), some 71, none⟩, ⟨Op.indexAddr 22 (Operand.tmp 71) (Operand.const (Value.int IntKind.i64 0)), some 72, none⟩, ⟨Op.load 3 (Operand.tmp 72), some 73, none⟩, ⟨Op.fieldAddr 121 (Operand.tmp 16) 0, some 74, none⟩, ⟨Op.store 3 (Operand.tmp 74) (Operand.tmp 73), none, none⟩]) (LCode.ops [⟨Op.move (Operand.tmp 10), some 75, none⟩, ⟨Op.slice 22 (Operand.tmp 75) (some (Operand.const (Value.int IntKind.i64 1))) none none, some 76, none⟩, ⟨Op.assign (Operand.tmp 76), some 10, none⟩])) LCode.skip))))) (LCode.ops [⟨Op.fieldAddr 118 (Operand.tmp 14) 1, some 77, none⟩, ⟨Op.load 116 (Operand.tmp 77), some 78, none⟩, ⟨Op.load 121 (Operand.tmp 16), some 79, none⟩, ⟨Op.buildSlice 116 1 { toList := [(0, Operand.tmp 79)] }, some 80, none⟩, ⟨Op.call { callee := Callee.builtin Builtin.append, args := { toList := [Operand.tmp 78, Operand.tmp 80] }, argTypes := { toList := [116, 116] } }, some 81, none⟩, ⟨Op.fieldAddr 118 (Operand.tmp 14) 1, some 82, none⟩, ⟨Op.store 116 (Operand.tmp 82) (Operand.tmp 81), none, none⟩])))) (LCode.ops [⟨Op.binOp BinOp.add 3 (Operand.tmp 51) (Operand.const (Value.int IntKind.i64 1)) 3, some 83, none⟩, ⟨Op.move (Operand.tmp 83), some 51, none⟩]))))))) (LCode.seq (LCode.ops [⟨Op.load 118 (Operand.tmp 14), some 84, none⟩, ⟨Op.call { callee := Callee.value (Operand.func 79), args := { toList := [Operand.tmp 84] }, argTypes := { toList := [118] } }, some 85, none⟩, ⟨Op.assign (Operand.tmp 85), some 8, none⟩]) LCode.ret)))))))
theorem l115 : Try.f115.body.map lighten = some L115 := by kernel_rfl
theorem rs115 : Try.f115.results.toList = [ResultVar.tmp 8] := by kernel_rfl
theorem nt115 : Try.f115.ntmps = 86 := by kernel_rfl
theorem gob115 {args : List AV} {s : AHeap} {R : AV → AHeap → Prop} (hl : args.length ≤ 86) (h : ∀ tm, tm.length = 86 → (∀ i, aev tm (.tmp i) = args.getD i aundef) → lvb Try.prog tab s L115 (lpostB tab s [ResultVar.tmp 8] R) tm (loc s 0 [])) : ACall Try.prog 115 args s R := ACall.goB tab_ok mixed Try.func115 l115 nm115 rs115 nt115 hl h
noncomputable def L141 : LCode := LCode.seq (LCode.ops [⟨Op.assign (Operand.const (Value.slice none 0 0)), some 6, none⟩]) (LCode.seq (LCode.ops [⟨Op.move (Operand.tmp 0), some 10, none⟩, ⟨Op.buildSlice 22 2 { toList := [(0, Operand.const (Value.int IntKind.i64 0)), (1, Operand.tmp 10)] }, some 11, none⟩, ⟨Op.assign (Operand.tmp 11), some 7, none⟩]) (LCode.seq (LCode.seq (LCode.ops [⟨Op.move (Operand.tmp 1), some 12, none⟩, ⟨Op.move (Operand.tmp 2), some 13, none⟩, ⟨Op.buildSlice 60 2 { toList := [(0, Operand.tmp 12), (1, Operand.tmp 13)] }, some 14, none⟩, ⟨Op.call { callee := Callee.value (Operand.func 163), args := { toList := [Operand.tmp 14] }, argTypes := { toList := [60] } }, some 15, none⟩, ⟨Op.call { callee := Callee.builtin Builtin.len, args := { toList := [Operand.tmp 15] }, argTypes := { toList := [27] } }, some 16, none⟩, ⟨Op.move (Operand.const (Value.int IntKind.i64 0)), some 17, none⟩]) (LCode.block 0 (LCode.loop (LCode.seq (LCode.ops [⟨Op.binOp BinOp.lss 3 (Operand.tmp 17) (Operand.tmp 16) 3, some 18, none⟩]) (LCode.seq (LCode.cond (Operand.tmp 18) LCode.skip (LCode.exit 0)) (LCode.seq (LCode.block 1 (LCode.seq (LCode.ops [⟨Op.indexAddr 27 (Operand.tmp 15) (Operand.tmp 17), some 19, none⟩, ⟨Op.load 35 (Operand.tmp 19), some 20, none⟩, ⟨Op.alloc 35, some 9, none⟩, ⟨Op.store 35 (Operand.tmp 9) (Operand.tmp 20), none, none⟩]) (LCode.ops [⟨Op.move (Operand.tmp 7), some 21, none⟩, ⟨Op.fieldAddr 35 (Operand.tmp 9) 0, some 22, none⟩, ⟨Op.load 3 (Operand.tmp 22), some 23, none⟩, ⟨Op.fieldAddr 35 (Operand.tmp 9) 0, some 24, none⟩, ⟨Op.load 3 (Operand.tmp 24), some 25, none⟩, ⟨Op.fieldAddr 35 (Operand.tmp 9) 1, some 26, none⟩, ⟨Op.load 3 (Operand.tmp 26), some 27, none⟩, ⟨Op.binOp BinOp.add 3 (Operand.tmp 25) (Operand.tmp 27) 3, some 28, none⟩, ⟨Op.buildSlice 22 2 { toList := [(0, Operand.tmp 23), (1, Operand.tmp 28)] }, some 29, none⟩, ⟨Op.call { callee := Callee.builtin Builtin.append, args := { toList := [Operand.tmp 21, Operand.tmp 29] }, argTypes := { toList := [22, 22] } }, some 30, none⟩, ⟨Op.assign (Operand.tmp 30), some 7, none⟩]))) (LCode.ops [⟨Op.binOp BinOp.add 3 (Operand.tmp 17) (Operand.const (Value.int IntKind.i64 1)) 3, some 31, none⟩, ⟨Op.move (Operand.tmp 31), some 17, none⟩]))))))) (LCode.seq (LCode.ops [⟨Op.move (Operand.tmp 7), some 32, none⟩, ⟨Op.call { callee := Callee.value (Operand.func 164), args := { toList := [Operand.tmp 32] }, argTypes := { toList := [22] } }, some 33, none⟩]) (LCode.seq (LCode.ops [⟨Op.move (Operand.tmp 7), some 34, none⟩, ⟨Op.call { callee := Callee.value (Operand.func 165), args := { toList := [Operand.tmp 34] }, argTypes := { toList := [22] } }, some 35, none⟩, ⟨Op.assign (Operand.tmp 35), some 6, none⟩]) LCode.ret))))
theorem l141 : Try.f141.body.map lighten = some L141 := by kernel_rfl
theorem rs141 : Try.f141.results.toList = [ResultVar.tmp 6] := by kernel_rfl
theorem nt141 : Try.f141.ntmps = 36 := by kernel_rfl
theorem gob141 {args : List AV} {s : AHeap} {R : AV → AHeap → Prop} (hl : args.length ≤ 36) (h : ∀ tm, tm.length = 36 → (∀ i, aev tm (.tmp i) = args.getD i aundef) → lvb Try.prog tab s L141 (lpostB tab s [ResultVar.tmp 6] R) tm (loc s 0 [])) : ACall Try.prog 141 args s R := ACall.goB tab_ok mixed Try.func141 l141 nm141 rs141 nt141 hl h
noncomputable def L142 : LCode := LCode.seq (LCode.ops [⟨Op.assign (Operand.const (Value.string { data := { toList := [] } })), some 4, none⟩, ⟨Op.assign (Operand.const (Value.bool false)), some 5, none⟩]) (LCode.seq (LCode.ops [⟨Op.move (Operand.tmp 0), some 9, none⟩, ⟨Op.move (Operand.tmp 1), some 10, none⟩, ⟨Op.call { callee := Callee.value (Operand.func 166), args := { toList := [Operand.tmp 9, Operand.tmp 10, Operand.func 167] }, argTypes := { toList := [27, 3, 227] } }, some 11, none⟩, ⟨Op.move (Operand.tmp 11), some 8, none⟩, ⟨Op.extract (Operand.tmp 8) 0, some 12, none⟩, ⟨Op.extract (Operand.tmp 8) 1, some 13, none⟩, ⟨Op.assign (Operand.tmp 12), some 6, none⟩, ⟨Op.assign (Operand.tmp 13), some 7, none⟩]) (LCode.seq (LCode.seq (LCode.ops [⟨Op.move (Operand.tmp 7), some 14, none⟩, ⟨Op.unOp UnOp.not 4 (Operand.tmp 14), some 15, none⟩]) (LCode.cond (Operand.tmp 15) (LCode.seq (LCode.ops [⟨Op.assign (Operand.const (Value.string { data := { toList := [] } })), some 4, none⟩, ⟨Op.assign (Operand.const (Value.bool false)), some 5, none⟩]) LCode.ret) LCode.skip)) (LCode.seq (LCode.ops [⟨Op.move (Operand.tmp 0), some 16, none⟩, ⟨Op.move (Operand.tmp 6), some 17, none⟩, ⟨Op.indexAddr 27 (Operand.tmp 16) (Operand.tmp 17), some 18, none⟩, ⟨Op.fieldAddr 35 (Operand.tmp 18) 2, some 19, none⟩, ⟨Op.load 9 (Operand.tmp 19), some 20, none⟩, ⟨Op.assign (Operand.tmp 20), some 4, none⟩, ⟨Op.assign (Operand.const (Value.bool true)), some 5, none⟩]) LCode.ret)))
theorem l142 : Try.f142.body.map lighten = some L142 := by kernel_rfl
theorem rs142 : Try.f142.results.toList = [ResultVar.tmp 4, ResultVar.tmp 5] := by kernel_rfl
theorem nt142 : Try.f142.ntmps = 21 := by kernel_rfl
theorem gob142 {args : List AV} {s : AHeap} {R : AV → AHeap → Prop} (hl : args.length ≤ 21) (h : ∀ tm, tm.length = 21 → (∀ i, aev tm (.tmp i) = args.getD i aundef) → lvb Try.prog tab s L142 (lpostB tab s [ResultVar.tmp 4, ResultVar.tmp 5] R) tm (loc s 0 [])) : ACall Try.prog 142 args s R := ACall.goB tab_ok mixed Try.func142 l142 nm142 rs142 nt142 hl h
noncomputable def L143 : LCode := LCode.seq (LCode.ops [⟨Op.assign (Operand.const (Value.bool false)), some 4, none⟩]) (LCode.seq (LCode.ops [⟨Op.move (Operand.tmp 0), some 8, none⟩, ⟨Op.move (Operand.tmp 1), some 9, none⟩, ⟨Op.call { callee := Callee.value (Operand.func 166), args := { toList := [Operand.tmp 8, Operand.tmp 9, Operand.func 168] }, argTypes := { toList := [27, 3, 227] } }, some 10, none⟩, ⟨Op.move (Operand.tmp 10), some 7, none⟩, ⟨Op.extract (Operand.tmp 7) 0, some 11, none⟩, ⟨Op.extract (Operand.tmp 7) 1, some 12, none⟩, ⟨Op.assign (Operand.tmp 11), some 5, none⟩, ⟨Op.assign (Operand.tmp 12), some 6, none⟩]) (LCode.seq (LCode.seq (LCode.ops [⟨Op.move (Operand.tmp 6), some 13, none⟩, ⟨Op.unOp UnOp.not 4 (Operand.tmp 13), some 14, none⟩]) (LCode.cond (Operand.tmp 14) (LCode.ops [⟨Op.move (Operand.tmp 5), some 15, none⟩, ⟨Op.binOp BinOp.sub 3 (Operand.tmp 15) (Operand.const (Value.int IntKind.i64 1)) 3, some 16, none⟩, ⟨Op.assign (Operand.tmp 16), some 5, none⟩]) LCode.skip)) (LCode.seq (LCode.draw [0, 1, 3, 7, 7, 7, 55, 119, 247, 7, 7, 1543, 3591, 7687, 16375, 32767, 65535, 131071] [⟨Op.move (Operand.tmp 5), some 17, none⟩, ⟨Op.binOp BinOp.lss 3 (Operand.tmp 17) (Operand.const (Value.int IntKind.i64 0)) 3, some 18, none⟩, ⟨Op.move (Operand.tmp 18), some 19, none⟩, ⟨Op.move (Operand.tmp 1), some 20, some (19, false)⟩, ⟨Op.move (Operand.tmp 0), some 21, some (19, false)⟩, ⟨Op.move (Operand.tmp 5), some 22, some (19, false)⟩, ⟨Op.indexAddr 27 (Operand.tmp 21) (Operand.tmp 22), some 23, some (19, false)⟩, ⟨Op.fieldAddr 35 (Operand.tmp 23) 0, some 24, some (19, false)⟩, ⟨Op.load 3 (Operand.tmp 24), some 25, some (19, false)⟩, ⟨Op.move (Operand.tmp 0), some 26, some (19, false)⟩, ⟨Op.move (Operand.tmp 5), some 27, some (19, false)⟩, ⟨Op.indexAddr 27 (Operand.tmp 26) (Operand.tmp 27), some 28, some (19, false)⟩, ⟨Op.fieldAddr 35 (Operand.tmp 28) 1, some 29, some (19, false)⟩, ⟨Op.load 3 (Operand.tmp 29), some 30, some (19, false)⟩, ⟨Op.binOp BinOp.add 3 (Operand.tmp 25) (Operand.tmp 30) 3, some 31, some (19, false)⟩, ⟨Op.binOp BinOp.geq 3 (Operand.tmp 20) (Operand.tmp 31) 3, some 32, some (19, false)⟩, ⟨Op.pick (Operand.tmp 19) (Operand.const (Value.bool true)) (Operand.tmp 32), some 33, none⟩, ⟨Op.assign (Operand.tmp 33), some 4, none⟩]) LCode.ret)))
theorem l143 : Try.f143.body.map lighten = some L143 := by kernel_rfl
theorem rs143 : Try.f143.results.toList = [ResultVar.tmp 4] := by kernel_rfl
theorem nt143 : Try.f143.ntmps = 34 := by kernel_rfl
theorem gob143 {args : List AV} {s : AHeap} {R : AV → AHeap → Prop} (hl : args.length ≤ 34) (h : ∀ tm, tm.length = 34 → (∀ i, aev tm (.tmp i) = args.getD i aundef) → lvb Try.prog tab s L143 (lpostB tab s [ResultVar.tmp 4] R) tm (loc s 0 [])) : ACall Try.prog 143 args s R := ACall.goB tab_ok mixed Try.func143 l143 nm143 rs143 nt143 hl h
noncomputable def L145 : LCode := LCode.seq (LCode.ops [⟨Op.box 121 (Operand.tmp 0), some 6, none⟩]) (LCode.draw [0, 1, 0, 4, 15, 0, 0, 64, 255, 0, 0, 1024, 4095, 31, 16383, 32767, 65535] [⟨Op.fieldAddr 118 (Operand.tmp 3) 1, some 9, none⟩, ⟨Op.load 116 (Operand.tmp 9), some 10, none⟩, ⟨Op.load 121 (Operand.tmp 6), some 11, none⟩, ⟨Op.buildSlice 116 1 { toList := [(0, Operand.tmp 11)] }, some 12, none⟩, ⟨Op.call { callee := Callee.builtin Builtin.append, args := { toList := [Operand.tmp 10, Operand.tmp 12] }, argTypes := { toList := [116, 116] } }, some 13, none⟩, ⟨Op.load 167 (Operand.tmp 4), some 14, none⟩, ⟨Op.move (Operand.tmp 1), some 15, none⟩, ⟨Op.buildSlice 167 1 { toList := [(0, Operand.tmp 15)] }, some 16, none⟩, ⟨Op.call { callee := Callee.builtin Builtin.append, args := { toList := [Operand.tmp 14, Operand.tmp 16] }, argTypes := { toList := [167, 167] } }, some 17, none⟩, ⟨Op.load 167 (Operand.tmp 5), some 18, none⟩, ⟨Op.move (Operand.tmp 2), some 19, none⟩, ⟨Op.buildSlice 167 1 { toList := [(0, Operand.tmp 19)] }, some 20, none⟩, ⟨Op.call { callee := Callee.builtin Builtin.append, args := { toList := [Operand.tmp 18, Operand.tmp 20] }, argTypes := { toList := [167, 167] } }, some 21, none⟩, ⟨Op.fieldAddr 118 (Operand.tmp 3) 1, some 22, none⟩, ⟨Op.store 116 (Operand.tmp 22) (Operand.tmp 13), none, none⟩, ⟨Op.store 167 (Operand.tmp 4) (Operand.tmp 17), none, none⟩, ⟨Op.store 167 (Operand.tmp 5) (Operand.tmp 21), none, none⟩])
theorem l145 : Try.f145.body.map lighten = some L145 := by kernel_rfl
theorem rs145 : Try.f145.results.toList = [] := by kernel_rfl
theorem nt145 : Try.f145.ntmps = 23 := by kernel_rfl
theorem gob145 {args : List AV} {s : AHeap} {R : AV → AHeap → Prop} (hl : args.length ≤ 23) (h : ∀ tm, tm.length = 23 → (∀ i, aev tm (.tmp i) = args.getD i aundef) → lvb Try.prog tab s L145 (lpostB tab s [] R) tm (loc s 0 [])) : ACall Try.prog 145 args s R := ACall.goB tab_ok mixed Try.func145 l145 nm145 rs145 nt145 hl h
noncomputable def L146 : LCode := LCode.seq (LCode.ops [⟨Op.box 3 (Operand.tmp 1), some 3, none⟩, ⟨Op.assign (Operand.const (Value.bool false)), some 4, none⟩]) (LCode.seq (LCode.ops [⟨Op.move (Operand.tmp 0), some 5, none⟩, ⟨Op.makeFunc (Fn.func 148) { toList := [] } { toList := [Operand.tmp 3] }, some 6, none⟩, ⟨Op.call { callee := Callee.value (Operand.func 147), args := { toList := [Operand.tmp 5, Operand.tmp 6] }, argTypes := { toList := [27, 206] } }, some 7, none⟩, ⟨Op.assign (Operand.tmp 7), some 4, none⟩]) LCode.ret)
theorem l146 : Try.f146.body.map lighten = some L146 := by kernel_rfl
theorem rs146 : Try.f146.results.toList = [ResultVar.tmp 4] := by kernel_rfl
theorem nt146 : Try.f146.ntmps = 8 := by kernel_rfl
theorem gob146 {args : List AV} {s : AHeap} {R : AV → AHeap → Prop} (hl : args.length ≤ 8) (h : ∀ tm, tm.length = 8 → (∀ i, aev tm (.tmp i) = args.getD i aundef) → lvb Try.prog tab s L146 (lpostB tab s [ResultVar.tmp 4] R) tm (loc s 0 [])) : ACall Try.prog 146 args s R := ACall.goB tab_ok mixed Try.func146 l146 nm146 rs146 nt146 hl h
noncomputable def L147 : LCode := LCode.seq (LCode.ops [⟨Op.assign (Operand.const (Value.bool false)), some 4, none⟩]) (LCode.seq (LCode.ops [⟨Op.move (Operand.tmp 0), some 5, none⟩, ⟨Op.move (Operand.tmp 1), some 6, none⟩, ⟨Op.call { callee := Callee.value (Operand.func 169), args := { toList := [Operand.tmp 5, Operand.tmp 6] }, argTypes := { toList := [27, 206] } }, some 7, none⟩, ⟨Op.binOp BinOp.geq 3 (Operand.tmp 7) (Operand.const (Value.int IntKind.i64 0)) 3, some 8, none⟩, ⟨Op.assign (Operand.tmp 8), some 4, none⟩]) LCode.ret)
theorem l147 : Try.f147.body.map lighten = some L147 := by kernel_rfl
theorem rs147 : Try.f147.results.toList = [ResultVar.tmp 4] := by kernel_rfl
theorem nt147 : Try.f147.ntmps = 9 := by kernel_rfl
theorem gob147 {args : List AV} {s : AHeap} {R : AV → AHeap → Prop} (hl : args.length ≤ 9) (h : ∀ tm, tm.length = 9 → (∀ i, aev tm (.tmp i) = args.getD i aundef) → lvb Try.prog tab s L147 (lpostB tab s [ResultVar.tmp 4] R) tm (loc s 0 [])) : ACall Try.prog 147 args s R := ACall.goB tab_ok mixed Try.func147 l147 nm147 rs147 nt147 hl h
noncomputable def L148 : LCode := LCode.seq (LCode.ops [⟨Op.box 35 (Operand.tmp 0), some 2, none⟩, ⟨Op.assign (Operand.const (Value.bool false)), some 3, none⟩]) (LCode.seq (LCode.ops [⟨Op.fieldAddr 35 (Operand.tmp 2) 0, some 4, none⟩, ⟨Op.load 3 (Operand.tmp 4), some 5, none⟩, ⟨Op.load 3 (Operand.tmp 1), some 6, none⟩, ⟨Op.binOp BinOp.leq 3 (Operand.tmp 5) (Operand.tmp 6) 3, some 7, none⟩, ⟨Op.move (Operand.tmp 7), some 8, none⟩, ⟨Op.load 3 (Operand.tmp 1), some 9, some (8, true)⟩, ⟨Op.fieldAddr 35 (Operand.tmp 2) 0, some 10, some (8, true)⟩, ⟨Op.load 3 (Operand.tmp 10), some 11, some (8, true)⟩, ⟨Op.fieldAddr 35 (Operand.tmp 2) 1, some 12, some (8, true)⟩, ⟨Op.load 3 (Operand.tmp 12), some 13, some (8, true)⟩, ⟨Op.binOp BinOp.add 3 (Operand.tmp 11) (Operand.tmp 13) 3, some 14, some (8, true)⟩, ⟨Op.binOp BinOp.lss 3 (Operand.tmp 9) (Operand.tmp 14) 3, some 15, some (8, true)⟩, ⟨Op.pick (Operand.tmp 8) (Operand.tmp 15) (Operand.const (Value.bool false)), some 16, none⟩, ⟨Op.assign (Operand.tmp 16), some 3, none⟩]) LCode.ret)
theorem l148 : Try.f148.body.map lighten = some L148 := by kernel_rfl
theorem rs148 : Try.f148.results.toList = [ResultVar.tmp 3] := by kernel_rfl
theorem nt148 : Try.f148.ntmps = 17 := by kernel_rfl
theorem gob148 {args : List AV} {s : AHeap} {R : AV → AHeap → Prop} (hl : args.length ≤ 17) (h : ∀ tm, tm.length = 17 → (∀ i, aev tm (.tmp i) = args.getD i aundef) → lvb Try.prog tab s L148 (lpostB tab s [ResultVar.tmp 3] R) tm (loc s 0 [])) : ACall Try.prog 148 args s R := ACall.goB tab_ok mixed Try.func148 l148 nm148 rs148 nt148 hl h
noncomputable def L149 : LCode := LCode.seq (LCode.ops [⟨Op.assign (Operand.const (Value.slice none 0 0)), some 4, none⟩]) (LCode.seq (LCode.seq (LCode.ops [⟨Op.move (Operand.tmp 1), some 9, none⟩, ⟨Op.binOp BinOp.lss 3 (Operand.tmp 9) (Operand.const (Value.int IntKind.i64 0)) 3, some 10, none⟩]) (LCode.cond (Operand.tmp 10) (LCode.ops [⟨Op.makeInterface 9 (Operand.const (Value.string { data := { toList := [99, 97, 110, 110, 111, 116, 32, 98, 101, 32, 110, 101, 103, 97, 116, 105, 118, 101] } })), some 11, none⟩, ⟨Op.panic (Operand.tmp 11), none, none⟩]) LCode.skip)) (LCode.seq (LCode.ops [⟨Op.move (Operand.tmp 0), some 13, none⟩, ⟨Op.call { callee := Callee.builtin Builtin.len, args := { toList := [Operand.tmp 13] }, argTypes := { toList := [22] } }, some 14, none⟩, ⟨Op.convert 3 184 (Operand.tmp 14), some 15, none⟩, ⟨Op.move (Operand.tmp 1), some 16, none⟩, ⟨Op.convert 3 184 (Operand.tmp 16), some 17, none⟩, ⟨Op.call { callee := Callee.value (Operand.func 127), args := { toList := [Operand.tmp 15, Operand.tmp 17] }, argTypes := { toList := [184, 184] } }, some 18, none⟩, ⟨Op.move (Operand.tmp 18), some 12, none⟩, ⟨Op.extract (Operand.tmp 12) 0, some 19, none⟩, ⟨Op.extract (Operand.tmp 12) 1, some 20, none⟩, ⟨Op.assign (Operand.tmp 19), some 5, none⟩, ⟨Op.assign (Operand.tmp 20), some 6, none⟩]) (LCode.seq (LCode.seq (LCode.ops [⟨Op.move (Operand.tmp 5), some 21, none⟩, ⟨Op.binOp BinOp.gtr 184 (Operand.tmp 21) (Operand.const (Value.int IntKind.u64 0)) 184, some 22, none⟩, ⟨Op.move (Operand.tmp 22), some 23, none⟩, ⟨Op.move (Operand.tmp 6), some 24, some (23, false)⟩, ⟨Op.binOp BinOp.gtr 184 (Operand.tmp 24) (Operand.const (Value.int IntKind.u64 9223372036854775807)) 184, some 25, some (23, false)⟩, ⟨Op.pick (Operand.tmp 23) (Operand.const (Value.bool true)) (Operand.tmp 25), some 26, none⟩]) (LCode.cond (Operand.tmp 26) (LCode.ops [⟨Op.makeInterface 9 (Operand.const (Value.string { data := { toList := [116, 104, 101, 32, 114, 101, 115, 117, 108, 116, 32, 111, 102, 32, 40, 108, 101, 110, 40, 120, 41, 32, 42, 32, 99, 111, 117, 110, 116, 41, 32, 111, 118, 101, 114, 102, 108, 111, 119, 115] } })), some 27, none⟩, ⟨Op.panic (Operand.tmp 27), none, none⟩]) LCode.skip)) (LCode.seq (LCode.ops [⟨Op.move (Operand.tmp 6), some 28, none⟩, ⟨Op.convert 184 3 (Operand.tmp 28), some 29, none⟩, ⟨Op.makeSlice 22 (Operand.tmp 29) (Operand.tmp 29), some 30, none⟩, ⟨Op.assign (Operand.tmp 30), some 7, none⟩]) (LCode.seq (LCode.ops [⟨Op.move (Operand.tmp 7), some 31, none⟩, ⟨Op.move (Operand.tmp 0), some 32, none⟩, ⟨Op.call { callee := Callee.builtin Builtin.copy, args := { toList := [Operand.tmp 31, Operand.tmp 32] }, argTypes := { toList := [22, 22] } }, some 33, none⟩, ⟨Op.assign (Operand.tmp 33), some 8, none⟩]) (LCode.seq (LCode.block 0 (LCode.loop (LCode.seq (LCode.seq (LCode.ops [⟨Op.move (Operand.tmp 8), some 34, none⟩, ⟨Op.move (Operand.tmp 7), some 35, none⟩, ⟨Op.call { callee := Callee.builtin Builtin.len, args := { toList := [Operand.tmp 35] }, argTypes := { toList := [22] } }, some 36, none⟩, ⟨Op.binOp BinOp.lss 3 (Operand.tmp 34) (Operand.tmp 36) 3, some 37, none⟩]) (LCode.cond (Operand.tmp 37) LCode.skip (LCode.exit 0))) (LCode.block 1 (LCode.draw [0, 0, 0, 6, 0, 0, 48, 126, 255, 511] [⟨Op.move (Operand.tmp 8), some 38, none⟩, ⟨Op.move (Operand.tmp 7), some 39, none⟩, ⟨Op.move (Operand.tmp 8), some 40, none⟩, ⟨Op.slice 22 (Operand.tmp 39) (some (Operand.tmp 40)) none none, some 41, none⟩, ⟨Op.move (Operand.tmp 7), some 42, none⟩, ⟨Op.move (Operand.tmp 8), some 43, none⟩, ⟨Op.slice 22 (Operand.tmp 42) none (some (Operand.tmp 43)) none, some 44, none⟩, ⟨Op.call { callee := Callee.builtin Builtin.copy, args := { toList := [Operand.tmp 41, Operand.tmp 44] }, argTypes := { toList := [22, 22] } }, some 45, none⟩, ⟨Op.binOp BinOp.add 3 (Operand.tmp 38) (Operand.tmp 45) 3, some 46, none⟩, ⟨Op.assign (Operand.tmp 46), some 8, none⟩]))))) (LCode.seq (LCode.ops [⟨Op.move (Operand.tmp 7), some 47, none⟩, ⟨Op.assign (Operand.tmp 47), some 4, none⟩]) LCode.ret)))))))
theorem l149 : Try.f149.body.map lighten = some L149 := by kernel_rfl
theorem rs149 : Try.f149.results.toList = [ResultVar.tmp 4] := by kernel_rfl
theorem nt149 : Try.f149.ntmps = 48 := by kernel_rfl
theorem gob149 {args : List AV} {s : AHeap} {R : AV → AHeap → Prop} (hl : args.length ≤ 48) (h : ∀ tm, tm.length = 48 → (∀ i, aev tm (.tmp i) = args.getD i aundef) → lvb Try.prog tab s L149 (lpostB tab s [ResultVar.tmp 4] R) tm (loc s 0 [])) : ACall Try.prog 149 args s R := ACall.goB tab_ok mixed Try.func149 l149 nm149 rs149 nt149 hl h
noncomputable def L163 : LCode := LCode.seq (LCode.ops [⟨Op.assign (Operand.const (Value.slice none 0 0)), some 2, none⟩]) (LCode.seq (LCode.ops [⟨Op.assign (Operand.const (Value.int IntKind.i64 0)), some 3, none⟩]) (LCode.seq (LCode.seq (LCode.ops [⟨Op.move (Operand.tmp 0), some 9, none⟩, ⟨Op.call { callee := Callee.builtin Builtin.len, args := { toList := [Operand.tmp 9] }, argTypes := { toList := [60] } }, some 10, none⟩, ⟨Op.move (Operand.const (Value.int IntKind.i64 0)), some 11, none⟩]) (LCode.block 0 (LCode.loop (LCode.seq (LCode.ops [⟨Op.binOp BinOp.lss 3 (Operand.tmp 11) (Operand.tmp 10) 3, some 12, none⟩]) (LCode.seq (LCode.cond (Operand.tmp 12) LCode.skip (LCode.exit 0)) (LCode.seq (LCode.block 1 (LCode.seq (LCode.ops [⟨Op.indexAddr 60 (Operand.tmp 9) (Operand.tmp 11), some 13, none⟩, ⟨Op.load 27 (Operand.tmp 13), some 14, none⟩, ⟨Op.assign (Operand.tmp 14), some 5, none⟩]) (LCode.seq (LCode.ops [⟨Op.move (Operand.tmp 3), some 15, none⟩, ⟨Op.move (Operand.tmp 5), some 16, none⟩, ⟨Op.call { callee := Callee.builtin Builtin.len, args := { toList := [Operand.tmp 16] }, argTypes := { toList := [27] } }, some 17, none⟩, ⟨Op.binOp BinOp.add 3 (Operand.tmp 15) (Operand.tmp 17) 3, some 18, none⟩, ⟨Op.assign (Operand.tmp 18), some 3, none⟩]) (LCode.seq (LCode.ops [⟨Op.move (Operand.tmp 3), some 19, none⟩, ⟨Op.binOp BinOp.lss 3 (Operand.tmp 19) (Operand.const (Value.int IntKind.i64 0)) 3, some 20, none⟩]) (LCode.cond (Operand.tmp 20) (LCode.ops [⟨Op.makeInterface 9 (Operand.const (Value.string { data := { toList := [108, 101, 110, 32, 111, 117, 116, 32, 111, 102, 32, 114, 97, 110, 103, 101] } })), some 21, none⟩, ⟨Op.panic (Operand.tmp 21), none, none⟩]) LCode.skip))))) (LCode.ops [⟨Op.binOp BinOp.add 3 (Operand.tmp 11) (Operand.const (Value.int IntKind.i64 1)) 3, some 22, none⟩, ⟨Op.move (Operand.tmp 22), some 11, none⟩]))))))) (LCode.seq (LCode.ops [⟨Op.move (Operand.tmp 3), some 23, none⟩, ⟨Op.call { callee := Callee.value (Operand.func 173), args := { toList := [Operand.const (Value.slice none 0 0), Operand.tmp 23] }, argTypes := { toList := [27, 3] } }, some 24, none⟩, ⟨Op.assign (Operand.tmp 24), some 6, none⟩]) (LCode.seq (LCode.seq (LCode.ops [⟨Op.move (Operand.tmp 0), some 25, none⟩, ⟨Op.call { callee := Callee.builtin Builtin.len, args := { toList := [Operand.tmp 25] }, argTypes := { toList := [60] } }, some 26, none⟩, ⟨Op.move (Operand.const (Value.int IntKind.i64 0)), some 27, none⟩]) (LCode.block 2 (LCode.loop (LCode.seq (LCode.ops [⟨Op.binOp BinOp.lss 3 (Operand.tmp 27) (Operand.tmp 26) 3, some 28, none⟩]) (LCode.seq (LCode.cond (Operand.tmp 28) LCode.skip (LCode.exit 2)) (LCode.seq (LCode.block 3 (LCode.seq (LCode.ops [⟨Op.indexAddr 60 (Operand.tmp 25) (Operand.tmp 27), some 29, none⟩, ⟨Op.load 27 (Operand.tmp 29), some 30, none⟩, ⟨Op.assign (Operand.tmp 30), some 8, none⟩]) (LCode.ops [⟨Op.move (Operand.tmp 6), some 31, none⟩, ⟨Op.move (Operand.tmp 8), some 32, none⟩, ⟨Op.call { callee := Callee.builtin Builtin.append, args := { toList := [Operand.tmp 31, Operand.tmp 32] }, argTypes := { toList := [27, 27] } }, some 33, none⟩, ⟨Op.assign (Operand.tmp 33), some 6, none⟩]))) (LCode.ops [⟨Op.binOp BinOp.add 3 (Operand.tmp 27) (Operand.const (Value.int IntKind.i64 1)) 3, some 34, none⟩, ⟨Op.move (Operand.tmp 34), some 27, none⟩]))))))) (LCode.seq (LCode.ops [⟨Op.move (Operand.tmp 6), some 35, none⟩, ⟨Op.assign (Operand.tmp 35), some 2, none⟩]) LCode.ret)))))
theorem l163 : Try.f163.body.map lighten = some L163 := by kernel_rfl
theorem rs163 : Try.f163.results.toList = [ResultVar.tmp 2] := by kernel_rfl
theorem nt163 : Try.f163.ntmps = 36 := by kernel_rfl
theorem gob163 {args : List AV} {s : AHeap} {R : AV → AHeap → Prop} (hl : args.length ≤ 36) (h : ∀ tm, tm.length = 36 → (∀ i, aev tm (.tmp i) = args.getD i aundef) → lvb Try.prog tab s L163 (lpostB tab s [ResultVar.tmp 2] R) tm (loc s 0 [])) : ACall Try.prog 163 args s R := ACall.goB tab_ok mixed Try.func163 l163 nm163 rs163 nt163 hl h
noncomputable def L165 : LCode := LCode.seq (LCode.ops [⟨Op.assign (Operand.const (Value.slice none 0 0)), some 2, none⟩]) (LCode.seq (LCode.seq (LCode.ops [⟨Op.move (Operand.tmp 0), some 6, none⟩, ⟨Op.call { callee := Callee.builtin Builtin.len, args := { toList := [Operand.tmp 6] }, argTypes := { toList := [22] } }, some 7, none⟩, ⟨Op.binOp BinOp.lss 3 (Operand.tmp 7) (Operand.const (Value.int IntKind.i64 2)) 3, some 8, none⟩]) (LCode.cond (Operand.tmp 8) (LCode.seq (LCode.ops [⟨Op.move (Operand.tmp 0), some 9, none⟩, ⟨Op.assign (Operand.tmp 9), some 2, none⟩]) LCode.ret) LCode.skip)) (LCode.seq (LCode.seq (LCode.ops [⟨Op.assign (Operand.const (Value.int IntKind.i64 1)), some 3, none⟩]) (LCode.block 0 (LCode.loop (LCode.seq (LCode.seq (LCode.ops [⟨Op.move (Operand.tmp 3), some 10, none⟩, ⟨Op.move (Operand.tmp 0), some 11, none⟩, ⟨Op.call { callee := Callee.builtin Builtin.len, args := { toList := [Operand.tmp 11] }, argTypes := { toList := [22] } }, some 12, none⟩, ⟨Op.binOp BinOp.lss 3 (Operand.tmp 10) (Operand.tmp 12) 3, some 13, none⟩]) (LCode.cond (Operand.tmp 13) LCode.skip (LCode.exit 0))) (LCode.seq (LCode.block 1 (LCode.seq (LCode.draw [0, 0, 3, 7, 0, 0, 32, 112, 240, 511] [⟨Op.move (Operand.tmp 0), some 16, none⟩, ⟨Op.move (Operand.tmp 3), some 17, none⟩, ⟨Op.indexAddr 22 (Operand.tmp 16) (Operand.tmp 17), some 18, none⟩, ⟨Op.load 3 (Operand.tmp 18), some 19, none⟩, ⟨Op.move (Operand.tmp 0), some 20, none⟩, ⟨Op.move (Operand.tmp 3), some 21, none⟩, ⟨Op.binOp BinOp.sub 3 (Operand.tmp 21) (Operand.const (Value.int IntKind.i64 1)) 3, some 22, none⟩, ⟨Op.indexAddr 22 (Operand.tmp 20) (Operand.tmp 22), some 23, none⟩, ⟨Op.load 3 (Operand.tmp 23), some 24, none⟩, ⟨Op.binOp BinOp.eql 3 (Operand.tmp 19) (Operand.tmp 24) 3, some 25, none⟩]) (LCode.cond (Operand.tmp 25) (LCode.seq (LCode.ops [⟨Op.move (Operand.tmp 0), some 26, none⟩, ⟨Op.move (Operand.tmp 3), some 27, none⟩, ⟨Op.slice 22 (Operand.tmp 26) (some (Operand.tmp 27)) none none, some 28, none⟩, ⟨Op.assign (Operand.tmp 28), some 4, none⟩]) (LCode.seq (LCode.seq (LCode.ops [⟨Op.assign (Operand.const (Value.int IntKind.i64 1)), some 5, none⟩]) (LCode.block 2 (LCode.loop (LCode.seq (LCode.seq (LCode.ops [⟨Op.move (Operand.tmp 5), some 29, none⟩, ⟨Op.move (Operand.tmp 4), some 30, none⟩, ⟨Op.call { callee := Callee.builtin Builtin.len, args := { toList := [Operand.tmp 30] }, argTypes := { toList := [22] } }, some 31, none⟩, ⟨Op.binOp BinOp.lss 3 (Operand.tmp 29) (Operand.tmp 31) 3, some 32, none⟩]) (LCode.cond (Operand.tmp 32) LCode.skip (LCode.exit 2))) (LCode.seq (LCode.block 3 (LCode.seq (LCode.draw [0, 0, 3, 7, 0, 0, 32, 112, 240, 511] [⟨Op.move (Operand.tmp 4), some 35, none⟩, ⟨Op.move (Operand.tmp 5), some 36, none⟩, ⟨Op.indexAddr 22 (Operand.tmp 35) (Operand.tmp 36), some 37, none⟩, ⟨Op.load 3 (Operand.tmp 37), some 38, none⟩, ⟨Op.move (Operand.tmp 4), some 39, none⟩, ⟨Op.move (Operand.tmp 5), some 40, none⟩, ⟨Op.binOp BinOp.sub 3 (Operand.tmp 40) (Operand.const (Value.int IntKind.i64 1)) 3, some 41, none⟩, ⟨Op.indexAddr 22 (Operand.tmp 39) (Operand.tmp 41), some 42, none⟩, ⟨Op.load 3 (Operand.tmp 42), some 43, none⟩, ⟨Op.binOp BinOp.neq 3 (Operand.tmp 38) (Operand.tmp 43) 3, some 44, none⟩]) (LCode.cond (Operand.tmp 44) (LCode.seq (LCode.ops [⟨Op.move (Operand.tmp 0), some 45, none⟩, ⟨Op.move (Operand.tmp 3), some 46, none⟩, ⟨Op.move (Operand.tmp 4), some 47, none⟩, ⟨Op.move (Operand.tmp 5), some 48, none⟩, ⟨Op.indexAddr 22 (Operand.tmp 47) (Operand.tmp 48), some 49, none⟩, ⟨Op.load 3 (Operand.tmp 49), some 50, none⟩, ⟨Op.indexAddr 22 (Operand.tmp 45) (Operand.tmp 46), some 51, none⟩, ⟨Op.store 3 (Operand.tmp 51) (Operand.tmp 50), none, none⟩]) (LCode.ops [⟨Op.move (Operand.tmp 3), some 52, none⟩, ⟨Op.binOp BinOp.add 3 (Operand.tmp 52) (Operand.const (Value.int IntKind.i64 1)) 3, some 53, none⟩, ⟨Op.assign (Operand.tmp 53), some 3, none⟩])) LCode.skip))) (LCode.ops [⟨Op.move (Operand.tmp 5), some 33, none⟩, ⟨Op.binOp BinOp.add 3 (Operand.tmp 33) (Operand.const (Value.int IntKind.i64 1)) 3, some 34, none⟩, ⟨Op.assign (Operand.tmp 34), some 5, none⟩])))))) (LCode.seq (LCode.ops [⟨Op.move (Operand.tmp 0), some 54, none⟩, ⟨Op.move (Operand.tmp 3), some 55, none⟩, ⟨Op.slice 22 (Operand.tmp 54) (some (Operand.tmp 55)) none none, some 56, none⟩, ⟨Op.call { callee := Callee.builtin Builtin.clear, args := { toList := [Operand.tmp 56] }, argTypes := { toList := [22] } }, none, none⟩]) (LCode.seq (LCode.ops [⟨Op.move (Operand.tmp 0), some 57, none⟩, ⟨Op.move (Operand.tmp 3), some 58, none⟩, ⟨Op.slice 22 (Operand.tmp 57) none (some (Operand.tmp 58)) none, some 59, none⟩, ⟨Op.assign (Operand.tmp 59), some 2, none⟩]) LCode.ret)))) LCode.skip))) (LCode.ops [⟨Op.move (Operand.tmp 3), some 14, none⟩, ⟨Op.binOp BinOp.add 3 (Operand.tmp 14) (Operand.const (Value.int IntKind.i64 1)) 3, some 15, none⟩, ⟨Op.assign (Operand.tmp 15), some 3, none⟩])))))) (LCode.seq (LCode.ops [⟨Op.move (Operand.tmp 0), some 60, none⟩, ⟨Op.assign (Operand.tmp 60), some 2, none⟩]) LCode.ret)))
theorem l165 : Try.f165.body.map lighten = some L165 := by kernel_rfl
theorem rs165 : Try.f165.results.toList = [ResultVar.tmp 2] := by kernel_rfl
theorem nt165 : Try.f165.ntmps = 61 := by kernel_rfl
theorem gob165 {args : List AV} {s : AHeap} {R : AV → AHeap → Prop} (hl : args.length ≤ 61) (h : ∀ tm, tm.length = 61 → (∀ i, aev tm (.tmp i) = args.getD i aundef) → lvb Try.prog tab s L165 (lpostB tab s [ResultVar.tmp 2] R) tm (loc s 0 [])) : ACall Try.prog 165 args s R := ACall.goB tab_ok mixed Try.func165 l165 nm165 rs165 nt165 hl h
noncomputable def L166 : LCode := LCode.seq (LCode.ops [⟨Op.assign (Operand.const (Value.int IntKind.i64 0)), some 6, none⟩, ⟨Op.assign (Operand.const (Value.bool false)), some 7, none⟩]) (LCode.seq (LCode.ops [⟨Op.move (Operand.tmp 0), some 12, none⟩, ⟨Op.call { callee := Callee.builtin Builtin.len, args := { toList := [Operand.tmp 12] }, argTypes := { toList := [27] } }, some 13, none⟩, ⟨Op.assign (Operand.tmp 13), some 8, none⟩]) (LCode.seq (LCode.ops [⟨Op.move (Operand.tmp 8), some 14, none⟩, ⟨Op.assign (Operand.const (Value.int IntKind.i64 0)), some 9, none⟩, ⟨Op.assign (Operand.tmp 14), some 10, none⟩]) (LCode.seq (LCode.block 0 (LCode.loop (LCode.seq (LCode.seq (LCode.ops [⟨Op.move (Operand.tmp 9), some 15, none⟩, ⟨Op.move (Operand.tmp 10), some 16, none⟩, ⟨Op.binOp BinOp.lss 3 (Operand.tmp 15) (Operand.tmp 16) 3, some 17, none⟩]) (LCode.cond (Operand.tmp 17) LCode.skip (LCode.exit 0))) (LCode.block 1 (LCode.seq (LCode.ops [⟨Op.move (Operand.tmp 9), some 18, none⟩, ⟨Op.move (Operand.tmp 10), some 19, none⟩, ⟨Op.binOp BinOp.add 3 (Operand.tmp 18) (Operand.tmp 19) 3, some 20, none⟩, ⟨Op.convert 3 184 (Operand.tmp 20), some 21, none⟩, ⟨Op.binOp BinOp.shr 184 (Operand.tmp 21) (Operand.const (Value.int IntKind.u64 1)) 184, some 22, none⟩, ⟨Op.convert 184 3 (Operand.tmp 22), some 23, none⟩, ⟨Op.assign (Operand.tmp 23), some 11, none⟩]) (LCode.seq (LCode.ops [⟨Op.move (Operand.tmp 2), some 24, none⟩, ⟨Op.move (Operand.tmp 0), some 25, none⟩, ⟨Op.move (Operand.tmp 11), some 26, none⟩, ⟨Op.indexAddr 27 (Operand.tmp 25) (Operand.tmp 26), some 27, none⟩, ⟨Op.load 35 (Operand.tmp 27), some 28, none⟩, ⟨Op.move (Operand.tmp 1), some 29, none⟩, ⟨Op.call { callee := Callee.value (Operand.tmp 24), args := { toList := [Operand.tmp 28, Operand.tmp 29] }, argTypes := { toList := [35, 3] } }, some 30, none⟩, ⟨Op.binOp BinOp.lss 3 (Operand.tmp 30) (Operand.const (Value.int IntKind.i64 0)) 3, some 31, none⟩]) (LCode.cond (Operand.tmp 31) (LCode.ops [⟨Op.move (Operand.tmp 11), some 32, none⟩, ⟨Op.binOp BinOp.add 3 (Operand.tmp 32) (Operand.const (Value.int IntKind.i64 1)) 3, some 33, none⟩, ⟨Op.assign (Operand.tmp 33), some 9, none⟩]) (LCode.ops [⟨Op.move (Operand.tmp 11), some 34, none⟩, ⟨Op.assign (Operand.tmp 34), some 10, none⟩])))))))) (LCode.seq (LCode.ops [⟨Op.move (Operand.tmp 9), some 35, none⟩, ⟨Op.move (Operand.tmp 9), some 36, none⟩, ⟨Op.move (Operand.tmp 8), some 37, none⟩, ⟨Op.binOp BinOp.lss 3 (Operand.tmp 36) (Operand.tmp 37) 3, some 38, none⟩, ⟨Op.move (Operand.tmp 38), some 39, none⟩, ⟨Op.move (Operand.tmp 2), some 40, some (39, true)⟩, ⟨Op.move (Operand.tmp 0), some 41, some (39, true)⟩, ⟨Op.move (Operand.tmp 9), some 42, some (39, true)⟩, ⟨Op.indexAddr 27 (Operand.tmp 41) (Operand.tmp 42), some 43, some (39, true)⟩, ⟨Op.load 35 (Operand.tmp 43), some 44, some (39, true)⟩, ⟨Op.move (Operand.tmp 1), some 45, some (39, true)⟩, ⟨Op.call { callee := Callee.value (Operand.tmp 40), args := { toList := [Operand.tmp 44, Operand.tmp 45] }, argTypes := { toList := [35, 3] } }, some 46, some (39, true)⟩, ⟨Op.binOp BinOp.eql 3 (Operand.tmp 46) (Operand.const (Value.int IntKind.i64 0)) 3, some 47, some (39, true)⟩, ⟨Op.pick (Operand.tmp 39) (Operand.tmp 47) (Operand.const (Value.bool false)), some 48, none⟩, ⟨Op.assign (Operand.tmp 35), some 6, none⟩, ⟨Op.assign (Operand.tmp 48), some 7, none⟩]) LCode.ret))))
theorem l166 : Try.f166.body.map lighten = some L166 := by kernel_rfl
theorem rs166 : Try.f166.results.toList = [ResultVar.tmp 6, ResultVar.tmp 7] := by kernel_rfl
theorem nt166 : Try.f166.ntmps = 49 := by kernel_rfl
theorem gob166 {args : List AV} {s : AHeap} {R : AV → AHeap → Prop} (hl : args.length ≤ 49) (h : ∀ tm, tm.length = 49 → (∀ i, aev tm (.tmp i) = args.getD i aundef) → lvb Try.prog tab s L166 (lpostB tab s [ResultVar.tmp 6, ResultVar.tmp 7] R) tm (loc s 0 [])) : ACall Try.prog 166 args s R := ACall.goB tab_ok mixed Try.func166 l166 nm166 rs166 nt166 hl h
noncomputable def L167 : LCode := LCode.seq (LCode.ops [⟨Op.box 35 (Operand.tmp 0), some 2, none⟩, ⟨Op.assign (Operand.const (Value.int IntKind.i64 0)), some 4, none⟩]) (LCode.seq (LCode.ops [⟨Op.fieldAddr 35 (Operand.tmp 2) 0, some 5, none⟩, ⟨Op.load 3 (Operand.tmp 5), some 6, none⟩, ⟨Op.move (Operand.tmp 1), some 7, none⟩, ⟨Op.binOp BinOp.sub 3 (Operand.tmp 6) (Operand.tmp 7) 3, some 8, none⟩, ⟨Op.assign (Operand.tmp 8), some 4, none⟩]) LCode.ret)
theorem l167 : Try.f167.body.map lighten = some L167 := by kernel_rfl
theorem rs167 : Try.f167.results.toList = [ResultVar.tmp 4] := by kernel_rfl
theorem nt167 : Try.f167.ntmps = 9 := by kernel_rfl
theorem gob167 {args : List AV} {s : AHeap} {R : AV → AHeap → Prop} (hl : args.length ≤ 9) (h : ∀ tm, tm.length = 9 → (∀ i, aev tm (.tmp i) = args.getD i aundef) → lvb Try.prog tab s L167 (lpostB tab s [ResultVar.tmp 4] R) tm (loc s 0 [])) : ACall Try.prog 167 args s R := ACall.goB tab_ok mixed Try.func167 l167 nm167 rs167 nt167 hl h
noncomputable def L168 : LCode := LCode.seq (LCode.ops [⟨Op.box 35 (Operand.tmp 0), some 2, none⟩, ⟨Op.assign (Operand.const (Value.int IntKind.i64 0)), some 4, none⟩]) (LCode.seq (LCode.ops [⟨Op.fieldAddr 35 (Operand.tmp 2) 0, some 5, none⟩, ⟨Op.load 3 (Operand.tmp 5), some 6, none⟩, ⟨Op.move (Operand.tmp 1), some 7, none⟩, ⟨Op.binOp BinOp.sub 3 (Operand.tmp 6) (Operand.tmp 7) 3, some 8, none⟩, ⟨Op.assign (Operand.tmp 8), some 4, none⟩]) LCode.ret)
theorem l168 : Try.f168.body.map lighten = some L168 := by kernel_rfl
theorem rs168 : Try.f168.results.toList = [ResultVar.tmp 4] := by kernel_rfl
theorem nt168 : Try.f168.ntmps = 9 := by kernel_rfl
theorem gob168 {args : List AV} {s : AHeap} {R : AV → AHeap → Prop} (hl : args.length ≤ 9) (h : ∀ tm, tm.length = 9 → (∀ i, aev tm (.tmp i) = args.getD i aundef) → lvb Try.prog tab s L168 (lpostB tab s [ResultVar.tmp 4] R) tm (loc s 0 [])) : ACall Try.prog 168 args s R := ACall.goB tab_ok mixed Try.func168 l168 nm168 rs168 nt168 hl h
noncomputable def L169 : LCode := LCode.seq (LCode.ops [⟨Op.assign (Operand.const (Value.int IntKind.i64 0)), some 4, none⟩]) (LCode.seq (LCode.seq (LCode.ops [⟨Op.move (Operand.tmp 0), some 6, none⟩, ⟨Op.call { callee := Callee.builtin Builtin.len, args := { toList := [Operand.tmp 6] }, argTypes := { toList := [27] } }, some 7, none⟩, ⟨Op.move (Operand.const (Value.int IntKind.i64 0)), some 8, none⟩]) (LCode.block 0 (LCode.loop (LCode.seq (LCode.ops [⟨Op.binOp BinOp.lss 3 (Operand.tmp 8) (Operand.tmp 7) 3, some 9, none⟩]) (LCode.seq (LCode.cond (Operand.tmp 9) LCode.skip (LCode.exit 0)) (LCode.seq (LCode.block 1 (LCode.seq (LCode.ops [⟨Op.move (Operand.tmp 8), some 10, none⟩, ⟨Op.assign (Operand.tmp 10), some 5, none⟩]) (LCode.seq (LCode.ops [⟨Op.move (Operand.tmp 1), some 11, none⟩, ⟨Op.move (Operand.tmp 0), some 12, none⟩, ⟨Op.move (Operand.tmp 5), some 13, none⟩, ⟨Op.indexAddr 27 (Operand.tmp 12) (Operand.tmp 13), some 14, none⟩, ⟨Op.load 35 (Operand.tmp 14), some 15, none⟩, ⟨Op.call { callee := Callee.value (Operand.tmp 11), args := { toList := [Operand.tmp 15] }, argTypes := { toList := [35] } }, some 16, none⟩]) (LCode.cond (Operand.tmp 16) (LCode.seq (LCode.ops [⟨Op.move (Operand.tmp 5), some 17, none⟩, ⟨Op.assign (Operand.tmp 17), some 4, none⟩]) LCode.ret) LCode.skip)))) (LCode.ops [⟨Op.binOp BinOp.add 3 (Operand.tmp 8) (Operand.const (Value.int IntKind.i64 1)) 3, some 18, none⟩, ⟨Op.move (Operand.tmp 18), some 8, none⟩]))))))) (LCode.seq (LCode.ops [⟨Op.assign (Operand.const (Value.int IntKind.i64 (-1))), some 4, none⟩]) LCode.ret))
theorem l169 : Try.f169.body.map lighten = some L169 := by kernel_rfl
theorem rs169 : Try.f169.results.toList = [ResultVar.tmp 4] := by kernel_rfl
theorem nt169 : Try.f169.ntmps = 19 := by kernel_rfl
theorem gob169 {args : List AV} {s : AHeap} {R : AV → AHeap → Prop} (hl : args.length ≤ 19) (h : ∀ tm, tm.length = 19 → (∀ i, aev tm (.tmp i) = args.getD i aundef) → lvb Try.prog tab s L169 (lpostB tab s [ResultVar.tmp 4] R) tm (loc s 0 [])) : ACall Try.prog 169 args s R := ACall.goB tab_ok mixed Try.func169 l169 nm169 rs169 nt169 hl h
noncomputable def L173 : LCode := LCode.seq (LCode.ops [⟨Op.assign (Operand.const (Value.slice none 0 0)), some 4, none⟩]) (LCode.seq (LCode.seq (LCode.ops [⟨Op.move (Operand.tmp 1), some 5, none⟩, ⟨Op.binOp BinOp.lss 3 (Operand.tmp 5) (Operand.const (Value.int IntKind.i64 0)) 3, some 6, none⟩]) (LCode.cond (Operand.tmp 6) (LCode.ops [⟨Op.makeInterface 9 (Operand.const (Value.string { data := { toList := [99, 97, 110, 110, 111, 116, 32, 98, 101, 32, 110, 101, 103, 97, 116, 105, 118, 101] } })), some 7, none⟩, ⟨Op.panic (Operand.tmp 7), none, none⟩]) LCode.skip)) (LCode.seq (LCode.seq (LCode.ops [⟨Op.move (Operand.tmp 1), some 8, none⟩, ⟨Op.move (Operand.tmp 0), some 9, none⟩, ⟨Op.call { callee := Callee.builtin Builtin.cap, args := { toList := [Operand.tmp 9] }, argTypes := { toList := [27] } }, some 10, none⟩, ⟨Op.move (Operand.tmp 0), some 11, none⟩, ⟨Op.call { callee := Callee.builtin Builtin.len, args := { toList := [Operand.tmp 11] }, argTypes := { toList := [27] } }, some 12, none⟩, ⟨Op.binOp BinOp.sub 3 (Operand.tmp 10) (Operand.tmp 12) 3, some 13, none⟩, ⟨Op.binOp BinOp.sub 3 (Operand.tmp 8) (Operand.tmp 13) 3, some 14, none⟩, ⟨Op.assign (Operand.tmp 14), some 1, none⟩]) (LCode.seq (LCode.ops [⟨Op.move (Operand.tmp 1), some 15, none⟩, ⟨Op.binOp BinOp.gtr 3 (Operand.tmp 15) (Operand.const (Value.int IntKind.i64 0)) 3, some 16, none⟩]) (LCode.cond (Operand.tmp 16) (LCode.ops [⟨Op.move (Operand.tmp 0), some 17, none⟩, ⟨Op.move (Operand.tmp 0), some 18, none⟩, ⟨Op.call { callee := Callee.builtin Builtin.cap, args := { toList := [Operand.tmp 18] }, argTypes := { toList := [27] } }, some 19, none⟩, ⟨Op.slice 27 (Operand.tmp 17) none (some (Operand.tmp 19)) none, some 20, none⟩, ⟨Op.move (Operand.tmp 1), some 21, none⟩, ⟨Op.call { callee := Callee.builtin Builtin.append, args := { toList := [Operand.tmp 20, Operand.tmp 21] }, argTypes := { toList := [27, 3] } }, some 22, none⟩, ⟨Op.move (Operand.tmp 0), some 23, none⟩, ⟨Op.call { callee := Callee.builtin Builtin.len, args := { toList := [Operand.tmp 23] }, argTypes := { toList := [27] } }, some 24, none⟩, ⟨Op.slice 27 (Operand.tmp 22) none (some (Operand.tmp 24)) none, some 25, none⟩, ⟨Op.assign (Operand.tmp 25), some 0, none⟩]) LCode.skip))) (LCode.seq (LCode.ops [⟨Op.move (Operand.tmp 0), some 26, none⟩, ⟨Op.assign (Operand.tmp 26), some 4, none⟩]) LCode.ret)))
theorem l173 : Try.f173.body.map lighten = some L173 := by kernel_rfl
theorem rs173 : Try.f173.results.toList = [ResultVar.tmp 4] := by kernel_rfl
theorem nt173 : Try.f173.ntmps = 27 := by kernel_rfl
theorem gob173 {args : List AV} {s : AHeap} {R : AV → AHeap → Prop} (hl : args.length ≤ 27) (h : ∀ tm, tm.length = 27 → (∀ i, aev tm (.tmp i) = args.getD i aundef) → lvb Try.prog tab s L173 (lpostB tab s [ResultVar.tmp 4] R) tm (loc s 0 [])) : ACall Try.prog 173 args s R := ACall.goB tab_ok mixed Try.func173 l173 nm173 rs173 nt173 hl h
end Go.S1
end
section
set_option linter.unusedVariables false
set_option linter.unusedSimpArgs false
namespace Go.S1N
open Go Go.Am Go.Proofs Go.S1
set_option maxRecDepth 100000
set_option linter.unusedSimpArgs false
set_option linter.unusedVariables false
theorem ty164 : tab.ty 164 = some { td := .struct [(108, 0, true), (108, 1, true), (108, 2, true), (3, 3, true)], size := 4, bytes := 80, zero := .agg #[.slice none 0 0, .slice none 0 0, .slice none 0 0, .int .i64 0], eqok := false } := by kernel_rfl
theorem ty167 : tab.ty 167 = some { td := .slice 4, size := 1, bytes := 24, zero := .slice none 0 0, eqok := false } := by kernel_rfl
theorem ty184 : tab.ty 184 = some { td := .int .u64, size := 1, bytes := 8, zero := .int .u64 0, eqok := false } := by kernel_rfl
@[go_sem] theorem al164 {P : Program} {s0 : AHeap} {N : List AV → AHeap → Prop} {d : Option Nat} {tm : List AV} {s : AHeap} : lstepB P tab s0 N (.alloc 164) d tm s = N (aput tm d (.ptr s.nx 0)) (s.new (.cells [.nils, .nils, .nils, .int .i64 0] (some 164))) := by rw [lstepB_alloc, ty164]; rfl
@[go_sem] theorem al167 {P : Program} {s0 : AHeap} {N : List AV → AHeap → Prop} {d : Option Nat} {tm : List AV} {s : AHeap} : lstepB P tab s0 N (.alloc 167) d tm s = N (aput tm d (.ptr s.nx 0)) (s.new (.cells [.nils] (some 167))) := by rw [lstepB_alloc, ty167]; rfl
@[go_sem] theorem fa164_0p {b o : Nat} : afieldAddr tab 164 (.ptr b o) 0 = some (.ptr b (o + 0)) := by simp [afieldAddr, ty164, Tab.size, ty108]
@[go_sem] theorem fa164_1p {b o : Nat} : afieldAddr tab 164 (.ptr b o) 1 = some (.ptr b (o + 1)) := by simp [afieldAddr, ty164, Tab.size, ty108]
@[go_sem] theorem fa164_2p {b o : Nat} : afieldAddr tab 164 (.ptr b o) 2 = some (.ptr b (o + 2)) := by simp [afieldAddr, ty164, Tab.size, ty108]
@[go_sem] theorem fa164_3p {b o : Nat} : afieldAddr tab 164 (.ptr b o) 3 = some (.ptr b (o + 3)) := by simp [afieldAddr, ty164, Tab.size, ty3]
@[go_sem] theorem ld164 {x : AV} {s : AHeap} : aload tab 164 x s = (acellsAt s x).bind fun cs => if 4 ≤ cs.length then some (.agg (cs.take 4)) else none := by rw [aload_agg ty164 rfl]
@[go_sem] theorem st164 {b o : Nat} {v : AV} {s : AHeap} : astore tab 164 (.ptr b o) v s = astoreAt s b o 4 v := by rw [astore_ptr ty164]
@[go_sem] theorem ld167 {x : AV} {s : AHeap} : aload tab 167 x s = (acellsAt s x).bind fun cs => cs[0]? := by rw [aload_one ty167 rfl]
@[go_sem] theorem st167 {b o : Nat} {v : AV} {s : AHeap} : astore tab 167 (.ptr b o) v s = astoreAt s b o 1 v := by rw [astore_ptr ty167]
theorem ap167 {x y : AV} {s : AHeap} : lappend tab 167 167 x y s = aappend tab 4 s x y := by simp [lappend, ty167]
theorem app167 {s : AHeap} {n j len m : Nat} {l : List (Nat × Option AObj)} {y : AV} {c new : List AV} (hy : acellsOf (loc s n l) 1 y = some (new, m)) (hm : m ≠ 0) (hn : new.all AV.one = true) (hl : lget l j = gso 4 c) (hc : c.length = len * 1) (hb : (2 * (len + m) + 512) * 1 ≤ 281474976710656) {mm : Nat} (hmm : s.nx = mm) : lappend tab 167 167 (gsv 1 (nm mm j) len) y (loc s n l) = some (.rs 1 (nm mm n) 0 (len + m), loc s (n + 1) (lput (ldel l j) n (.cells (c ++ new) (some 4)))) := ap167.trans (aappend_gs ty4 (by decide) (by decide) hy hm hn hl hc hb hmm)
theorem ix167f {xs : List AV} {n : Int} {v : AV} (h0 : 0 ≤ n) (hv : xs[n.toNat]? = some v) (hr : v.israw = false) : aindexAddr tab 167 (fsv 1 xs) (.int .i64 n) = some (.rptr v.cells) := by
  rw [fsv_pos (by rintro rfl; simp at hv)]
  simp [aindexAddr, ty167, Tab.size, ty4, h0, hv, hr]
end Go.S1N
end
section
set_option linter.unusedVariables false
set_option linter.unusedSimpArgs false
namespace Go.S1N
open Go Go.Am Go.Proofs Go.S1
set_option maxRecDepth 100000
set_option linter.unusedSimpArgs false
attribute [local irreducible] lopsB lvb lstepB lfunG lcondB lguardB ldrawB ldrunB ldstepB ldguardB lmem lval ldmem ldval ldfun lexit ldloadB ldlenB lpostB athen ablock
def Ed.covers (e : Ed) (p : Int) : Prop := e.at_ ≤ p ∧ p < e.at_ + e.cut
instance (e : Ed) (p : Int) : Decidable (Ed.covers e p) := inferInstanceAs (Decidable (_ ∧ _))
def goneB (l : List Ed) (p : Int) : Bool := l.any fun e => decide (Ed.covers e p)
theorem covers_ok {s : AHeap} {b : Nat} {p : Int} (hb : s.get b = some (.cells [.int .i64 p] (some 3))) (hlt : b < s.nx) (e : Ed) (he : -1000000000000 ≤ e.at_ + e.cut ∧ e.at_ + e.cut ≤ 1000000000000) :
    ACall Try.prog 148 [e.enc, .ptr b 0] s fun r t => r = .bool (decide (Ed.covers e p)) ∧ t = s := by
  refine gob148 (by simp) ?_
  intro tm hlen harg
  have hw : IntKind.i64.wrap (e.at_ + e.cut) = e.at_ + e.cut := wrap_id (by omega)
  by_cases h : e.at_ ≤ p
  · simp +contextual only [go_sem, L148, hlen, harg, hb, hlt, hw, h, Ed.enc, lcondB_decide, lcondB_not, lguardB_decide_true, lguardB_decide_false, ldguardB_decide, Nat.reduceLT, Nat.reduceEqDiff, Nat.reduceAdd, Nat.reduceLeDiff, reduceIte, reduceCtorEq]
    refine lexit_pure (.refl s) (by simp only [low]) ⟨?_, rfl⟩
    simp [Ed.covers, h]
  · simp +contextual only [go_sem, L148, hlen, harg, hb, hlt, hw, h, Ed.enc, lcondB_decide, lcondB_not, lguardB_decide_true, lguardB_decide_false, ldguardB_decide, Nat.reduceLT, Nat.reduceEqDiff, Nat.reduceAdd, Nat.reduceLeDiff, reduceIte, reduceCtorEq]
    refine lexit_pure (.refl s) (by simp only [low]) ⟨?_, rfl⟩
    simp [Ed.covers, h]
theorem idxE_ok {s : AHeap} {b : Nat} {p : Int} (hb : s.get b = some (.cells [.int .i64 p] (some 3))) (hlt : b < s.nx) (v : AV) (l : List Ed) (hv : SlE v l) (hl : l.length ≤ 2000) (he : ∀ e ∈ l, -1000000000000 ≤ e.at_ + e.cut ∧ e.at_ + e.cut ≤ 1000000000000) :
    ACall Try.prog 169 [v, .func (.func 148) [] [.ptr b 0]] s fun r t => (∃ i : Int, r = .int .i64 i ∧ ((i = -1 ∧ goneB l p = false) ∨ (0 ≤ i ∧ goneB l p = true))) ∧ t = s := by
  refine gob169 (by simp) ?_
  intro tm hlen harg
  simp +contextual only [go_sem, L169, hlen, harg, hv.len, lcondB_decide, lcondB_not, lguardB_decide_true, lguardB_decide_false, ldguardB_decide, Nat.reduceLT, Nat.reduceEqDiff, Nat.reduceAdd, Nat.reduceLeDiff, reduceIte, reduceCtorEq]
  refine ⟨Nat, fun j => [(0, v), (1, .func (.func 148) [] [.ptr b 0]), (7, .int .i64 l.length), (8, .int .i64 j)], fun j => loc s 0 [], fun j => j ≤ l.length ∧ goneB (l.drop j) p = goneB l p, fun j => l.length - j, 0, by simp, ?_, ?_⟩
  · refine To.go [] [] rfl (.refl s) (by decide) (by simp) ?_ trivial
    simp +contextual only [go_sem, hlen, harg, pu_ren hv.pu, rnm_low hlt, lcondB_decide, lcondB_not, lguardB_decide_true, lguardB_decide_false, ldguardB_decide, Nat.reduceLT, Nat.reduceEqDiff, Nat.reduceAdd, Nat.reduceLeDiff, reduceIte, reduceCtorEq]
    simp
  · rintro j tm1 ⟨hj, hE⟩ hlen1 hlv
    simp only [go_sem, hlen, lcondB_decide, lcondB_not, lguardB_decide_true, lguardB_decide_false, ldguardB_decide, Nat.reduceLT, Nat.reduceEqDiff, Nat.reduceAdd, Nat.reduceLeDiff, reduceIte, reduceCtorEq] at hlen1 hlv
    simp +contextual only [go_sem, hlen, hlen1, hlv, lcondB_decide, lcondB_not, lguardB_decide_true, lguardB_decide_false, ldguardB_decide, Nat.reduceLT, Nat.reduceEqDiff, Nat.reduceAdd, Nat.reduceLeDiff, reduceIte, reduceCtorEq]
    refine ⟨fun hlt2 => ?_, fun hge => ?_⟩
    · have hj2 : j < l.length := by omega
      have hg := List.getElem?_eq_getElem hj2
      have hmem : l[j] ∈ l := List.getElem_mem hj2
      have hdrop := List.drop_eq_getElem_cons hj2
      generalize l[j] = e at hg hmem hdrop
      rw [hdrop, goneB, List.any_cons] at hE
      have hw3 : IntKind.i64.wrap ((j : Int) + 1) = ((j + 1 : Nat) : Int) := by rw [wrap_id (by omega)]; rfl
      simp +contextual only [go_sem, hlen1, hlv, hv.at hg, lcondB_decide, lcondB_not, lguardB_decide_true, lguardB_decide_false, ldguardB_decide, Nat.reduceLT, Nat.reduceEqDiff, Nat.reduceAdd, Nat.reduceLeDiff, reduceIte, reduceCtorEq]
      refine lfunG_eqc rfl (covers_ok (s := loc s 0 []) (p := p) (by rw [get_loc, if_pos hlt]; exact hb) (Nat.lt_of_lt_of_le hlt (Nat.le_refl _)) e (he e hmem)) ?_
      simp +contextual only [go_sem, hlen1, hlv, hw3, lcondB_decide, lcondB_not, lguardB_decide_true, lguardB_decide_false, ldguardB_decide, Nat.reduceLT, Nat.reduceEqDiff, Nat.reduceAdd, Nat.reduceLeDiff, reduceIte, reduceCtorEq]
      refine ⟨fun hc => ?_, fun hc => ?_⟩
      · refine lexit_pure (.refl s) (by simp only [low]) ⟨⟨j, rfl, .inr ⟨by omega, ?_⟩⟩, rfl⟩
        rw [← hE]; simp [hc]
      · refine ⟨j + 1, ⟨by omega, ?_⟩, by omega, ?_⟩
        · rw [← hE]; simp [hc, goneB]
        · refine To.go [] [] rfl (.refl s) (by decide) (by simp) ?_ trivial
          simp +contextual only [go_sem, hlen1, hlv, pu_ren hv.pu, rnm_low hlt, lcondB_decide, lcondB_not, lguardB_decide_true, lguardB_decide_false, ldguardB_decide, Nat.reduceLT, Nat.reduceEqDiff, Nat.reduceAdd, Nat.reduceLeDiff, reduceIte, reduceCtorEq]
    · have hj2 : j = l.length := by omega
      rw [hj2, List.drop_length] at hE
      refine lexit_pure (.refl s) (by simp only [low]) ⟨⟨-1, rfl, .inl ⟨rfl, by rw [← hE]; rfl⟩⟩, rfl⟩
theorem anyE_ok {s : AHeap} {b : Nat} {p : Int} (hb : s.get b = some (.cells [.int .i64 p] (some 3))) (hlt : b < s.nx) (v : AV) (l : List Ed) (hv : SlE v l) (hl : l.length ≤ 2000) (he : ∀ e ∈ l, -1000000000000 ≤ e.at_ + e.cut ∧ e.at_ + e.cut ≤ 1000000000000) :
    ACall Try.prog 147 [v, .func (.func 148) [] [.ptr b 0]] s fun r t => r = .bool (goneB l p) ∧ t = s := by
  refine gob147 (by simp) ?_
  intro tm hlen harg
  simp +contextual only [go_sem, L147, hlen, harg, lcondB_decide, lcondB_not, lguardB_decide_true, lguardB_decide_false, ldguardB_decide, Nat.reduceLT, Nat.reduceEqDiff, Nat.reduceAdd, Nat.reduceLeDiff, reduceIte, reduceCtorEq]
  refine lfunG_of (idxE_ok (s := loc s 0 []) (p := p) (by rw [get_loc, if_pos hlt]; exact hb) (Nat.lt_of_lt_of_le hlt (Nat.le_refl _)) v l hv hl he) ?_
  rintro _ _ ⟨⟨i, rfl, hi⟩, rfl⟩
  simp +contextual only [go_sem, hlen, harg, lcondB_decide, lcondB_not, lguardB_decide_true, lguardB_decide_false, ldguardB_decide, Nat.reduceLT, Nat.reduceEqDiff, Nat.reduceAdd, Nat.reduceLeDiff, reduceIte, reduceCtorEq]
  refine lexit_pure (.refl s) (by simp only [low]) ⟨?_, rfl⟩
  rcases hi with ⟨rfl, h⟩ | ⟨h0, h⟩
  · rw [h]; rfl
  · rw [h]; simp [h0]
theorem gone_ok (v : AV) (l : List Ed) (p : Int) (hv : SlE v l) (hl : l.length ≤ 2000) (he : ∀ e ∈ l, -1000000000000 ≤ e.at_ + e.cut ∧ e.at_ + e.cut ≤ 1000000000000) (s : AHeap) :
    ACall Try.prog 146 [v, .int .i64 p] s fun r t => r = .bool (goneB l p) ∧ t = s := by
  refine gob146 (by simp) ?_
  intro tm hlen harg
  simp +contextual only [go_sem, L146, hlen, harg, lcondB_decide, lcondB_not, lguardB_decide_true, lguardB_decide_false, ldguardB_decide, Nat.reduceLT, Nat.reduceEqDiff, Nat.reduceAdd, Nat.reduceLeDiff, reduceIte, reduceCtorEq]
  refine lfunG_eq (anyE_ok (p := p) (by simp only [go_sem, lcondB_decide, lcondB_not, lguardB_decide_true, lguardB_decide_false, ldguardB_decide, Nat.reduceLT, Nat.reduceEqDiff, Nat.reduceAdd, Nat.reduceLeDiff, reduceIte, reduceCtorEq]) (by simp only [go_sem, lcondB_decide, lcondB_not, lguardB_decide_true, lguardB_decide_false, ldguardB_decide, Nat.reduceLT, Nat.reduceEqDiff, Nat.reduceAdd, Nat.reduceLeDiff, reduceIte, reduceCtorEq]) v l hv hl he) ?_
  simp +contextual only [go_sem, hlen, harg, lcondB_decide, lcondB_not, lguardB_decide_true, lguardB_decide_false, ldguardB_decide, Nat.reduceLT, Nat.reduceEqDiff, Nat.reduceAdd, Nat.reduceLeDiff, reduceIte, reduceCtorEq]
  exact lexit_pure (.refl s) (by simp only [low]) ⟨rfl, rfl⟩
end Go.S1N
end
section
set_option linter.unusedVariables false
set_option linter.unusedSimpArgs false
namespace Go.S1N
open Go Go.Am Go.Proofs Go.S1
set_option maxRecDepth 100000
set_option linter.unusedSimpArgs false
attribute [local irreducible] lopsB lvb lstepB lfunG lcondB lguardB ldrawB ldrunB ldstepB ldguardB lmem lval ldmem ldval ldfun lexit ldloadB ldlenB lpostB athen ablock
structure RS (n : Int) (l : List Ed) : Prop where
  each : ∀ e ∈ l, 0 ≤ e.at_ ∧ 0 ≤ e.cut ∧ e.at_ + e.cut ≤ n
  pair : l.Pairwise fun x y => x.at_ + x.cut < y.at_
theorem scan_rs {n : Int} : ∀ {l : List Ed} {B : Int}, scan n B l = 0 → RS n l ∧ ∀ e ∈ l, B < e.at_
  | [], _, _ => ⟨⟨by simp, .nil⟩, by simp⟩
  | e :: l, B, h => by
    obtain ⟨c1, c2, c3, c4, c5, c6⟩ := scan_cons h
    obtain ⟨⟨g1, g2⟩, g3⟩ := scan_rs c6
    refine ⟨⟨?_, ?_⟩, ?_⟩
    · intro x hx
      rcases List.mem_cons.1 hx with rfl | hx
      · exact ⟨by omega, by omega, by omega⟩
      · exact g1 x hx
    · exact List.pairwise_cons.2 ⟨fun y hy => g3 y hy, g2⟩
    · intro x hx
      rcases List.mem_cons.1 hx with rfl | hx
      · omega
      · have := g3 x hx; omega
theorem RS.tail {n : Int} {e : Ed} {l : List Ed} (h : RS n (e :: l)) : RS n l := ⟨fun x hx => h.each x (List.mem_cons_of_mem e hx), (List.pairwise_cons.1 h.pair).2⟩
def cntLt (l : List Ed) (p : Int) : Nat := (l.filter fun e => decide (e.at_ < p)).length
def hasAt (l : List Ed) (p : Int) : Bool := l.any fun e => decide (e.at_ = p)
def insAt (l : List Ed) (p : Int) : List UInt8 := match l.find? fun e => decide (e.at_ = p) with
  | some e => e.new
  | none => []
theorem cnt_iff {n : Int} (p : Int) : ∀ {l : List Ed}, RS n l → ∀ {k : Nat} {e : Ed}, l[k]? = some e → (e.at_ < p ↔ k < cntLt l p)
  | [], _, k, e, h => by simp at h
  | x :: l, hr, k, e, h => by
    have hx := hr.each x (List.mem_cons_self ..)
    have hp := (List.pairwise_cons.1 hr.pair).1
    unfold cntLt
    rw [List.filter_cons]
    by_cases hlt : x.at_ < p
    · rw [if_pos (by simpa using hlt), List.length_cons]
      cases k with
      | zero => simp at h; subst h; exact ⟨fun _ => by omega, fun _ => hlt⟩
      | succ k =>
        have := cnt_iff p hr.tail (k := k) (e := e) (by simpa using h)
        unfold cntLt at this
        omega
    · have h0 : (l.filter fun e => decide (e.at_ < p)) = [] := by
        rw [List.filter_eq_nil_iff]
        intro y hy
        have := hp y hy
        simp only [decide_eq_true_eq]; omega
      rw [if_neg (by simpa using hlt), h0]
      have : ¬ e.at_ < p := by
        cases k with
        | zero => simp at h; subst h; exact hlt
        | succ k =>
          have := hp e (List.mem_of_getElem? (i := k) (by simpa using h))
          omega
      exact ⟨fun q => absurd q this, fun q => by simp at q⟩
theorem cnt_le (l : List Ed) (p : Int) : cntLt l p ≤ l.length := List.length_filter_le ..
theorem at_uniq {n : Int} {l : List Ed} (h : RS n l) {x y : Ed} (hx : x ∈ l) (hy : y ∈ l) (he : x.at_ = y.at_) : x = y := by
  obtain ⟨i, hi, rfl⟩ := List.mem_iff_getElem.1 hx
  obtain ⟨j, hj, rfl⟩ := List.mem_iff_getElem.1 hy
  rcases Nat.lt_trichotomy i j with q | q | q
  · have := List.pairwise_iff_getElem.1 h.pair i j hi hj q
    have := h.each _ (List.getElem_mem hi)
    omega
  · subst q; rfl
  · have := List.pairwise_iff_getElem.1 h.pair j i hj hi q
    have := h.each _ (List.getElem_mem hj)
    omega
theorem has_at {n : Int} {l : List Ed} (h : RS n l) (p : Int) : (hasAt l p = true → ∃ e, l[cntLt l p]? = some e ∧ e.at_ = p ∧ insAt l p = e.new) ∧ (hasAt l p = false → insAt l p = [] ∧ ∀ e, l[cntLt l p]? = some e → e.at_ ≠ p) := by
  constructor
  · intro hh
    obtain ⟨e, he, hp⟩ := List.any_eq_true.1 hh
    have hp : e.at_ = p := by simpa using hp
    obtain ⟨k, hk, rfl⟩ := List.mem_iff_getElem.1 he
    have hgk := List.getElem?_eq_getElem hk
    have h1 := cnt_iff p h hgk
    have hge : cntLt l p ≤ k := by
      rcases Nat.lt_or_ge k (cntLt l p) with q | q
      · have := h1.2 q; omega
      · exact q
    have hle : k ≤ cntLt l p := by
      rcases Nat.lt_or_ge (cntLt l p) k with q | q
      · have hc : cntLt l p < l.length := by omega
        have h2 := cnt_iff p h (List.getElem?_eq_getElem hc)
        have h3 := List.pairwise_iff_getElem.1 h.pair _ _ hc hk q
        have h4 := h.each _ (List.getElem_mem hc)
        have := h2.1 (by omega)
        omega
      · exact q
    obtain rfl : k = cntLt l p := by omega
    refine ⟨_, hgk, hp, ?_⟩
    unfold insAt
    cases hf : l.find? fun e => decide (e.at_ = p) with
    | none =>
      have := List.find?_eq_none.1 hf _ he
      simp [hp] at this
    | some e' =>
      have h5 := List.find?_some hf
      have h6 := List.mem_of_find?_eq_some hf
      rw [at_uniq h h6 he (by simp at h5; omega)]
  · intro hh
    have hall : ∀ e ∈ l, e.at_ ≠ p := by
      intro e he hp
      have := List.any_eq_false.1 hh e he
      simp [hp] at this
    refine ⟨?_, fun e he => hall e (List.mem_of_getElem? he)⟩
    unfold insAt
    rw [List.find?_eq_none.2 (fun e he => by simpa using hall e he)]
theorem cmpA_ok (e : Ed) (p : Int) (he : -1000000000000 ≤ e.at_ ∧ e.at_ ≤ 1000000000000) (hp : -1000000000000 ≤ p ∧ p ≤ 1000000000000) (s : AHeap) : ACall Try.prog 167 [e.enc, .int .i64 p] s fun r t => r = .int .i64 (e.at_ - p) ∧ t = s := by
  refine gob167 (by simp) ?_
  intro tm hlen harg
  have hw : IntKind.i64.wrap (e.at_ - p) = e.at_ - p := wrap_id (by omega)
  simp +contextual only [go_sem, L167, hlen, harg, hw, Ed.enc, lcondB_decide, lcondB_not, lguardB_decide_true, lguardB_decide_false, ldguardB_decide, Nat.reduceLT, Nat.reduceEqDiff, Nat.reduceAdd, Nat.reduceLeDiff, reduceIte, reduceCtorEq]
  exact lexit_pure (.refl s) (by simp only [low]) ⟨rfl, rfl⟩
theorem cmpK_ok (e : Ed) (p : Int) (he : -1000000000000 ≤ e.at_ ∧ e.at_ ≤ 1000000000000) (hp : -1000000000000 ≤ p ∧ p ≤ 1000000000000) (s : AHeap) : ACall Try.prog 168 [e.enc, .int .i64 p] s fun r t => r = .int .i64 (e.at_ - p) ∧ t = s := by
  refine gob168 (by simp) ?_
  intro tm hlen harg
  have hw : IntKind.i64.wrap (e.at_ - p) = e.at_ - p := wrap_id (by omega)
  simp +contextual only [go_sem, L168, hlen, harg, hw, Ed.enc, lcondB_decide, lcondB_not, lguardB_decide_true, lguardB_decide_false, ldguardB_decide, Nat.reduceLT, Nat.reduceEqDiff, Nat.reduceAdd, Nat.reduceLeDiff, reduceIte, reduceCtorEq]
  exact lexit_pure (.refl s) (by simp only [low]) ⟨rfl, rfl⟩
theorem cv_up {ev : Operand → AV} {x : Operand} {n : Nat} {s : AHeap} (hx : ev x = .int .i64 n) (hn : n < 9223372036854775808) : lop tab ev (.convert 3 184 x) s = some (.int .u64 n, s) := by
  have : IntKind.u64.wrap (n : Int) = n := by unfold IntKind.wrap; simp [IntKind.bits, IntKind.signed]; omega
  simp [lop, aop, apure, aconv, ty3, ty184, hx, this]
theorem cv_dn {ev : Operand → AV} {x : Operand} {n : Nat} {s : AHeap} (hx : ev x = .int .u64 n) (hn : n < 9223372036854775808) : lop tab ev (.convert 184 3 x) s = some (.int .i64 n, s) := by
  have : IntKind.i64.wrap (n : Int) = n := wrap_id (by omega)
  simp [lop, aop, apure, aconv, ty3, ty184, hx, this]
theorem shr1 {n : Nat} : abin tab .shr 184 (.int .u64 n) (.int .u64 1) = some (.int .u64 ((n / 2 : Nat) : Int)) := by
  simp [abin, ashift, IntKind.bits]
  exact Int.fdiv_eq_ediv_of_nonneg _ (by omega)
theorem bs_ok (n : Int) (hn : n ≤ 1000000) (v : AV) (l : List Ed) (p : Int) (hv : SlE v l) (hl : l.length ≤ 2000) (h : RS n l) (f : FuncId) (hf : ∀ (e : Ed) (s : AHeap), (-1000000000000 ≤ e.at_ ∧ e.at_ ≤ 1000000000000) → ACall Try.prog f [e.enc, .int .i64 p] s fun r t => r = .int .i64 (e.at_ - p) ∧ t = s) (s : AHeap) :
    ACall Try.prog 166 [v, .int .i64 p, .func (.func f) [] []] s fun r t => r = .tuple [.int .i64 (cntLt l p), .bool (hasAt l p)] ∧ t = s := by
  refine gob166 (by simp) ?_
  intro tm hlen harg
  have hcl := cnt_le l p
  simp +contextual only [go_sem, L166, hlen, harg, hv.len, lcondB_decide, lcondB_not, lguardB_decide_true, lguardB_decide_false, ldguardB_decide, Nat.reduceLT, Nat.reduceEqDiff, Nat.reduceAdd, Nat.reduceLeDiff, reduceIte, reduceCtorEq]
  refine ⟨Nat × Nat, fun x => [(0, v), (1, .int .i64 p), (2, .func (.func f) [] []), (8, .int .i64 l.length), (9, .int .i64 x.1), (10, .int .i64 x.2)], fun _ => loc s 0 [], fun x => x.1 ≤ cntLt l p ∧ cntLt l p ≤ x.2 ∧ x.2 ≤ l.length, fun x => x.2 - x.1, (0, l.length), ⟨Nat.zero_le _, hcl, Nat.le_refl _⟩, ?_, ?_⟩
  · refine To.go [] [] rfl (.refl s) (by decide) (by simp) ?_ trivial
    simp +contextual only [go_sem, hlen, harg, pu_ren hv.pu, lcondB_decide, lcondB_not, lguardB_decide_true, lguardB_decide_false, ldguardB_decide, Nat.reduceLT, Nat.reduceEqDiff, Nat.reduceAdd, Nat.reduceLeDiff, reduceIte, reduceCtorEq]
    simp
  · rintro ⟨i, j⟩ tm1 ⟨hi, hj, hjl⟩ hlen1 hlv
    simp only [go_sem, hlen, lcondB_decide, lcondB_not, lguardB_decide_true, lguardB_decide_false, ldguardB_decide, Nat.reduceLT, Nat.reduceEqDiff, Nat.reduceAdd, Nat.reduceLeDiff, reduceIte, reduceCtorEq] at hlen1 hlv hi hj hjl
    simp +contextual only [go_sem, hlen, hlen1, hlv, lcondB_decide, lcondB_not, lguardB_decide_true, lguardB_decide_false, ldguardB_decide, Nat.reduceLT, Nat.reduceEqDiff, Nat.reduceAdd, Nat.reduceLeDiff, reduceIte, reduceCtorEq]
    refine ⟨fun hlt => ?_, fun hge => ?_⟩
    · have hw1 : IntKind.i64.wrap ((i : Int) + (j : Int)) = ((i + j : Nat) : Int) := by rw [wrap_id (by omega)]; omega
      have hm : (i + j) / 2 < l.length := by omega
      have hgm := List.getElem?_eq_getElem hm
      have hci := cnt_iff p h hgm
      have hea := h.each _ (List.getElem_mem hm)
      generalize l[(i + j) / 2] = e at hgm hci hea
      have hw2 : IntKind.i64.wrap ((((i + j) / 2 : Nat) : Int) + 1) = (((i + j) / 2 + 1 : Nat) : Int) := by rw [wrap_id (by omega)]; rfl
      simp +contextual only [go_sem, hlen1, hlv, hw1, lcondB_decide, lcondB_not, lguardB_decide_true, lguardB_decide_false, ldguardB_decide, Nat.reduceLT, Nat.reduceEqDiff, Nat.reduceAdd, Nat.reduceLeDiff, reduceIte, reduceCtorEq]
      rw [lstepB_convert]
      refine lmem_eq (cv_up (n := i + j) (by simp only [go_sem, hlen1, lcondB_decide, lcondB_not, lguardB_decide_true, lguardB_decide_false, ldguardB_decide, Nat.reduceLT, Nat.reduceEqDiff, Nat.reduceAdd, Nat.reduceLeDiff, reduceIte, reduceCtorEq]) (by omega)) ?_
      simp +contextual only [go_sem, hlen1, hlv, shr1, lcondB_decide, lcondB_not, lguardB_decide_true, lguardB_decide_false, ldguardB_decide, Nat.reduceLT, Nat.reduceEqDiff, Nat.reduceAdd, Nat.reduceLeDiff, reduceIte, reduceCtorEq]
      rw [lstepB_convert]
      refine lmem_eq (cv_dn (n := (i + j) / 2) (by simp only [go_sem, hlen1, lcondB_decide, lcondB_not, lguardB_decide_true, lguardB_decide_false, ldguardB_decide, Nat.reduceLT, Nat.reduceEqDiff, Nat.reduceAdd, Nat.reduceLeDiff, reduceIte, reduceCtorEq]) (by omega)) ?_
      simp +contextual only [go_sem, hlen1, hlv, hv.at hgm, lcondB_decide, lcondB_not, lguardB_decide_true, lguardB_decide_false, ldguardB_decide, Nat.reduceLT, Nat.reduceEqDiff, Nat.reduceAdd, Nat.reduceLeDiff, reduceIte, reduceCtorEq]
      refine lfunG_eq (hf e _ (by omega)) ?_
      simp +contextual only [go_sem, hlen1, hlv, hw2, lcondB_decide, lcondB_not, lguardB_decide_true, lguardB_decide_false, ldguardB_decide, Nat.reduceLT, Nat.reduceEqDiff, Nat.reduceAdd, Nat.reduceLeDiff, reduceIte, reduceCtorEq]
      refine ⟨fun hc => ?_, fun hc => ?_⟩
      · refine ⟨((i + j) / 2 + 1, j), ⟨by have := hci.1 (by omega); simp only; omega, hj, hjl⟩, by simp only; omega, ?_⟩
        refine To.go [] [] rfl (.refl s) (by decide) (by simp) ?_ trivial
        simp +contextual only [go_sem, hlen1, hlv, pu_ren hv.pu, lcondB_decide, lcondB_not, lguardB_decide_true, lguardB_decide_false, ldguardB_decide, Nat.reduceLT, Nat.reduceEqDiff, Nat.reduceAdd, Nat.reduceLeDiff, reduceIte, reduceCtorEq]
      · have hge2 : cntLt l p ≤ (i + j) / 2 := by
          rcases Nat.lt_or_ge ((i + j) / 2) (cntLt l p) with q | q
          · have := hci.2 q; omega
          · exact q
        refine ⟨(i, (i + j) / 2), ⟨hi, hge2, by simp only; omega⟩, by simp only; omega, ?_⟩
        refine To.go [] [] rfl (.refl s) (by decide) (by simp) ?_ trivial
        simp +contextual only [go_sem, hlen1, hlv, pu_ren hv.pu, lcondB_decide, lcondB_not, lguardB_decide_true, lguardB_decide_false, ldguardB_decide, Nat.reduceLT, Nat.reduceEqDiff, Nat.reduceAdd, Nat.reduceLeDiff, reduceIte, reduceCtorEq]
    · have hij : i = cntLt l p := by omega
      obtain ⟨ha1, ha2⟩ := has_at h p
      by_cases hc : cntLt l p < l.length
      · have hgm := List.getElem?_eq_getElem hc
        have hea := h.each _ (List.getElem_mem hc)
        generalize l[cntLt l p] = e at hgm hea
        subst hij
        have hci : ((cntLt l p : Nat) : Int) < (l.length : Int) := by omega
        simp +contextual only [go_sem, hlen1, hlv, hci, hv.at hgm, lcondB_decide, lcondB_not, lguardB_decide_true, lguardB_decide_false, ldguardB_decide, Nat.reduceLT, Nat.reduceEqDiff, Nat.reduceAdd, Nat.reduceLeDiff, reduceIte, reduceCtorEq]
        refine ⟨fun _ => ?_, fun q => q.elim⟩
        refine lfunG_eq (hf e _ (by omega)) ?_
        simp +contextual only [go_sem, hlen1, hlv, lcondB_decide, lcondB_not, lguardB_decide_true, lguardB_decide_false, ldguardB_decide, Nat.reduceLT, Nat.reduceEqDiff, Nat.reduceAdd, Nat.reduceLeDiff, reduceIte, reduceCtorEq]
        refine lexit_pure (.refl s) (by simp only [low, lowL, and_self]) ⟨?_, rfl⟩
        congr 3
        cases hh : hasAt l p with
        | true =>
          obtain ⟨e', q1, q2, _⟩ := ha1 hh
          rw [hgm] at q1; cases q1
          simp; omega
        | false =>
          have := (ha2 hh).2 e hgm
          simp; omega
      · subst hij
        have hci : ¬ ((cntLt l p : Nat) : Int) < (l.length : Int) := by omega
        simp +contextual only [go_sem, hlen1, hlv, hci, lcondB_decide, lcondB_not, lguardB_decide_true, lguardB_decide_false, ldguardB_decide, Nat.reduceLT, Nat.reduceEqDiff, Nat.reduceAdd, Nat.reduceLeDiff, reduceIte, reduceCtorEq]
        refine ⟨fun q => q.elim, fun _ => ?_⟩
        refine lexit_pure (.refl s) (by simp only [low, lowL, and_self]) ⟨?_, rfl⟩
        congr 3
        cases hh : hasAt l p with
        | true =>
          obtain ⟨e', q1, q2, _⟩ := ha1 hh
          rw [List.getElem?_eq_none (by omega)] at q1; cases q1
        | false => rfl
theorem at_ok (n : Int) (hn : n ≤ 1000000) (v : AV) (l : List Ed) (p : Int) (hv : SlE v l) (hl : l.length ≤ 2000) (h : RS n l) (hp : 0 ≤ p ∧ p ≤ 1000000) (s : AHeap) :
    ACall Try.prog 142 [v, .int .i64 p] s fun r t => r = .tuple [.str (insAt l p), .bool (hasAt l p)] ∧ t = s := by
  refine gob142 (by simp) ?_
  intro tm hlen harg
  obtain ⟨ha1, ha2⟩ := has_at h p
  simp +contextual only [go_sem, L142, hlen, harg, lcondB_decide, lcondB_not, lguardB_decide_true, lguardB_decide_false, ldguardB_decide, Nat.reduceLT, Nat.reduceEqDiff, Nat.reduceAdd, Nat.reduceLeDiff, reduceIte, reduceCtorEq]
  refine lfunG_eq (bs_ok n hn v l p hv hl h 167 (fun e s he => cmpA_ok e p he (by omega) s) _) ?_
  cases hh : hasAt l p with
  | true =>
    obtain ⟨e', q1, q2, q3⟩ := ha1 hh
    simp +contextual only [go_sem, hlen, harg, hv.at q1, lcondB_decide, lcondB_not, lguardB_decide_true, lguardB_decide_false, ldguardB_decide, Nat.reduceLT, Nat.reduceEqDiff, Nat.reduceAdd, Nat.reduceLeDiff, reduceIte, reduceCtorEq]
    refine lexit_pure (.refl s) (by simp only [low, lowL, and_self]) ⟨by rw [q3], rfl⟩
  | false =>
    simp +contextual only [go_sem, hlen, harg, lcondB_decide, lcondB_not, lguardB_decide_true, lguardB_decide_false, ldguardB_decide, Nat.reduceLT, Nat.reduceEqDiff, Nat.reduceAdd, Nat.reduceLeDiff, reduceIte, reduceCtorEq]
    refine lexit_pure (.refl s) (by simp only [low, lowL, and_self]) ⟨by rw [(ha2 hh).1], rfl⟩
theorem gone_eq {n : Int} {l : List Ed} (h : RS n l) (p : Int) : (hasAt l p = true → ∃ e, l[cntLt l p]? = some e ∧ (goneB l p = true ↔ 0 < e.cut ∧ e.at_ = p)) ∧
    (hasAt l p = false → (cntLt l p = 0 ∧ goneB l p = false) ∨ ∃ e, 0 < cntLt l p ∧ l[cntLt l p - 1]? = some e ∧ e.at_ < p ∧ (goneB l p = true ↔ p < e.at_ + e.cut)) := by
  have hcl := cnt_le l p
  have key : ∀ k (hk : k < l.length), Ed.covers l[k] p → ∀ j, (hj : j < l.length) → k < j → p < l[j].at_ := by
    intro k hk hc j hj hkj
    have := List.pairwise_iff_getElem.1 h.pair k j hk hj hkj
    have := hc.2
    omega
  have mem : goneB l p = true ↔ ∃ k, ∃ hk : k < l.length, Ed.covers l[k] p := by
    unfold goneB
    rw [List.any_eq_true]
    constructor
    · rintro ⟨e, he, hc⟩
      obtain ⟨k, hk, rfl⟩ := List.mem_iff_getElem.1 he
      exact ⟨k, hk, by simpa using hc⟩
    · rintro ⟨k, hk, hc⟩
      exact ⟨_, List.getElem_mem hk, by simpa using hc⟩
  obtain ⟨ha1, ha2⟩ := has_at h p
  constructor
  · intro hh
    obtain ⟨e, q1, q2, _⟩ := ha1 hh
    have hc : cntLt l p < l.length := by
      rcases Nat.lt_or_ge (cntLt l p) l.length with q | q
      · exact q
      · rw [List.getElem?_eq_none q] at q1; cases q1
    rw [List.getElem?_eq_getElem hc] at q1
    cases q1
    refine ⟨_, List.getElem?_eq_getElem hc, ?_⟩
    rw [mem]
    constructor
    · rintro ⟨k, hk, hcv⟩
      have h1 := cnt_iff p h (List.getElem?_eq_getElem hk)
      rcases Nat.lt_trichotomy k (cntLt l p) with q | q | q
      · have := key k hk hcv _ hc q; omega
      · subst q; have := hcv.2; exact ⟨by omega, q2⟩
      · have h3 := List.pairwise_iff_getElem.1 h.pair _ _ hc hk q
        have h4 := h.each _ (List.getElem_mem hc)
        have := hcv.1
        omega
    · rintro ⟨h1, h2⟩
      exact ⟨_, hc, by omega, by omega⟩
  · intro hh
    have hno := (ha2 hh).2
    rcases Nat.eq_zero_or_pos (cntLt l p) with h0 | h0
    · left
      refine ⟨h0, ?_⟩
      cases hg : goneB l p with
      | false => rfl
      | true =>
        obtain ⟨k, hk, hcv⟩ := mem.1 hg
        have h1 := cnt_iff p h (List.getElem?_eq_getElem hk)
        rcases Nat.eq_zero_or_pos k with q | q
        · subst q
          have := hno _ (by rw [h0]; exact List.getElem?_eq_getElem hk)
          have := hcv.1
          have := h1.1 (by omega)
          omega
        · have hc0 : 0 < l.length := by omega
          have := cnt_iff p h (List.getElem?_eq_getElem hc0)
          have h3 := List.pairwise_iff_getElem.1 h.pair _ _ hc0 hk q
          have h4 := h.each _ (List.getElem_mem hc0)
          have := hcv.1
          omega
    · right
      have hc : cntLt l p - 1 < l.length := by omega
      have h1 := (cnt_iff p h (List.getElem?_eq_getElem hc)).2 (by omega)
      refine ⟨_, h0, List.getElem?_eq_getElem hc, h1, ?_⟩
      rw [mem]
      constructor
      · rintro ⟨k, hk, hcv⟩
        have h2 := cnt_iff p h (List.getElem?_eq_getElem hk)
        rcases Nat.lt_trichotomy k (cntLt l p - 1) with q | q | q
        · have := key k hk hcv _ hc q; omega
        · subst q; exact hcv.2
        · have := hcv.1
          have hnl : ¬ l[k].at_ < p := fun w => by have := h2.1 w; omega
          have heq : l[k].at_ = p := by omega
          exfalso
          have hk2 : cntLt l p ≤ k := by omega
          rcases Nat.lt_or_ge (cntLt l p) k with w | w
          · have hcc : cntLt l p < l.length := by omega
            have h3 := List.pairwise_iff_getElem.1 h.pair _ _ hcc hk w
            have h4 := h.each _ (List.getElem_mem hcc)
            have := (cnt_iff p h (List.getElem?_eq_getElem hcc)).1 (by omega)
            omega
          · obtain rfl : k = cntLt l p := by omega
            exact hno _ (List.getElem?_eq_getElem hk) heq
      · intro hlt
        exact ⟨_, hc, by omega, hlt⟩
theorem keeps_ok (n : Int) (hn : n ≤ 1000000) (v : AV) (l : List Ed) (p : Int) (hv : SlE v l) (hl : l.length ≤ 2000) (h : RS n l) (hp : 0 ≤ p ∧ p ≤ 1000000) (s : AHeap) :
    ACall Try.prog 143 [v, .int .i64 p] s fun r t => r = .bool (!goneB l p) ∧ t = s := by
  refine gob143 (by simp) ?_
  intro tm hlen harg
  obtain ⟨ha1, ha2⟩ := gone_eq h p
  have hcl := cnt_le l p
  simp +contextual only [go_sem, L143, hlen, harg, lcondB_decide, lcondB_not, lguardB_decide_true, lguardB_decide_false, ldguardB_decide, Nat.reduceLT, Nat.reduceEqDiff, Nat.reduceAdd, Nat.reduceLeDiff, reduceIte, reduceCtorEq]
  refine lfunG_eq (bs_ok n hn v l p hv hl h 168 (fun e s he => cmpK_ok e p he (by omega) s) _) ?_
  cases hh : hasAt l p with
  | true =>
    obtain ⟨e, q1, q2⟩ := ha1 hh
    have hea := h.each e (List.mem_of_getElem? q1)
    have hw : IntKind.i64.wrap (e.at_ + e.cut) = e.at_ + e.cut := wrap_id (by omega)
    have hng : ¬ ((cntLt l p : Nat) : Int) < 0 := by omega
    simp +contextual only [go_sem, hlen, harg, lcondB_decide, lcondB_not, lguardB_decide_true, lguardB_decide_false, ldguardB_decide, Nat.reduceLT, Nat.reduceEqDiff, Nat.reduceAdd, Nat.reduceLeDiff, reduceIte, reduceCtorEq]
    refine ldrawB_go [] [] 15 (by decide) ?_
    simp +contextual only [go_sem, hlen, harg, hv.at q1, hw, hng, lcondB_decide, lcondB_not, lguardB_decide_true, lguardB_decide_false, ldguardB_decide, Nat.reduceLT, Nat.reduceEqDiff, Nat.reduceAdd, Nat.reduceLeDiff, reduceIte, reduceCtorEq]
    obtain ⟨e', r1, r2, _⟩ := (has_at h p).1 hh
    rw [q1] at r1; cases r1
    refine ⟨by kernel_rfl, lexit_pure (.refl s) (by simp only [low]) ⟨?_, rfl⟩⟩
    cases hg : goneB l p with
    | true => have := q2.1 hg; simp; omega
    | false =>
      have : ¬ (0 < e.cut ∧ e.at_ = p) := fun q => by rw [q2.2 q] at hg; cases hg
      simp; omega
  | false =>
    rcases ha2 hh with ⟨h0, hg⟩ | ⟨e, h0, q1, q2, q3⟩
    · have hw : IntKind.i64.wrap ((0 : Nat) - 1 : Int) = -1 := wrap_id (by omega)
      have hneg : (-1 : Int) < 0 := by omega
      rw [h0]
      simp +contextual only [go_sem, hlen, harg, lcondB_decide, lcondB_not, lguardB_decide_true, lguardB_decide_false, ldguardB_decide, Nat.reduceLT, Nat.reduceEqDiff, Nat.reduceAdd, Nat.reduceLeDiff, reduceIte, reduceCtorEq]
      refine ldrawB_go [] [] 15 (by decide) ?_
      simp +contextual only [go_sem, hlen, harg, hw, hneg, lcondB_decide, lcondB_not, lguardB_decide_true, lguardB_decide_false, ldguardB_decide, Nat.reduceLT, Nat.reduceEqDiff, Nat.reduceAdd, Nat.reduceLeDiff, reduceIte, reduceCtorEq]
      exact ⟨by kernel_rfl, lexit_pure (.refl s) (by simp only [low]) ⟨by rw [hg]; rfl, rfl⟩⟩
    · have hw1 : IntKind.i64.wrap (((cntLt l p : Nat) : Int) - 1) = ((cntLt l p - 1 : Nat) : Int) := by rw [wrap_id (by omega)]; omega
      have hea := h.each e (List.mem_of_getElem? q1)
      have hw : IntKind.i64.wrap (e.at_ + e.cut) = e.at_ + e.cut := wrap_id (by omega)
      have hng : ¬ ((cntLt l p - 1 : Nat) : Int) < 0 := by omega
      simp +contextual only [go_sem, hlen, harg, hw1, lcondB_decide, lcondB_not, lguardB_decide_true, lguardB_decide_false, ldguardB_decide, Nat.reduceLT, Nat.reduceEqDiff, Nat.reduceAdd, Nat.reduceLeDiff, reduceIte, reduceCtorEq]
      refine ldrawB_go [] [] 15 (by decide) ?_
      simp +contextual only [go_sem, hlen, harg, hv.at q1, hw, hng, lcondB_decide, lcondB_not, lguardB_decide_true, lguardB_decide_false, ldguardB_decide, Nat.reduceLT, Nat.reduceEqDiff, Nat.reduceAdd, Nat.reduceLeDiff, reduceIte, reduceCtorEq]
      refine ⟨by kernel_rfl, lexit_pure (.refl s) (by simp only [low]) ⟨?_, rfl⟩⟩
      cases hg : goneB l p with
      | true => have := q3.1 hg; simp; omega
      | false =>
        have : ¬ (p < e.at_ + e.cut) := fun q => by rw [q3.2 q] at hg; cases hg
        simp; omega
end Go.S1N
end
section
set_option linter.unusedVariables false
set_option linter.unusedSimpArgs false
namespace Go.S1N
open Go Go.Am Go.Proofs Go.S1
set_option maxRecDepth 100000
set_option linter.unusedSimpArgs false
end Go.S1N
end
section
set_option linter.unusedVariables false
set_option linter.unusedSimpArgs false
namespace Go.S1N
open Go Go.Am Go.Proofs Go.S1
set_option maxRecDepth 100000
set_option linter.unusedSimpArgs false
theorem faultOf_long {n : Int} {l : List Ed} (h : faultOf n l = 0) : longOf n l ≤ 20000 := by
  rw [faultOf] at h
  split at h
  · cases h
  · split at h
    · cases h
    · split at h
      · rename_i h3; exact absurd h h3
      · split at h
        · cases h
        · omega
theorem flow_short {n : Nat} {l : List Ed} (h : faultOf n l = 0) (hnew : ∀ e ∈ l, e.new.length ≤ 100000) : (flowFrom n 0 l).length ≤ 20000 ∧ longOf n l = (flowFrom n 0 l).length := by
  obtain ⟨h0, h1, h2, hs⟩ := faultOf_zero h
  have q1 := flow_dl n l 0 (-1) (.inr ⟨rfl, rfl⟩) (by omega) hs
  have q2 := long_dl l n (fun e he => ⟨hnew e he, by have := scan_range l _ hs e he; omega⟩) (by omega) (by omega)
  have q3 := faultOf_long h
  omega
end Go.S1N
end
section
set_option linter.unusedVariables false
set_option linter.unusedSimpArgs false
namespace Go.S1N
open Go Go.Am Go.Proofs Go.S1
set_option maxRecDepth 100000
set_option linter.unusedSimpArgs false
attribute [local irreducible] lopsB lvb lstepB lfunG lcondB lguardB ldrawB ldrunB ldstepB ldguardB lmem lval ldmem ldval ldfun lexit ldloadB ldlenB lpostB athen ablock
def edsv (l : List (List Ed)) : AV := fsv 1 (l.map edv)
theorem edsv_len (l : List (List Ed)) : alen tab 60 (edsv l) = some (.int .i64 l.length) := by rw [edsv, len60f, List.length_map]
theorem edsv_at {l : List (List Ed)} {j : Nat} {c : List Ed} (h : l[j]? = some c) : aindexAddr tab 60 (edsv l) (.int .i64 j) = some (.rptr [edv c]) := by
  have hc : (edv c).cells = [edv c] := by rcases edv_sl c with ⟨f, h⟩ | ⟨h, _⟩ <;> rw [h] <;> rfl
  have hr : (edv c).israw = false := by rcases edv_sl c with ⟨f, h⟩ | ⟨h, _⟩ <;> rw [h] <;> rfl
  have := ix60f (xs := l.map edv) (n := j) (v := edv c) (by omega) (by rw [List.getElem?_map, Int.toNat_natCast, h]; rfl) hr
  rw [hc] at this
  exact this
theorem edsv_pu (l : List (List Ed)) : Pu (edsv l) := pu_fsv (by
  simp only [PuL, lowL_iff]
  intro x hx
  obtain ⟨c, _, rfl⟩ := List.mem_map.1 hx
  exact edv_pu c)
structure IsEds (v : AV) (l : List (List Ed)) : Prop where
  len : alen tab 60 v = some (.int .i64 l.length)
  at_ : ∀ {j : Nat} {c : List Ed}, l[j]? = some c → aindexAddr tab 60 v (.int .i64 j) = some (.rptr [edv c])
  pu : Pu v
theorem edsv_is (l : List (List Ed)) : IsEds (edsv l) l := ⟨edsv_len l, edsv_at, edsv_pu l⟩
theorem eds_is (l : List (List Ed)) : IsEds (.vs 1 false (l.map edv)) l := by
  by_cases h : l = []
  · subst h
    refine ⟨by rw [List.map_nil, len60v]; rfl, fun h => by simp at h, by simp only [List.map_nil, Pu, low, lowL]⟩
  · have : (.vs 1 false (l.map edv) : AV) = edsv l := by rw [edsv, fsv_pos (by simpa using h)]
    rw [this]; exact edsv_is l
theorem ld27r {c : List Ed} {s : AHeap} : aload tab 27 (.rptr [edv c]) s = some (edv c) := by rw [ld27]; rfl
end Go.S1N
end
section
set_option linter.unusedVariables false
set_option linter.unusedSimpArgs false
namespace Go.S1N
open Go Go.Am Go.Proofs Go.S1
set_option maxRecDepth 100000
set_option linter.unusedSimpArgs false
theorem lexit_trim {s0 s1 : AHeap} {n : Nat} {l : List (Nat × Option AObj)} {v : AV} {R : AV → AHeap → Prop} (k : Nat) (c c' : List AV) {T : Option TypeId} (hk : lget l k = some (.cells (c ++ c') T))
    (h : lexit s0 R (some v) (loc s1 n (lput l k (.cells c T)))) : lexit s0 R (some v) (loc s1 n l) := Gh.trim k c c' hk h
attribute [local irreducible] lopsB lvb lstepB lfunG lcondB lguardB ldrawB ldrunB ldstepB ldguardB lmem lval ldmem ldval ldfun lexit ldloadB ldlenB lpostB athen ablock
theorem grow27 {s : AHeap} {n : Nat} {l : List (Nat × Option AObj)} {k : Nat} (hk : 0 < k) (hk2 : k ≤ 100000000) : lappend tab 27 3 .nils (.int .i64 k) (loc s n l) = some (.rs 3 (nm s.nx n) 0 k, loc s (n + 1) (lput l n (.cells (List.replicate k [AV.int .i64 0, .int .i64 0, .str []]).flatten (some 35)))) := by
  have hz : (AV.ofV (Value.agg #[Value.int IntKind.i64 0, Value.int IntKind.i64 0, Value.string { data := #[] }])).cells = [.int .i64 0, .int .i64 0, .str []] := rfl
  have hr : (AV.ofV (Value.agg #[Value.int IntKind.i64 0, Value.int IntKind.i64 0, Value.string { data := #[] }])).israw = false := rfl
  simp only [lappend, ty27, ty3, agrow, ty35, hz, hr]
  rw [if_neg (by simp; omega), if_neg (by omega), nx_loc, new_loc]
  rfl
theorem sl27n : aslice tab 27 .nils none (some (.int .i64 0)) none = some .nils := by
  simp [aslice, ty27, Tab.size, ty35, abounds, aidx]
theorem sl27z {b k : Nat} : aslice tab 27 (.rs 3 b 0 k) none (some (.int .i64 0)) none = some (.rs 3 b 0 0) := by
  simp [aslice, ty27, Tab.size, ty35, abounds, aidx]
theorem grow_ok (k : Nat) (hk2 : k ≤ 100000000) (s : AHeap) : ACall Try.prog 173 [.nils, .int .i64 k] (loc s 0 []) fun r t => (k = 0 ∧ r = .nils ∧ t = loc s 0 []) ∨ (0 < k ∧ r = .rs 3 (nm s.nx 0) 0 0 ∧ t = loc s 1 [(0, some (.cells (List.replicate k [AV.int .i64 0, .int .i64 0, .str []]).flatten (some 35)))]) := by
  refine gob173 (by simp) ?_
  intro tm hlen harg
  rw [loc_loc0]
  have hw0 : IntKind.i64.wrap (0 - 0) = 0 := wrap_id (by omega)
  have hw1 : IntKind.i64.wrap ((k : Int) - 0) = (k : Int) := by rw [wrap_id (by omega)]; omega
  have hng : ¬ ((k : Nat) : Int) < 0 := by omega
  have hcap : acap tab 27 .nils = some (.int .i64 0) := by simp [acap, ty27]
  simp +contextual only [go_sem, L173, hlen, harg, hng, hw0, hw1, hcap, lcondB_decide, lcondB_not, lguardB_decide_true, lguardB_decide_false, ldguardB_decide, Nat.reduceLT, Nat.reduceEqDiff, Nat.reduceAdd, Nat.reduceLeDiff, reduceIte, reduceCtorEq]
  refine ⟨fun hp => ?_, fun hp => ?_⟩
  · simp +contextual only [go_sem, hlen, harg, sl27n, lcondB_decide, lcondB_not, lguardB_decide_true, lguardB_decide_false, ldguardB_decide, Nat.reduceLT, Nat.reduceEqDiff, Nat.reduceAdd, Nat.reduceLeDiff, reduceIte, reduceCtorEq]
    refine lmem_eq (grow27 (by omega) hk2) ?_
    simp +contextual only [go_sem, hlen, harg, sl27z, lcondB_decide, lcondB_not, lguardB_decide_true, lguardB_decide_false, ldguardB_decide, Nat.reduceLT, Nat.reduceEqDiff, Nat.reduceAdd, Nat.reduceLeDiff, reduceIte, reduceCtorEq]
    exact lexit_now (.inr ⟨by omega, rfl, rfl⟩)
  · exact lexit_now (.inl ⟨by omega, rfl, rfl⟩)
theorem edv_cells (c : List Ed) {s : AHeap} : acellsOf s 3 (edv c) = some (edc c, c.length) := by
  rcases edv_sl c with ⟨f, h⟩ | ⟨h, hc⟩
  · rw [h]
    simp [acellsOf, edc]
  · rw [h, hc]; rfl
theorem edc_one (c : List Ed) : (edc c).all AV.one = true := by
  unfold edc
  induction c with
  | nil => rfl
  | cons e c ih => rw [List.map_cons, List.flatMap_cons, List.all_append, ih]; rfl
theorem cat27 {s : AHeap} {n k m : Nat} {l : List (Nat × Option AObj)} {c : List Ed} {D : List AV} (hc : c ≠ []) (hl : lget l k = some (.cells D (some 35))) (hD : m * 3 ≤ D.length) (hb : m + c.length ≤ 1000000000) :
    lappend tab 27 27 (.rs 3 (nm s.nx k) 0 m) (edv c) (loc s n l) = some (.rs 3 (nm s.nx n) 0 (m + c.length), loc s (n + 1) (lput (ldel l k) n (.cells (D.take (m * 3) ++ edc c) (some 35)))) := by
  have hn : c.length ≠ 0 := by intro h; exact hc (List.eq_nil_of_length_eq_zero h)
  simp only [lappend, ty27, aappend, ty35, edv_cells]
  rw [if_neg (by omega), if_neg hn, get_loc_nm, hl]
  simp only [AObj.cells?, edc_one, List.drop_zero, and_self, if_true, true_and]
  rw [if_pos ⟨by omega, by omega⟩, nx_loc, del_loc_nm, new_loc]
theorem cat27e {s : AHeap} {y : AV} (hy : y = .nils ∨ ∃ b m, y = .rs 3 b 0 m) : lappend tab 27 27 y (edv []) s = some (y, s) := by
  rcases hy with rfl | ⟨b, m, rfl⟩ <;> simp [lappend, ty27, aappend, ty35, edv_cells]
def totL (l : List (List Ed)) : Nat := (l.map List.length).sum
theorem totL_flat (l : List (List Ed)) : l.flatten.length = totL l := by simp [totL, List.length_flatten]
theorem concat_ok (v : AV) (l : List (List Ed)) (hv : IsEds v l) (hl : l.length ≤ 1000) (hc : ∀ c ∈ l, c.length ≤ 2000) (s : AHeap) :
    ACall Try.prog 163 [v] s fun r t => r = edv l.flatten ∧ t = s := by
  refine gob163 (by simp) ?_
  intro tm hlen harg
  have htake : ∀ j, totL (l.take j) ≤ totL l := by
    intro j
    have : totL l = totL (l.take j) + totL (l.drop j) := by
      unfold totL
      rw [← List.sum_append, ← List.map_append, List.take_append_drop]
    omega
  have htot : totL l ≤ 2000000 := by
    have : ∀ (l : List (List Ed)), (∀ c ∈ l, c.length ≤ 2000) → totL l ≤ l.length * 2000 := by
      intro l
      induction l with
      | nil => intro _; simp [totL]
      | cons c l ih =>
        intro h
        have h1 := ih fun x hx => h x (List.mem_cons_of_mem c hx)
        have h2 := h c (List.mem_cons_self ..)
        unfold totL at h1 ⊢
        simp only [List.map_cons, List.sum_cons, List.length_cons]
        omega
    have := this l hc
    omega
  simp +contextual only [go_sem, L163, hlen, harg, hv.len, lcondB_decide, lcondB_not, lguardB_decide_true, lguardB_decide_false, ldguardB_decide, Nat.reduceLT, Nat.reduceEqDiff, Nat.reduceAdd, Nat.reduceLeDiff, reduceIte, reduceCtorEq]
  refine ⟨Nat, fun j => [(0, v), (3, .int .i64 (totL (l.take j))), (9, v), (10, .int .i64 l.length), (11, .int .i64 j)], fun _ => loc s 0 [], fun j => j ≤ l.length, fun j => l.length - j, 0, by simp, ?_, ?_⟩
  · refine To.go [] [] rfl (.refl s) (by decide) (by simp) ?_ trivial
    simp +contextual only [go_sem, hlen, harg, pu_ren hv.pu, lcondB_decide, lcondB_not, lguardB_decide_true, lguardB_decide_false, ldguardB_decide, Nat.reduceLT, Nat.reduceEqDiff, Nat.reduceAdd, Nat.reduceLeDiff, reduceIte, reduceCtorEq]
    simp [totL]
  · intro j tm1 hj hlen1 hlv
    simp only [go_sem, hlen, lcondB_decide, lcondB_not, lguardB_decide_true, lguardB_decide_false, ldguardB_decide, Nat.reduceLT, Nat.reduceEqDiff, Nat.reduceAdd, Nat.reduceLeDiff, reduceIte, reduceCtorEq] at hlen1 hlv
    simp +contextual only [go_sem, hlen, hlen1, hlv, hv.len, lcondB_decide, lcondB_not, lguardB_decide_true, lguardB_decide_false, ldguardB_decide, Nat.reduceLT, Nat.reduceEqDiff, Nat.reduceAdd, Nat.reduceLeDiff, reduceIte, reduceCtorEq]
    refine ⟨fun hlt => ?_, fun hge => ?_⟩
    · have hj2 : j < l.length := by omega
      have hg := List.getElem?_eq_getElem hj2
      have hmem : l[j] ∈ l := List.getElem_mem hj2
      have htk := List.take_succ_eq_append_getElem hj2
      generalize l[j] = c at hg hmem htk
      have hcl := hc c hmem
      have h1 := htake j
      have ht1 : totL (l.take (j + 1)) = totL (l.take j) + c.length := by rw [htk]; simp [totL]
      have hw1 : IntKind.i64.wrap (((totL (l.take j) : Nat) : Int) + (c.length : Int)) = ((totL (l.take (j + 1)) : Nat) : Int) := by rw [wrap_id (by omega), ht1]; omega
      have hw3 : IntKind.i64.wrap ((j : Int) + 1) = ((j + 1 : Nat) : Int) := by rw [wrap_id (by omega)]; rfl
      have hng : ¬ ((totL (l.take (j + 1)) : Nat) : Int) < 0 := by omega
      simp +contextual only [go_sem, hlen1, hlv, hv.at_ hg, ld27r, (edv_sl c).len, hw1, hw3, hng, lcondB_decide, lcondB_not, lguardB_decide_true, lguardB_decide_false, ldguardB_decide, Nat.reduceLT, Nat.reduceEqDiff, Nat.reduceAdd, Nat.reduceLeDiff, reduceIte, reduceCtorEq]
      refine ⟨j + 1, by omega, by omega, ?_⟩
      refine To.go [] [] rfl (.refl s) (by decide) (by simp) ?_ trivial
      simp +contextual only [go_sem, hlen1, hlv, pu_ren hv.pu, lcondB_decide, lcondB_not, lguardB_decide_true, lguardB_decide_false, ldguardB_decide, Nat.reduceLT, Nat.reduceEqDiff, Nat.reduceAdd, Nat.reduceLeDiff, reduceIte, reduceCtorEq]
    · have hj2 : j = l.length := by omega
      subst hj2
      simp only [List.take_length] at hlv ⊢
      refine lfunG_of (grow_ok (totL l) (by omega) s) ?_
      rintro r _ (⟨h0, rfl, rfl⟩ | ⟨h0, rfl, rfl⟩)
      · have hfl : l.flatten = [] := List.eq_nil_of_length_eq_zero (by rw [totL_flat]; exact h0)
        have hall : ∀ c ∈ l, c = [] := List.flatten_eq_nil_iff.1 hfl
        simp +contextual only [go_sem, hlen1, hlv, hv.len, lcondB_decide, lcondB_not, lguardB_decide_true, lguardB_decide_false, ldguardB_decide, Nat.reduceLT, Nat.reduceEqDiff, Nat.reduceAdd, Nat.reduceLeDiff, reduceIte, reduceCtorEq]
        refine ⟨Nat, fun j => [(6, .nils), (25, v), (26, .int .i64 l.length), (27, .int .i64 j)], fun _ => loc s 0 [], fun j => j ≤ l.length, fun j => l.length - j, 0, by simp, ?_, ?_⟩
        · refine To.go [] [] rfl (.refl s) (by decide) (by simp) ?_ trivial
          simp +contextual only [go_sem, hlen1, hlv, pu_ren hv.pu, lcondB_decide, lcondB_not, lguardB_decide_true, lguardB_decide_false, ldguardB_decide, Nat.reduceLT, Nat.reduceEqDiff, Nat.reduceAdd, Nat.reduceLeDiff, reduceIte, reduceCtorEq]
          simp
        · intro j tm2 hj hlen2 hlv2
          simp only [go_sem, hlen1, lcondB_decide, lcondB_not, lguardB_decide_true, lguardB_decide_false, ldguardB_decide, Nat.reduceLT, Nat.reduceEqDiff, Nat.reduceAdd, Nat.reduceLeDiff, reduceIte, reduceCtorEq] at hlen2 hlv2
          simp +contextual only [go_sem, hlen2, hlv2, lcondB_decide, lcondB_not, lguardB_decide_true, lguardB_decide_false, ldguardB_decide, Nat.reduceLT, Nat.reduceEqDiff, Nat.reduceAdd, Nat.reduceLeDiff, reduceIte, reduceCtorEq]
          refine ⟨fun hlt => ?_, fun hge => ?_⟩
          · have hj2 : j < l.length := by omega
            have hg := List.getElem?_eq_getElem hj2
            have hmem : l[j] ∈ l := List.getElem_mem hj2
            generalize l[j] = c at hg hmem
            obtain rfl := hall c hmem
            have hw3 : IntKind.i64.wrap ((j : Int) + 1) = ((j + 1 : Nat) : Int) := by rw [wrap_id (by omega)]; rfl
            simp +contextual only [go_sem, hlen2, hlv2, hv.at_ hg, ld27r, lcondB_decide, lcondB_not, lguardB_decide_true, lguardB_decide_false, ldguardB_decide, Nat.reduceLT, Nat.reduceEqDiff, Nat.reduceAdd, Nat.reduceLeDiff, reduceIte, reduceCtorEq]
            refine lmem_eq (cat27e (.inl rfl)) ?_
            simp +contextual only [go_sem, hlen2, hlv2, hw3, lcondB_decide, lcondB_not, lguardB_decide_true, lguardB_decide_false, ldguardB_decide, Nat.reduceLT, Nat.reduceEqDiff, Nat.reduceAdd, Nat.reduceLeDiff, reduceIte, reduceCtorEq]
            refine ⟨hlen1.symm, j + 1, by omega, by omega, ?_⟩
            refine To.go [] [] rfl (.refl s) (by decide) (by simp) ?_ trivial
            simp +contextual only [go_sem, hlen2, hlv2, pu_ren hv.pu, lcondB_decide, lcondB_not, lguardB_decide_true, lguardB_decide_false, ldguardB_decide, Nat.reduceLT, Nat.reduceEqDiff, Nat.reduceAdd, Nat.reduceLeDiff, reduceIte, reduceCtorEq]
          · refine lexit_pure (.refl s) (by simp only [low]) ⟨by rw [hfl]; rfl, rfl⟩
      · simp +contextual only [go_sem, hlen1, hlv, hv.len, lcondB_decide, lcondB_not, lguardB_decide_true, lguardB_decide_false, ldguardB_decide, Nat.reduceLT, Nat.reduceEqDiff, Nat.reduceAdd, Nat.reduceLeDiff, reduceIte, reduceCtorEq]
        refine ⟨Nat × List AV, fun x => [(6, .rs 3 (nm s.nx 0) 0 (l.take x.1).flatten.length), (25, v), (26, .int .i64 l.length), (27, .int .i64 x.1)], fun x => loc s 1 [(0, some (.cells x.2 (some 35)))],
          fun x => x.1 ≤ l.length ∧ x.2.take ((l.take x.1).flatten.length * 3) = edc (l.take x.1).flatten ∧ (l.take x.1).flatten.length * 3 ≤ x.2.length ∧ PuL x.2, fun x => l.length - x.1, (0, (List.replicate (totL l) [AV.int .i64 0, .int .i64 0, .str []]).flatten), ⟨by simp, by simp [edc], by simp, ?_⟩, ?_, ?_⟩
        · unfold PuL
          rw [lowL_iff]
          intro x hx
          obtain ⟨y, hy, hx⟩ := List.mem_flatten.1 hx
          rw [(List.mem_replicate.1 hy).2] at hx
          simp only [List.mem_cons, List.not_mem_nil, or_false] at hx
          rcases hx with rfl | rfl | rfl <;> simp only [low]
        · refine To.go [0] [(0, some (.cells (List.replicate (totL l) [AV.int .i64 0, .int .i64 0, .str []]).flatten (some 35)))] rfl (.refl s) (by decide) (by simp) ?_ ?_
          · simp +contextual only [go_sem, hlen1, hlv, pu_ren hv.pu, lcondB_decide, lcondB_not, lguardB_decide_true, lguardB_decide_false, ldguardB_decide, Nat.reduceLT, Nat.reduceEqDiff, Nat.reduceAdd, Nat.reduceLeDiff, reduceIte, reduceCtorEq]
            simp
          · have hp : PuL (List.replicate (totL l) [AV.int .i64 0, .int .i64 0, .str []]).flatten := by
              unfold PuL
              rw [lowL_iff]
              intro x hx
              obtain ⟨y, hy, hx⟩ := List.mem_flatten.1 hx
              rw [(List.mem_replicate.1 hy).2] at hx
              simp only [List.mem_cons, List.not_mem_nil, or_false] at hx
              rcases hx with rfl | rfl | rfl <;> simp only [low]
            simp only [go_sem, pul_ren hp, lcondB_decide, lcondB_not, lguardB_decide_true, lguardB_decide_false, ldguardB_decide, Nat.reduceLT, Nat.reduceEqDiff, Nat.reduceAdd, Nat.reduceLeDiff, reduceIte, reduceCtorEq]
        · rintro ⟨j, D⟩ tm2 ⟨hj, hD, hDl, hDp⟩ hlen2 hlv2
          simp only [go_sem, hlen1, lcondB_decide, lcondB_not, lguardB_decide_true, lguardB_decide_false, ldguardB_decide, Nat.reduceLT, Nat.reduceEqDiff, Nat.reduceAdd, Nat.reduceLeDiff, reduceIte, reduceCtorEq] at hlen2 hlv2 hj hD hDl hDp
          simp +contextual only [go_sem, hlen2, hlv2, lcondB_decide, lcondB_not, lguardB_decide_true, lguardB_decide_false, ldguardB_decide, Nat.reduceLT, Nat.reduceEqDiff, Nat.reduceAdd, Nat.reduceLeDiff, reduceIte, reduceCtorEq]
          refine ⟨fun hlt => ?_, fun hge => ?_⟩
          · have hj2 : j < l.length := by omega
            have hg := List.getElem?_eq_getElem hj2
            have hmem : l[j] ∈ l := List.getElem_mem hj2
            have htk := List.take_succ_eq_append_getElem hj2
            generalize l[j] = c at hg hmem htk
            have hcl := hc c hmem
            have h1 := htake j
            have hfl1 : (l.take (j + 1)).flatten = (l.take j).flatten ++ c := by rw [htk]; simp
            have hll : (l.take j).flatten.length ≤ 2000000 := by rw [totL_flat]; omega
            have hw3 : IntKind.i64.wrap ((j : Int) + 1) = ((j + 1 : Nat) : Int) := by rw [wrap_id (by omega)]; rfl
            simp +contextual only [go_sem, hlen2, hlv2, hv.at_ hg, ld27r, lcondB_decide, lcondB_not, lguardB_decide_true, lguardB_decide_false, ldguardB_decide, Nat.reduceLT, Nat.reduceEqDiff, Nat.reduceAdd, Nat.reduceLeDiff, reduceIte, reduceCtorEq]
            by_cases hce : c = []
            · subst hce
              rw [List.append_nil] at hfl1
              refine lmem_eq (cat27e (.inr ⟨_, _, rfl⟩)) ?_
              simp +contextual only [go_sem, hlen2, hlv2, hw3, lcondB_decide, lcondB_not, lguardB_decide_true, lguardB_decide_false, ldguardB_decide, Nat.reduceLT, Nat.reduceEqDiff, Nat.reduceAdd, Nat.reduceLeDiff, reduceIte, reduceCtorEq]
              refine ⟨hlen1.symm, (j + 1, D), ⟨by simp only; omega, by simp only [hfl1]; exact hD, by simp only [hfl1]; exact hDl, hDp⟩, by simp only; omega, ?_⟩
              refine To.go [0] _ rfl (.refl s) (by decide) (by simp) ?_ ?_
              · simp +contextual only [go_sem, hlen2, hlv2, hfl1, pu_ren hv.pu, lcondB_decide, lcondB_not, lguardB_decide_true, lguardB_decide_false, ldguardB_decide, Nat.reduceLT, Nat.reduceEqDiff, Nat.reduceAdd, Nat.reduceLeDiff, reduceIte, reduceCtorEq]
              · simp only [go_sem, pul_ren hDp, lcondB_decide, lcondB_not, lguardB_decide_true, lguardB_decide_false, ldguardB_decide, Nat.reduceLT, Nat.reduceEqDiff, Nat.reduceAdd, Nat.reduceLeDiff, reduceIte, reduceCtorEq]
            · refine lmem_eq (cat27 (D := D) hce (by simp only [go_sem, lcondB_decide, lcondB_not, lguardB_decide_true, lguardB_decide_false, ldguardB_decide, Nat.reduceLT, Nat.reduceEqDiff, Nat.reduceAdd, Nat.reduceLeDiff, reduceIte, reduceCtorEq]) hDl (by omega)) ?_
              simp +contextual only [go_sem, hlen2, hlv2, hw3, lcondB_decide, lcondB_not, lguardB_decide_true, lguardB_decide_false, ldguardB_decide, Nat.reduceLT, Nat.reduceEqDiff, Nat.reduceAdd, Nat.reduceLeDiff, reduceIte, reduceCtorEq]
              have hDn : D.take ((l.take j).flatten.length * 3) ++ edc c = edc (l.take (j + 1)).flatten := by
                rw [hD, hfl1]; simp [edc]
              refine ⟨hlen1.symm, (j + 1, D.take ((l.take j).flatten.length * 3) ++ edc c), ⟨by simp only; omega, ?_, ?_, ?_⟩, by simp only; omega, ?_⟩
              · simp only
                rw [hDn, List.take_of_length_le (by rw [edc_len]; exact Nat.le_refl _)]
              · simp only
                rw [hDn, edc_len]
                exact Nat.le_refl _
              · simp only
                rw [hDn]; exact edc_pul _
              · refine To.go [1] _ rfl (.refl s) (by decide) (by simp) ?_ ?_
                · simp +contextual only [go_sem, hlen2, hlv2, hfl1, List.length_append, pu_ren hv.pu, lcondB_decide, lcondB_not, lguardB_decide_true, lguardB_decide_false, ldguardB_decide, Nat.reduceLT, Nat.reduceEqDiff, Nat.reduceAdd, Nat.reduceLeDiff, reduceIte, reduceCtorEq]
                · simp only [go_sem, hDn, pul_ren (edc_pul _), lcondB_decide, lcondB_not, lguardB_decide_true, lguardB_decide_false, ldguardB_decide, Nat.reduceLT, Nat.reduceEqDiff, Nat.reduceAdd, Nat.reduceLeDiff, reduceIte, reduceCtorEq]
          · have hj2 : j = l.length := by omega
            subst hj2
            simp only [List.take_length] at hD hDl hlv2 ⊢
            have hlt : 0 < l.flatten.length := by rw [totL_flat]; exact h0
            refine lexit_trim 0 (edc l.flatten) (D.drop (l.flatten.length * 3)) (T := some 35) (by rw [← hD, List.take_append_drop]; rfl) ?_
            simp only [go_sem, lcondB_decide, lcondB_not, lguardB_decide_true, lguardB_decide_false, ldguardB_decide, Nat.reduceLT, Nat.reduceEqDiff, Nat.reduceAdd, Nat.reduceLeDiff, reduceIte, reduceCtorEq]
            refine lexit_freeze 0 3 (l.flatten.map Ed.enc) (T := some 35) (by simp only [go_sem, lcondB_decide, lcondB_not, lguardB_decide_true, lguardB_decide_false, ldguardB_decide, Nat.reduceLT, Nat.reduceEqDiff, Nat.reduceAdd, Nat.reduceLeDiff, reduceIte, reduceCtorEq]; rfl) (enc_len _) ?_
            rw [show (AV.rs 3 (nm s.nx 0) 0 l.flatten.length) = gsv 3 (nm s.nx 0) l.flatten.length from (gsv_pos (by omega)).symm, len_fz]
            exact lexit_pure (.refl s) (low.mono (Nat.zero_le _) (edv_pu _)) ⟨rfl, rfl⟩
end Go.S1N
end
section
set_option linter.unusedVariables false
set_option linter.unusedSimpArgs false
namespace Go.Proofs
open Go.Shelf
def Try.laysSort_ren : Go.Shelf.Ren := ⟨fun | 125 => 175 | 128 => 186 | 129 => 187 | 189 => 164 | 215 => 193 | 216 => 183 | 257 => 174 | 294 => 177 | 295 => 178 | 296 => 179 | 297 => 180 | 298 => 181 | 299 => 182 | 300 => 184 | 301 => 185 | 328 => 188 | 329 => 189 | 330 => 190 | 331 => 191 | 332 => 192 | 343 => 194 | n => n, fun | 0 => 0 | 3 => 3 | 4 => 4 | 5 => 5 | 9 => 9 | 28 => 22 | 46 => 184 | 51 => 212 | 53 => 215 | 131 => 159 | 182 => 234 | 183 => 235 | 218 => 243 | 222 => 146 | 228 => 248 | 229 => 93 | n => n, fun | n => n⟩
theorem Try.laysSort : Go.Proofs.Lays.n189 Try.prog Try.laysSort_ren := {
  mixed := by kernel_rfl
  f125 := Try.func175.trans (congrArg some (by kernel_rfl))
  f128 := Try.func186.trans (congrArg some (by kernel_rfl))
  f129 := Try.func187.trans (congrArg some (by kernel_rfl))
  f189 := Try.func164.trans (congrArg some (by kernel_rfl))
  f215 := Try.func193.trans (congrArg some (by kernel_rfl))
  f216 := Try.func183.trans (congrArg some (by kernel_rfl))
  f257 := Try.func174.trans (congrArg some (by kernel_rfl))
  f294 := Try.func177.trans (congrArg some (by kernel_rfl))
  f295 := Try.func178.trans (congrArg some (by kernel_rfl))
  f296 := Try.func179.trans (congrArg some (by kernel_rfl))
  f297 := Try.func180.trans (congrArg some (by kernel_rfl))
  f298 := Try.func181.trans (congrArg some (by kernel_rfl))
  f299 := Try.func182.trans (congrArg some (by kernel_rfl))
  f300 := Try.func184.trans (congrArg some (by kernel_rfl))
  f301 := Try.func185.trans (congrArg some (by kernel_rfl))
  f328 := Try.func188.trans (congrArg some (by kernel_rfl))
  f329 := Try.func189.trans (congrArg some (by kernel_rfl))
  f330 := Try.func190.trans (congrArg some (by kernel_rfl))
  f331 := Try.func191.trans (congrArg some (by kernel_rfl))
  f332 := Try.func192.trans (congrArg some (by kernel_rfl))
  f343 := Try.func194.trans (congrArg some (by kernel_rfl))
  t0 := Try.underlying0
  a0 := Try.isAgg0
  z0 := Try.sizeOf0
  v0 := Try.zeroValue0
  t3 := Try.underlying3
  a3 := Try.isAgg3
  z3 := Try.sizeOf3
  v3 := Try.zeroValue3
  t4 := Try.underlying4
  a4 := Try.isAgg4
  z4 := Try.sizeOf4
  v4 := Try.zeroValue4
  t5 := Try.underlying5
  a5 := Try.isAgg5
  z5 := Try.sizeOf5
  v5 := Try.zeroValue5
  t9 := Try.underlying9
  a9 := Try.isAgg9
  z9 := Try.sizeOf9
  v9 := Try.zeroValue9
  t28 := Try.underlying22
  a28 := Try.isAgg22
  z28 := Try.sizeOf22
  v28 := Try.zeroValue22
  t46 := Try.underlying184
  a46 := Try.isAgg184
  z46 := Try.sizeOf184
  v46 := Try.zeroValue184
  t51 := Try.underlying212
  a51 := Try.isAgg212
  z51 := Try.sizeOf212
  v51 := Try.zeroValue212
  t53 := Try.underlying215
  a53 := Try.isAgg215
  z53 := Try.sizeOf215
  v53 := Try.zeroValue215
  t131 := Try.underlying159
  a131 := Try.isAgg159
  z131 := Try.sizeOf159
  v131 := Try.zeroValue159
  t182 := Try.underlying234
  a182 := Try.isAgg234
  z182 := Try.sizeOf234
  v182 := Try.zeroValue234
  t183 := Try.underlying235
  a183 := Try.isAgg235
  z183 := Try.sizeOf235
  v183 := Try.zeroValue235
  t218 := Try.underlying243
  a218 := Try.isAgg243
  z218 := Try.sizeOf243
  v218 := Try.zeroValue243
  t222 := Try.underlying146
  a222 := Try.isAgg146
  z222 := Try.sizeOf146
  v222 := Try.zeroValue146
  t228 := Try.underlying248
  a228 := Try.isAgg248
  z228 := Try.sizeOf248
  v228 := Try.zeroValue248
  t229 := Try.underlying93
  a229 := Try.isAgg93
  z229 := Try.sizeOf93
  v229 := Try.zeroValue93 }
end Go.Proofs
namespace Go.S1N
open Go Go.Am Go.Proofs Go.S1
set_option maxRecDepth 100000
attribute [local irreducible] lopsB lvb lstepB lfunG lcondB lguardB ldrawB ldrunB ldstepB ldguardB lmem lval ldmem ldval ldfun lexit ldloadB ldlenB lpostB athen ablock
theorem sort_ok {s : AHeap} {b : Nat} {L : List Int} {To : Option TypeId} (hb : s.get b = some (.cells (L.map (AV.int .i64)) To)) (h0 : L ≠ []) (hL : L.length < 4611686018427387904) :
    ACall Try.prog 164 [.rs 1 b 0 L.length] s fun v t => v = .tuple [] ∧ t = s.upd b (.cells ((L.mergeSort fun x y => decide (x ≤ y)).map (AV.int .i64)) To) := by
  obtain ⟨c, hc⟩ := Option.isSome_iff_exists.1 (show Try.f164.body.isSome = true by kernel_rfl)
  exact sort_gen Try.func164 hc nm164 (Any.slices_Sort_int Try.laysSort) hb h0 hL
end Go.S1N
end
section
set_option linter.unusedVariables false
set_option linter.unusedSimpArgs false
namespace Go.S1N
open Go Go.Am Go.Proofs Go.S1
set_option maxRecDepth 100000
set_option linter.unusedSimpArgs false
attribute [local irreducible] lopsB lvb lstepB lfunG lcondB lguardB ldrawB ldrunB ldstepB ldguardB lmem lval ldmem ldval ldfun lexit ldloadB ldlenB lpostB athen ablock
def compact : List Int → List Int
  | [] => []
  | [a] => [a]
  | a :: b :: r => if a = b then compact (b :: r) else a :: compact (b :: r)
theorem inl_drop (L : List Int) (j : Nat) : (L.map (AV.int .i64)).drop j = (L.drop j).map (AV.int .i64) := List.map_drop.symm
theorem sl22_lo {b o m i : Nat} (h : i ≤ m) : aslice tab 22 (.rs 1 b o m) (some (.int .i64 i)) none none = some (.rs 1 b (o + i) (m - i)) := by
  simp [aslice, ty22, Tab.size, ty3, abounds, aidx, h]
theorem sl22_hi {b o m i : Nat} (h : i ≤ m) : aslice tab 22 (.rs 1 b o m) none (some (.int .i64 i)) none = some (.rs 1 b o i) := by
  simp [aslice, ty22, Tab.size, ty3, abounds, aidx, h]
theorem ix22n {b o m i : Nat} (h : i < m) : aindexAddr tab 22 (.rs 1 b o m) (.int .i64 i) = some (.ptr b (o + i)) := by
  rw [ix22r (by omega) (by omega)]; simp
theorem compact_snoc : ∀ (ys : List Int) (x z : Int), compact (ys ++ [x, z]) = if x = z then compact (ys ++ [x]) else compact (ys ++ [x]) ++ [z]
  | [], x, z => by
    simp only [List.nil_append, compact]
    split
    · rename_i h; rw [h]
    · rfl
  | [a], x, z => by
    simp only [List.cons_append, List.nil_append, compact]
    split <;> split <;> simp_all
  | a :: b :: ys, x, z => by
    have ih := compact_snoc (b :: ys) x z
    simp only [List.cons_append] at ih ⊢
    rw [compact, compact, ih]
    split <;> split <;> simp_all
theorem compact_take {L : List Int} {m : Nat} (h1 : 1 ≤ m) (h : m < L.length) : compact (L.take (m + 1)) = if L[m - 1] = L[m] then compact (L.take m) else compact (L.take m) ++ [L[m]] := by
  have e1 : L.take m = L.take (m - 1) ++ [L[m - 1]] := by
    have := List.take_succ_eq_append_getElem (show m - 1 < L.length by omega)
    rwa [show m - 1 + 1 = m by omega] at this
  have e2 : L.take (m + 1) = L.take (m - 1) ++ [L[m - 1], L[m]] := by
    rw [List.take_succ_eq_append_getElem h, e1, List.append_assoc]; rfl
  rw [e2, compact_snoc, ← e1]
theorem compact_len : ∀ L : List Int, (compact L).length ≤ L.length
  | [] => by simp [compact]
  | [a] => by simp [compact]
  | a :: b :: r => by
    have ih := compact_len (b :: r)
    rw [compact]
    split <;> simp only [List.length_cons] at ih ⊢ <;> omega
theorem clear22 {s : AHeap} {b o m : Nat} {D : List AV} {Tt : Option TypeId} (hg : s.get b = some (.cells D Tt)) (hlt : b < s.nx) (h : o + m ≤ D.length) (hm : m ≠ 0) :
    lclear tab 22 (.rs 1 b o m) (loc s 0 []) = some (.tuple [], loc (s.upd b (.cells (splice D o (List.replicate m [.int .i64 0]).flatten) Tt)) 0 []) := by
  simp only [lclear, ty22, aclear, ty3]
  have hz : (AV.ofV (Value.int IntKind.i64 0)).cells = [.int .i64 0] := rfl
  rw [if_neg (by decide), if_neg hm, get_loc_out hlt, hg]
  simp only [AObj.cells?, hz]
  rw [if_pos ⟨trivial, by omega, rfl⟩, upd_loc_out hlt]
theorem splice_ints : ∀ (m o : Nat) (D : List Int), ∃ C : List Int, splice (D.map (AV.int .i64)) o (List.replicate m [AV.int .i64 0]).flatten = C.map (AV.int .i64) ∧ C.length = D.length ∧ C.take o = D.take o
  | 0, o, D => ⟨D, rfl, rfl, rfl⟩
  | m + 1, o, D => by
    obtain ⟨C, h1, h2, h3⟩ := splice_ints m (o + 1) (D.set o 0)
    refine ⟨C, ?_, by rw [h2, List.length_set], ?_⟩
    · rw [List.replicate_succ, List.flatten_cons]
      show splice ((D.map (AV.int .i64)).set o (.int .i64 0)) (o + 1) (List.replicate m [AV.int .i64 0]).flatten = _
      rw [← h1, List.map_set]
    · have := congrArg (List.take o) h3
      rw [List.take_take, List.take_take, Nat.min_eq_left (by omega)] at this
      rw [this, List.take_set_of_le (Nat.le_refl _)]
theorem lowO_ints {n : Nat} (D : List Int) {Tt : Option TypeId} : lowO n (.cells (D.map (AV.int .i64)) Tt) := by
  simp only [lowO, lowL_iff, List.mem_map]
  rintro x ⟨y, _, rfl⟩
  simp only [low]
theorem compact_ok {s : AHeap} {b : Nat} {L : List Int} {Tt : Option TypeId} (hb : s.get b = some (.cells (L.map (AV.int .i64)) Tt)) (hlt : b < s.nx) (hL : L.length ≤ 1000000) :
    ACall Try.prog 165 [.rs 1 b 0 L.length] s fun v t => ∃ C : List Int, C.take (compact L).length = compact L ∧ C.length = L.length ∧ v = .rs 1 b 0 (compact L).length ∧ ((t = s ∧ C = L) ∨ t = s.upd b (.cells (C.map (AV.int .i64)) Tt)) := by
  refine gob165 (by simp) ?_
  intro tm hlen harg
  simp +contextual only [go_sem, L165, hlen, harg, lcondB_decide, lcondB_not, lguardB_decide_true, lguardB_decide_false, ldguardB_decide, Nat.reduceLT, Nat.reduceEqDiff, Nat.reduceAdd, Nat.reduceLeDiff, reduceIte, reduceCtorEq]
  refine ⟨fun h2 => ?_, fun h2 => ?_⟩
  · have hc : compact L = L := by
      match L, h2 with
      | [], _ => rfl
      | [a], _ => rfl
      | a :: b :: r, h2 => simp at h2; omega
    exact lexit_pure (.refl s) (by simp only [low]; exact hlt) ⟨L, by rw [hc, List.take_length], rfl, by rw [hc], .inl ⟨rfl, rfl⟩⟩
  refine ⟨Nat, fun k => [(0, .rs 1 b 0 L.length), (3, .int .i64 k)], fun _ => loc s 0 [], fun k => 1 ≤ k ∧ k ≤ L.length ∧ compact (L.take k) = L.take k, fun k => L.length - k, 1, ⟨Nat.le_refl _, by omega, ?_⟩, ?_, ?_⟩
  · obtain ⟨a, r, rfl⟩ : ∃ a r, L = a :: r := by
      cases L with
      | nil => simp at h2
      | cons a r => exact ⟨a, r, rfl⟩
    simp [compact]
  · refine To.go [] [] rfl (.refl s) (by decide) (by simp) ?_ trivial
    simp +contextual only [go_sem, hlen, harg, rnm_low hlt, lcondB_decide, lcondB_not, lguardB_decide_true, lguardB_decide_false, ldguardB_decide, Nat.reduceLT, Nat.reduceEqDiff, Nat.reduceAdd, Nat.reduceLeDiff, reduceIte, reduceCtorEq]
    rfl
  · rintro k tm1 ⟨hk1, hk2, hkc⟩ hlen1 hlv
    simp only [go_sem, hlen, lcondB_decide, lcondB_not, lguardB_decide_true, lguardB_decide_false, ldguardB_decide, Nat.reduceLT, Nat.reduceEqDiff, Nat.reduceAdd, Nat.reduceLeDiff, reduceIte, reduceCtorEq] at hlen1 hlv
    simp +contextual only [go_sem, hlen, hlen1, hlv, lcondB_decide, lcondB_not, lguardB_decide_true, lguardB_decide_false, ldguardB_decide, Nat.reduceLT, Nat.reduceEqDiff, Nat.reduceAdd, Nat.reduceLeDiff, reduceIte, reduceCtorEq]
    refine ⟨fun hlt2 => ?_, fun hge => ?_⟩
    · have hk3 : k < L.length := by omega
      have hct := compact_take hk1 hk3
      have d1 : (L.map (AV.int .i64)).drop (k - 1) = .int .i64 L[k - 1] :: (L.drop (k - 1 + 1)).map (AV.int .i64) := by rw [inl_drop, List.drop_eq_getElem_cons (show k - 1 < L.length by omega)]; rfl
      have d2 : (L.map (AV.int .i64)).drop k = .int .i64 L[k] :: (L.drop (k + 1)).map (AV.int .i64) := by rw [inl_drop, List.drop_eq_getElem_cons hk3]; rfl
      have htk := List.take_succ_eq_append_getElem hk3
      generalize L[k - 1] = x at hct d1
      generalize L[k] = z at hct d2 htk
      have hw1 : IntKind.i64.wrap ((k : Int) - 1) = ((k - 1 : Nat) : Int) := by rw [wrap_id (by omega)]; omega
      have hw2 : IntKind.i64.wrap ((k : Int) + 1) = ((k + 1 : Nat) : Int) := by rw [wrap_id (by omega)]; rfl
      have i1 : aindexAddr tab 22 (.rs 1 b 0 L.length) (.int .i64 ((k - 1 : Nat) : Int)) = some (.ptr b (k - 1)) := by rw [ix22n (by omega), Nat.zero_add]
      have i2 : aindexAddr tab 22 (.rs 1 b 0 L.length) (.int .i64 (k : Int)) = some (.ptr b k) := by rw [ix22n (by omega), Nat.zero_add]
      refine ldrawB_go [] [] 9 (by decide) ?_
      simp +contextual only [go_sem, hlen1, hlv, hw1, hw2, i1, i2, hb, hlt, d1, d2, lcondB_decide, lcondB_not, lguardB_decide_true, lguardB_decide_false, ldguardB_decide, Nat.reduceLT, Nat.reduceEqDiff, Nat.reduceAdd, Nat.reduceLeDiff, reduceIte, reduceCtorEq]
      refine ⟨by kernel_rfl, fun hz => ?_, fun hz => ?_⟩
      · rw [if_pos hz.symm, hkc] at hct
        have d3 : aslice tab 22 (.rs 1 b 0 L.length) (some (.int .i64 (k : Int))) none none = some (.rs 1 b k (L.length - k)) := by rw [sl22_lo (by omega), Nat.zero_add]
        simp +contextual only [go_sem, hlen1, hlv, d3, lcondB_decide, lcondB_not, lguardB_decide_true, lguardB_decide_false, ldguardB_decide, Nat.reduceLT, Nat.reduceEqDiff, Nat.reduceAdd, Nat.reduceLeDiff, reduceIte, reduceCtorEq]
        refine ⟨Nat × Nat × List Int × AHeap, fun x => [(0, .rs 1 b 0 L.length), (3, .int .i64 x.1), (4, .rs 1 b k (L.length - k)), (5, .int .i64 (x.2.1 - k : Nat))], fun x => loc x.2.2.2 0 [],
          fun x => k < x.2.1 ∧ x.2.1 ≤ L.length ∧ x.1 < x.2.1 ∧ x.2.2.1.length = L.length ∧ x.2.2.1.take x.1 = compact (L.take x.2.1) ∧ x.1 = (compact (L.take x.2.1)).length ∧ x.2.2.1.drop (x.2.1 - 1) = L.drop (x.2.1 - 1) ∧ OKo s x.2.2.2 ∧
            x.2.2.2.get b = some (.cells (x.2.2.1.map (AV.int .i64)) Tt) ∧ ((x.2.2.2 = s ∧ x.2.2.1 = L) ∨ x.2.2.2 = s.upd b (.cells (x.2.2.1.map (AV.int .i64)) Tt)),
          fun x => L.length - x.2.1, (k, k + 1, L, s), ⟨by simp only; omega, by simp only; omega, by simp only; omega, rfl, hct.symm, by rw [hct, List.length_take]; simp only; omega, rfl, .refl s, hb, .inl ⟨rfl, rfl⟩⟩, ?_, ?_⟩
        · refine To.go [] [] rfl (.refl s) (by decide) (by simp) ?_ trivial
          simp +contextual only [go_sem, hlen1, hlv, rnm_low hlt, Nat.add_sub_cancel_left, lcondB_decide, lcondB_not, lguardB_decide_true, lguardB_decide_false, ldguardB_decide, Nat.reduceLT, Nat.reduceEqDiff, Nat.reduceAdd, Nat.reduceLeDiff, reduceIte, reduceCtorEq]
          rfl
        · rintro ⟨kw, m, D, s1⟩ tm2 ⟨q1, q2, q3, q4, q5, q6, q7, q8, q9, q10⟩ hlen2 hlv2
          simp only [go_sem, hlen1, lcondB_decide, lcondB_not, lguardB_decide_true, lguardB_decide_false, ldguardB_decide, Nat.reduceLT, Nat.reduceEqDiff, Nat.reduceAdd, Nat.reduceLeDiff, reduceIte, reduceCtorEq] at hlen2 hlv2 q1 q2 q3 q4 q5 q6 q7 q8 q9 q10
          have hlt1 : b < s1.nx := by rw [q8.1]; exact hlt
          simp +contextual only [go_sem, hlen2, hlv2, lcondB_decide, lcondB_not, lguardB_decide_true, lguardB_decide_false, ldguardB_decide, Nat.reduceLT, Nat.reduceEqDiff, Nat.reduceAdd, Nat.reduceLeDiff, reduceIte, reduceCtorEq]
          refine ⟨fun hlt3 => ?_, fun hge => ?_⟩
          · have hm : m < L.length := by omega
            have hct := compact_take (show 1 ≤ m by omega) hm
            have e1 : (D.map (AV.int .i64)).drop (m - 1) = .int .i64 L[m - 1] :: (L.drop (m - 1 + 1)).map (AV.int .i64) := by rw [inl_drop, q7, List.drop_eq_getElem_cons (show m - 1 < L.length by omega)]; rfl
            have e0 : D.drop m = L.drop m := by
              have := congrArg (List.drop 1) q7
              rwa [List.drop_drop, List.drop_drop, show m - 1 + 1 = m by omega] at this
            have e2 : (D.map (AV.int .i64)).drop m = .int .i64 L[m] :: (L.drop (m + 1)).map (AV.int .i64) := by rw [inl_drop, e0, List.drop_eq_getElem_cons hm]; rfl
            generalize L[m - 1] = x at hct e1
            generalize L[m] = z at hct e2
            have hw1 : IntKind.i64.wrap (((m - k : Nat) : Int) - 1) = ((m - k - 1 : Nat) : Int) := by rw [wrap_id (by omega)]; omega
            have hw2 : IntKind.i64.wrap (((m - k : Nat) : Int) + 1) = ((m + 1 - k : Nat) : Int) := by rw [wrap_id (by omega)]; omega
            have hw3 : IntKind.i64.wrap ((kw : Int) + 1) = ((kw + 1 : Nat) : Int) := by rw [wrap_id (by omega)]; rfl
            have i1 : aindexAddr tab 22 (.rs 1 b k (L.length - k)) (.int .i64 ((m - k - 1 : Nat) : Int)) = some (.ptr b (m - 1)) := by rw [ix22n (by omega)]; congr 2; omega
            have i2 : aindexAddr tab 22 (.rs 1 b k (L.length - k)) (.int .i64 ((m - k : Nat) : Int)) = some (.ptr b m) := by rw [ix22n (by omega)]; congr 2; omega
            have i3 : aindexAddr tab 22 (.rs 1 b 0 L.length) (.int .i64 (kw : Int)) = some (.ptr b kw) := by rw [ix22n (by omega), Nat.zero_add]
            have hle : kw + 1 ≤ (D.map (AV.int .i64)).length := by rw [List.length_map]; omega
            refine ldrawB_go [] [] 9 (by decide) ?_
            simp +contextual only [go_sem, hlen2, hlv2, hw1, hw2, hw3, i1, i2, i3, q9, hlt1, e1, e2, hle, lcondB_decide, lcondB_not, lguardB_decide_true, lguardB_decide_false, ldguardB_decide, Nat.reduceLT, Nat.reduceEqDiff, Nat.reduceAdd, Nat.reduceLeDiff, reduceIte, reduceCtorEq]
            refine ⟨by kernel_rfl, fun hz => ?_, fun hz => ?_⟩
            · rw [if_neg (Ne.symm hz)] at hct
              have hs' : OKo s (s1.upd b (.cells ((D.map (AV.int .i64)).set kw (.int .i64 z)) Tt)) := q8.upd hlt (by rw [show (D.map (AV.int .i64)).set kw (.int .i64 z) = (D.set kw z).map (AV.int .i64) from (List.map_set ..).symm]; exact lowO_ints _)
              refine ⟨hlen1.symm, (kw + 1, m + 1, D.set kw z, s1.upd b (.cells ((D.map (AV.int .i64)).set kw (.int .i64 z)) Tt)), ⟨by simp only; omega, by simp only; omega, by simp only; omega, by simp only [List.length_set]; exact q4, ?_, ?_, ?_, hs', ?_, ?_⟩, by simp only; omega, ?_⟩
              · simp only
                rw [hct, ← q5, List.take_add_one, List.take_set_of_le (Nat.le_refl _), List.getElem?_set_self (by omega)]; rfl
              · simp only
                rw [hct, List.length_append, ← q6]; rfl
              · simp only [Nat.add_sub_cancel]
                rw [List.drop_set, if_pos q3, e0]
              · simp only
                rw [get_upd_same, List.map_set]
              · right
                simp only [List.map_set]
                rcases q10 with ⟨r1, _⟩ | r1
                · rw [r1]
                · rw [r1, upd_upd]
              · refine To.go [] [] rfl hs' (by decide) (by simp) ?_ trivial
                simp +contextual only [go_sem, hlen2, hlv2, rnm_low hlt, lcondB_decide, lcondB_not, lguardB_decide_true, lguardB_decide_false, ldguardB_decide, Nat.reduceLT, Nat.reduceEqDiff, Nat.reduceAdd, Nat.reduceLeDiff, reduceIte, reduceCtorEq]
            · rw [if_pos hz.symm] at hct
              refine ⟨hlen1.symm, (kw, m + 1, D, s1), ⟨by simp only; omega, by simp only; omega, by simp only; omega, q4, by rw [hct]; exact q5, by rw [hct]; exact q6, by simp only [Nat.add_sub_cancel]; exact e0, q8, q9, q10⟩, by simp only; omega, ?_⟩
              refine To.go [] [] rfl q8 (by decide) (by simp) ?_ trivial
              simp +contextual only [go_sem, hlen2, hlv2, rnm_low hlt, lcondB_decide, lcondB_not, lguardB_decide_true, lguardB_decide_false, ldguardB_decide, Nat.reduceLT, Nat.reduceEqDiff, Nat.reduceAdd, Nat.reduceLeDiff, reduceIte, reduceCtorEq]
          · have hm : m = L.length := by omega
            subst hm
            rw [List.take_length] at q5 q6
            have d4 : aslice tab 22 (.rs 1 b 0 L.length) (some (.int .i64 (kw : Int))) none none = some (.rs 1 b kw (L.length - kw)) := by rw [sl22_lo (by omega), Nat.zero_add]
            have d5 : aslice tab 22 (.rs 1 b 0 L.length) none (some (.int .i64 (kw : Int))) none = some (.rs 1 b 0 kw) := by rw [sl22_hi (by omega)]
            simp +contextual only [go_sem, hlen2, hlv2, d4, lcondB_decide, lcondB_not, lguardB_decide_true, lguardB_decide_false, ldguardB_decide, Nat.reduceLT, Nat.reduceEqDiff, Nat.reduceAdd, Nat.reduceLeDiff, reduceIte, reduceCtorEq]
            refine lmem_eq (clear22 q9 hlt1 (by rw [List.length_map]; omega) (by omega)) ?_
            simp +contextual only [go_sem, hlen2, hlv2, d5, lcondB_decide, lcondB_not, lguardB_decide_true, lguardB_decide_false, ldguardB_decide, Nat.reduceLT, Nat.reduceEqDiff, Nat.reduceAdd, Nat.reduceLeDiff, reduceIte, reduceCtorEq]
            obtain ⟨C, c1, c2, c3⟩ := splice_ints (L.length - kw) kw D
            rw [c1]
            refine lexit_pure (q8.upd hlt (lowO_ints C)) (by simp only [low]; exact hlt) ⟨C, by rw [← q6, c3, q5], by omega, by rw [q6], .inr ?_⟩
            rcases q10 with ⟨r1, _⟩ | r1
            · rw [r1]
            · rw [r1, upd_upd]
      · rw [if_neg (Ne.symm hz), hkc, ← htk] at hct
        refine ⟨k + 1, ⟨by omega, by omega, hct⟩, by omega, ?_⟩
        refine To.go [] [] rfl (.refl s) (by decide) (by simp) ?_ trivial
        simp +contextual only [go_sem, hlen1, hlv, rnm_low hlt, lcondB_decide, lcondB_not, lguardB_decide_true, lguardB_decide_false, ldguardB_decide, Nat.reduceLT, Nat.reduceEqDiff, Nat.reduceAdd, Nat.reduceLeDiff, reduceIte, reduceCtorEq]
    · have hk3 : k = L.length := by omega
      subst hk3
      rw [List.take_length] at hkc
      refine lexit_pure (.refl s) (by simp only [low]; exact hlt) ⟨L, by rw [hkc, List.take_length], rfl, by rw [hkc], .inl ⟨rfl, rfl⟩⟩
end Go.S1N
end
section
set_option linter.unusedVariables false
set_option linter.unusedSimpArgs false
namespace Go.S1N
open Go Go.Am Go.Proofs Go.S1
set_option maxRecDepth 100000
set_option linter.unusedSimpArgs false
attribute [local irreducible] lopsB lvb lstepB lfunG lcondB lguardB ldrawB ldrunB ldstepB ldguardB lmem lval ldmem ldval ldfun lexit ldloadB ldlenB lpostB athen ablock
def ends (l : List Ed) : List Int := l.flatMap fun e => [e.at_, e.at_ + e.cut]
def placesL (n : Int) (a b : List Ed) : List Int := compact ((0 :: n :: ends (a ++ b)).mergeSort fun x y => decide (x ≤ y))
theorem ends_len (l : List Ed) : (ends l).length = 2 * l.length := by
  unfold ends
  induction l with
  | nil => rfl
  | cons e l ih => rw [List.flatMap_cons, List.length_append, ih]; simp; omega
theorem ends_snoc (l : List Ed) (e : Ed) : ends (l ++ [e]) = ends l ++ [e.at_, e.at_ + e.cut] := by simp [ends]
theorem compact_ne : ∀ {L : List Int}, L ≠ [] → compact L ≠ []
  | [a], _ => by simp [compact]
  | a :: b :: r, _ => by
    rw [compact]
    split
    · exact compact_ne (by simp)
    · simp
def accL (n : Int) (L : List Ed) (j : Nat) : List Int := 0 :: n :: ends (L.take j)
theorem accL_ne (n : Int) (L : List Ed) (j : Nat) : accL n L j ≠ [] := by simp [accL]
theorem accL_len {n : Int} {L : List Ed} {j : Nat} : (accL n L j).length ≤ 2 * L.length + 2 := by
  simp only [accL, List.length_cons, ends_len, List.length_take]; omega
theorem accL_pos (n : Int) (L : List Ed) (j : Nat) : (accL n L j).length ≠ 0 := by simp [accL]
theorem places_ok (n : Int) (hn : 0 ≤ n ∧ n ≤ 1000000) (a b : List Ed) (ha : a.length ≤ 2000) (hb : b.length ≤ 2000) (he : ∀ e ∈ a ++ b, 0 ≤ e.at_ ∧ 0 ≤ e.cut ∧ e.at_ + e.cut ≤ n) (s : AHeap) :
    ACall Try.prog 141 [.int .i64 n, edv a, edv b] s fun r t => r = intv (placesL n a b) ∧ t = s := by
  refine gob141 (by simp) ?_
  intro tm hlen harg
  have hfa : (edv a).cells = [edv a] := fsv_cells
  have hfb : (edv b).cells = [edv b] := fsv_cells
  have hra : (edv a).israw = false := fsv_israw
  have hrb : (edv b).israw = false := fsv_israw
  simp +contextual only [go_sem, L141, hlen, harg, hfa, hfb, hra, hrb, lcondB_decide, lcondB_not, lguardB_decide_true, lguardB_decide_false, ldguardB_decide, Nat.reduceLT, Nat.reduceEqDiff, Nat.reduceAdd, Nat.reduceLeDiff, reduceIte, reduceCtorEq]
  refine lfunG_freeze 1 1 [edv a, edv b] (TT := some 27) (by simp only [go_sem, hfa, hfb, List.flatMap_cons, List.flatMap_nil, lcondB_decide, lcondB_not, lguardB_decide_true, lguardB_decide_false, ldguardB_decide, Nat.reduceLT, Nat.reduceEqDiff, Nat.reduceAdd, Nat.reduceLeDiff, reduceIte, reduceCtorEq]) (by intro x hx; simp only [List.mem_cons, List.not_mem_nil, or_false] at hx; rcases hx with rfl | rfl; rw [hfa]; rfl; rw [hfb]; rfl) ?_
  simp +contextual only [go_sem, hlen, harg, pu_fz (edv_pu _), lcondB_decide, lcondB_not, lguardB_decide_true, lguardB_decide_false, ldguardB_decide, Nat.reduceLT, Nat.reduceEqDiff, Nat.reduceAdd, Nat.reduceLeDiff, reduceIte, reduceCtorEq]
  refine lfunG_eq (concat_ok _ [a, b] (eds_is [a, b]) (by simp) (by intro c hc; simp only [List.mem_cons, List.not_mem_nil, or_false] at hc; rcases hc with rfl | rfl <;> omega) _) ?_
  rw [show [a, b].flatten = a ++ b by simp]
  have hsl := edv_sl (a ++ b)
  generalize hL : a ++ b = L at *
  have hLl : L.length ≤ 4000 := by rw [← hL, List.length_append]; omega
  simp +contextual only [go_sem, hlen, harg, hsl.len, lcondB_decide, lcondB_not, lguardB_decide_true, lguardB_decide_false, ldguardB_decide, Nat.reduceLT, Nat.reduceEqDiff, Nat.reduceAdd, Nat.reduceLeDiff, reduceIte, reduceCtorEq]
  have hAl := accL_pos n L
  refine ⟨Nat, fun j => [(7, gsv 1 (nm s.nx 0) (accL n L j).length), (15, edv L), (16, .int .i64 L.length), (17, .int .i64 j)], fun j => loc s 1 [(0, gso 3 (inl_ (accL n L j)))], fun j => j ≤ L.length, fun j => L.length - j, 0, by simp, ?_, ?_⟩
  · refine To.go [0] [(0, some (.cells [.int .i64 0, .int .i64 n] (some 3)))] ?_ (.refl s) (by decide) (by simp) ?_ ?_
    · show loc s 1 [(0, gso 3 (inl_ (accL n L 0)))] = _
      rw [gso_pos (by simp [inl_, accL])]
      simp [ends, inl_, accL]
    · have hg0 : gsv 1 (nm s.nx 0) (accL n L 0).length = .rs 1 (nm s.nx 0) 0 2 := by rw [gsv_pos (hAl 0)]; simp [ends, accL]
      simp +contextual only [go_sem, hlen, harg, pu_fz (edv_pu _), pu_ren (edv_pu _), pu_ren hsl.pu, pu_fz hsl.pu, lcondB_decide, lcondB_not, lguardB_decide_true, lguardB_decide_false, ldguardB_decide, Nat.reduceLT, Nat.reduceEqDiff, Nat.reduceAdd, Nat.reduceLeDiff, reduceIte, reduceCtorEq]
      rw [hg0]
      simp only [go_sem, lcondB_decide, lcondB_not, lguardB_decide_true, lguardB_decide_false, ldguardB_decide, Nat.reduceLT, Nat.reduceEqDiff, Nat.reduceAdd, Nat.reduceLeDiff, reduceIte, reduceCtorEq]
      rfl
    · simp only [go_sem, lcondB_decide, lcondB_not, lguardB_decide_true, lguardB_decide_false, ldguardB_decide, Nat.reduceLT, Nat.reduceEqDiff, Nat.reduceAdd, Nat.reduceLeDiff, reduceIte, reduceCtorEq]
  · intro j tm1 hj hlen1 hlv
    simp only [go_sem, hlen, lcondB_decide, lcondB_not, lguardB_decide_true, lguardB_decide_false, ldguardB_decide, Nat.reduceLT, Nat.reduceEqDiff, Nat.reduceAdd, Nat.reduceLeDiff, reduceIte, reduceCtorEq] at hlen1 hlv
    simp +contextual only [go_sem, hlen, hlen1, hlv, lcondB_decide, lcondB_not, lguardB_decide_true, lguardB_decide_false, ldguardB_decide, Nat.reduceLT, Nat.reduceEqDiff, Nat.reduceAdd, Nat.reduceLeDiff, reduceIte, reduceCtorEq]
    refine ⟨fun hlt => ?_, fun hge => ?_⟩
    · have hj2 : j < L.length := by omega
      have hg := List.getElem?_eq_getElem hj2
      have hmem : L[j] ∈ L := List.getElem_mem hj2
      have htk := List.take_succ_eq_append_getElem hj2
      generalize L[j] = e at hg hmem htk
      obtain ⟨e1, e2, e3⟩ := he e hmem
      have hw1 : IntKind.i64.wrap (e.at_ + e.cut) = e.at_ + e.cut := wrap_id (by omega)
      have hw3 : IntKind.i64.wrap ((j : Int) + 1) = ((j + 1 : Nat) : Int) := by rw [wrap_id (by omega)]; rfl
      have hel := accL_len (n := n) (L := L) (j := j)
      have hA2 : accL n L (j + 1) = (accL n L j) ++ [e.at_, e.at_ + e.cut] := by rw [accL, htk, ends_snoc]; rfl
      simp +contextual only [go_sem, hlen1, hlv, hsl.at hg, hw1, lcondB_decide, lcondB_not, lguardB_decide_true, lguardB_decide_false, ldguardB_decide, Nat.reduceLT, Nat.reduceEqDiff, Nat.reduceAdd, Nat.reduceLeDiff, reduceIte, reduceCtorEq]
      refine lmem_eq (app22 (c := inl_ (accL n L j)) (acellsOf_rs (by simp only [go_sem, lcondB_decide, lcondB_not, lguardB_decide_true, lguardB_decide_false, ldguardB_decide, Nat.reduceLT, Nat.reduceEqDiff, Nat.reduceAdd, Nat.reduceLeDiff, reduceIte, reduceCtorEq]; rfl) (by rfl) rfl) (by decide) (by simp only [go_sem, lcondB_decide, lcondB_not, lguardB_decide_true, lguardB_decide_false, ldguardB_decide, Nat.reduceLT, Nat.reduceEqDiff, Nat.reduceAdd, Nat.reduceLeDiff, reduceIte, reduceCtorEq]) (by simp only [go_sem, lcondB_decide, lcondB_not, lguardB_decide_true, lguardB_decide_false, ldguardB_decide, Nat.reduceLT, Nat.reduceEqDiff, Nat.reduceAdd, Nat.reduceLeDiff, reduceIte, reduceCtorEq]) (by rw [inl_length]; omega) (by omega) rfl) ?_
      simp +contextual only [go_sem, hlen1, hlv, hw3, lcondB_decide, lcondB_not, lguardB_decide_true, lguardB_decide_false, ldguardB_decide, Nat.reduceLT, Nat.reduceEqDiff, Nat.reduceAdd, Nat.reduceLeDiff, reduceIte, reduceCtorEq]
      refine ⟨j + 1, by omega, by omega, ?_⟩
      refine To.go [3] [(0, gso 3 (inl_ (accL n L (j + 1))))] rfl (.refl s) (by decide) (by simp) ?_ ?_
      · rw [gsv_pos (hAl (j + 1)), hA2]
        simp +contextual only [go_sem, hlen1, hlv, pu_ren hsl.pu, List.length_append, lcondB_decide, lcondB_not, lguardB_decide_true, lguardB_decide_false, ldguardB_decide, Nat.reduceLT, Nat.reduceEqDiff, Nat.reduceAdd, Nat.reduceLeDiff, reduceIte, reduceCtorEq]
      · rw [hA2]
        simp only [go_sem, map_gso_pu (inl_pul _), lcondB_decide, lcondB_not, lguardB_decide_true, lguardB_decide_false, ldguardB_decide, Nat.reduceLT, Nat.reduceEqDiff, Nat.reduceAdd, Nat.reduceLeDiff, reduceIte, reduceCtorEq]
        rw [gso_pos (by simp [inl_])]
        simp [inl_]
    · have hj2 : j = L.length := by omega
      subst hj2
      have hAne := accL_ne n L L.length
      have hAll := accL_len (n := n) (L := L) (j := L.length)
      simp only [gsv_pos (hAl L.length)] at hlv ⊢
      rw [gso_pos (by simp [inl_, accL])]
      have hpl : placesL n a b = compact ((accL n L L.length).mergeSort fun x y => decide (x ≤ y)) := by rw [placesL, hL, accL, List.take_length]
      rw [hpl]
      generalize accL n L L.length = A at *
      refine lfunG_eq (sort_ok (b := nm s.nx 0) (L := A) (To := some 3) (by simp only [go_sem, lcondB_decide, lcondB_not, lguardB_decide_true, lguardB_decide_false, ldguardB_decide, Nat.reduceLT, Nat.reduceEqDiff, Nat.reduceAdd, Nat.reduceLeDiff, reduceIte, reduceCtorEq]; rfl) hAne (by omega)) ?_
      have hMl := List.length_mergeSort (le := fun x y : Int => decide (x ≤ y)) A
      generalize (A.mergeSort fun x y => decide (x ≤ y)) = M at hMl ⊢
      have hMne : M ≠ [] := by rintro rfl; exact hAne (List.eq_nil_of_length_eq_zero hMl.symm)
      simp +contextual only [go_sem, hlen1, hlv, ← hMl, lcondB_decide, lcondB_not, lguardB_decide_true, lguardB_decide_false, ldguardB_decide, Nat.reduceLT, Nat.reduceEqDiff, Nat.reduceAdd, Nat.reduceLeDiff, reduceIte, reduceCtorEq]
      refine lfunG_of (compact_ok (b := nm s.nx 0) (L := M) (Tt := some 3) (by simp only [go_sem, lcondB_decide, lcondB_not, lguardB_decide_true, lguardB_decide_false, ldguardB_decide, Nat.reduceLT, Nat.reduceEqDiff, Nat.reduceAdd, Nat.reduceLeDiff, reduceIte, reduceCtorEq]) (by simp only [go_sem, lcondB_decide, lcondB_not, lguardB_decide_true, lguardB_decide_false, ldguardB_decide, Nat.reduceLT, Nat.reduceEqDiff, Nat.reduceAdd, Nat.reduceLeDiff, reduceIte, reduceCtorEq]) (by omega)) ?_
      rintro _ t ⟨C, c1, c2, rfl, ht⟩
      have hcn := compact_ne hMne
      have hcl := compact_len M
      generalize compact M = Q at *
      have ht2 : t = loc s 1 [(0, some (.cells (C.map (AV.int .i64)) (some 3)))] := by
        rcases ht with ⟨rfl, rfl⟩ | rfl
        · rfl
        · simp only [go_sem, lcondB_decide, lcondB_not, lguardB_decide_true, lguardB_decide_false, ldguardB_decide, Nat.reduceLT, Nat.reduceEqDiff, Nat.reduceAdd, Nat.reduceLeDiff, reduceIte, reduceCtorEq]
      subst ht2
      simp +contextual only [go_sem, hlen1, hlv, lcondB_decide, lcondB_not, lguardB_decide_true, lguardB_decide_false, ldguardB_decide, Nat.reduceLT, Nat.reduceEqDiff, Nat.reduceAdd, Nat.reduceLeDiff, reduceIte, reduceCtorEq]
      refine lexit_trim 0 (Q.map (AV.int .i64)) ((C.drop Q.length).map (AV.int .i64)) (T := some 3) (by rw [← c1, List.length_take, c2, Nat.min_eq_left hcl, ← List.map_append, List.take_append_drop]; rfl) ?_
      simp only [go_sem, lcondB_decide, lcondB_not, lguardB_decide_true, lguardB_decide_false, ldguardB_decide, Nat.reduceLT, Nat.reduceEqDiff, Nat.reduceAdd, Nat.reduceLeDiff, reduceIte, reduceCtorEq]
      refine lexit_freeze 0 1 (inl_ Q) (T := some 3) (by simp only [go_sem, lcondB_decide, lcondB_not, lguardB_decide_true, lguardB_decide_false, ldguardB_decide, Nat.reduceLT, Nat.reduceEqDiff, Nat.reduceAdd, Nat.reduceLeDiff, reduceIte, reduceCtorEq]; rw [inl_flat]; rfl) (inl_cl Q) ?_
      rw [show (AV.rs 1 (nm s.nx 0) 0 Q.length) = gsv 1 (nm s.nx 0) Q.length from (gsv_pos (by intro h; exact hcn (List.eq_nil_of_length_eq_zero h))).symm, len_infz]
      exact lexit_pure (.refl s) (low.mono (Nat.zero_le _) (intv_pu _)) ⟨rfl, rfl⟩
end Go.S1N
end
section
set_option linter.unusedVariables false
set_option linter.unusedSimpArgs false
namespace Go.S1N
open Go Go.Am Go.Proofs Go.S1
set_option maxRecDepth 100000
set_option linter.unusedSimpArgs false
theorem lexit_go {s0 s1 : AHeap} {n : Nat} {l : List (Nat × Option AObj)} {v : AV} {R : AV → AHeap → Prop} (r : List Nat) (l' : List (Nat × Option AObj)) (v' : AV) (hs : OKo s0 s1) (hr : r.Nodup) (hv : v = ren (rnm s0.nx r (nm s0.nx n)) v')
    (ho : okObjs (rnm s0.nx r (nm s0.nx n)) r l l') (h : lexit s0 R (some v') (loc s1 r.length l')) : lexit s0 R (some v) (loc s1 n l) := by
  intro B hB K w us hw hvs hx
  obtain ⟨K', h1, h2, h3⟩ := ren_loc hB hw hx hs hr ho
  cases hvs with
  | cons _ u _ us hu hs' =>
    cases hs'
    exact h B hB K' w _ h1 (.cons _ _ _ _ (h3 _ _ (by rw [← hv]; exact hu)) .nil) h2
attribute [local irreducible] lopsB lvb lstepB lfunG lcondB lguardB ldrawB ldrunB ldstepB ldguardB lmem lval ldmem ldval ldfun lexit ldloadB ldlenB lpostB athen ablock
structure Mt where
  both : List Rn
  first : List Rn
  second : List Rn
  long : Int
def Mt.app (m k : Mt) : Mt := ⟨m.both ++ k.both, m.first ++ k.first, m.second ++ k.second, m.long + k.long⟩
def Mt.nil : Mt := ⟨[], [], [], 0⟩
theorem Mt.nil_app (m : Mt) : Mt.nil.app m = m := by simp [Mt.nil, Mt.app]
theorem Mt.app_nil (m : Mt) : m.app Mt.nil = m := by simp [Mt.nil, Mt.app]
theorem Mt.app_assoc (m k j : Mt) : (m.app k).app j = m.app (k.app j) := by simp [Mt.app, Int.add_assoc]
def mtA (a : List Ed) (p x : Int) : Mt := if hasAt a p then ⟨[⟨0, 0, insAt a p⟩], [⟨x, (insAt a p).length, []⟩], [⟨0, 0, insAt a p⟩], (insAt a p).length⟩ else .nil
def mtB (b : List Ed) (p y : Int) : Mt := if hasAt b p then ⟨[⟨0, 0, insAt b p⟩], [⟨0, 0, insAt b p⟩], [⟨y, (insAt b p).length, []⟩], (insAt b p).length⟩ else .nil
def mtK (k : Bool) (p x y z : Int) : Mt := if k then ⟨[⟨p, z, []⟩], [⟨x, z, []⟩], [⟨y, z, []⟩], z⟩ else .nil
def meetGo (a b : List Ed) : List Int → Int → Int → Mt
  | [], _, _ => .nil
  | [p], x, y => (mtA a p x).app (mtB b p y)
  | p :: q :: r, x, y => ((mtA a p x).app (mtB b p y)).app ((mtK (!goneB a p && !goneB b p) p (x + (insAt a p).length) (y + (insAt b p).length) (q - p)).app
      (meetGo a b (q :: r) (x + (insAt a p).length + if goneB a p then 0 else q - p) (y + (insAt b p).length + if goneB b p then 0 else q - p)))
def Mt.enc (m : Mt) : AV := .agg [rnv m.both, rnv m.first, rnv m.second, .int .i64 m.long]
theorem ints_atv {L : List Int} {i : Nat} {p : Int} (h : L[i]? = some p) : aindexAddr tab 22 (intv L) (.int .i64 i) = some (.rptr [.int .i64 p]) := ints_at' (intv_ints L) h
theorem rn_ne3 (l : List AV) (a b c : AV) : l ++ [a, b, c] ≠ [] := by simp
theorem mtA_len (m : Mt) (a : List Ed) (p x : Int) : (m.app (mtA a p x)).both.length ≤ m.both.length + 1 ∧ (m.app (mtA a p x)).first.length ≤ m.first.length + 1 ∧ (m.app (mtA a p x)).second.length ≤ m.second.length + 1 := by
  unfold mtA Mt.app Mt.nil
  split <;> simp
theorem mtA_long (a : List Ed) (p x : Int) : 0 ≤ (mtA a p x).long ∧ (mtA a p x).long ≤ (insAt a p).length := by
  unfold mtA Mt.nil
  split <;> simp
theorem mtB_len (m : Mt) (a : List Ed) (p x : Int) : (m.app (mtB a p x)).both.length ≤ m.both.length + 1 ∧ (m.app (mtB a p x)).first.length ≤ m.first.length + 1 ∧ (m.app (mtB a p x)).second.length ≤ m.second.length + 1 := by
  unfold mtB Mt.app Mt.nil
  split <;> simp
theorem mtB_long (a : List Ed) (p x : Int) : 0 ≤ (mtB a p x).long ∧ (mtB a p x).long ≤ (insAt a p).length := by
  unfold mtB Mt.nil
  split <;> simp
theorem map_gso_fz {e : TypeId} {c : List AV} (h : PuL c) : ∀ b sz xs, (gso e c).map (fzO b sz xs) = gso e c := by
  intro b sz xs
  unfold gso
  split
  · rfl
  · simp only [Option.map_some, fzO, pul_fz h]
theorem meet_end {s : AHeap} {R : AV → AHeap → Prop} (m : Mt) (h : R m.enc s) : lexit s R (some (.agg [gsv 3 (nm s.nx 2) m.both.length, gsv 3 (nm s.nx 3) m.first.length, gsv 3 (nm s.nx 4) m.second.length, .int .i64 m.long]))
    (loc s 5 [(2, gso 111 (rnc m.both)), (3, gso 111 (rnc m.first)), (4, gso 111 (rnc m.second))]) := by
  refine lexit_freezeG 2 3 (m.both.map Rn.enc) (by simp only [go_sem, lcondB_decide, lcondB_not, lguardB_decide_true, lguardB_decide_false, ldguardB_decide, Nat.reduceLT, Nat.reduceEqDiff, Nat.reduceAdd, Nat.reduceLeDiff, reduceIte, reduceCtorEq]; rfl) (rn_len _) (by decide) ?_
  simp only [go_sem, len_rnfz, map_gso_fz (rnc_pul _), fz_gsv_ne (show nm s.nx 3 ≠ nm s.nx 2 by simp only [ne_eq, nm_inj]; decide), fz_gsv_ne (show nm s.nx 4 ≠ nm s.nx 2 by simp only [ne_eq, nm_inj]; decide), lcondB_decide, lcondB_not, lguardB_decide_true, lguardB_decide_false, ldguardB_decide, Nat.reduceLT, Nat.reduceEqDiff, Nat.reduceAdd, Nat.reduceLeDiff, reduceIte, reduceCtorEq]
  refine lexit_freezeG 3 3 (m.first.map Rn.enc) (by simp only [go_sem, lcondB_decide, lcondB_not, lguardB_decide_true, lguardB_decide_false, ldguardB_decide, Nat.reduceLT, Nat.reduceEqDiff, Nat.reduceAdd, Nat.reduceLeDiff, reduceIte, reduceCtorEq]; rfl) (rn_len _) (by decide) ?_
  simp only [go_sem, len_rnfz, map_gso_fz (rnc_pul _), pu_fz (rnv_pu _), fz_gsv_ne (show nm s.nx 4 ≠ nm s.nx 3 by simp only [ne_eq, nm_inj]; decide), lcondB_decide, lcondB_not, lguardB_decide_true, lguardB_decide_false, ldguardB_decide, Nat.reduceLT, Nat.reduceEqDiff, Nat.reduceAdd, Nat.reduceLeDiff, reduceIte, reduceCtorEq]
  refine lexit_freezeG 4 3 (m.second.map Rn.enc) (by simp only [go_sem, lcondB_decide, lcondB_not, lguardB_decide_true, lguardB_decide_false, ldguardB_decide, Nat.reduceLT, Nat.reduceEqDiff, Nat.reduceAdd, Nat.reduceLeDiff, reduceIte, reduceCtorEq]; rfl) (rn_len _) (by decide) ?_
  simp only [go_sem, len_rnfz, pu_fz (rnv_pu _), lcondB_decide, lcondB_not, lguardB_decide_true, lguardB_decide_false, ldguardB_decide, Nat.reduceLT, Nat.reduceEqDiff, Nat.reduceAdd, Nat.reduceLeDiff, reduceIte, reduceCtorEq]
  refine lexit_pure (.refl s) ?_ h
  simp only [low, lowL, and_true]
  exact ⟨low.mono (Nat.zero_le _) (rnv_pu _), low.mono (Nat.zero_le _) (rnv_pu _), low.mono (Nat.zero_le _) (rnv_pu _)⟩
theorem mtK_false {p x y z : Int} : mtK false p x y z = .nil := rfl
set_option maxHeartbeats 4000000 in
theorem meet_ok (n : Int) (hn : 0 ≤ n ∧ n ≤ 1000000) (a b : List Ed) (ha : a.length ≤ 2000) (hb : b.length ≤ 2000) (hra : RS n a) (hrb : RS n b) (hia : ∀ p, (insAt a p).length ≤ 100000) (hib : ∀ p, (insAt b p).length ≤ 100000)
    (hpl : ∀ p ∈ placesL n a b, 0 ≤ p ∧ p ≤ 1000000) (hpl2 : (placesL n a b).length ≤ 10000) (hmono : ∀ (i : Nat) (p q : Int), (placesL n a b)[i]? = some p → (placesL n a b)[i + 1]? = some q → p ≤ q) (s : AHeap) :
    ACall Try.prog 111 [.int .i64 n, edv a, edv b] s fun r t => r = (meetGo a b (placesL n a b) 0 0).enc ∧ t = s := by
  refine gob111 (by simp) ?_
  intro tm hlen harg
  have hsa := edv_sl a
  have hsb := edv_sl b
  simp +contextual only [go_sem, L111, hlen, harg, lcondB_decide, lcondB_not, lguardB_decide_true, lguardB_decide_false, ldguardB_decide, Nat.reduceLT, Nat.reduceEqDiff, Nat.reduceAdd, Nat.reduceLeDiff, reduceIte, reduceCtorEq]
  refine lfunG_eq (places_ok n hn a b ha hb (by intro e he; rcases List.mem_append.1 he with h | h; exact hra.each e h; exact hrb.each e h) _) ?_
  generalize hP : placesL n a b = P at *
  simp +contextual only [go_sem, hlen, harg, (intv_ints P).len, lcondB_decide, lcondB_not, lguardB_decide_true, lguardB_decide_false, ldguardB_decide, Nat.reduceLT, Nat.reduceEqDiff, Nat.reduceAdd, Nat.reduceLeDiff, reduceIte, reduceCtorEq]
  refine ⟨Nat × Int × Int × Mt, fun w => [(0, .int .i64 n), (1, edv a), (2, edv b), (6, .ptr (nm s.nx 0) 0), (7, .ptr (nm s.nx 1) 0), (8, .int .i64 w.2.1), (9, .int .i64 w.2.2.1), (10, intv P), (24, intv P), (25, .int .i64 P.length), (26, .int .i64 w.1)],
    fun w => loc s 5 [(0, some (.cells [.nils, .nils, .nils, .int .i64 0] (some 164))), (1, some (.cells [gsv 3 (nm s.nx 2) w.2.2.2.both.length, gsv 3 (nm s.nx 3) w.2.2.2.first.length, gsv 3 (nm s.nx 4) w.2.2.2.second.length, .int .i64 w.2.2.2.long] (some 164))),
      (2, gso 111 (rnc w.2.2.2.both)), (3, gso 111 (rnc w.2.2.2.first)), (4, gso 111 (rnc w.2.2.2.second))],
    fun w => w.1 ≤ P.length ∧ 0 ≤ w.2.1 ∧ w.2.1 ≤ w.1 * 2000000 ∧ 0 ≤ w.2.2.1 ∧ w.2.2.1 ≤ w.1 * 2000000 ∧ 0 ≤ w.2.2.2.long ∧ w.2.2.2.long ≤ w.1 * 4000000 ∧ w.2.2.2.both.length ≤ 3 * w.1 ∧ w.2.2.2.first.length ≤ 3 * w.1 ∧ w.2.2.2.second.length ≤ 3 * w.1 ∧
      w.2.2.2.app (meetGo a b (P.drop w.1) w.2.1 w.2.2.1) = meetGo a b P 0 0,
    fun w => P.length - w.1, (0, 0, 0, .nil), ⟨by simp, by simp, by simp, by simp, by simp, by simp [Mt.nil], by simp [Mt.nil], by simp [Mt.nil], by simp [Mt.nil], by simp [Mt.nil], by rw [Mt.nil_app]; rfl⟩, ?_, ?_⟩
  · refine To.go [0, 1, 10, 11, 12] [(0, some (.cells [.nils, .nils, .nils, .int .i64 0] (some 164))), (1, some (.cells [.nils, .nils, .nils, .int .i64 0] (some 164))), (2, none), (3, none), (4, none)] (by simp only [Mt.nil, rnc, List.map_nil, List.flatMap_nil, gso_nil, List.length_nil, gsv_zero]; rfl) (.refl s) (by decide) (by simp) ?_ ?_
    · simp +contextual only [go_sem, hlen, harg, pu_ren (edv_pu _), pu_ren (intv_pu _), lcondB_decide, lcondB_not, lguardB_decide_true, lguardB_decide_false, ldguardB_decide, Nat.reduceLT, Nat.reduceEqDiff, Nat.reduceAdd, Nat.reduceLeDiff, reduceIte, reduceCtorEq]
      rfl
    · simp only [go_sem, lcondB_decide, lcondB_not, lguardB_decide_true, lguardB_decide_false, ldguardB_decide, Nat.reduceLT, Nat.reduceEqDiff, Nat.reduceAdd, Nat.reduceLeDiff, reduceIte, reduceCtorEq]
  · rintro ⟨i, x, y, m⟩ tm1 ⟨hi, hx0, hx1, hy0, hy1, hl0, hl1, hB, hF, hS, hE⟩ hlen1 hlv
    simp only [go_sem, hlen, lcondB_decide, lcondB_not, lguardB_decide_true, lguardB_decide_false, ldguardB_decide, Nat.reduceLT, Nat.reduceEqDiff, Nat.reduceAdd, Nat.reduceLeDiff, reduceIte, reduceCtorEq] at hlen1 hlv hi hx0 hx1 hy0 hy1 hl0 hl1 hB hF hS hE
    simp +contextual only [go_sem, hlen, hlen1, hlv, lcondB_decide, lcondB_not, lguardB_decide_true, lguardB_decide_false, ldguardB_decide, Nat.reduceLT, Nat.reduceEqDiff, Nat.reduceAdd, Nat.reduceLeDiff, reduceIte, reduceCtorEq]
    refine ⟨fun hlt => ?_, fun hge => ?_⟩
    · have hi2 : i < P.length := by omega
      have hg := List.getElem?_eq_getElem hi2
      have hmem : P[i] ∈ P := List.getElem_mem hi2
      have hdrop := List.drop_eq_getElem_cons hi2
      generalize P[i] = p at hg hmem hdrop
      obtain ⟨hp0, hp1⟩ := hpl p hmem
      have hA1 := hia p
      have hB1 := hib p
      simp +contextual only [go_sem, hlen1, hlv, ints_atv hg, lcondB_decide, lcondB_not, lguardB_decide_true, lguardB_decide_false, ldguardB_decide, Nat.reduceLT, Nat.reduceEqDiff, Nat.reduceAdd, Nat.reduceLeDiff, reduceIte, reduceCtorEq]
      refine lfunG_eq (at_ok n hn.2 _ a p hsa ha hra ⟨hp0, hp1⟩ _) ?_
      simp +contextual only [go_sem, hlen1, hlv, Nat.reduceLT, Nat.reduceEqDiff, Nat.reduceAdd, Nat.reduceLeDiff, reduceIte, reduceCtorEq]
      have hw1 : IntKind.i64.wrap (x + ((insAt a p).length : Int)) = x + (insAt a p).length := wrap_id (by omega)
      have hw2 : IntKind.i64.wrap (m.long + ((insAt a p).length : Int)) = m.long + (insAt a p).length := wrap_id (by omega)
      have hmA := mtA_len m a p x
      have hlA := mtA_long a p x
      have hlA2 : (m.app (mtA a p x)).long = m.long + (mtA a p x).long := rfl
      cases hhA : hasAt a p
      case' true =>
        simp +contextual only [go_sem, hlen1, hlv, lcondB_decide, lcondB_not, lguardB_decide_true, lguardB_decide_false, ldguardB_decide, Nat.reduceLT, Nat.reduceEqDiff, Nat.reduceAdd, Nat.reduceLeDiff, reduceIte, reduceCtorEq]
        refine ldrawB_go [] [(1, 1), (7, 0), (7, 1), (7, 3), (15, 0), (15, 1), (15, 2), (15, 3), (15, 5)] 21 (by decide) ?_
        simp +contextual only [go_sem, hlen1, hlv, lcondB_decide, lcondB_not, lguardB_decide_true, lguardB_decide_false, ldguardB_decide, Nat.reduceLT, Nat.reduceEqDiff, Nat.reduceAdd, Nat.reduceLeDiff, reduceIte, reduceCtorEq]
        refine ldfun_pure _ (fresh_ok _) ?_
        simp +contextual only [go_sem, hlen1, hlv, Rn.enc, lcondB_decide, lcondB_not, lguardB_decide_true, lguardB_decide_false, ldguardB_decide, Nat.reduceLT, Nat.reduceEqDiff, Nat.reduceAdd, Nat.reduceLeDiff, reduceIte, reduceCtorEq]
        refine ldmem_eq (app108 (acellsOf_rs (by simp only [go_sem, lcondB_decide, lcondB_not, lguardB_decide_true, lguardB_decide_false, ldguardB_decide, Nat.reduceLT, Nat.reduceEqDiff, Nat.reduceAdd, Nat.reduceLeDiff, reduceIte, reduceCtorEq]; rfl) (by rfl) rfl) (by decide) (by simp only [go_sem, lcondB_decide, lcondB_not, lguardB_decide_true, lguardB_decide_false, ldguardB_decide, Nat.reduceLT, Nat.reduceEqDiff, Nat.reduceAdd, Nat.reduceLeDiff, reduceIte, reduceCtorEq]) (by simp only [go_sem, lcondB_decide, lcondB_not, lguardB_decide_true, lguardB_decide_false, ldguardB_decide, Nat.reduceLT, Nat.reduceEqDiff, Nat.reduceAdd, Nat.reduceLeDiff, reduceIte, reduceCtorEq]) (rnc_len m.both) (by omega) rfl) ?_
        simp +contextual only [go_sem, hlen1, hlv, lcondB_decide, lcondB_not, lguardB_decide_true, lguardB_decide_false, ldguardB_decide, Nat.reduceLT, Nat.reduceEqDiff, Nat.reduceAdd, Nat.reduceLeDiff, reduceIte, reduceCtorEq]
        refine ldfun_pure _ (kept_ok _ _) ?_
        simp +contextual only [go_sem, hlen1, hlv, Rn.enc, lcondB_decide, lcondB_not, lguardB_decide_true, lguardB_decide_false, ldguardB_decide, Nat.reduceLT, Nat.reduceEqDiff, Nat.reduceAdd, Nat.reduceLeDiff, reduceIte, reduceCtorEq]
        refine ldmem_eq (app108 (acellsOf_rs (by simp only [go_sem, lcondB_decide, lcondB_not, lguardB_decide_true, lguardB_decide_false, ldguardB_decide, Nat.reduceLT, Nat.reduceEqDiff, Nat.reduceAdd, Nat.reduceLeDiff, reduceIte, reduceCtorEq]; rfl) (by rfl) rfl) (by decide) (by simp only [go_sem, lcondB_decide, lcondB_not, lguardB_decide_true, lguardB_decide_false, ldguardB_decide, Nat.reduceLT, Nat.reduceEqDiff, Nat.reduceAdd, Nat.reduceLeDiff, reduceIte, reduceCtorEq]) (by simp only [go_sem, lcondB_decide, lcondB_not, lguardB_decide_true, lguardB_decide_false, ldguardB_decide, Nat.reduceLT, Nat.reduceEqDiff, Nat.reduceAdd, Nat.reduceLeDiff, reduceIte, reduceCtorEq]) (rnc_len m.first) (by omega) rfl) ?_
        simp +contextual only [go_sem, hlen1, hlv, lcondB_decide, lcondB_not, lguardB_decide_true, lguardB_decide_false, ldguardB_decide, Nat.reduceLT, Nat.reduceEqDiff, Nat.reduceAdd, Nat.reduceLeDiff, reduceIte, reduceCtorEq]
        refine ldfun_pure _ (fresh_ok _) ?_
        simp +contextual only [go_sem, hlen1, hlv, Rn.enc, lcondB_decide, lcondB_not, lguardB_decide_true, lguardB_decide_false, ldguardB_decide, Nat.reduceLT, Nat.reduceEqDiff, Nat.reduceAdd, Nat.reduceLeDiff, reduceIte, reduceCtorEq]
        refine ldmem_eq (app108 (acellsOf_rs (by simp only [go_sem, lcondB_decide, lcondB_not, lguardB_decide_true, lguardB_decide_false, ldguardB_decide, Nat.reduceLT, Nat.reduceEqDiff, Nat.reduceAdd, Nat.reduceLeDiff, reduceIte, reduceCtorEq]; rfl) (by rfl) rfl) (by decide) (by simp only [go_sem, lcondB_decide, lcondB_not, lguardB_decide_true, lguardB_decide_false, ldguardB_decide, Nat.reduceLT, Nat.reduceEqDiff, Nat.reduceAdd, Nat.reduceLeDiff, reduceIte, reduceCtorEq]) (by simp only [go_sem, lcondB_decide, lcondB_not, lguardB_decide_true, lguardB_decide_false, ldguardB_decide, Nat.reduceLT, Nat.reduceEqDiff, Nat.reduceAdd, Nat.reduceLeDiff, reduceIte, reduceCtorEq]) (rnc_len m.second) (by omega) rfl) ?_
        simp (config := { contextual := true, maxSteps := 4000000 }) only [go_sem, hlen1, hlv, hw1, hw2, lcondB_decide, lcondB_not, lguardB_decide_true, lguardB_decide_false, ldguardB_decide, Nat.reduceLT, Nat.reduceEqDiff, Nat.reduceAdd, Nat.reduceLeDiff, reduceIte, reduceCtorEq]
        refine ⟨by kernel_rfl, ?_⟩
        refine lfunG_to (lv := [(0, .int .i64 n), (1, edv a), (2, edv b), (6, .ptr (nm s.nx 0) 0), (7, .ptr (nm s.nx 1) 0), (10, intv P), (24, intv P), (25, .int .i64 P.length), (26, .int .i64 i), (11, .int .i64 i), (12, .int .i64 p), (8, .int .i64 (x + (insAt a p).length)), (9, .int .i64 y), (72, edv b), (73, .int .i64 p)])
          (h := loc s 5 [(0, some (.cells [.nils, .nils, .nils, .int .i64 0] (some 164))), (1, some (.cells [gsv 3 (nm s.nx 2) (m.app (mtA a p x)).both.length, gsv 3 (nm s.nx 3) (m.app (mtA a p x)).first.length, gsv 3 (nm s.nx 4) (m.app (mtA a p x)).second.length, .int .i64 (m.app (mtA a p x)).long] (some 164))), (2, gso 111 (rnc (m.app (mtA a p x)).both)), (3, gso 111 (rnc (m.app (mtA a p x)).first)), (4, gso 111 (rnc (m.app (mtA a p x)).second))])
          (To.go [0, 1, 27, 29, 31] _ rfl (.refl s) (by decide) (by simp)
            (by
              simp (config := { contextual := true, maxSteps := 4000000 }) only [go_sem, hlen1, hlv, pu_ren (edv_pu _), pu_ren (intv_pu _), lcondB_decide, lcondB_not, lguardB_decide_true, lguardB_decide_false, ldguardB_decide, Nat.reduceLT, Nat.reduceEqDiff, Nat.reduceAdd, Nat.reduceLeDiff, reduceIte, reduceCtorEq]
            )
            (by
              rw [show (m.app (mtA a p x)).both = m.both ++ [⟨0, 0, insAt a p⟩] from by simp [Mt.app, mtA, hhA], show (m.app (mtA a p x)).first = m.first ++ [⟨x, (insAt a p).length, []⟩] from by simp [Mt.app, mtA, hhA], show (m.app (mtA a p x)).second = m.second ++ [⟨0, 0, insAt a p⟩] from by simp [Mt.app, mtA, hhA], show (m.app (mtA a p x)).long = m.long + (insAt a p).length from by simp [Mt.app, mtA, hhA]]
              simp only [go_sem, map_gso_pu (rnc_pul _), ren_gsv, lcondB_decide, lcondB_not, lguardB_decide_true, lguardB_decide_false, ldguardB_decide, Nat.reduceLT, Nat.reduceEqDiff, Nat.reduceAdd, Nat.reduceLeDiff, reduceIte, reduceCtorEq]
              simp only [go_sem, rnc_snoc, gso_pos (rn_ne3 _ _ _ _), List.length_append, gsv_pos (Nat.succ_ne_zero _), lcondB_decide, lcondB_not, lguardB_decide_true, lguardB_decide_false, ldguardB_decide, Nat.reduceLT, Nat.reduceEqDiff, Nat.reduceAdd, Nat.reduceLeDiff, reduceIte, reduceCtorEq]
            )) ?_
      case' false =>
        have h0 := ((has_at hra p).2 hhA).1
        have hm0 : m.app (mtA a p x) = m := by rw [mtA, hhA]; exact Mt.app_nil m
        simp +contextual only [go_sem, hlen1, hlv, lcondB_decide, lcondB_not, lguardB_decide_true, lguardB_decide_false, ldguardB_decide, Nat.reduceLT, Nat.reduceEqDiff, Nat.reduceAdd, Nat.reduceLeDiff, reduceIte, reduceCtorEq]
        refine lfunG_to (lv := [(0, .int .i64 n), (1, edv a), (2, edv b), (6, .ptr (nm s.nx 0) 0), (7, .ptr (nm s.nx 1) 0), (10, intv P), (24, intv P), (25, .int .i64 P.length), (26, .int .i64 i), (11, .int .i64 i), (12, .int .i64 p), (8, .int .i64 (x + (insAt a p).length)), (9, .int .i64 y), (72, edv b), (73, .int .i64 p)])
          (h := loc s 5 [(0, some (.cells [.nils, .nils, .nils, .int .i64 0] (some 164))), (1, some (.cells [gsv 3 (nm s.nx 2) (m.app (mtA a p x)).both.length, gsv 3 (nm s.nx 3) (m.app (mtA a p x)).first.length, gsv 3 (nm s.nx 4) (m.app (mtA a p x)).second.length, .int .i64 (m.app (mtA a p x)).long] (some 164))), (2, gso 111 (rnc (m.app (mtA a p x)).both)), (3, gso 111 (rnc (m.app (mtA a p x)).first)), (4, gso 111 (rnc (m.app (mtA a p x)).second))])
          (To.go [0, 1, 2, 3, 4] _ rfl (.refl s) (by decide) (by simp)
            (by
              rw [h0]
              simp +contextual only [go_sem, hlen1, hlv, pu_ren (edv_pu _), pu_ren (intv_pu _), List.length_nil, lcondB_decide, lcondB_not, lguardB_decide_true, lguardB_decide_false, ldguardB_decide, Nat.reduceLT, Nat.reduceEqDiff, Nat.reduceAdd, Nat.reduceLeDiff, reduceIte, reduceCtorEq]
              simp
            )
            (by
              rw [hm0]
              simp only [go_sem, map_gso_pu (rnc_pul _), ren_gsv, lcondB_decide, lcondB_not, lguardB_decide_true, lguardB_decide_false, ldguardB_decide, Nat.reduceLT, Nat.reduceEqDiff, Nat.reduceAdd, Nat.reduceLeDiff, reduceIte, reduceCtorEq]
            )) ?_
      all_goals
        intro tm2 hlen2 hlv2
        simp only [go_sem, hlen1, lcondB_decide, lcondB_not, lguardB_decide_true, lguardB_decide_false, ldguardB_decide, Nat.reduceLT, Nat.reduceEqDiff, Nat.reduceAdd, Nat.reduceLeDiff, reduceIte, reduceCtorEq] at hlen2 hlv2
        generalize hm1 : m.app (mtA a p x) = m1 at *
        generalize hx1v : x + ((insAt a p).length : Int) = x1 at *
        simp +contextual only [go_sem, hlen2, hlv2, lcondB_decide, lcondB_not, lguardB_decide_true, lguardB_decide_false, ldguardB_decide, Nat.reduceLT, Nat.reduceEqDiff, Nat.reduceAdd, Nat.reduceLeDiff, reduceIte, reduceCtorEq]
        refine lfunG_eq (at_ok n hn.2 _ b p hsb hb hrb ⟨hp0, hp1⟩ _) ?_
        simp +contextual only [go_sem, hlen2, hlv2, Nat.reduceLT, Nat.reduceEqDiff, Nat.reduceAdd, Nat.reduceLeDiff, reduceIte, reduceCtorEq]
        have hw3 : IntKind.i64.wrap (y + ((insAt b p).length : Int)) = y + (insAt b p).length := wrap_id (by omega)
        have hw4 : IntKind.i64.wrap (m1.long + ((insAt b p).length : Int)) = m1.long + (insAt b p).length := wrap_id (by omega)
        have hmB := mtB_len m1 b p y
        have hlB := mtB_long b p y
        have hlB2 : (m1.app (mtB b p y)).long = m1.long + (mtB b p y).long := rfl
        have hw5 : IntKind.i64.wrap ((P.length : Int) - 1) = ((P.length - 1 : Nat) : Int) := by rw [wrap_id (by omega)]; omega
        cases hhB : hasAt b p
        case' true =>
          simp +contextual only [go_sem, hlen2, hlv2, lcondB_decide, lcondB_not, lguardB_decide_true, lguardB_decide_false, ldguardB_decide, Nat.reduceLT, Nat.reduceEqDiff, Nat.reduceAdd, Nat.reduceLeDiff, reduceIte, reduceCtorEq]
          refine ldrawB_go [] [(1, 1), (7, 0), (7, 1), (7, 3), (13, 0), (13, 1), (13, 2), (13, 3), (13, 5)] 21 (by decide) ?_
          simp +contextual only [go_sem, hlen2, hlv2, lcondB_decide, lcondB_not, lguardB_decide_true, lguardB_decide_false, ldguardB_decide, Nat.reduceLT, Nat.reduceEqDiff, Nat.reduceAdd, Nat.reduceLeDiff, reduceIte, reduceCtorEq]
          refine ldfun_pure _ (fresh_ok _) ?_
          simp +contextual only [go_sem, hlen2, hlv2, Rn.enc, lcondB_decide, lcondB_not, lguardB_decide_true, lguardB_decide_false, ldguardB_decide, Nat.reduceLT, Nat.reduceEqDiff, Nat.reduceAdd, Nat.reduceLeDiff, reduceIte, reduceCtorEq]
          refine ldmem_eq (app108 (acellsOf_rs (by simp only [go_sem, lcondB_decide, lcondB_not, lguardB_decide_true, lguardB_decide_false, ldguardB_decide, Nat.reduceLT, Nat.reduceEqDiff, Nat.reduceAdd, Nat.reduceLeDiff, reduceIte, reduceCtorEq]; rfl) (by rfl) rfl) (by decide) (by simp only [go_sem, lcondB_decide, lcondB_not, lguardB_decide_true, lguardB_decide_false, ldguardB_decide, Nat.reduceLT, Nat.reduceEqDiff, Nat.reduceAdd, Nat.reduceLeDiff, reduceIte, reduceCtorEq]) (by simp only [go_sem, lcondB_decide, lcondB_not, lguardB_decide_true, lguardB_decide_false, ldguardB_decide, Nat.reduceLT, Nat.reduceEqDiff, Nat.reduceAdd, Nat.reduceLeDiff, reduceIte, reduceCtorEq]) (rnc_len m1.both) (by omega) rfl) ?_
          simp +contextual only [go_sem, hlen2, hlv2, lcondB_decide, lcondB_not, lguardB_decide_true, lguardB_decide_false, ldguardB_decide, Nat.reduceLT, Nat.reduceEqDiff, Nat.reduceAdd, Nat.reduceLeDiff, reduceIte, reduceCtorEq]
          refine ldfun_pure _ (fresh_ok _) ?_
          simp +contextual only [go_sem, hlen2, hlv2, Rn.enc, lcondB_decide, lcondB_not, lguardB_decide_true, lguardB_decide_false, ldguardB_decide, Nat.reduceLT, Nat.reduceEqDiff, Nat.reduceAdd, Nat.reduceLeDiff, reduceIte, reduceCtorEq]
          refine ldmem_eq (app108 (acellsOf_rs (by simp only [go_sem, lcondB_decide, lcondB_not, lguardB_decide_true, lguardB_decide_false, ldguardB_decide, Nat.reduceLT, Nat.reduceEqDiff, Nat.reduceAdd, Nat.reduceLeDiff, reduceIte, reduceCtorEq]; rfl) (by rfl) rfl) (by decide) (by simp only [go_sem, lcondB_decide, lcondB_not, lguardB_decide_true, lguardB_decide_false, ldguardB_decide, Nat.reduceLT, Nat.reduceEqDiff, Nat.reduceAdd, Nat.reduceLeDiff, reduceIte, reduceCtorEq]) (by simp only [go_sem, lcondB_decide, lcondB_not, lguardB_decide_true, lguardB_decide_false, ldguardB_decide, Nat.reduceLT, Nat.reduceEqDiff, Nat.reduceAdd, Nat.reduceLeDiff, reduceIte, reduceCtorEq]) (rnc_len m1.first) (by omega) rfl) ?_
          simp +contextual only [go_sem, hlen2, hlv2, lcondB_decide, lcondB_not, lguardB_decide_true, lguardB_decide_false, ldguardB_decide, Nat.reduceLT, Nat.reduceEqDiff, Nat.reduceAdd, Nat.reduceLeDiff, reduceIte, reduceCtorEq]
          refine ldfun_pure _ (kept_ok _ _) ?_
          simp +contextual only [go_sem, hlen2, hlv2, Rn.enc, lcondB_decide, lcondB_not, lguardB_decide_true, lguardB_decide_false, ldguardB_decide, Nat.reduceLT, Nat.reduceEqDiff, Nat.reduceAdd, Nat.reduceLeDiff, reduceIte, reduceCtorEq]
          refine ldmem_eq (app108 (acellsOf_rs (by simp only [go_sem, lcondB_decide, lcondB_not, lguardB_decide_true, lguardB_decide_false, ldguardB_decide, Nat.reduceLT, Nat.reduceEqDiff, Nat.reduceAdd, Nat.reduceLeDiff, reduceIte, reduceCtorEq]; rfl) (by rfl) rfl) (by decide) (by simp only [go_sem, lcondB_decide, lcondB_not, lguardB_decide_true, lguardB_decide_false, ldguardB_decide, Nat.reduceLT, Nat.reduceEqDiff, Nat.reduceAdd, Nat.reduceLeDiff, reduceIte, reduceCtorEq]) (by simp only [go_sem, lcondB_decide, lcondB_not, lguardB_decide_true, lguardB_decide_false, ldguardB_decide, Nat.reduceLT, Nat.reduceEqDiff, Nat.reduceAdd, Nat.reduceLeDiff, reduceIte, reduceCtorEq]) (rnc_len m1.second) (by omega) rfl) ?_
          simp (config := { contextual := true, maxSteps := 4000000 }) only [go_sem, hlen2, hlv2, hw3, hw4, hw5, (intv_ints P).len, lcondB_decide, lcondB_not, lguardB_decide_true, lguardB_decide_false, ldguardB_decide, Nat.reduceLT, Nat.reduceEqDiff, Nat.reduceAdd, Nat.reduceLeDiff, reduceIte, reduceCtorEq]
          refine ⟨by kernel_rfl, ?_, ?_⟩
          · intro hlast
            have hP2 : P.drop (i + 1) = [] := List.drop_eq_nil_iff.2 (by omega)
            have hfin : m1.app (mtB b p y) = meetGo a b P 0 0 := by rw [← hE, hdrop, hP2, meetGo, ← Mt.app_assoc, hm1]
            refine lexit_go [0, 1, 27, 29, 31] [(2, gso 111 (rnc (m1.app (mtB b p y)).both)), (3, gso 111 (rnc (m1.app (mtB b p y)).first)), (4, gso 111 (rnc (m1.app (mtB b p y)).second))] (.agg [gsv 3 (nm s.nx 2) (m1.app (mtB b p y)).both.length, gsv 3 (nm s.nx 3) (m1.app (mtB b p y)).first.length, gsv 3 (nm s.nx 4) (m1.app (mtB b p y)).second.length, .int .i64 (m1.app (mtB b p y)).long]) (.refl s) (by decide)
              (by
                rw [show (m1.app (mtB b p y)).both = m1.both ++ [⟨0, 0, insAt b p⟩] from by simp [Mt.app, mtB, hhB], show (m1.app (mtB b p y)).first = m1.first ++ [⟨0, 0, insAt b p⟩] from by simp [Mt.app, mtB, hhB], show (m1.app (mtB b p y)).second = m1.second ++ [⟨y, (insAt b p).length, []⟩] from by simp [Mt.app, mtB, hhB], show (m1.app (mtB b p y)).long = m1.long + (insAt b p).length from by simp [Mt.app, mtB, hhB]]
                simp only [go_sem, List.length_append, gsv_pos (Nat.succ_ne_zero _), lcondB_decide, lcondB_not, lguardB_decide_true, lguardB_decide_false, ldguardB_decide, Nat.reduceLT, Nat.reduceEqDiff, Nat.reduceAdd, Nat.reduceLeDiff, reduceIte, reduceCtorEq]
              )
              (by
                rw [show (m1.app (mtB b p y)).both = m1.both ++ [⟨0, 0, insAt b p⟩] from by simp [Mt.app, mtB, hhB], show (m1.app (mtB b p y)).first = m1.first ++ [⟨0, 0, insAt b p⟩] from by simp [Mt.app, mtB, hhB], show (m1.app (mtB b p y)).second = m1.second ++ [⟨y, (insAt b p).length, []⟩] from by simp [Mt.app, mtB, hhB]]
                simp only [go_sem, map_gso_pu (rnc_pul _), ren_gsv, lcondB_decide, lcondB_not, lguardB_decide_true, lguardB_decide_false, ldguardB_decide, Nat.reduceLT, Nat.reduceEqDiff, Nat.reduceAdd, Nat.reduceLeDiff, reduceIte, reduceCtorEq]
                simp only [go_sem, rnc_snoc, gso_pos (rn_ne3 _ _ _ _), List.length_append, gsv_pos (Nat.succ_ne_zero _), lcondB_decide, lcondB_not, lguardB_decide_true, lguardB_decide_false, ldguardB_decide, Nat.reduceLT, Nat.reduceEqDiff, Nat.reduceAdd, Nat.reduceLeDiff, reduceIte, reduceCtorEq]
              ) ?_
            exact meet_end _ ⟨by rw [hfin], rfl⟩
          intro hlast
          have hi3 : i + 1 < P.length := by omega
          have hgq := List.getElem?_eq_getElem hi3
          have hmq : P[i + 1] ∈ P := List.getElem_mem hi3
          have hdrop2 := List.drop_eq_getElem_cons hi3
          generalize P[i + 1] = q at hgq hmq hdrop2
          obtain ⟨hq0, hq1⟩ := hpl q hmq
          have hwi : IntKind.i64.wrap ((i : Int) + 1) = ((i + 1 : Nat) : Int) := by rw [wrap_id (by omega)]; rfl
          have hwq : IntKind.i64.wrap (q - p) = q - p := wrap_id (by omega)
          simp (config := { contextual := true, maxSteps := 4000000 }) only [go_sem, hlen2, hlv2, hwi, hwq, ints_atv hgq, lcondB_decide, lcondB_not, lguardB_decide_true, lguardB_decide_false, ldguardB_decide, Nat.reduceLT, Nat.reduceEqDiff, Nat.reduceAdd, Nat.reduceLeDiff, reduceIte, reduceCtorEq]
          refine lfunG_to (lv := [(0, .int .i64 n), (1, edv a), (2, edv b), (6, .ptr (nm s.nx 0) 0), (7, .ptr (nm s.nx 1) 0), (10, intv P), (24, intv P), (25, .int .i64 P.length), (26, .int .i64 i), (11, .int .i64 i), (12, .int .i64 p), (8, .int .i64 x1), (9, .int .i64 (y + (insAt b p).length)), (17, .int .i64 (q - p)), (123, edv a), (124, .int .i64 p)])
            (h := loc s 5 [(0, some (.cells [.nils, .nils, .nils, .int .i64 0] (some 164))), (1, some (.cells [gsv 3 (nm s.nx 2) (m1.app (mtB b p y)).both.length, gsv 3 (nm s.nx 3) (m1.app (mtB b p y)).first.length, gsv 3 (nm s.nx 4) (m1.app (mtB b p y)).second.length, .int .i64 (m1.app (mtB b p y)).long] (some 164))), (2, gso 111 (rnc (m1.app (mtB b p y)).both)), (3, gso 111 (rnc (m1.app (mtB b p y)).first)), (4, gso 111 (rnc (m1.app (mtB b p y)).second))])
            (To.go [0, 1, 27, 29, 31] _ rfl (.refl s) (by decide) (by simp)
              (by
                simp (config := { contextual := true, maxSteps := 4000000 }) only [go_sem, hlen2, hlv2, pu_ren (edv_pu _), pu_ren (intv_pu _), lcondB_decide, lcondB_not, lguardB_decide_true, lguardB_decide_false, ldguardB_decide, Nat.reduceLT, Nat.reduceEqDiff, Nat.reduceAdd, Nat.reduceLeDiff, reduceIte, reduceCtorEq]
              )
              (by
                rw [show (m1.app (mtB b p y)).both = m1.both ++ [⟨0, 0, insAt b p⟩] from by simp [Mt.app, mtB, hhB], show (m1.app (mtB b p y)).first = m1.first ++ [⟨0, 0, insAt b p⟩] from by simp [Mt.app, mtB, hhB], show (m1.app (mtB b p y)).second = m1.second ++ [⟨y, (insAt b p).length, []⟩] from by simp [Mt.app, mtB, hhB], show (m1.app (mtB b p y)).long = m1.long + (insAt b p).length from by simp [Mt.app, mtB, hhB]]
                simp only [go_sem, map_gso_pu (rnc_pul _), ren_gsv, lcondB_decide, lcondB_not, lguardB_decide_true, lguardB_decide_false, ldguardB_decide, Nat.reduceLT, Nat.reduceEqDiff, Nat.reduceAdd, Nat.reduceLeDiff, reduceIte, reduceCtorEq]
                simp only [go_sem, rnc_snoc, gso_pos (rn_ne3 _ _ _ _), List.length_append, gsv_pos (Nat.succ_ne_zero _), lcondB_decide, lcondB_not, lguardB_decide_true, lguardB_decide_false, ldguardB_decide, Nat.reduceLT, Nat.reduceEqDiff, Nat.reduceAdd, Nat.reduceLeDiff, reduceIte, reduceCtorEq]
              )) ?_
        case' false =>
          have h0b := ((has_at hrb p).2 hhB).1
          have hm0b : m1.app (mtB b p y) = m1 := by rw [mtB, hhB]; exact Mt.app_nil m1
          simp +contextual only [go_sem, hlen2, hlv2, hw5, (intv_ints P).len, lcondB_decide, lcondB_not, lguardB_decide_true, lguardB_decide_false, ldguardB_decide, Nat.reduceLT, Nat.reduceEqDiff, Nat.reduceAdd, Nat.reduceLeDiff, reduceIte, reduceCtorEq]
          refine ⟨?_, ?_⟩
          · intro hlast
            have hP2 : P.drop (i + 1) = [] := List.drop_eq_nil_iff.2 (by omega)
            have hfin : m1.app (mtB b p y) = meetGo a b P 0 0 := by rw [← hE, hdrop, hP2, meetGo, ← Mt.app_assoc, hm1]
            refine lexit_go [0, 1, 2, 3, 4] [(2, gso 111 (rnc (m1.app (mtB b p y)).both)), (3, gso 111 (rnc (m1.app (mtB b p y)).first)), (4, gso 111 (rnc (m1.app (mtB b p y)).second))] (.agg [gsv 3 (nm s.nx 2) (m1.app (mtB b p y)).both.length, gsv 3 (nm s.nx 3) (m1.app (mtB b p y)).first.length, gsv 3 (nm s.nx 4) (m1.app (mtB b p y)).second.length, .int .i64 (m1.app (mtB b p y)).long]) (.refl s) (by decide)
              (by
                rw [hm0b]
                simp only [go_sem, ren_gsv, lcondB_decide, lcondB_not, lguardB_decide_true, lguardB_decide_false, ldguardB_decide, Nat.reduceLT, Nat.reduceEqDiff, Nat.reduceAdd, Nat.reduceLeDiff, reduceIte, reduceCtorEq]
              )
              (by
                rw [hm0b]
                simp only [go_sem, map_gso_pu (rnc_pul _), ren_gsv, lcondB_decide, lcondB_not, lguardB_decide_true, lguardB_decide_false, ldguardB_decide, Nat.reduceLT, Nat.reduceEqDiff, Nat.reduceAdd, Nat.reduceLeDiff, reduceIte, reduceCtorEq]
              ) ?_
            exact meet_end _ ⟨by rw [hfin], rfl⟩
          intro hlast
          have hi3 : i + 1 < P.length := by omega
          have hgq := List.getElem?_eq_getElem hi3
          have hmq : P[i + 1] ∈ P := List.getElem_mem hi3
          have hdrop2 := List.drop_eq_getElem_cons hi3
          generalize P[i + 1] = q at hgq hmq hdrop2
          obtain ⟨hq0, hq1⟩ := hpl q hmq
          have hwi : IntKind.i64.wrap ((i : Int) + 1) = ((i + 1 : Nat) : Int) := by rw [wrap_id (by omega)]; rfl
          have hwq : IntKind.i64.wrap (q - p) = q - p := wrap_id (by omega)
          simp +contextual only [go_sem, hlen2, hlv2, hwi, hwq, ints_atv hgq, lcondB_decide, lcondB_not, lguardB_decide_true, lguardB_decide_false, ldguardB_decide, Nat.reduceLT, Nat.reduceEqDiff, Nat.reduceAdd, Nat.reduceLeDiff, reduceIte, reduceCtorEq]
          refine lfunG_to (lv := [(0, .int .i64 n), (1, edv a), (2, edv b), (6, .ptr (nm s.nx 0) 0), (7, .ptr (nm s.nx 1) 0), (10, intv P), (24, intv P), (25, .int .i64 P.length), (26, .int .i64 i), (11, .int .i64 i), (12, .int .i64 p), (8, .int .i64 x1), (9, .int .i64 (y + (insAt b p).length)), (17, .int .i64 (q - p)), (123, edv a), (124, .int .i64 p)])
            (h := loc s 5 [(0, some (.cells [.nils, .nils, .nils, .int .i64 0] (some 164))), (1, some (.cells [gsv 3 (nm s.nx 2) (m1.app (mtB b p y)).both.length, gsv 3 (nm s.nx 3) (m1.app (mtB b p y)).first.length, gsv 3 (nm s.nx 4) (m1.app (mtB b p y)).second.length, .int .i64 (m1.app (mtB b p y)).long] (some 164))), (2, gso 111 (rnc (m1.app (mtB b p y)).both)), (3, gso 111 (rnc (m1.app (mtB b p y)).first)), (4, gso 111 (rnc (m1.app (mtB b p y)).second))])
            (To.go [0, 1, 2, 3, 4] _ rfl (.refl s) (by decide) (by simp)
              (by
                rw [h0b]
                simp +contextual only [go_sem, hlen2, hlv2, pu_ren (edv_pu _), pu_ren (intv_pu _), List.length_nil, lcondB_decide, lcondB_not, lguardB_decide_true, lguardB_decide_false, ldguardB_decide, Nat.reduceLT, Nat.reduceEqDiff, Nat.reduceAdd, Nat.reduceLeDiff, reduceIte, reduceCtorEq]
                simp
              )
              (by
                rw [hm0b]
                simp only [go_sem, map_gso_pu (rnc_pul _), ren_gsv, lcondB_decide, lcondB_not, lguardB_decide_true, lguardB_decide_false, ldguardB_decide, Nat.reduceLT, Nat.reduceEqDiff, Nat.reduceAdd, Nat.reduceLeDiff, reduceIte, reduceCtorEq]
              )) ?_
        all_goals
          intro tm3 hlen3 hlv3
          simp only [go_sem, hlen2, lcondB_decide, lcondB_not, lguardB_decide_true, lguardB_decide_false, ldguardB_decide, Nat.reduceLT, Nat.reduceEqDiff, Nat.reduceAdd, Nat.reduceLeDiff, reduceIte, reduceCtorEq] at hlen3 hlv3
          generalize hm2 : m1.app (mtB b p y) = m2 at *
          generalize hy1v : y + ((insAt b p).length : Int) = y1 at *
          simp +contextual only [go_sem, hlen3, hlv3, lcondB_decide, lcondB_not, lguardB_decide_true, lguardB_decide_false, ldguardB_decide, Nat.reduceLT, Nat.reduceEqDiff, Nat.reduceAdd, Nat.reduceLeDiff, reduceIte, reduceCtorEq]
          refine lfunG_eq (keeps_ok n hn.2 _ a p hsa ha hra ⟨hp0, hp1⟩ _) ?_
          simp +contextual only [go_sem, hlen3, hlv3, lcondB_decide, lcondB_not, lguardB_decide_true, lguardB_decide_false, ldguardB_decide, Nat.reduceLT, Nat.reduceEqDiff, Nat.reduceAdd, Nat.reduceLeDiff, reduceIte, reduceCtorEq]
          refine lfunG_eq (keeps_ok n hn.2 _ b p hsb hb hrb ⟨hp0, hp1⟩ _) ?_
          simp +contextual only [go_sem, hlen3, hlv3, Nat.reduceLT, Nat.reduceEqDiff, Nat.reduceAdd, Nat.reduceLeDiff, reduceIte, reduceCtorEq]
          have hE2 : (m2.app (mtK (!goneB a p && !goneB b p) p x1 y1 (q - p))).app (meetGo a b (P.drop (i + 1)) (x1 + if goneB a p then 0 else q - p) (y1 + if goneB b p then 0 else q - p)) = meetGo a b P 0 0 := by
            rw [← hE, hdrop, hdrop2, meetGo, ← hm2, ← hm1, ← hx1v, ← hy1v]
            simp only [Mt.app_assoc]
          have hpq := hmono i p q hg hgq
          have hw6 : IntKind.i64.wrap (m2.long + (q - p)) = m2.long + (q - p) := wrap_id (by omega)
          have hw7 : IntKind.i64.wrap (x1 + (q - p)) = x1 + (q - p) := wrap_id (by omega)
          have hw8 : IntKind.i64.wrap (y1 + (q - p)) = y1 + (q - p) := wrap_id (by omega)
          cases hgA : goneB a p
          case' false =>
            cases hgB : goneB b p
            · simp (config := { contextual := true, maxSteps := 4000000 }) only [go_sem, hlen3, hlv3, hwi, Bool.not_true, Bool.not_false, lcondB_decide, lcondB_not, lguardB_decide_true, lguardB_decide_false, ldguardB_decide, Nat.reduceLT, Nat.reduceEqDiff, Nat.reduceAdd, Nat.reduceLeDiff, reduceIte, reduceCtorEq]
              refine ldrawB_go [] [(1, 1), (8, 0), (8, 1), (8, 3), (15, 0), (15, 1), (15, 2), (15, 3), (15, 5)] 22 (by decide) ?_
              simp +contextual only [go_sem, hlen3, hlv3, lcondB_decide, lcondB_not, lguardB_decide_true, lguardB_decide_false, ldguardB_decide, Nat.reduceLT, Nat.reduceEqDiff, Nat.reduceAdd, Nat.reduceLeDiff, reduceIte, reduceCtorEq]
              refine ldfun_pure _ (kept_ok _ _) ?_
              simp +contextual only [go_sem, hlen3, hlv3, Rn.enc, lcondB_decide, lcondB_not, lguardB_decide_true, lguardB_decide_false, ldguardB_decide, Nat.reduceLT, Nat.reduceEqDiff, Nat.reduceAdd, Nat.reduceLeDiff, reduceIte, reduceCtorEq]
              refine ldmem_eq (app108 (acellsOf_rs (by simp only [go_sem, lcondB_decide, lcondB_not, lguardB_decide_true, lguardB_decide_false, ldguardB_decide, Nat.reduceLT, Nat.reduceEqDiff, Nat.reduceAdd, Nat.reduceLeDiff, reduceIte, reduceCtorEq]; rfl) (by rfl) rfl) (by decide) (by simp only [go_sem, lcondB_decide, lcondB_not, lguardB_decide_true, lguardB_decide_false, ldguardB_decide, Nat.reduceLT, Nat.reduceEqDiff, Nat.reduceAdd, Nat.reduceLeDiff, reduceIte, reduceCtorEq]) (by simp only [go_sem, lcondB_decide, lcondB_not, lguardB_decide_true, lguardB_decide_false, ldguardB_decide, Nat.reduceLT, Nat.reduceEqDiff, Nat.reduceAdd, Nat.reduceLeDiff, reduceIte, reduceCtorEq]) (rnc_len m2.both) (by omega) rfl) ?_
              simp +contextual only [go_sem, hlen3, hlv3, lcondB_decide, lcondB_not, lguardB_decide_true, lguardB_decide_false, ldguardB_decide, Nat.reduceLT, Nat.reduceEqDiff, Nat.reduceAdd, Nat.reduceLeDiff, reduceIte, reduceCtorEq]
              refine ldfun_pure _ (kept_ok _ _) ?_
              simp +contextual only [go_sem, hlen3, hlv3, Rn.enc, lcondB_decide, lcondB_not, lguardB_decide_true, lguardB_decide_false, ldguardB_decide, Nat.reduceLT, Nat.reduceEqDiff, Nat.reduceAdd, Nat.reduceLeDiff, reduceIte, reduceCtorEq]
              refine ldmem_eq (app108 (acellsOf_rs (by simp only [go_sem, lcondB_decide, lcondB_not, lguardB_decide_true, lguardB_decide_false, ldguardB_decide, Nat.reduceLT, Nat.reduceEqDiff, Nat.reduceAdd, Nat.reduceLeDiff, reduceIte, reduceCtorEq]; rfl) (by rfl) rfl) (by decide) (by simp only [go_sem, lcondB_decide, lcondB_not, lguardB_decide_true, lguardB_decide_false, ldguardB_decide, Nat.reduceLT, Nat.reduceEqDiff, Nat.reduceAdd, Nat.reduceLeDiff, reduceIte, reduceCtorEq]) (by simp only [go_sem, lcondB_decide, lcondB_not, lguardB_decide_true, lguardB_decide_false, ldguardB_decide, Nat.reduceLT, Nat.reduceEqDiff, Nat.reduceAdd, Nat.reduceLeDiff, reduceIte, reduceCtorEq]) (rnc_len m2.first) (by omega) rfl) ?_
              simp +contextual only [go_sem, hlen3, hlv3, lcondB_decide, lcondB_not, lguardB_decide_true, lguardB_decide_false, ldguardB_decide, Nat.reduceLT, Nat.reduceEqDiff, Nat.reduceAdd, Nat.reduceLeDiff, reduceIte, reduceCtorEq]
              refine ldfun_pure _ (kept_ok _ _) ?_
              simp +contextual only [go_sem, hlen3, hlv3, Rn.enc, lcondB_decide, lcondB_not, lguardB_decide_true, lguardB_decide_false, ldguardB_decide, Nat.reduceLT, Nat.reduceEqDiff, Nat.reduceAdd, Nat.reduceLeDiff, reduceIte, reduceCtorEq]
              refine ldmem_eq (app108 (acellsOf_rs (by simp only [go_sem, lcondB_decide, lcondB_not, lguardB_decide_true, lguardB_decide_false, ldguardB_decide, Nat.reduceLT, Nat.reduceEqDiff, Nat.reduceAdd, Nat.reduceLeDiff, reduceIte, reduceCtorEq]; rfl) (by rfl) rfl) (by decide) (by simp only [go_sem, lcondB_decide, lcondB_not, lguardB_decide_true, lguardB_decide_false, ldguardB_decide, Nat.reduceLT, Nat.reduceEqDiff, Nat.reduceAdd, Nat.reduceLeDiff, reduceIte, reduceCtorEq]) (by simp only [go_sem, lcondB_decide, lcondB_not, lguardB_decide_true, lguardB_decide_false, ldguardB_decide, Nat.reduceLT, Nat.reduceEqDiff, Nat.reduceAdd, Nat.reduceLeDiff, reduceIte, reduceCtorEq]) (rnc_len m2.second) (by omega) rfl) ?_
              simp (config := { contextual := true, maxSteps := 4000000 }) only [go_sem, hlen3, hlv3, hw6, hw7, hw8, hwi, lcondB_decide, lcondB_not, lguardB_decide_true, lguardB_decide_false, ldguardB_decide, Nat.reduceLT, Nat.reduceEqDiff, Nat.reduceAdd, Nat.reduceLeDiff, reduceIte, reduceCtorEq]
              refine ⟨by kernel_rfl, ?_⟩
              rw [hgA, hgB] at hE2
              simp only [Bool.not_true, Bool.not_false, Bool.and_true, Bool.and_false, Bool.true_and, Bool.false_and, Bool.false_eq_true, if_true, if_false, mtK_false, Mt.app_nil, Int.add_zero] at hE2
              first | refine ⟨by simp only [hlen1, hlen2], (i + 1, x1 + (q - p), y1 + (q - p), m2.app (mtK true p x1 y1 (q - p))), ⟨by simp only; omega, by simp only; omega, by simp only; omega, by simp only; omega, by simp only; omega, by simp [Mt.app, mtK]; omega, by simp [Mt.app, mtK]; omega, by simp [Mt.app, mtK]; omega, by simp [Mt.app, mtK]; omega, by simp [Mt.app, mtK]; omega, hE2⟩, by simp only; omega, ?_⟩
                    | refine ⟨(i + 1, x1 + (q - p), y1 + (q - p), m2.app (mtK true p x1 y1 (q - p))), ⟨by simp only; omega, by simp only; omega, by simp only; omega, by simp only; omega, by simp only; omega, by simp [Mt.app, mtK]; omega, by simp [Mt.app, mtK]; omega, by simp [Mt.app, mtK]; omega, by simp [Mt.app, mtK]; omega, by simp [Mt.app, mtK]; omega, hE2⟩, by simp only; omega, ?_⟩
              refine To.go [0, 1, 28, 30, 32] _ rfl (.refl s) (by decide) (by simp) ?_ ?_
              · simp (config := { contextual := true, maxSteps := 4000000 }) only [go_sem, hlen3, hlv3, pu_ren (edv_pu _), pu_ren (intv_pu _), lcondB_decide, lcondB_not, lguardB_decide_true, lguardB_decide_false, ldguardB_decide, Nat.reduceLT, Nat.reduceEqDiff, Nat.reduceAdd, Nat.reduceLeDiff, reduceIte, reduceCtorEq]
              · rw [show (m2.app (mtK true p x1 y1 (q - p))).both = m2.both ++ [⟨p, q - p, []⟩] from by simp [Mt.app, mtK], show (m2.app (mtK true p x1 y1 (q - p))).first = m2.first ++ [⟨x1, q - p, []⟩] from by simp [Mt.app, mtK], show (m2.app (mtK true p x1 y1 (q - p))).second = m2.second ++ [⟨y1, q - p, []⟩] from by simp [Mt.app, mtK], show (m2.app (mtK true p x1 y1 (q - p))).long = m2.long + (q - p) from by simp [Mt.app, mtK]]
                simp only [go_sem, map_gso_pu (rnc_pul _), ren_gsv, lcondB_decide, lcondB_not, lguardB_decide_true, lguardB_decide_false, ldguardB_decide, Nat.reduceLT, Nat.reduceEqDiff, Nat.reduceAdd, Nat.reduceLeDiff, reduceIte, reduceCtorEq]
                simp only [go_sem, rnc_snoc, gso_pos (rn_ne3 _ _ _ _), List.length_append, gsv_pos (Nat.succ_ne_zero _), lcondB_decide, lcondB_not, lguardB_decide_true, lguardB_decide_false, ldguardB_decide, Nat.reduceLT, Nat.reduceEqDiff, Nat.reduceAdd, Nat.reduceLeDiff, reduceIte, reduceCtorEq]
            · simp (config := { contextual := true, maxSteps := 4000000 }) only [go_sem, hlen3, hlv3, hwi, hw7, Bool.not_true, Bool.not_false, lcondB_decide, lcondB_not, lguardB_decide_true, lguardB_decide_false, ldguardB_decide, Nat.reduceLT, Nat.reduceEqDiff, Nat.reduceAdd, Nat.reduceLeDiff, reduceIte, reduceCtorEq]
              rw [hgA, hgB] at hE2
              simp only [Bool.not_true, Bool.not_false, Bool.and_true, Bool.and_false, Bool.true_and, Bool.false_and, Bool.false_eq_true, if_true, if_false, mtK_false, Mt.app_nil, Int.add_zero] at hE2
              first | refine ⟨by simp only [hlen1, hlen2], (i + 1, x1 + (q - p), y1, m2), ⟨by simp only; omega, by simp only; omega, by simp only; omega, by simp only; omega, by simp only; omega, by simp only; omega, by simp only; omega, by simp only; omega, by simp only; omega, by simp only; omega, hE2⟩, by simp only; omega, ?_⟩
                    | refine ⟨(i + 1, x1 + (q - p), y1, m2), ⟨by simp only; omega, by simp only; omega, by simp only; omega, by simp only; omega, by simp only; omega, by simp only; omega, by simp only; omega, by simp only; omega, by simp only; omega, by simp only; omega, hE2⟩, by simp only; omega, ?_⟩
              refine To.go [0, 1, 2, 3, 4] _ rfl (.refl s) (by decide) (by simp) ?_ ?_
              · simp (config := { contextual := true, maxSteps := 4000000 }) only [go_sem, hlen3, hlv3, pu_ren (edv_pu _), pu_ren (intv_pu _), lcondB_decide, lcondB_not, lguardB_decide_true, lguardB_decide_false, ldguardB_decide, Nat.reduceLT, Nat.reduceEqDiff, Nat.reduceAdd, Nat.reduceLeDiff, reduceIte, reduceCtorEq]
              · simp only [go_sem, map_gso_pu (rnc_pul _), ren_gsv, lcondB_decide, lcondB_not, lguardB_decide_true, lguardB_decide_false, ldguardB_decide, Nat.reduceLT, Nat.reduceEqDiff, Nat.reduceAdd, Nat.reduceLeDiff, reduceIte, reduceCtorEq]
          case' true =>
            cases hgB : goneB b p
            · simp (config := { contextual := true, maxSteps := 4000000 }) only [go_sem, hlen3, hlv3, hwi, hw8, Bool.not_true, Bool.not_false, lcondB_decide, lcondB_not, lguardB_decide_true, lguardB_decide_false, ldguardB_decide, Nat.reduceLT, Nat.reduceEqDiff, Nat.reduceAdd, Nat.reduceLeDiff, reduceIte, reduceCtorEq]
              rw [hgA, hgB] at hE2
              simp only [Bool.not_true, Bool.not_false, Bool.and_true, Bool.and_false, Bool.true_and, Bool.false_and, Bool.false_eq_true, if_true, if_false, mtK_false, Mt.app_nil, Int.add_zero] at hE2
              first | refine ⟨by simp only [hlen1, hlen2], (i + 1, x1, y1 + (q - p), m2), ⟨by simp only; omega, by simp only; omega, by simp only; omega, by simp only; omega, by simp only; omega, by simp only; omega, by simp only; omega, by simp only; omega, by simp only; omega, by simp only; omega, hE2⟩, by simp only; omega, ?_⟩
                    | refine ⟨(i + 1, x1, y1 + (q - p), m2), ⟨by simp only; omega, by simp only; omega, by simp only; omega, by simp only; omega, by simp only; omega, by simp only; omega, by simp only; omega, by simp only; omega, by simp only; omega, by simp only; omega, hE2⟩, by simp only; omega, ?_⟩
              refine To.go [0, 1, 2, 3, 4] _ rfl (.refl s) (by decide) (by simp) ?_ ?_
              · simp (config := { contextual := true, maxSteps := 4000000 }) only [go_sem, hlen3, hlv3, pu_ren (edv_pu _), pu_ren (intv_pu _), lcondB_decide, lcondB_not, lguardB_decide_true, lguardB_decide_false, ldguardB_decide, Nat.reduceLT, Nat.reduceEqDiff, Nat.reduceAdd, Nat.reduceLeDiff, reduceIte, reduceCtorEq]
              · simp only [go_sem, map_gso_pu (rnc_pul _), ren_gsv, lcondB_decide, lcondB_not, lguardB_decide_true, lguardB_decide_false, ldguardB_decide, Nat.reduceLT, Nat.reduceEqDiff, Nat.reduceAdd, Nat.reduceLeDiff, reduceIte, reduceCtorEq]
            · simp (config := { contextual := true, maxSteps := 4000000 }) only [go_sem, hlen3, hlv3, hwi, Bool.not_true, Bool.not_false, lcondB_decide, lcondB_not, lguardB_decide_true, lguardB_decide_false, ldguardB_decide, Nat.reduceLT, Nat.reduceEqDiff, Nat.reduceAdd, Nat.reduceLeDiff, reduceIte, reduceCtorEq]
              rw [hgA, hgB] at hE2
              simp only [Bool.not_true, Bool.not_false, Bool.and_true, Bool.and_false, Bool.true_and, Bool.false_and, Bool.false_eq_true, if_true, if_false, mtK_false, Mt.app_nil, Int.add_zero] at hE2
              first | refine ⟨by simp only [hlen1, hlen2], (i + 1, x1, y1, m2), ⟨by simp only; omega, by simp only; omega, by simp only; omega, by simp only; omega, by simp only; omega, by simp only; omega, by simp only; omega, by simp only; omega, by simp only; omega, by simp only; omega, hE2⟩, by simp only; omega, ?_⟩
                    | refine ⟨(i + 1, x1, y1, m2), ⟨by simp only; omega, by simp only; omega, by simp only; omega, by simp only; omega, by simp only; omega, by simp only; omega, by simp only; omega, by simp only; omega, by simp only; omega, by simp only; omega, hE2⟩, by simp only; omega, ?_⟩
              refine To.go [0, 1, 2, 3, 4] _ rfl (.refl s) (by decide) (by simp) ?_ ?_
              · simp (config := { contextual := true, maxSteps := 4000000 }) only [go_sem, hlen3, hlv3, pu_ren (edv_pu _), pu_ren (intv_pu _), lcondB_decide, lcondB_not, lguardB_decide_true, lguardB_decide_false, ldguardB_decide, Nat.reduceLT, Nat.reduceEqDiff, Nat.reduceAdd, Nat.reduceLeDiff, reduceIte, reduceCtorEq]
              · simp only [go_sem, map_gso_pu (rnc_pul _), ren_gsv, lcondB_decide, lcondB_not, lguardB_decide_true, lguardB_decide_false, ldguardB_decide, Nat.reduceLT, Nat.reduceEqDiff, Nat.reduceAdd, Nat.reduceLeDiff, reduceIte, reduceCtorEq]
    · have hi2 : i = P.length := by omega
      subst hi2
      rw [List.drop_length, meetGo, Mt.app_nil] at hE
      refine lexit_go [0, 1, 2, 3, 4] [(2, gso 111 (rnc m.both)), (3, gso 111 (rnc m.first)), (4, gso 111 (rnc m.second))] (.agg [gsv 3 (nm s.nx 2) m.both.length, gsv 3 (nm s.nx 3) m.first.length, gsv 3 (nm s.nx 4) m.second.length, .int .i64 m.long]) (.refl s) (by decide)
        (by simp only [go_sem, ren_gsv, lcondB_decide, lcondB_not, lguardB_decide_true, lguardB_decide_false, ldguardB_decide, Nat.reduceLT, Nat.reduceEqDiff, Nat.reduceAdd, Nat.reduceLeDiff, reduceIte, reduceCtorEq]) (by simp only [go_sem, map_gso_pu (rnc_pul _), ren_gsv, lcondB_decide, lcondB_not, lguardB_decide_true, lguardB_decide_false, ldguardB_decide, Nat.reduceLT, Nat.reduceEqDiff, Nat.reduceAdd, Nat.reduceLeDiff, reduceIte, reduceCtorEq]) ?_
      exact meet_end _ ⟨by rw [hE], rfl⟩
end Go.S1N
end
section
set_option linter.unusedVariables false
set_option linter.unusedSimpArgs false
namespace Go.S1N
open Go Go.Am Go.Proofs Go.S1
set_option maxRecDepth 100000
set_option linter.unusedSimpArgs false
attribute [local irreducible] lopsB lvb lstepB lfunG lcondB lguardB ldrawB ldrunB ldstepB ldguardB lmem lval ldmem ldval ldfun lexit ldloadB ldlenB lpostB athen ablock
end Go.S1N
end
section
set_option linter.unusedVariables false
set_option linter.unusedSimpArgs false
namespace Go.S1N
open Go Go.Am Go.Proofs Go.S1
set_option maxRecDepth 100000
set_option linter.unusedSimpArgs false
end Go.S1N
end
section
set_option linter.unusedVariables false
set_option linter.unusedSimpArgs false
namespace Go.S1N
open Go Go.Am Go.Proofs Go.S1
set_option maxRecDepth 100000
set_option linter.unusedSimpArgs false
attribute [local irreducible] lopsB lvb lstepB lfunG lcondB lguardB ldrawB ldrunB ldstepB ldguardB lmem lval ldmem ldval ldfun lexit ldloadB ldlenB lpostB athen ablock
end Go.S1N
end
