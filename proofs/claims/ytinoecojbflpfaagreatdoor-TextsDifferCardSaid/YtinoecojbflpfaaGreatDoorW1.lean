/- Part 1 of a proof: texts of this work, put together. -/
import Derived.Test.YtinoecojbflpfaaGreatDoorAm6
import Derived.Test.YtinoecojbflpfaaGreatDoorProg
import Derived.KernelRfl
set_option linter.unusedVariables false
set_option linter.unusedSimpArgs false
section
namespace Go.S1
open Go Go.Am Go.Proofs
set_option maxRecDepth 100000
noncomputable def ti1 : TI := ⟨.func, 1, 8, .nilFunc, false⟩
noncomputable def ti2 : TI := ⟨.int .i64, 1, 8, .int .i64 0, false⟩
noncomputable def ti3 : TI := ⟨.int .i64, 1, 8, .int .i64 0, false⟩
noncomputable def ti4 : TI := ⟨.bool, 1, 1, .bool false, false⟩
noncomputable def ti5 : TI := ⟨.int .u8, 1, 1, .int .u8 0, false⟩
noncomputable def ti6 : TI := ⟨.int .u8, 1, 1, .int .u8 0, false⟩
noncomputable def ti7 : TI := ⟨.struct [(2, 0, true), (3, 1, true), (4, 2, true), (6, 3, true)], 4, 24, .agg #[.int .i64 0, .int .i64 0, .bool false, .int .u8 0], false⟩
noncomputable def ti8 : TI := ⟨.struct [(2, 0, true), (3, 1, true), (4, 2, true), (6, 3, true)], 4, 24, .agg #[.int .i64 0, .int .i64 0, .bool false, .int .u8 0], false⟩
noncomputable def ti9 : TI := ⟨.str, 1, 16, .string ⟨#[]⟩, false⟩
noncomputable def ti10 : TI := ⟨.str, 1, 16, .string ⟨#[]⟩, false⟩
noncomputable def ti11 : TI := ⟨.str, 1, 16, .string ⟨#[]⟩, false⟩
noncomputable def ti12 : TI := ⟨.int .u64, 1, 8, .int .u64 0, false⟩
noncomputable def ti13 : TI := ⟨.struct [(9, 0, true), (12, 1, true)], 2, 24, .agg #[.string ⟨#[]⟩, .int .u64 0], false⟩
noncomputable def ti14 : TI := ⟨.struct [(9, 0, true), (12, 1, true)], 2, 24, .agg #[.string ⟨#[]⟩, .int .u64 0], false⟩
noncomputable def ti15 : TI := ⟨.ptr 326, 1, 8, .pointer none, false⟩
noncomputable def ti16 : TI := ⟨.ptr 329, 1, 8, .pointer none, false⟩
noncomputable def ti17 : TI := ⟨.ptr 336, 1, 8, .pointer none, false⟩
noncomputable def ti18 : TI := ⟨.struct [(17, 0, true)], 1, 8, .agg #[.pointer none], false⟩
noncomputable def ti19 : TI := ⟨.struct [(17, 0, true)], 1, 8, .agg #[.pointer none], false⟩
noncomputable def ti21 : TI := ⟨.int .i32, 1, 4, .int .i32 0, false⟩
noncomputable def ti22 : TI := ⟨.slice 3, 1, 24, .slice none 0 0, false⟩
noncomputable def ti23 : TI := ⟨.ptr 25, 1, 8, .pointer none, false⟩
noncomputable def ti24 : TI := ⟨.struct [(22, 0, true), (3, 1, true)], 2, 32, .agg #[.slice none 0 0, .int .i64 0], false⟩
noncomputable def ti25 : TI := ⟨.struct [(22, 0, true), (3, 1, true)], 2, 32, .agg #[.slice none 0 0, .int .i64 0], false⟩
noncomputable def ti26 : TI := ⟨.func, 1, 8, .nilFunc, false⟩
noncomputable def ti27 : TI := ⟨.func, 1, 8, .nilFunc, false⟩
noncomputable def ti28 : TI := ⟨.slice 44, 1, 24, .slice none 0 0, false⟩
noncomputable def ti29 : TI := ⟨.func, 1, 8, .nilFunc, false⟩
noncomputable def ti30 : TI := ⟨.func, 1, 8, .nilFunc, false⟩
noncomputable def ti31 : TI := ⟨.int .i64, 1, 8, .int .i64 0, false⟩
noncomputable def ti33 : TI := ⟨.func, 1, 8, .nilFunc, false⟩
noncomputable def ti35 : TI := ⟨.func, 1, 8, .nilFunc, false⟩
noncomputable def ti36 : TI := ⟨.func, 1, 8, .nilFunc, false⟩
noncomputable def ti37 : TI := ⟨.func, 1, 8, .nilFunc, false⟩
noncomputable def ti38 : TI := ⟨.func, 1, 8, .nilFunc, false⟩
noncomputable def ti39 : TI := ⟨.func, 1, 8, .nilFunc, false⟩
noncomputable def ti41 : TI := ⟨.func, 1, 8, .nilFunc, false⟩
noncomputable def ti42 : TI := ⟨.func, 1, 8, .nilFunc, false⟩
noncomputable def ti43 : TI := ⟨.struct [(3, 0, true), (3, 1, true), (9, 2, true)], 3, 32, .agg #[.int .i64 0, .int .i64 0, .string ⟨#[]⟩], false⟩
noncomputable def ti44 : TI := ⟨.struct [(3, 0, true), (3, 1, true), (9, 2, true)], 3, 32, .agg #[.int .i64 0, .int .i64 0, .string ⟨#[]⟩], true⟩
noncomputable def ti45 : TI := ⟨.func, 1, 8, .nilFunc, false⟩
noncomputable def ti46 : TI := ⟨.func, 1, 8, .nilFunc, false⟩
noncomputable def ti47 : TI := ⟨.func, 1, 8, .nilFunc, false⟩
noncomputable def ti48 : TI := ⟨.slice 50, 1, 24, .slice none 0 0, false⟩
noncomputable def ti49 : TI := ⟨.struct [(3, 0, true), (3, 1, true), (3, 2, true), (48, 3, true)], 4, 48, .agg #[.int .i64 0, .int .i64 0, .int .i64 0, .slice none 0 0], false⟩
noncomputable def ti50 : TI := ⟨.struct [(3, 0, true), (3, 1, true), (3, 2, true), (48, 3, true)], 4, 48, .agg #[.int .i64 0, .int .i64 0, .int .i64 0, .slice none 0 0], false⟩
noncomputable def ti51 : TI := ⟨.func, 1, 8, .nilFunc, false⟩
noncomputable def ti53 : TI := ⟨.func, 1, 8, .nilFunc, false⟩
noncomputable def ti54 : TI := ⟨.func, 1, 8, .nilFunc, false⟩
noncomputable def ti55 : TI := ⟨.func, 1, 8, .nilFunc, false⟩
noncomputable def ti56 : TI := ⟨.slice 112, 1, 24, .slice none 0 0, false⟩
noncomputable def ti57 : TI := ⟨.func, 1, 8, .nilFunc, false⟩
noncomputable def ti58 : TI := ⟨.func, 1, 8, .nilFunc, false⟩
noncomputable def ti59 : TI := ⟨.func, 1, 8, .nilFunc, false⟩
noncomputable def ti60 : TI := ⟨.struct [(3, 0, true), (3, 1, true), (3, 2, true), (3, 3, true)], 4, 32, .agg #[.int .i64 0, .int .i64 0, .int .i64 0, .int .i64 0], false⟩
noncomputable def ti61 : TI := ⟨.struct [(3, 0, true), (3, 1, true), (3, 2, true), (3, 3, true)], 4, 32, .agg #[.int .i64 0, .int .i64 0, .int .i64 0, .int .i64 0], false⟩
noncomputable def ti63 : TI := ⟨.func, 1, 8, .nilFunc, false⟩
noncomputable def ti64 : TI := ⟨.slice 61, 1, 24, .slice none 0 0, false⟩
noncomputable def ti66 : TI := ⟨.func, 1, 8, .nilFunc, false⟩
noncomputable def ti67 : TI := ⟨.slice 83, 1, 24, .slice none 0 0, false⟩
noncomputable def ti69 : TI := ⟨.func, 1, 8, .nilFunc, false⟩
noncomputable def ti71 : TI := ⟨.func, 1, 8, .nilFunc, false⟩
noncomputable def ti72 : TI := ⟨.func, 1, 8, .nilFunc, false⟩
noncomputable def ti73 : TI := ⟨.func, 1, 8, .nilFunc, false⟩
noncomputable def ti74 : TI := ⟨.func, 1, 8, .nilFunc, false⟩
noncomputable def ti75 : TI := ⟨.func, 1, 8, .nilFunc, false⟩
noncomputable def ti76 : TI := ⟨.func, 1, 8, .nilFunc, false⟩
noncomputable def ti77 : TI := ⟨.func, 1, 8, .nilFunc, false⟩
noncomputable def ti79 : TI := ⟨.func, 1, 8, .nilFunc, false⟩
noncomputable def ti80 : TI := ⟨.func, 1, 8, .nilFunc, false⟩
noncomputable def ti81 : TI := ⟨.func, 1, 8, .nilFunc, false⟩
noncomputable def ti82 : TI := ⟨.struct [(9, 0, true), (9, 1, true), (9, 2, true)], 3, 48, .agg #[.string ⟨#[]⟩, .string ⟨#[]⟩, .string ⟨#[]⟩], false⟩
noncomputable def ti83 : TI := ⟨.struct [(9, 0, true), (9, 1, true), (9, 2, true)], 3, 48, .agg #[.string ⟨#[]⟩, .string ⟨#[]⟩, .string ⟨#[]⟩], true⟩
noncomputable def ti84 : TI := ⟨.func, 1, 8, .nilFunc, false⟩
noncomputable def ti85 : TI := ⟨.struct [(67, 0, true), (9, 1, true), (3, 2, true), (3, 3, true), (3, 4, true), (3, 5, true), (3, 6, true)], 7, 80, .agg #[.slice none 0 0, .string ⟨#[]⟩, .int .i64 0, .int .i64 0, .int .i64 0, .int .i64 0, .int .i64 0], false⟩
noncomputable def ti86 : TI := ⟨.struct [(67, 0, true), (9, 1, true), (3, 2, true), (3, 3, true), (3, 4, true), (3, 5, true), (3, 6, true)], 7, 80, .agg #[.slice none 0 0, .string ⟨#[]⟩, .int .i64 0, .int .i64 0, .int .i64 0, .int .i64 0, .int .i64 0], false⟩
noncomputable def ti88 : TI := ⟨.func, 1, 8, .nilFunc, false⟩
noncomputable def ti90 : TI := ⟨.func, 1, 8, .nilFunc, false⟩
noncomputable def ti91 : TI := ⟨.func, 1, 8, .nilFunc, false⟩
noncomputable def ti92 : TI := ⟨.func, 1, 8, .nilFunc, false⟩
noncomputable def ti93 : TI := ⟨.func, 1, 8, .nilFunc, false⟩
noncomputable def ti95 : TI := ⟨.func, 1, 8, .nilFunc, false⟩
noncomputable def ti96 : TI := ⟨.func, 1, 8, .nilFunc, false⟩
noncomputable def ti98 : TI := ⟨.func, 1, 8, .nilFunc, false⟩
noncomputable def ti99 : TI := ⟨.func, 1, 8, .nilFunc, false⟩
noncomputable def ti101 : TI := ⟨.func, 1, 8, .nilFunc, false⟩
noncomputable def ti102 : TI := ⟨.func, 1, 8, .nilFunc, false⟩
noncomputable def ti103 : TI := ⟨.func, 1, 8, .nilFunc, false⟩
noncomputable def ti104 : TI := ⟨.func, 1, 8, .nilFunc, false⟩
noncomputable def ti105 : TI := ⟨.func, 1, 8, .nilFunc, false⟩
noncomputable def ti107 : TI := ⟨.func, 1, 8, .nilFunc, false⟩
noncomputable def ti109 : TI := ⟨.func, 1, 8, .nilFunc, false⟩
noncomputable def ti110 : TI := ⟨.func, 1, 8, .nilFunc, false⟩
noncomputable def ti111 : TI := ⟨.struct [(9, 0, true), (50, 1, true)], 5, 64, .agg #[.string ⟨#[]⟩, .int .i64 0, .int .i64 0, .int .i64 0, .slice none 0 0], false⟩
noncomputable def ti112 : TI := ⟨.struct [(9, 0, true), (50, 1, true)], 5, 64, .agg #[.string ⟨#[]⟩, .int .i64 0, .int .i64 0, .int .i64 0, .slice none 0 0], false⟩
noncomputable def ti113 : TI := ⟨.func, 1, 8, .nilFunc, false⟩
noncomputable def ti114 : TI := ⟨.func, 1, 8, .nilFunc, false⟩
noncomputable def ti115 : TI := ⟨.func, 1, 8, .nilFunc, false⟩
noncomputable def ti116 : TI := ⟨.func, 1, 8, .nilFunc, false⟩
noncomputable def ti117 : TI := ⟨.ptr 120, 1, 8, .pointer none, false⟩
noncomputable def ti118 : TI := ⟨.slice 5, 1, 24, .slice none 0 0, false⟩
noncomputable def ti119 : TI := ⟨.struct [(117, 0, true), (118, 1, true)], 2, 32, .agg #[.pointer none, .slice none 0 0], false⟩
noncomputable def ti120 : TI := ⟨.struct [(117, 0, true), (118, 1, true)], 2, 32, .agg #[.pointer none, .slice none 0 0], false⟩
noncomputable def ti121 : TI := ⟨.slice 126, 1, 24, .slice none 0 0, false⟩
noncomputable def ti122 : TI := ⟨.struct [(3, 0, true), (121, 1, true)], 2, 32, .agg #[.int .i64 0, .slice none 0 0], false⟩
noncomputable def ti123 : TI := ⟨.struct [(3, 0, true), (121, 1, true)], 2, 32, .agg #[.int .i64 0, .slice none 0 0], false⟩
noncomputable def ti124 : TI := ⟨.func, 1, 8, .nilFunc, false⟩
noncomputable def ti125 : TI := ⟨.struct [(3, 0, true), (5, 1, true)], 2, 16, .agg #[.int .i64 0, .int .u8 0], false⟩
noncomputable def ti126 : TI := ⟨.struct [(3, 0, true), (5, 1, true)], 2, 16, .agg #[.int .i64 0, .int .u8 0], false⟩
noncomputable def ti129 : TI := ⟨.func, 1, 8, .nilFunc, false⟩
noncomputable def ti130 : TI := ⟨.slice 22, 1, 24, .slice none 0 0, false⟩
noncomputable def ti131 : TI := ⟨.func, 1, 8, .nilFunc, false⟩
noncomputable def ti132 : TI := ⟨.slice 135, 1, 24, .slice none 0 0, false⟩
noncomputable def ti133 : TI := ⟨.func, 1, 8, .nilFunc, false⟩
noncomputable def ti134 : TI := ⟨.struct [(3, 0, true), (3, 1, true), (9, 2, true)], 3, 32, .agg #[.int .i64 0, .int .i64 0, .string ⟨#[]⟩], false⟩
noncomputable def ti135 : TI := ⟨.struct [(3, 0, true), (3, 1, true), (9, 2, true)], 3, 32, .agg #[.int .i64 0, .int .i64 0, .string ⟨#[]⟩], false⟩
noncomputable def ti136 : TI := ⟨.func, 1, 8, .nilFunc, false⟩
noncomputable def ti137 : TI := ⟨.func, 1, 8, .nilFunc, false⟩
noncomputable def ti138 : TI := ⟨.func, 1, 8, .nilFunc, false⟩
noncomputable def ti139 : TI := ⟨.func, 1, 8, .nilFunc, false⟩
noncomputable def ti141 : TI := ⟨.func, 1, 8, .nilFunc, false⟩
noncomputable def ti142 : TI := ⟨.func, 1, 8, .nilFunc, false⟩
noncomputable def ti143 : TI := ⟨.func, 1, 8, .nilFunc, false⟩
noncomputable def ti144 : TI := ⟨.func, 1, 8, .nilFunc, false⟩
noncomputable def ti146 : TI := ⟨.func, 1, 8, .nilFunc, false⟩
noncomputable def ti148 : TI := ⟨.func, 1, 8, .nilFunc, false⟩
noncomputable def ti149 : TI := ⟨.func, 1, 8, .nilFunc, false⟩
noncomputable def ti151 : TI := ⟨.func, 1, 8, .nilFunc, false⟩
noncomputable def ti152 : TI := ⟨.ptr 154, 1, 8, .pointer none, false⟩
noncomputable def ti153 : TI := ⟨.struct [(9, 0, true), (3, 1, true)], 2, 24, .agg #[.string ⟨#[]⟩, .int .i64 0], false⟩
noncomputable def ti154 : TI := ⟨.struct [(9, 0, true), (3, 1, true)], 2, 24, .agg #[.string ⟨#[]⟩, .int .i64 0], false⟩
noncomputable def ti155 : TI := ⟨.func, 1, 8, .nilFunc, false⟩
noncomputable def ti156 : TI := ⟨.func, 1, 8, .nilFunc, false⟩
noncomputable def ti157 : TI := ⟨.func, 1, 8, .nilFunc, false⟩
noncomputable def ti158 : TI := ⟨.ptr 206, 1, 8, .pointer none, false⟩
noncomputable def ti159 : TI := ⟨.func, 1, 8, .nilFunc, false⟩
noncomputable def ti160 : TI := ⟨.func, 1, 8, .nilFunc, false⟩
noncomputable def ti161 : TI := ⟨.func, 1, 8, .nilFunc, false⟩
noncomputable def ti162 : TI := ⟨.func, 1, 8, .nilFunc, false⟩
noncomputable def ti163 : TI := ⟨.slice 31, 1, 24, .slice none 0 0, false⟩
noncomputable def ti164 : TI := ⟨.func, 1, 8, .nilFunc, false⟩
noncomputable def ti165 : TI := ⟨.ptr 3, 1, 8, .pointer none, false⟩
noncomputable def ti166 : TI := ⟨.func, 1, 8, .nilFunc, false⟩
noncomputable def ti167 : TI := ⟨.ptr 177, 1, 8, .pointer none, false⟩
noncomputable def ti168 : TI := ⟨.func, 1, 8, .nilFunc, false⟩
noncomputable def ti169 : TI := ⟨.slice 172, 1, 24, .slice none 0 0, false⟩
noncomputable def ti170 : TI := ⟨.func, 1, 8, .nilFunc, false⟩
noncomputable def ti171 : TI := ⟨.struct [(22, 0, true), (9, 1, true)], 2, 40, .agg #[.slice none 0 0, .string ⟨#[]⟩], false⟩
noncomputable def ti172 : TI := ⟨.struct [(22, 0, true), (9, 1, true)], 2, 40, .agg #[.slice none 0 0, .string ⟨#[]⟩], false⟩
noncomputable def ti173 : TI := ⟨.arr 2 4, 2, 2, .agg #[.bool false, .bool false], false⟩
noncomputable def ti174 : TI := ⟨.slice 244, 1, 24, .slice none 0 0, false⟩
noncomputable def ti175 : TI := ⟨.slice 4, 1, 24, .slice none 0 0, false⟩
noncomputable def ti176 : TI := ⟨.struct [(22, 0, true), (22, 1, true), (22, 2, true), (174, 3, true), (175, 4, true), (22, 5, true)], 6, 144, .agg #[.slice none 0 0, .slice none 0 0, .slice none 0 0, .slice none 0 0, .slice none 0 0, .slice none 0 0], false⟩
noncomputable def ti177 : TI := ⟨.struct [(22, 0, true), (22, 1, true), (22, 2, true), (174, 3, true), (175, 4, true), (22, 5, true)], 6, 144, .agg #[.slice none 0 0, .slice none 0 0, .slice none 0 0, .slice none 0 0, .slice none 0 0, .slice none 0 0], false⟩
noncomputable def ti178 : TI := ⟨.arr 2 9, 2, 32, .agg #[.string ⟨#[]⟩, .string ⟨#[]⟩], false⟩
noncomputable def ti179 : TI := ⟨.slice 178, 1, 24, .slice none 0 0, false⟩
noncomputable def ti180 : TI := ⟨.func, 1, 8, .nilFunc, false⟩
noncomputable def ti182 : TI := ⟨.func, 1, 8, .nilFunc, false⟩
noncomputable def ti183 : TI := ⟨.func, 1, 8, .nilFunc, false⟩
noncomputable def ti184 : TI := ⟨.func, 1, 8, .nilFunc, false⟩
noncomputable def ti185 : TI := ⟨.struct [(64, 0, true), (67, 1, true), (22, 2, true), (22, 3, true), (9, 4, true)], 5, 112, .agg #[.slice none 0 0, .slice none 0 0, .slice none 0 0, .slice none 0 0, .string ⟨#[]⟩], false⟩
noncomputable def ti186 : TI := ⟨.struct [(64, 0, true), (67, 1, true), (22, 2, true), (22, 3, true), (9, 4, true)], 5, 112, .agg #[.slice none 0 0, .slice none 0 0, .slice none 0 0, .slice none 0 0, .string ⟨#[]⟩], false⟩
noncomputable def ti188 : TI := ⟨.func, 1, 8, .nilFunc, false⟩
noncomputable def ti189 : TI := ⟨.slice 9, 1, 24, .slice none 0 0, false⟩
noncomputable def ti190 : TI := ⟨.func, 1, 8, .nilFunc, false⟩
noncomputable def ti191 : TI := ⟨.func, 1, 8, .nilFunc, false⟩
noncomputable def ti192 : TI := ⟨.func, 1, 8, .nilFunc, false⟩
noncomputable def ti193 : TI := ⟨.func, 1, 8, .nilFunc, false⟩
noncomputable def ti194 : TI := ⟨.func, 1, 8, .nilFunc, false⟩
noncomputable def ti195 : TI := ⟨.func, 1, 8, .nilFunc, false⟩
noncomputable def ti196 : TI := ⟨.func, 1, 8, .nilFunc, false⟩
noncomputable def ti197 : TI := ⟨.func, 1, 8, .nilFunc, false⟩
noncomputable def ti198 : TI := ⟨.ptr 249, 1, 8, .pointer none, false⟩
noncomputable def ti199 : TI := ⟨.slice 201, 1, 24, .slice none 0 0, false⟩
noncomputable def ti200 : TI := ⟨.slice 246, 1, 24, .slice none 0 0, false⟩
noncomputable def ti201 : TI := ⟨.slice 246, 1, 24, .slice none 0 0, false⟩
noncomputable def ti202 : TI := ⟨.arr 256 3, 256, 2048, .agg ⟨List.replicate 256 (.int .i64 0)⟩, false⟩
noncomputable def ti203 : TI := ⟨.slice 233, 1, 24, .slice none 0 0, false⟩
noncomputable def ti204 : TI := ⟨.map 9 3, 1, 8, .map none, false⟩
noncomputable def ti205 : TI := ⟨.struct [(198, 0, true), (199, 1, true), (201, 2, true), (202, 3, true), (118, 259, true), (199, 260, true), (203, 261, true), (204, 262, true)], 263, 2184, .agg #[.pointer none, .slice none 0 0, .slice none 0 0, .int .i64 0, .int .i64 0, .int .i64 0, .int .i64 0, .int .i64 0, .int .i64 0, .int .i64 0, .int .i64 0, .int .i64 0, .int .i64 0, .int .i64 0, .int .i64 0, .int .i64 0, .int .i64 0, .int .i64 0, .int .i64 0, .int .i64 0, .int .i64 0, .int .i64 0, .int .i64 0, .int .i64 0, .int .i64 0, .int .i64 0, .int .i64 0, .int .i64 0, .int .i64 0, .int .i64 0, .int .i64 0, .int .i64 0, .int .i64 0, .int .i64 0, .int .i64 0, .int .i64 0, .int .i64 0, .int .i64 0, .int .i64 0, .int .i64 0, .int .i64 0, .int .i64 0, .int .i64 0, .int .i64 0, .int .i64 0, .int .i64 0, .int .i64 0, .int .i64 0, .int .i64 0, .int .i64 0, .int .i64 0, .int .i64 0, .int .i64 0, .int .i64 0, .int .i64 0, .int .i64 0, .int .i64 0, .int .i64 0, .int .i64 0, .int .i64 0, .int .i64 0, .int .i64 0, .int .i64 0, .int .i64 0, .int .i64 0, .int .i64 0, .int .i64 0, .int .i64 0, .int .i64 0, .int .i64 0, .int .i64 0, .int .i64 0, .int .i64 0, .int .i64 0, .int .i64 0, .int .i64 0, .int .i64 0, .int .i64 0, .int .i64 0, .int .i64 0, .int .i64 0, .int .i64 0, .int .i64 0, .int .i64 0, .int .i64 0, .int .i64 0, .int .i64 0, .int .i64 0, .int .i64 0, .int .i64 0, .int .i64 0, .int .i64 0, .int .i64 0, .int .i64 0, .int .i64 0, .int .i64 0, .int .i64 0, .int .i64 0, .int .i64 0, .int .i64 0, .int .i64 0, .int .i64 0, .int .i64 0, .int .i64 0, .int .i64 0, .int .i64 0, .int .i64 0, .int .i64 0, .int .i64 0, .int .i64 0, .int .i64 0, .int .i64 0, .int .i64 0, .int .i64 0, .int .i64 0, .int .i64 0, .int .i64 0, .int .i64 0, .int .i64 0, .int .i64 0, .int .i64 0, .int .i64 0, .int .i64 0, .int .i64 0, .int .i64 0, .int .i64 0, .int .i64 0, .int .i64 0, .int .i64 0, .int .i64 0, .int .i64 0, .int .i64 0, .int .i64 0, .int .i64 0, .int .i64 0, .int .i64 0, .int .i64 0, .int .i64 0, .int .i64 0, .int .i64 0, .int .i64 0, .int .i64 0, .int .i64 0, .int .i64 0, .int .i64 0, .int .i64 0, .int .i64 0, .int .i64 0, .int .i64 0, .int .i64 0, .int .i64 0, .int .i64 0, .int .i64 0, .int .i64 0, .int .i64 0, .int .i64 0, .int .i64 0, .int .i64 0, .int .i64 0, .int .i64 0, .int .i64 0, .int .i64 0, .int .i64 0, .int .i64 0, .int .i64 0, .int .i64 0, .int .i64 0, .int .i64 0, .int .i64 0, .int .i64 0, .int .i64 0, .int .i64 0, .int .i64 0, .int .i64 0, .int .i64 0, .int .i64 0, .int .i64 0, .int .i64 0, .int .i64 0, .int .i64 0, .int .i64 0, .int .i64 0, .int .i64 0, .int .i64 0, .int .i64 0, .int .i64 0, .int .i64 0, .int .i64 0, .int .i64 0, .int .i64 0, .int .i64 0, .int .i64 0, .int .i64 0, .int .i64 0, .int .i64 0, .int .i64 0, .int .i64 0, .int .i64 0, .int .i64 0, .int .i64 0, .int .i64 0, .int .i64 0, .int .i64 0, .int .i64 0, .int .i64 0, .int .i64 0, .int .i64 0, .int .i64 0, .int .i64 0, .int .i64 0, .int .i64 0, .int .i64 0, .int .i64 0, .int .i64 0, .int .i64 0, .int .i64 0, .int .i64 0, .int .i64 0, .int .i64 0, .int .i64 0, .int .i64 0, .int .i64 0, .int .i64 0, .int .i64 0, .int .i64 0, .int .i64 0, .int .i64 0, .int .i64 0, .int .i64 0, .int .i64 0, .int .i64 0, .int .i64 0, .int .i64 0, .int .i64 0, .int .i64 0, .int .i64 0, .int .i64 0, .int .i64 0, .int .i64 0, .int .i64 0, .int .i64 0, .int .i64 0, .int .i64 0, .int .i64 0, .int .i64 0, .int .i64 0, .int .i64 0, .int .i64 0, .int .i64 0, .int .i64 0, .int .i64 0, .int .i64 0, .int .i64 0, .int .i64 0, .int .i64 0, .int .i64 0, .int .i64 0, .int .i64 0, .int .i64 0, .slice none 0 0, .slice none 0 0, .slice none 0 0, .map none], false⟩
noncomputable def ti206 : TI := ⟨.struct [(198, 0, true), (199, 1, true), (201, 2, true), (202, 3, true), (118, 259, true), (199, 260, true), (203, 261, true), (204, 262, true)], 263, 2184, .agg #[.pointer none, .slice none 0 0, .slice none 0 0, .int .i64 0, .int .i64 0, .int .i64 0, .int .i64 0, .int .i64 0, .int .i64 0, .int .i64 0, .int .i64 0, .int .i64 0, .int .i64 0, .int .i64 0, .int .i64 0, .int .i64 0, .int .i64 0, .int .i64 0, .int .i64 0, .int .i64 0, .int .i64 0, .int .i64 0, .int .i64 0, .int .i64 0, .int .i64 0, .int .i64 0, .int .i64 0, .int .i64 0, .int .i64 0, .int .i64 0, .int .i64 0, .int .i64 0, .int .i64 0, .int .i64 0, .int .i64 0, .int .i64 0, .int .i64 0, .int .i64 0, .int .i64 0, .int .i64 0, .int .i64 0, .int .i64 0, .int .i64 0, .int .i64 0, .int .i64 0, .int .i64 0, .int .i64 0, .int .i64 0, .int .i64 0, .int .i64 0, .int .i64 0, .int .i64 0, .int .i64 0, .int .i64 0, .int .i64 0, .int .i64 0, .int .i64 0, .int .i64 0, .int .i64 0, .int .i64 0, .int .i64 0, .int .i64 0, .int .i64 0, .int .i64 0, .int .i64 0, .int .i64 0, .int .i64 0, .int .i64 0, .int .i64 0, .int .i64 0, .int .i64 0, .int .i64 0, .int .i64 0, .int .i64 0, .int .i64 0, .int .i64 0, .int .i64 0, .int .i64 0, .int .i64 0, .int .i64 0, .int .i64 0, .int .i64 0, .int .i64 0, .int .i64 0, .int .i64 0, .int .i64 0, .int .i64 0, .int .i64 0, .int .i64 0, .int .i64 0, .int .i64 0, .int .i64 0, .int .i64 0, .int .i64 0, .int .i64 0, .int .i64 0, .int .i64 0, .int .i64 0, .int .i64 0, .int .i64 0, .int .i64 0, .int .i64 0, .int .i64 0, .int .i64 0, .int .i64 0, .int .i64 0, .int .i64 0, .int .i64 0, .int .i64 0, .int .i64 0, .int .i64 0, .int .i64 0, .int .i64 0, .int .i64 0, .int .i64 0, .int .i64 0, .int .i64 0, .int .i64 0, .int .i64 0, .int .i64 0, .int .i64 0, .int .i64 0, .int .i64 0, .int .i64 0, .int .i64 0, .int .i64 0, .int .i64 0, .int .i64 0, .int .i64 0, .int .i64 0, .int .i64 0, .int .i64 0, .int .i64 0, .int .i64 0, .int .i64 0, .int .i64 0, .int .i64 0, .int .i64 0, .int .i64 0, .int .i64 0, .int .i64 0, .int .i64 0, .int .i64 0, .int .i64 0, .int .i64 0, .int .i64 0, .int .i64 0, .int .i64 0, .int .i64 0, .int .i64 0, .int .i64 0, .int .i64 0, .int .i64 0, .int .i64 0, .int .i64 0, .int .i64 0, .int .i64 0, .int .i64 0, .int .i64 0, .int .i64 0, .int .i64 0, .int .i64 0, .int .i64 0, .int .i64 0, .int .i64 0, .int .i64 0, .int .i64 0, .int .i64 0, .int .i64 0, .int .i64 0, .int .i64 0, .int .i64 0, .int .i64 0, .int .i64 0, .int .i64 0, .int .i64 0, .int .i64 0, .int .i64 0, .int .i64 0, .int .i64 0, .int .i64 0, .int .i64 0, .int .i64 0, .int .i64 0, .int .i64 0, .int .i64 0, .int .i64 0, .int .i64 0, .int .i64 0, .int .i64 0, .int .i64 0, .int .i64 0, .int .i64 0, .int .i64 0, .int .i64 0, .int .i64 0, .int .i64 0, .int .i64 0, .int .i64 0, .int .i64 0, .int .i64 0, .int .i64 0, .int .i64 0, .int .i64 0, .int .i64 0, .int .i64 0, .int .i64 0, .int .i64 0, .int .i64 0, .int .i64 0, .int .i64 0, .int .i64 0, .int .i64 0, .int .i64 0, .int .i64 0, .int .i64 0, .int .i64 0, .int .i64 0, .int .i64 0, .int .i64 0, .int .i64 0, .int .i64 0, .int .i64 0, .int .i64 0, .int .i64 0, .int .i64 0, .int .i64 0, .int .i64 0, .int .i64 0, .int .i64 0, .int .i64 0, .int .i64 0, .int .i64 0, .int .i64 0, .int .i64 0, .int .i64 0, .int .i64 0, .int .i64 0, .int .i64 0, .int .i64 0, .int .i64 0, .int .i64 0, .int .i64 0, .int .i64 0, .int .i64 0, .int .i64 0, .int .i64 0, .int .i64 0, .int .i64 0, .int .i64 0, .int .i64 0, .int .i64 0, .int .i64 0, .int .i64 0, .int .i64 0, .int .i64 0, .int .i64 0, .int .i64 0, .int .i64 0, .slice none 0 0, .slice none 0 0, .slice none 0 0, .map none], false⟩
noncomputable def ti207 : TI := ⟨.func, 1, 8, .nilFunc, false⟩
noncomputable def ti208 : TI := ⟨.func, 1, 8, .nilFunc, false⟩
noncomputable def ti210 : TI := ⟨.func, 1, 8, .nilFunc, false⟩
noncomputable def ti211 : TI := ⟨.ptr 212, 1, 8, .pointer none, false⟩
noncomputable def ti212 : TI := ⟨.struct [(9, 0, true), (3, 1, true)], 2, 24, .agg #[.string ⟨#[]⟩, .int .i64 0], false⟩
noncomputable def ti213 : TI := ⟨.func, 1, 8, .nilFunc, false⟩
noncomputable def ti214 : TI := ⟨.func, 1, 8, .nilFunc, false⟩
noncomputable def ti215 : TI := ⟨.func, 1, 8, .nilFunc, false⟩
noncomputable def ti216 : TI := ⟨.func, 1, 8, .nilFunc, false⟩
noncomputable def ti217 : TI := ⟨.ptr 5, 1, 8, .pointer none, false⟩
noncomputable def ti218 : TI := ⟨.func, 1, 8, .nilFunc, false⟩
noncomputable def ti219 : TI := ⟨.ptr 221, 1, 8, .pointer none, false⟩
noncomputable def ti220 : TI := ⟨.struct [(9, 0, true), (3, 1, true), (4, 2, true)], 3, 32, .agg #[.string ⟨#[]⟩, .int .i64 0, .bool false], false⟩
noncomputable def ti221 : TI := ⟨.struct [(9, 0, true), (3, 1, true), (4, 2, true)], 3, 32, .agg #[.string ⟨#[]⟩, .int .i64 0, .bool false], false⟩
noncomputable def ti222 : TI := ⟨.func, 1, 8, .nilFunc, false⟩
noncomputable def ti223 : TI := ⟨.func, 1, 8, .nilFunc, false⟩
noncomputable def ti224 : TI := ⟨.func, 1, 8, .nilFunc, false⟩
noncomputable def ti225 : TI := ⟨.func, 1, 8, .nilFunc, false⟩
noncomputable def ti226 : TI := ⟨.func, 1, 8, .nilFunc, false⟩
noncomputable def ti227 : TI := ⟨.func, 1, 8, .nilFunc, false⟩
noncomputable def ti228 : TI := ⟨.struct [(4, 0, true), (201, 1, true), (201, 2, true)], 3, 56, .agg #[.bool false, .slice none 0 0, .slice none 0 0], false⟩
noncomputable def ti229 : TI := ⟨.struct [(4, 0, true), (201, 1, true), (201, 2, true)], 3, 56, .agg #[.bool false, .slice none 0 0, .slice none 0 0], false⟩
noncomputable def ti230 : TI := ⟨.func, 1, 8, .nilFunc, false⟩
noncomputable def ti231 : TI := ⟨.func, 1, 8, .nilFunc, false⟩
noncomputable def ti232 : TI := ⟨.struct [(201, 0, true), (201, 1, true), (22, 2, true)], 3, 72, .agg #[.slice none 0 0, .slice none 0 0, .slice none 0 0], false⟩
noncomputable def ti233 : TI := ⟨.struct [(201, 0, true), (201, 1, true), (22, 2, true)], 3, 72, .agg #[.slice none 0 0, .slice none 0 0, .slice none 0 0], false⟩
noncomputable def ti234 : TI := ⟨.func, 1, 8, .nilFunc, false⟩
noncomputable def ti235 : TI := ⟨.func, 1, 8, .nilFunc, false⟩
noncomputable def ti236 : TI := ⟨.map 3 9, 1, 8, .map none, false⟩
noncomputable def ti237 : TI := ⟨.func, 1, 8, .nilFunc, false⟩
noncomputable def ti239 : TI := ⟨.func, 1, 8, .nilFunc, false⟩
noncomputable def ti240 : TI := ⟨.map 9 4, 1, 8, .map none, false⟩
noncomputable def ti241 : TI := ⟨.func, 1, 8, .nilFunc, false⟩
noncomputable def ti242 : TI := ⟨.func, 1, 8, .nilFunc, false⟩
noncomputable def ti243 : TI := ⟨.func, 1, 8, .nilFunc, false⟩
noncomputable def ti244 : TI := ⟨.map 3 4, 1, 8, .map none, false⟩
noncomputable def ti245 : TI := ⟨.func, 1, 8, .nilFunc, false⟩
noncomputable def ti246 : TI := ⟨.int .u64, 1, 8, .int .u64 0, false⟩
noncomputable def ti247 : TI := ⟨.func, 1, 8, .nilFunc, false⟩
noncomputable def ti248 : TI := ⟨.struct [(3, 0, true), (22, 1, true), (22, 2, true), (199, 3, true)], 4, 80, .agg #[.int .i64 0, .slice none 0 0, .slice none 0 0, .slice none 0 0], false⟩
noncomputable def ti249 : TI := ⟨.struct [(3, 0, true), (22, 1, true), (22, 2, true), (199, 3, true)], 4, 80, .agg #[.int .i64 0, .slice none 0 0, .slice none 0 0, .slice none 0 0], false⟩
noncomputable def ti250 : TI := ⟨.func, 1, 8, .nilFunc, false⟩
noncomputable def ti251 : TI := ⟨.ptr 253, 1, 8, .pointer none, false⟩
noncomputable def ti252 : TI := ⟨.struct [(9, 0, true), (3, 1, true), (4, 2, true)], 3, 32, .agg #[.string ⟨#[]⟩, .int .i64 0, .bool false], false⟩
noncomputable def ti253 : TI := ⟨.struct [(9, 0, true), (3, 1, true), (4, 2, true)], 3, 32, .agg #[.string ⟨#[]⟩, .int .i64 0, .bool false], false⟩
noncomputable def ti254 : TI := ⟨.func, 1, 8, .nilFunc, false⟩
noncomputable def ti255 : TI := ⟨.func, 1, 8, .nilFunc, false⟩
noncomputable def ti256 : TI := ⟨.func, 1, 8, .nilFunc, false⟩
noncomputable def ti258 : TI := ⟨.func, 1, 8, .nilFunc, false⟩
noncomputable def ti259 : TI := ⟨.func, 1, 8, .nilFunc, false⟩
noncomputable def ti260 : TI := ⟨.func, 1, 8, .nilFunc, false⟩
noncomputable def ti261 : TI := ⟨.func, 1, 8, .nilFunc, false⟩
noncomputable def ti262 : TI := ⟨.func, 1, 8, .nilFunc, false⟩
noncomputable def ti263 : TI := ⟨.func, 1, 8, .nilFunc, false⟩
noncomputable def ti264 : TI := ⟨.func, 1, 8, .nilFunc, false⟩
noncomputable def ti265 : TI := ⟨.arr 257 4, 257, 257, .agg ⟨List.replicate 257 (.bool false)⟩, false⟩
noncomputable def ti266 : TI := ⟨.func, 1, 8, .nilFunc, false⟩
noncomputable def ti267 : TI := ⟨.func, 1, 8, .nilFunc, false⟩
noncomputable def ti268 : TI := ⟨.func, 1, 8, .nilFunc, false⟩
noncomputable def ti269 : TI := ⟨.func, 1, 8, .nilFunc, false⟩
noncomputable def ti270 : TI := ⟨.int .u64, 1, 8, .int .u64 0, false⟩
noncomputable def ti271 : TI := ⟨.func, 1, 8, .nilFunc, false⟩
noncomputable def ti272 : TI := ⟨.func, 1, 8, .nilFunc, false⟩
noncomputable def ti273 : TI := ⟨.func, 1, 8, .nilFunc, false⟩
noncomputable def ti274 : TI := ⟨.arr 24 5, 24, 24, .agg ⟨List.replicate 24 (.int .u8 0)⟩, false⟩
noncomputable def ti275 : TI := ⟨.func, 1, 8, .nilFunc, false⟩
noncomputable def ti277 : TI := ⟨.func, 1, 8, .nilFunc, false⟩
noncomputable def ti278 : TI := ⟨.func, 1, 8, .nilFunc, false⟩
noncomputable def ti279 : TI := ⟨.func, 1, 8, .nilFunc, false⟩
noncomputable def ti280 : TI := ⟨.func, 1, 8, .nilFunc, false⟩
noncomputable def ti281 : TI := ⟨.func, 1, 8, .nilFunc, false⟩
noncomputable def ti282 : TI := ⟨.func, 1, 8, .nilFunc, false⟩
noncomputable def ti283 : TI := ⟨.func, 1, 8, .nilFunc, false⟩
noncomputable def ti284 : TI := ⟨.func, 1, 8, .nilFunc, false⟩
noncomputable def ti285 : TI := ⟨.arr 64 5, 64, 64, .agg ⟨List.replicate 64 (.int .u8 0)⟩, false⟩
noncomputable def ti286 : TI := ⟨.func, 1, 8, .nilFunc, false⟩
noncomputable def ti287 : TI := ⟨.func, 1, 8, .nilFunc, false⟩
noncomputable def ti288 : TI := ⟨.arr 20 246, 20, 160, .agg ⟨List.replicate 20 (.int .u64 0)⟩, false⟩
noncomputable def ti289 : TI := ⟨.int .u32, 1, 4, .int .u32 0, false⟩
noncomputable def ti290 : TI := ⟨.arr 65 5, 65, 65, .agg ⟨List.replicate 65 (.int .u8 0)⟩, false⟩
noncomputable def ti292 : TI := ⟨.func, 1, 8, .nilFunc, false⟩
noncomputable def ti293 : TI := ⟨.func, 1, 8, .nilFunc, false⟩
noncomputable def ti294 : TI := ⟨.func, 1, 8, .nilFunc, false⟩
noncomputable def ti295 : TI := ⟨.int .i64, 1, 8, .int .i64 0, false⟩
noncomputable def ti297 : TI := ⟨.func, 1, 8, .nilFunc, false⟩
noncomputable def ti298 : TI := ⟨.func, 1, 8, .nilFunc, false⟩
noncomputable def ti299 : TI := ⟨.func, 1, 8, .nilFunc, false⟩
noncomputable def ti300 : TI := ⟨.func, 1, 8, .nilFunc, false⟩
noncomputable def ti301 : TI := ⟨.func, 1, 8, .nilFunc, false⟩
noncomputable def ti303 : TI := ⟨.func, 1, 8, .nilFunc, false⟩
noncomputable def ti304 : TI := ⟨.int .u64, 1, 8, .int .u64 0, false⟩
noncomputable def ti305 : TI := ⟨.func, 1, 8, .nilFunc, false⟩
noncomputable def ti306 : TI := ⟨.func, 1, 8, .nilFunc, false⟩
noncomputable def ti307 : TI := ⟨.func, 1, 8, .nilFunc, false⟩
noncomputable def ti308 : TI := ⟨.func, 1, 8, .nilFunc, false⟩
noncomputable def ti309 : TI := ⟨.func, 1, 8, .nilFunc, false⟩
noncomputable def ti310 : TI := ⟨.arr 32 5, 32, 32, .agg ⟨List.replicate 32 (.int .u8 0)⟩, false⟩
noncomputable def ti311 : TI := ⟨.ptr 304, 1, 8, .pointer none, false⟩
noncomputable def ti313 : TI := ⟨.func, 1, 8, .nilFunc, false⟩
noncomputable def ti314 : TI := ⟨.int .i64, 1, 8, .int .i64 0, false⟩
noncomputable def ti315 : TI := ⟨.func, 1, 8, .nilFunc, false⟩
noncomputable def ti316 : TI := ⟨.ptr 320, 1, 8, .pointer none, false⟩
noncomputable def ti317 : TI := ⟨.func, 1, 8, .nilFunc, false⟩
noncomputable def ti318 : TI := ⟨.func, 1, 8, .nilFunc, false⟩
noncomputable def ti319 : TI := ⟨.struct [(9, 0, true), (9, 1, true), (128, 2, true)], 3, 48, .agg #[.string ⟨#[]⟩, .string ⟨#[]⟩, .nilIface], false⟩
noncomputable def ti320 : TI := ⟨.struct [(9, 0, true), (9, 1, true), (128, 2, true)], 3, 48, .agg #[.string ⟨#[]⟩, .string ⟨#[]⟩, .nilIface], false⟩
noncomputable def ti321 : TI := ⟨.func, 1, 8, .nilFunc, false⟩
noncomputable def ti322 : TI := ⟨.ptr 324, 1, 8, .pointer none, false⟩
noncomputable def ti323 : TI := ⟨.struct [(9, 0, true)], 1, 16, .agg #[.string ⟨#[]⟩], false⟩
noncomputable def ti324 : TI := ⟨.struct [(9, 0, true)], 1, 16, .agg #[.string ⟨#[]⟩], false⟩
noncomputable def ti325 : TI := ⟨.struct [(17, 0, true), (17, 1, true), (17, 2, true), (9, 3, true)], 4, 40, .agg #[.pointer none, .pointer none, .pointer none, .string ⟨#[]⟩], false⟩
noncomputable def ti326 : TI := ⟨.struct [(17, 0, true), (17, 1, true), (17, 2, true), (9, 3, true)], 4, 40, .agg #[.pointer none, .pointer none, .pointer none, .string ⟨#[]⟩], false⟩
noncomputable def ti327 : TI := ⟨.arr 0 16, 0, 0, .agg #[], false⟩
noncomputable def ti328 : TI := ⟨.struct [(327, 0, false)], 0, 0, .agg #[], false⟩
noncomputable def ti329 : TI := ⟨.struct [(327, 0, false)], 0, 0, .agg #[], false⟩
noncomputable def ti330 : TI := ⟨.int .u8, 1, 1, .int .u8 0, false⟩
noncomputable def ti331 : TI := ⟨.int .u8, 1, 1, .int .u8 0, false⟩
noncomputable def ti332 : TI := ⟨.func, 1, 8, .nilFunc, false⟩
noncomputable def ti333 : TI := ⟨.int .i32, 1, 4, .int .i32 0, false⟩
noncomputable def ti334 : TI := ⟨.int .i32, 1, 4, .int .i32 0, false⟩
noncomputable def ti335 : TI := ⟨.struct [(12, 0, true), (12, 1, true), (289, 2, true), (330, 3, true), (5, 4, true), (5, 5, true), (331, 6, true), (332, 7, true), (217, 8, true), (333, 9, true), (334, 10, true)], 11, 48, .agg #[.int .u64 0, .int .u64 0, .int .u32 0, .int .u8 0, .int .u8 0, .int .u8 0, .int .u8 0, .nilFunc, .pointer none, .int .i32 0, .int .i32 0], false⟩
noncomputable def ti336 : TI := ⟨.struct [(12, 0, true), (12, 1, true), (289, 2, true), (330, 3, true), (5, 4, true), (5, 5, true), (331, 6, true), (332, 7, true), (217, 8, true), (333, 9, true), (334, 10, true)], 11, 48, .agg #[.int .u64 0, .int .u64 0, .int .u32 0, .int .u8 0, .int .u8 0, .int .u8 0, .int .u8 0, .nilFunc, .pointer none, .int .i32 0, .int .i32 0], false⟩
noncomputable def tys : BT TI := (.node 175 ti175 (.node 86 ti86 (.node 42 ti42 (.node 19 ti19 (.node 10 ti10 (.node 5 ti5 (.node 3 ti3 (.node 2 ti2 (.node 1 ti1 .nil .nil) .nil) (.node 4 ti4 .nil .nil)) (.node 8 ti8 (.node 7 ti7 (.node 6 ti6 .nil .nil) .nil) (.node 9 ti9 .nil .nil))) (.node 15 ti15 (.node 13 ti13 (.node 12 ti12 (.node 11 ti11 .nil .nil) .nil) (.node 14 ti14 .nil .nil)) (.node 17 ti17 (.node 16 ti16 .nil .nil) (.node 18 ti18 .nil .nil)))) (.node 30 ti30 (.node 25 ti25 (.node 23 ti23 (.node 22 ti22 (.node 21 ti21 .nil .nil) .nil) (.node 24 ti24 .nil .nil)) (.node 28 ti28 (.node 27 ti27 (.node 26 ti26 .nil .nil) .nil) (.node 29 ti29 .nil .nil))) (.node 37 ti37 (.node 35 ti35 (.node 33 ti33 (.node 31 ti31 .nil .nil) .nil) (.node 36 ti36 .nil .nil)) (.node 39 ti39 (.node 38 ti38 .nil .nil) (.node 41 ti41 .nil .nil))))) (.node 63 ti63 (.node 53 ti53 (.node 47 ti47 (.node 45 ti45 (.node 44 ti44 (.node 43 ti43 .nil .nil) .nil) (.node 46 ti46 .nil .nil)) (.node 50 ti50 (.node 49 ti49 (.node 48 ti48 .nil .nil) .nil) (.node 51 ti51 .nil .nil))) (.node 58 ti58 (.node 56 ti56 (.node 55 ti55 (.node 54 ti54 .nil .nil) .nil) (.node 57 ti57 .nil .nil)) (.node 60 ti60 (.node 59 ti59 .nil .nil) (.node 61 ti61 .nil .nil)))) (.node 76 ti76 (.node 71 ti71 (.node 67 ti67 (.node 66 ti66 (.node 64 ti64 .nil .nil) .nil) (.node 69 ti69 .nil .nil)) (.node 74 ti74 (.node 73 ti73 (.node 72 ti72 .nil .nil) .nil) (.node 75 ti75 .nil .nil))) (.node 82 ti82 (.node 80 ti80 (.node 79 ti79 (.node 77 ti77 .nil .nil) .nil) (.node 81 ti81 .nil .nil)) (.node 84 ti84 (.node 83 ti83 .nil .nil) (.node 85 ti85 .nil .nil)))))) (.node 133 ti133 (.node 112 ti112 (.node 101 ti101 (.node 93 ti93 (.node 91 ti91 (.node 90 ti90 (.node 88 ti88 .nil .nil) .nil) (.node 92 ti92 .nil .nil)) (.node 98 ti98 (.node 96 ti96 (.node 95 ti95 .nil .nil) .nil) (.node 99 ti99 .nil .nil))) (.node 107 ti107 (.node 104 ti104 (.node 103 ti103 (.node 102 ti102 .nil .nil) .nil) (.node 105 ti105 .nil .nil)) (.node 110 ti110 (.node 109 ti109 .nil .nil) (.node 111 ti111 .nil .nil)))) (.node 122 ti122 (.node 117 ti117 (.node 115 ti115 (.node 114 ti114 (.node 113 ti113 .nil .nil) .nil) (.node 116 ti116 .nil .nil)) (.node 120 ti120 (.node 119 ti119 (.node 118 ti118 .nil .nil) .nil) (.node 121 ti121 .nil .nil))) (.node 129 ti129 (.node 125 ti125 (.node 124 ti124 (.node 123 ti123 .nil .nil) .nil) (.node 126 ti126 .nil .nil)) (.node 131 ti131 (.node 130 ti130 .nil .nil) (.node 132 ti132 .nil .nil))))) (.node 156 ti156 (.node 144 ti144 (.node 138 ti138 (.node 136 ti136 (.node 135 ti135 (.node 134 ti134 .nil .nil) .nil) (.node 137 ti137 .nil .nil)) (.node 142 ti142 (.node 141 ti141 (.node 139 ti139 .nil .nil) .nil) (.node 143 ti143 .nil .nil))) (.node 152 ti152 (.node 149 ti149 (.node 148 ti148 (.node 146 ti146 .nil .nil) .nil) (.node 151 ti151 .nil .nil)) (.node 154 ti154 (.node 153 ti153 .nil .nil) (.node 155 ti155 .nil .nil)))) (.node 166 ti166 (.node 161 ti161 (.node 159 ti159 (.node 158 ti158 (.node 157 ti157 .nil .nil) .nil) (.node 160 ti160 .nil .nil)) (.node 164 ti164 (.node 163 ti163 (.node 162 ti162 .nil .nil) .nil) (.node 165 ti165 .nil .nil))) (.node 171 ti171 (.node 169 ti169 (.node 168 ti168 (.node 167 ti167 .nil .nil) .nil) (.node 170 ti170 .nil .nil)) (.node 173 ti173 (.node 172 ti172 .nil .nil) (.node 174 ti174 .nil .nil))))))) (.node 255 ti255 (.node 216 ti216 (.node 196 ti196 (.node 186 ti186 (.node 180 ti180 (.node 178 ti178 (.node 177 ti177 (.node 176 ti176 .nil .nil) .nil) (.node 179 ti179 .nil .nil)) (.node 184 ti184 (.node 183 ti183 (.node 182 ti182 .nil .nil) .nil) (.node 185 ti185 .nil .nil))) (.node 192 ti192 (.node 190 ti190 (.node 189 ti189 (.node 188 ti188 .nil .nil) .nil) (.node 191 ti191 .nil .nil)) (.node 194 ti194 (.node 193 ti193 .nil .nil) (.node 195 ti195 .nil .nil)))) (.node 206 ti206 (.node 201 ti201 (.node 199 ti199 (.node 198 ti198 (.node 197 ti197 .nil .nil) .nil) (.node 200 ti200 .nil .nil)) (.node 204 ti204 (.node 203 ti203 (.node 202 ti202 .nil .nil) .nil) (.node 205 ti205 .nil .nil))) (.node 212 ti212 (.node 210 ti210 (.node 208 ti208 (.node 207 ti207 .nil .nil) .nil) (.node 211 ti211 .nil .nil)) (.node 214 ti214 (.node 213 ti213 .nil .nil) (.node 215 ti215 .nil .nil))))) (.node 235 ti235 (.node 226 ti226 (.node 221 ti221 (.node 219 ti219 (.node 218 ti218 (.node 217 ti217 .nil .nil) .nil) (.node 220 ti220 .nil .nil)) (.node 224 ti224 (.node 223 ti223 (.node 222 ti222 .nil .nil) .nil) (.node 225 ti225 .nil .nil))) (.node 231 ti231 (.node 229 ti229 (.node 228 ti228 (.node 227 ti227 .nil .nil) .nil) (.node 230 ti230 .nil .nil)) (.node 233 ti233 (.node 232 ti232 .nil .nil) (.node 234 ti234 .nil .nil)))) (.node 246 ti246 (.node 241 ti241 (.node 239 ti239 (.node 237 ti237 (.node 236 ti236 .nil .nil) .nil) (.node 240 ti240 .nil .nil)) (.node 244 ti244 (.node 243 ti243 (.node 242 ti242 .nil .nil) .nil) (.node 245 ti245 .nil .nil))) (.node 251 ti251 (.node 249 ti249 (.node 248 ti248 (.node 247 ti247 .nil .nil) .nil) (.node 250 ti250 .nil .nil)) (.node 253 ti253 (.node 252 ti252 .nil .nil) (.node 254 ti254 .nil .nil)))))) (.node 297 ti297 (.node 275 ti275 (.node 266 ti266 (.node 261 ti261 (.node 259 ti259 (.node 258 ti258 (.node 256 ti256 .nil .nil) .nil) (.node 260 ti260 .nil .nil)) (.node 264 ti264 (.node 263 ti263 (.node 262 ti262 .nil .nil) .nil) (.node 265 ti265 .nil .nil))) (.node 271 ti271 (.node 269 ti269 (.node 268 ti268 (.node 267 ti267 .nil .nil) .nil) (.node 270 ti270 .nil .nil)) (.node 273 ti273 (.node 272 ti272 .nil .nil) (.node 274 ti274 .nil .nil)))) (.node 286 ti286 (.node 281 ti281 (.node 279 ti279 (.node 278 ti278 (.node 277 ti277 .nil .nil) .nil) (.node 280 ti280 .nil .nil)) (.node 284 ti284 (.node 283 ti283 (.node 282 ti282 .nil .nil) .nil) (.node 285 ti285 .nil .nil))) (.node 292 ti292 (.node 289 ti289 (.node 288 ti288 (.node 287 ti287 .nil .nil) .nil) (.node 290 ti290 .nil .nil)) (.node 294 ti294 (.node 293 ti293 .nil .nil) (.node 295 ti295 .nil .nil))))) (.node 318 ti318 (.node 308 ti308 (.node 303 ti303 (.node 300 ti300 (.node 299 ti299 (.node 298 ti298 .nil .nil) .nil) (.node 301 ti301 .nil .nil)) (.node 306 ti306 (.node 305 ti305 (.node 304 ti304 .nil .nil) .nil) (.node 307 ti307 .nil .nil))) (.node 314 ti314 (.node 311 ti311 (.node 310 ti310 (.node 309 ti309 .nil .nil) .nil) (.node 313 ti313 .nil .nil)) (.node 316 ti316 (.node 315 ti315 .nil .nil) (.node 317 ti317 .nil .nil)))) (.node 328 ti328 (.node 323 ti323 (.node 321 ti321 (.node 320 ti320 (.node 319 ti319 .nil .nil) .nil) (.node 322 ti322 .nil .nil)) (.node 326 ti326 (.node 325 ti325 (.node 324 ti324 .nil .nil) .nil) (.node 327 ti327 .nil .nil))) (.node 333 ti333 (.node 331 ti331 (.node 330 ti330 (.node 329 ti329 .nil .nil) .nil) (.node 332 ti332 .nil .nil)) (.node 335 ti335 (.node 334 ti334 .nil .nil) (.node 336 ti336 .nil .nil))))))))
noncomputable def fns : BT Func := (.node 156 Tryz.f156 (.node 79 Tryz.f79 (.node 41 Tryz.f41 (.node 22 Tryz.f22 (.node 12 Tryz.f12 (.node 7 Tryz.f7 (.node 5 Tryz.f5 (.node 4 Tryz.f4 (.node 3 Tryz.f3 .nil .nil) .nil) (.node 6 Tryz.f6 .nil .nil)) (.node 10 Tryz.f10 (.node 9 Tryz.f9 (.node 8 Tryz.f8 .nil .nil) .nil) (.node 11 Tryz.f11 .nil .nil))) (.node 17 Tryz.f17 (.node 15 Tryz.f15 (.node 14 Tryz.f14 (.node 13 Tryz.f13 .nil .nil) .nil) (.node 16 Tryz.f16 .nil .nil)) (.node 20 Tryz.f20 (.node 19 Tryz.f19 (.node 18 Tryz.f18 .nil .nil) .nil) (.node 21 Tryz.f21 .nil .nil)))) (.node 32 Tryz.f32 (.node 27 Tryz.f27 (.node 25 Tryz.f25 (.node 24 Tryz.f24 (.node 23 Tryz.f23 .nil .nil) .nil) (.node 26 Tryz.f26 .nil .nil)) (.node 30 Tryz.f30 (.node 29 Tryz.f29 (.node 28 Tryz.f28 .nil .nil) .nil) (.node 31 Tryz.f31 .nil .nil))) (.node 37 Tryz.f37 (.node 35 Tryz.f35 (.node 34 Tryz.f34 (.node 33 Tryz.f33 .nil .nil) .nil) (.node 36 Tryz.f36 .nil .nil)) (.node 39 Tryz.f39 (.node 38 Tryz.f38 .nil .nil) (.node 40 Tryz.f40 .nil .nil))))) (.node 60 Tryz.f60 (.node 51 Tryz.f51 (.node 46 Tryz.f46 (.node 44 Tryz.f44 (.node 43 Tryz.f43 (.node 42 Tryz.f42 .nil .nil) .nil) (.node 45 Tryz.f45 .nil .nil)) (.node 49 Tryz.f49 (.node 48 Tryz.f48 (.node 47 Tryz.f47 .nil .nil) .nil) (.node 50 Tryz.f50 .nil .nil))) (.node 56 Tryz.f56 (.node 54 Tryz.f54 (.node 53 Tryz.f53 (.node 52 Tryz.f52 .nil .nil) .nil) (.node 55 Tryz.f55 .nil .nil)) (.node 58 Tryz.f58 (.node 57 Tryz.f57 .nil .nil) (.node 59 Tryz.f59 .nil .nil)))) (.node 70 Tryz.f70 (.node 65 Tryz.f65 (.node 63 Tryz.f63 (.node 62 Tryz.f62 (.node 61 Tryz.f61 .nil .nil) .nil) (.node 64 Tryz.f64 .nil .nil)) (.node 68 Tryz.f68 (.node 67 Tryz.f67 (.node 66 Tryz.f66 .nil .nil) .nil) (.node 69 Tryz.f69 .nil .nil))) (.node 75 Tryz.f75 (.node 73 Tryz.f73 (.node 72 Tryz.f72 (.node 71 Tryz.f71 .nil .nil) .nil) (.node 74 Tryz.f74 .nil .nil)) (.node 77 Tryz.f77 (.node 76 Tryz.f76 .nil .nil) (.node 78 Tryz.f78 .nil .nil)))))) (.node 118 Tryz.f118 (.node 99 Tryz.f99 (.node 89 Tryz.f89 (.node 84 Tryz.f84 (.node 82 Tryz.f82 (.node 81 Tryz.f81 (.node 80 Tryz.f80 .nil .nil) .nil) (.node 83 Tryz.f83 .nil .nil)) (.node 87 Tryz.f87 (.node 86 Tryz.f86 (.node 85 Tryz.f85 .nil .nil) .nil) (.node 88 Tryz.f88 .nil .nil))) (.node 94 Tryz.f94 (.node 92 Tryz.f92 (.node 91 Tryz.f91 (.node 90 Tryz.f90 .nil .nil) .nil) (.node 93 Tryz.f93 .nil .nil)) (.node 97 Tryz.f97 (.node 96 Tryz.f96 (.node 95 Tryz.f95 .nil .nil) .nil) (.node 98 Tryz.f98 .nil .nil)))) (.node 109 Tryz.f109 (.node 104 Tryz.f104 (.node 102 Tryz.f102 (.node 101 Tryz.f101 (.node 100 Tryz.f100 .nil .nil) .nil) (.node 103 Tryz.f103 .nil .nil)) (.node 107 Tryz.f107 (.node 106 Tryz.f106 (.node 105 Tryz.f105 .nil .nil) .nil) (.node 108 Tryz.f108 .nil .nil))) (.node 114 Tryz.f114 (.node 112 Tryz.f112 (.node 111 Tryz.f111 (.node 110 Tryz.f110 .nil .nil) .nil) (.node 113 Tryz.f113 .nil .nil)) (.node 116 Tryz.f116 (.node 115 Tryz.f115 .nil .nil) (.node 117 Tryz.f117 .nil .nil))))) (.node 137 Tryz.f137 (.node 128 Tryz.f128 (.node 123 Tryz.f123 (.node 121 Tryz.f121 (.node 120 Tryz.f120 (.node 119 Tryz.f119 .nil .nil) .nil) (.node 122 Tryz.f122 .nil .nil)) (.node 126 Tryz.f126 (.node 125 Tryz.f125 (.node 124 Tryz.f124 .nil .nil) .nil) (.node 127 Tryz.f127 .nil .nil))) (.node 133 Tryz.f133 (.node 131 Tryz.f131 (.node 130 Tryz.f130 (.node 129 Tryz.f129 .nil .nil) .nil) (.node 132 Tryz.f132 .nil .nil)) (.node 135 Tryz.f135 (.node 134 Tryz.f134 .nil .nil) (.node 136 Tryz.f136 .nil .nil)))) (.node 147 Tryz.f147 (.node 142 Tryz.f142 (.node 140 Tryz.f140 (.node 139 Tryz.f139 (.node 138 Tryz.f138 .nil .nil) .nil) (.node 141 Tryz.f141 .nil .nil)) (.node 145 Tryz.f145 (.node 144 Tryz.f144 (.node 143 Tryz.f143 .nil .nil) .nil) (.node 146 Tryz.f146 .nil .nil))) (.node 152 Tryz.f152 (.node 150 Tryz.f150 (.node 149 Tryz.f149 (.node 148 Tryz.f148 .nil .nil) .nil) (.node 151 Tryz.f151 .nil .nil)) (.node 154 Tryz.f154 (.node 153 Tryz.f153 .nil .nil) (.node 155 Tryz.f155 .nil .nil))))))) (.node 233 Tryz.f233 (.node 195 Tryz.f195 (.node 176 Tryz.f176 (.node 166 Tryz.f166 (.node 161 Tryz.f161 (.node 159 Tryz.f159 (.node 158 Tryz.f158 (.node 157 Tryz.f157 .nil .nil) .nil) (.node 160 Tryz.f160 .nil .nil)) (.node 164 Tryz.f164 (.node 163 Tryz.f163 (.node 162 Tryz.f162 .nil .nil) .nil) (.node 165 Tryz.f165 .nil .nil))) (.node 171 Tryz.f171 (.node 169 Tryz.f169 (.node 168 Tryz.f168 (.node 167 Tryz.f167 .nil .nil) .nil) (.node 170 Tryz.f170 .nil .nil)) (.node 174 Tryz.f174 (.node 173 Tryz.f173 (.node 172 Tryz.f172 .nil .nil) .nil) (.node 175 Tryz.f175 .nil .nil)))) (.node 186 Tryz.f186 (.node 181 Tryz.f181 (.node 179 Tryz.f179 (.node 178 Tryz.f178 (.node 177 Tryz.f177 .nil .nil) .nil) (.node 180 Tryz.f180 .nil .nil)) (.node 184 Tryz.f184 (.node 183 Tryz.f183 (.node 182 Tryz.f182 .nil .nil) .nil) (.node 185 Tryz.f185 .nil .nil))) (.node 191 Tryz.f191 (.node 189 Tryz.f189 (.node 188 Tryz.f188 (.node 187 Tryz.f187 .nil .nil) .nil) (.node 190 Tryz.f190 .nil .nil)) (.node 193 Tryz.f193 (.node 192 Tryz.f192 .nil .nil) (.node 194 Tryz.f194 .nil .nil))))) (.node 214 Tryz.f214 (.node 205 Tryz.f205 (.node 200 Tryz.f200 (.node 198 Tryz.f198 (.node 197 Tryz.f197 (.node 196 Tryz.f196 .nil .nil) .nil) (.node 199 Tryz.f199 .nil .nil)) (.node 203 Tryz.f203 (.node 202 Tryz.f202 (.node 201 Tryz.f201 .nil .nil) .nil) (.node 204 Tryz.f204 .nil .nil))) (.node 210 Tryz.f210 (.node 208 Tryz.f208 (.node 207 Tryz.f207 (.node 206 Tryz.f206 .nil .nil) .nil) (.node 209 Tryz.f209 .nil .nil)) (.node 212 Tryz.f212 (.node 211 Tryz.f211 .nil .nil) (.node 213 Tryz.f213 .nil .nil)))) (.node 224 Tryz.f224 (.node 219 Tryz.f219 (.node 217 Tryz.f217 (.node 216 Tryz.f216 (.node 215 Tryz.f215 .nil .nil) .nil) (.node 218 Tryz.f218 .nil .nil)) (.node 222 Tryz.f222 (.node 221 Tryz.f221 (.node 220 Tryz.f220 .nil .nil) .nil) (.node 223 Tryz.f223 .nil .nil))) (.node 229 Tryz.f229 (.node 227 Tryz.f227 (.node 226 Tryz.f226 (.node 225 Tryz.f225 .nil .nil) .nil) (.node 228 Tryz.f228 .nil .nil)) (.node 231 Tryz.f231 (.node 230 Tryz.f230 .nil .nil) (.node 232 Tryz.f232 .nil .nil)))))) (.node 271 Tryz.f271 (.node 252 Tryz.f252 (.node 243 Tryz.f243 (.node 238 Tryz.f238 (.node 236 Tryz.f236 (.node 235 Tryz.f235 (.node 234 Tryz.f234 .nil .nil) .nil) (.node 237 Tryz.f237 .nil .nil)) (.node 241 Tryz.f241 (.node 240 Tryz.f240 (.node 239 Tryz.f239 .nil .nil) .nil) (.node 242 Tryz.f242 .nil .nil))) (.node 248 Tryz.f248 (.node 246 Tryz.f246 (.node 245 Tryz.f245 (.node 244 Tryz.f244 .nil .nil) .nil) (.node 247 Tryz.f247 .nil .nil)) (.node 250 Tryz.f250 (.node 249 Tryz.f249 .nil .nil) (.node 251 Tryz.f251 .nil .nil)))) (.node 262 Tryz.f262 (.node 257 Tryz.f257 (.node 255 Tryz.f255 (.node 254 Tryz.f254 (.node 253 Tryz.f253 .nil .nil) .nil) (.node 256 Tryz.f256 .nil .nil)) (.node 260 Tryz.f260 (.node 259 Tryz.f259 (.node 258 Tryz.f258 .nil .nil) .nil) (.node 261 Tryz.f261 .nil .nil))) (.node 267 Tryz.f267 (.node 265 Tryz.f265 (.node 264 Tryz.f264 (.node 263 Tryz.f263 .nil .nil) .nil) (.node 266 Tryz.f266 .nil .nil)) (.node 269 Tryz.f269 (.node 268 Tryz.f268 .nil .nil) (.node 270 Tryz.f270 .nil .nil))))) (.node 290 Tryz.f290 (.node 281 Tryz.f281 (.node 276 Tryz.f276 (.node 274 Tryz.f274 (.node 273 Tryz.f273 (.node 272 Tryz.f272 .nil .nil) .nil) (.node 275 Tryz.f275 .nil .nil)) (.node 279 Tryz.f279 (.node 278 Tryz.f278 (.node 277 Tryz.f277 .nil .nil) .nil) (.node 280 Tryz.f280 .nil .nil))) (.node 286 Tryz.f286 (.node 284 Tryz.f284 (.node 283 Tryz.f283 (.node 282 Tryz.f282 .nil .nil) .nil) (.node 285 Tryz.f285 .nil .nil)) (.node 288 Tryz.f288 (.node 287 Tryz.f287 .nil .nil) (.node 289 Tryz.f289 .nil .nil)))) (.node 300 Tryz.f300 (.node 295 Tryz.f295 (.node 293 Tryz.f293 (.node 292 Tryz.f292 (.node 291 Tryz.f291 .nil .nil) .nil) (.node 294 Tryz.f294 .nil .nil)) (.node 298 Tryz.f298 (.node 297 Tryz.f297 (.node 296 Tryz.f296 .nil .nil) .nil) (.node 299 Tryz.f299 .nil .nil))) (.node 305 Tryz.f305 (.node 303 Tryz.f303 (.node 302 Tryz.f302 (.node 301 Tryz.f301 .nil .nil) .nil) (.node 304 Tryz.f304 .nil .nil)) (.node 307 Tryz.f307 (.node 306 Tryz.f306 .nil .nil) (.node 308 Tryz.f308 .nil .nil))))))))
noncomputable def tab : Tab := Tab.ofTrees tys fns
theorem tys_ok : tys.all (checkTy Tryz.prog) = true := by kernel_rfl
theorem nm3 : (Tryz.f3.name == "runtime.NumGoroutine") = false := by kernel_rfl
theorem nm9 : (Tryz.f9.name == "runtime.NumGoroutine") = false := by kernel_rfl
theorem nm10 : (Tryz.f10.name == "runtime.NumGoroutine") = false := by kernel_rfl
theorem nm11 : (Tryz.f11.name == "runtime.NumGoroutine") = false := by kernel_rfl
theorem nm12 : (Tryz.f12.name == "runtime.NumGoroutine") = false := by kernel_rfl
theorem nm13 : (Tryz.f13.name == "runtime.NumGoroutine") = false := by kernel_rfl
theorem nm14 : (Tryz.f14.name == "runtime.NumGoroutine") = false := by kernel_rfl
theorem nm15 : (Tryz.f15.name == "runtime.NumGoroutine") = false := by kernel_rfl
theorem nm16 : (Tryz.f16.name == "runtime.NumGoroutine") = false := by kernel_rfl
theorem nm17 : (Tryz.f17.name == "runtime.NumGoroutine") = false := by kernel_rfl
theorem nm18 : (Tryz.f18.name == "runtime.NumGoroutine") = false := by kernel_rfl
theorem nm19 : (Tryz.f19.name == "runtime.NumGoroutine") = false := by kernel_rfl
theorem nm20 : (Tryz.f20.name == "runtime.NumGoroutine") = false := by kernel_rfl
theorem nm21 : (Tryz.f21.name == "runtime.NumGoroutine") = false := by kernel_rfl
theorem nm22 : (Tryz.f22.name == "runtime.NumGoroutine") = false := by kernel_rfl
theorem nm23 : (Tryz.f23.name == "runtime.NumGoroutine") = false := by kernel_rfl
theorem nm33 : (Tryz.f33.name == "runtime.NumGoroutine") = false := by kernel_rfl
theorem nm39 : (Tryz.f39.name == "runtime.NumGoroutine") = false := by kernel_rfl
theorem nm50 : (Tryz.f50.name == "runtime.NumGoroutine") = false := by kernel_rfl
theorem nm75 : (Tryz.f75.name == "runtime.NumGoroutine") = false := by kernel_rfl
theorem nm76 : (Tryz.f76.name == "runtime.NumGoroutine") = false := by kernel_rfl
theorem nm77 : (Tryz.f77.name == "runtime.NumGoroutine") = false := by kernel_rfl
theorem nm78 : (Tryz.f78.name == "runtime.NumGoroutine") = false := by kernel_rfl
theorem nm80 : (Tryz.f80.name == "runtime.NumGoroutine") = false := by kernel_rfl
theorem nm81 : (Tryz.f81.name == "runtime.NumGoroutine") = false := by kernel_rfl
theorem nm82 : (Tryz.f82.name == "runtime.NumGoroutine") = false := by kernel_rfl
theorem nm83 : (Tryz.f83.name == "runtime.NumGoroutine") = false := by kernel_rfl
theorem nm84 : (Tryz.f84.name == "runtime.NumGoroutine") = false := by kernel_rfl
theorem nm85 : (Tryz.f85.name == "runtime.NumGoroutine") = false := by kernel_rfl
theorem nm86 : (Tryz.f86.name == "runtime.NumGoroutine") = false := by kernel_rfl
theorem nm87 : (Tryz.f87.name == "runtime.NumGoroutine") = false := by kernel_rfl
theorem nm88 : (Tryz.f88.name == "runtime.NumGoroutine") = false := by kernel_rfl
theorem nm89 : (Tryz.f89.name == "runtime.NumGoroutine") = false := by kernel_rfl
theorem nm90 : (Tryz.f90.name == "runtime.NumGoroutine") = false := by kernel_rfl
theorem nm91 : (Tryz.f91.name == "runtime.NumGoroutine") = false := by kernel_rfl
theorem nm92 : (Tryz.f92.name == "runtime.NumGoroutine") = false := by kernel_rfl
theorem nm93 : (Tryz.f93.name == "runtime.NumGoroutine") = false := by kernel_rfl
theorem nm94 : (Tryz.f94.name == "runtime.NumGoroutine") = false := by kernel_rfl
theorem nm95 : (Tryz.f95.name == "runtime.NumGoroutine") = false := by kernel_rfl
theorem nm96 : (Tryz.f96.name == "runtime.NumGoroutine") = false := by kernel_rfl
theorem nm97 : (Tryz.f97.name == "runtime.NumGoroutine") = false := by kernel_rfl
theorem nm135 : (Tryz.f135.name == "runtime.NumGoroutine") = false := by kernel_rfl
theorem nm136 : (Tryz.f136.name == "runtime.NumGoroutine") = false := by kernel_rfl
theorem nm138 : (Tryz.f138.name == "runtime.NumGoroutine") = false := by kernel_rfl
theorem nm139 : (Tryz.f139.name == "runtime.NumGoroutine") = false := by kernel_rfl
theorem nm140 : (Tryz.f140.name == "runtime.NumGoroutine") = false := by kernel_rfl
theorem nm141 : (Tryz.f141.name == "runtime.NumGoroutine") = false := by kernel_rfl
theorem nm143 : (Tryz.f143.name == "runtime.NumGoroutine") = false := by kernel_rfl
theorem nm144 : (Tryz.f144.name == "runtime.NumGoroutine") = false := by kernel_rfl
theorem nm145 : (Tryz.f145.name == "runtime.NumGoroutine") = false := by kernel_rfl
theorem nm146 : (Tryz.f146.name == "runtime.NumGoroutine") = false := by kernel_rfl
theorem nm147 : (Tryz.f147.name == "runtime.NumGoroutine") = false := by kernel_rfl
theorem nm148 : (Tryz.f148.name == "runtime.NumGoroutine") = false := by kernel_rfl
theorem nm149 : (Tryz.f149.name == "runtime.NumGoroutine") = false := by kernel_rfl
theorem nm150 : (Tryz.f150.name == "runtime.NumGoroutine") = false := by kernel_rfl
theorem nm185 : (Tryz.f185.name == "runtime.NumGoroutine") = false := by kernel_rfl
theorem nm186 : (Tryz.f186.name == "runtime.NumGoroutine") = false := by kernel_rfl
theorem nm188 : (Tryz.f188.name == "runtime.NumGoroutine") = false := by kernel_rfl
theorem nm189 : (Tryz.f189.name == "runtime.NumGoroutine") = false := by kernel_rfl
theorem nm190 : (Tryz.f190.name == "runtime.NumGoroutine") = false := by kernel_rfl
theorem nm191 : (Tryz.f191.name == "runtime.NumGoroutine") = false := by kernel_rfl
theorem nm192 : (Tryz.f192.name == "runtime.NumGoroutine") = false := by kernel_rfl
theorem nm193 : (Tryz.f193.name == "runtime.NumGoroutine") = false := by kernel_rfl
theorem nm194 : (Tryz.f194.name == "runtime.NumGoroutine") = false := by kernel_rfl
theorem nm195 : (Tryz.f195.name == "runtime.NumGoroutine") = false := by kernel_rfl
theorem nm196 : (Tryz.f196.name == "runtime.NumGoroutine") = false := by kernel_rfl
theorem nm197 : (Tryz.f197.name == "runtime.NumGoroutine") = false := by kernel_rfl
theorem nm225 : (Tryz.f225.name == "runtime.NumGoroutine") = false := by kernel_rfl
theorem nm226 : (Tryz.f226.name == "runtime.NumGoroutine") = false := by kernel_rfl
theorem nm227 : (Tryz.f227.name == "runtime.NumGoroutine") = false := by kernel_rfl
theorem nm228 : (Tryz.f228.name == "runtime.NumGoroutine") = false := by kernel_rfl
theorem nm232 : (Tryz.f232.name == "runtime.NumGoroutine") = false := by kernel_rfl
theorem fns_f : fns.All fun f fn => Tryz.prog.funcs[f]? = some fn := ⟨Tryz.func156, ⟨Tryz.func79, ⟨Tryz.func41, ⟨Tryz.func22, ⟨Tryz.func12, ⟨Tryz.func7, ⟨Tryz.func5, ⟨Tryz.func4, ⟨Tryz.func3, trivial, trivial⟩, trivial⟩, ⟨Tryz.func6, trivial, trivial⟩⟩, ⟨Tryz.func10, ⟨Tryz.func9, ⟨Tryz.func8, trivial, trivial⟩, trivial⟩, ⟨Tryz.func11, trivial, trivial⟩⟩⟩, ⟨Tryz.func17, ⟨Tryz.func15, ⟨Tryz.func14, ⟨Tryz.func13, trivial, trivial⟩, trivial⟩, ⟨Tryz.func16, trivial, trivial⟩⟩, ⟨Tryz.func20, ⟨Tryz.func19, ⟨Tryz.func18, trivial, trivial⟩, trivial⟩, ⟨Tryz.func21, trivial, trivial⟩⟩⟩⟩, ⟨Tryz.func32, ⟨Tryz.func27, ⟨Tryz.func25, ⟨Tryz.func24, ⟨Tryz.func23, trivial, trivial⟩, trivial⟩, ⟨Tryz.func26, trivial, trivial⟩⟩, ⟨Tryz.func30, ⟨Tryz.func29, ⟨Tryz.func28, trivial, trivial⟩, trivial⟩, ⟨Tryz.func31, trivial, trivial⟩⟩⟩, ⟨Tryz.func37, ⟨Tryz.func35, ⟨Tryz.func34, ⟨Tryz.func33, trivial, trivial⟩, trivial⟩, ⟨Tryz.func36, trivial, trivial⟩⟩, ⟨Tryz.func39, ⟨Tryz.func38, trivial, trivial⟩, ⟨Tryz.func40, trivial, trivial⟩⟩⟩⟩⟩, ⟨Tryz.func60, ⟨Tryz.func51, ⟨Tryz.func46, ⟨Tryz.func44, ⟨Tryz.func43, ⟨Tryz.func42, trivial, trivial⟩, trivial⟩, ⟨Tryz.func45, trivial, trivial⟩⟩, ⟨Tryz.func49, ⟨Tryz.func48, ⟨Tryz.func47, trivial, trivial⟩, trivial⟩, ⟨Tryz.func50, trivial, trivial⟩⟩⟩, ⟨Tryz.func56, ⟨Tryz.func54, ⟨Tryz.func53, ⟨Tryz.func52, trivial, trivial⟩, trivial⟩, ⟨Tryz.func55, trivial, trivial⟩⟩, ⟨Tryz.func58, ⟨Tryz.func57, trivial, trivial⟩, ⟨Tryz.func59, trivial, trivial⟩⟩⟩⟩, ⟨Tryz.func70, ⟨Tryz.func65, ⟨Tryz.func63, ⟨Tryz.func62, ⟨Tryz.func61, trivial, trivial⟩, trivial⟩, ⟨Tryz.func64, trivial, trivial⟩⟩, ⟨Tryz.func68, ⟨Tryz.func67, ⟨Tryz.func66, trivial, trivial⟩, trivial⟩, ⟨Tryz.func69, trivial, trivial⟩⟩⟩, ⟨Tryz.func75, ⟨Tryz.func73, ⟨Tryz.func72, ⟨Tryz.func71, trivial, trivial⟩, trivial⟩, ⟨Tryz.func74, trivial, trivial⟩⟩, ⟨Tryz.func77, ⟨Tryz.func76, trivial, trivial⟩, ⟨Tryz.func78, trivial, trivial⟩⟩⟩⟩⟩⟩, ⟨Tryz.func118, ⟨Tryz.func99, ⟨Tryz.func89, ⟨Tryz.func84, ⟨Tryz.func82, ⟨Tryz.func81, ⟨Tryz.func80, trivial, trivial⟩, trivial⟩, ⟨Tryz.func83, trivial, trivial⟩⟩, ⟨Tryz.func87, ⟨Tryz.func86, ⟨Tryz.func85, trivial, trivial⟩, trivial⟩, ⟨Tryz.func88, trivial, trivial⟩⟩⟩, ⟨Tryz.func94, ⟨Tryz.func92, ⟨Tryz.func91, ⟨Tryz.func90, trivial, trivial⟩, trivial⟩, ⟨Tryz.func93, trivial, trivial⟩⟩, ⟨Tryz.func97, ⟨Tryz.func96, ⟨Tryz.func95, trivial, trivial⟩, trivial⟩, ⟨Tryz.func98, trivial, trivial⟩⟩⟩⟩, ⟨Tryz.func109, ⟨Tryz.func104, ⟨Tryz.func102, ⟨Tryz.func101, ⟨Tryz.func100, trivial, trivial⟩, trivial⟩, ⟨Tryz.func103, trivial, trivial⟩⟩, ⟨Tryz.func107, ⟨Tryz.func106, ⟨Tryz.func105, trivial, trivial⟩, trivial⟩, ⟨Tryz.func108, trivial, trivial⟩⟩⟩, ⟨Tryz.func114, ⟨Tryz.func112, ⟨Tryz.func111, ⟨Tryz.func110, trivial, trivial⟩, trivial⟩, ⟨Tryz.func113, trivial, trivial⟩⟩, ⟨Tryz.func116, ⟨Tryz.func115, trivial, trivial⟩, ⟨Tryz.func117, trivial, trivial⟩⟩⟩⟩⟩, ⟨Tryz.func137, ⟨Tryz.func128, ⟨Tryz.func123, ⟨Tryz.func121, ⟨Tryz.func120, ⟨Tryz.func119, trivial, trivial⟩, trivial⟩, ⟨Tryz.func122, trivial, trivial⟩⟩, ⟨Tryz.func126, ⟨Tryz.func125, ⟨Tryz.func124, trivial, trivial⟩, trivial⟩, ⟨Tryz.func127, trivial, trivial⟩⟩⟩, ⟨Tryz.func133, ⟨Tryz.func131, ⟨Tryz.func130, ⟨Tryz.func129, trivial, trivial⟩, trivial⟩, ⟨Tryz.func132, trivial, trivial⟩⟩, ⟨Tryz.func135, ⟨Tryz.func134, trivial, trivial⟩, ⟨Tryz.func136, trivial, trivial⟩⟩⟩⟩, ⟨Tryz.func147, ⟨Tryz.func142, ⟨Tryz.func140, ⟨Tryz.func139, ⟨Tryz.func138, trivial, trivial⟩, trivial⟩, ⟨Tryz.func141, trivial, trivial⟩⟩, ⟨Tryz.func145, ⟨Tryz.func144, ⟨Tryz.func143, trivial, trivial⟩, trivial⟩, ⟨Tryz.func146, trivial, trivial⟩⟩⟩, ⟨Tryz.func152, ⟨Tryz.func150, ⟨Tryz.func149, ⟨Tryz.func148, trivial, trivial⟩, trivial⟩, ⟨Tryz.func151, trivial, trivial⟩⟩, ⟨Tryz.func154, ⟨Tryz.func153, trivial, trivial⟩, ⟨Tryz.func155, trivial, trivial⟩⟩⟩⟩⟩⟩⟩, ⟨Tryz.func233, ⟨Tryz.func195, ⟨Tryz.func176, ⟨Tryz.func166, ⟨Tryz.func161, ⟨Tryz.func159, ⟨Tryz.func158, ⟨Tryz.func157, trivial, trivial⟩, trivial⟩, ⟨Tryz.func160, trivial, trivial⟩⟩, ⟨Tryz.func164, ⟨Tryz.func163, ⟨Tryz.func162, trivial, trivial⟩, trivial⟩, ⟨Tryz.func165, trivial, trivial⟩⟩⟩, ⟨Tryz.func171, ⟨Tryz.func169, ⟨Tryz.func168, ⟨Tryz.func167, trivial, trivial⟩, trivial⟩, ⟨Tryz.func170, trivial, trivial⟩⟩, ⟨Tryz.func174, ⟨Tryz.func173, ⟨Tryz.func172, trivial, trivial⟩, trivial⟩, ⟨Tryz.func175, trivial, trivial⟩⟩⟩⟩, ⟨Tryz.func186, ⟨Tryz.func181, ⟨Tryz.func179, ⟨Tryz.func178, ⟨Tryz.func177, trivial, trivial⟩, trivial⟩, ⟨Tryz.func180, trivial, trivial⟩⟩, ⟨Tryz.func184, ⟨Tryz.func183, ⟨Tryz.func182, trivial, trivial⟩, trivial⟩, ⟨Tryz.func185, trivial, trivial⟩⟩⟩, ⟨Tryz.func191, ⟨Tryz.func189, ⟨Tryz.func188, ⟨Tryz.func187, trivial, trivial⟩, trivial⟩, ⟨Tryz.func190, trivial, trivial⟩⟩, ⟨Tryz.func193, ⟨Tryz.func192, trivial, trivial⟩, ⟨Tryz.func194, trivial, trivial⟩⟩⟩⟩⟩, ⟨Tryz.func214, ⟨Tryz.func205, ⟨Tryz.func200, ⟨Tryz.func198, ⟨Tryz.func197, ⟨Tryz.func196, trivial, trivial⟩, trivial⟩, ⟨Tryz.func199, trivial, trivial⟩⟩, ⟨Tryz.func203, ⟨Tryz.func202, ⟨Tryz.func201, trivial, trivial⟩, trivial⟩, ⟨Tryz.func204, trivial, trivial⟩⟩⟩, ⟨Tryz.func210, ⟨Tryz.func208, ⟨Tryz.func207, ⟨Tryz.func206, trivial, trivial⟩, trivial⟩, ⟨Tryz.func209, trivial, trivial⟩⟩, ⟨Tryz.func212, ⟨Tryz.func211, trivial, trivial⟩, ⟨Tryz.func213, trivial, trivial⟩⟩⟩⟩, ⟨Tryz.func224, ⟨Tryz.func219, ⟨Tryz.func217, ⟨Tryz.func216, ⟨Tryz.func215, trivial, trivial⟩, trivial⟩, ⟨Tryz.func218, trivial, trivial⟩⟩, ⟨Tryz.func222, ⟨Tryz.func221, ⟨Tryz.func220, trivial, trivial⟩, trivial⟩, ⟨Tryz.func223, trivial, trivial⟩⟩⟩, ⟨Tryz.func229, ⟨Tryz.func227, ⟨Tryz.func226, ⟨Tryz.func225, trivial, trivial⟩, trivial⟩, ⟨Tryz.func228, trivial, trivial⟩⟩, ⟨Tryz.func231, ⟨Tryz.func230, trivial, trivial⟩, ⟨Tryz.func232, trivial, trivial⟩⟩⟩⟩⟩⟩, ⟨Tryz.func271, ⟨Tryz.func252, ⟨Tryz.func243, ⟨Tryz.func238, ⟨Tryz.func236, ⟨Tryz.func235, ⟨Tryz.func234, trivial, trivial⟩, trivial⟩, ⟨Tryz.func237, trivial, trivial⟩⟩, ⟨Tryz.func241, ⟨Tryz.func240, ⟨Tryz.func239, trivial, trivial⟩, trivial⟩, ⟨Tryz.func242, trivial, trivial⟩⟩⟩, ⟨Tryz.func248, ⟨Tryz.func246, ⟨Tryz.func245, ⟨Tryz.func244, trivial, trivial⟩, trivial⟩, ⟨Tryz.func247, trivial, trivial⟩⟩, ⟨Tryz.func250, ⟨Tryz.func249, trivial, trivial⟩, ⟨Tryz.func251, trivial, trivial⟩⟩⟩⟩, ⟨Tryz.func262, ⟨Tryz.func257, ⟨Tryz.func255, ⟨Tryz.func254, ⟨Tryz.func253, trivial, trivial⟩, trivial⟩, ⟨Tryz.func256, trivial, trivial⟩⟩, ⟨Tryz.func260, ⟨Tryz.func259, ⟨Tryz.func258, trivial, trivial⟩, trivial⟩, ⟨Tryz.func261, trivial, trivial⟩⟩⟩, ⟨Tryz.func267, ⟨Tryz.func265, ⟨Tryz.func264, ⟨Tryz.func263, trivial, trivial⟩, trivial⟩, ⟨Tryz.func266, trivial, trivial⟩⟩, ⟨Tryz.func269, ⟨Tryz.func268, trivial, trivial⟩, ⟨Tryz.func270, trivial, trivial⟩⟩⟩⟩⟩, ⟨Tryz.func290, ⟨Tryz.func281, ⟨Tryz.func276, ⟨Tryz.func274, ⟨Tryz.func273, ⟨Tryz.func272, trivial, trivial⟩, trivial⟩, ⟨Tryz.func275, trivial, trivial⟩⟩, ⟨Tryz.func279, ⟨Tryz.func278, ⟨Tryz.func277, trivial, trivial⟩, trivial⟩, ⟨Tryz.func280, trivial, trivial⟩⟩⟩, ⟨Tryz.func286, ⟨Tryz.func284, ⟨Tryz.func283, ⟨Tryz.func282, trivial, trivial⟩, trivial⟩, ⟨Tryz.func285, trivial, trivial⟩⟩, ⟨Tryz.func288, ⟨Tryz.func287, trivial, trivial⟩, ⟨Tryz.func289, trivial, trivial⟩⟩⟩⟩, ⟨Tryz.func300, ⟨Tryz.func295, ⟨Tryz.func293, ⟨Tryz.func292, ⟨Tryz.func291, trivial, trivial⟩, trivial⟩, ⟨Tryz.func294, trivial, trivial⟩⟩, ⟨Tryz.func298, ⟨Tryz.func297, ⟨Tryz.func296, trivial, trivial⟩, trivial⟩, ⟨Tryz.func299, trivial, trivial⟩⟩⟩, ⟨Tryz.func305, ⟨Tryz.func303, ⟨Tryz.func302, ⟨Tryz.func301, trivial, trivial⟩, trivial⟩, ⟨Tryz.func304, trivial, trivial⟩⟩, ⟨Tryz.func307, ⟨Tryz.func306, trivial, trivial⟩, ⟨Tryz.func308, trivial, trivial⟩⟩⟩⟩⟩⟩⟩⟩
theorem fns_n : (fns.all fun _ fn => !(fn.name == "runtime.NumGoroutine")) = true := by kernel_rfl
theorem all_two {α : Type} {p q : Nat → α → Prop} {r : Nat → α → Bool} (h : ∀ k v, p k v → r k v = true → q k v) : ∀ {t : BT α}, t.All p → t.all r = true → t.All q
  | .nil, _, _ => trivial
  | .node k v a b, h1, h2 => by
    simp only [BT.all, Bool.and_eq_true] at h2
    exact ⟨h k v h1.1 h2.1, all_two h h1.2.1 h2.2.1, all_two h h1.2.2 h2.2.2⟩
theorem fns_ok : fns.All fun f fn => FnOk Tryz.prog (f, fn) := all_two (fun k v h1 h2 => ⟨h1, by simpa using h2⟩) fns_f fns_n
theorem tab_ok : tab.Ok Tryz.prog := Tab.ofTrees_ok tys_ok fns_ok
theorem mixed : Tryz.prog.follows .mixedOrders = true := by kernel_rfl
end Go.S1
end
section
namespace Go.S1
open Go Go.Am Go.Proofs
set_option maxRecDepth 100000
theorem ty3 : tab.ty 3 = some { td := .int .i64, size := 1, bytes := 8, zero := .int .i64 0, eqok := false } := by kernel_rfl
theorem ty4 : tab.ty 4 = some { td := .bool, size := 1, bytes := 1, zero := .bool false, eqok := false } := by kernel_rfl
theorem ty5 : tab.ty 5 = some { td := .int .u8, size := 1, bytes := 1, zero := .int .u8 0, eqok := false } := by kernel_rfl
theorem ty9 : tab.ty 9 = some { td := .str, size := 1, bytes := 16, zero := .string ⟨#[]⟩, eqok := false } := by kernel_rfl
theorem ty22 : tab.ty 22 = some { td := .slice 3, size := 1, bytes := 24, zero := .slice none 0 0, eqok := false } := by kernel_rfl
theorem ty25 : tab.ty 25 = some { td := .struct [(22, 0, true), (3, 1, true)], size := 2, bytes := 32, zero := .agg #[.slice none 0 0, .int .i64 0], eqok := false } := by kernel_rfl
theorem ty28 : tab.ty 28 = some { td := .slice 44, size := 1, bytes := 24, zero := .slice none 0 0, eqok := false } := by kernel_rfl
theorem ty44 : tab.ty 44 = some { td := .struct [(3, 0, true), (3, 1, true), (9, 2, true)], size := 3, bytes := 32, zero := .agg #[.int .i64 0, .int .i64 0, .string ⟨#[]⟩], eqok := true } := by kernel_rfl
theorem ty118 : tab.ty 118 = some { td := .slice 5, size := 1, bytes := 24, zero := .slice none 0 0, eqok := false } := by kernel_rfl
theorem ty120 : tab.ty 120 = some { td := .struct [(117, 0, true), (118, 1, true)], size := 2, bytes := 32, zero := .agg #[.pointer none, .slice none 0 0], eqok := false } := by kernel_rfl
theorem ty121 : tab.ty 121 = some { td := .slice 126, size := 1, bytes := 24, zero := .slice none 0 0, eqok := false } := by kernel_rfl
theorem ty123 : tab.ty 123 = some { td := .struct [(3, 0, true), (121, 1, true)], size := 2, bytes := 32, zero := .agg #[.int .i64 0, .slice none 0 0], eqok := false } := by kernel_rfl
theorem ty126 : tab.ty 126 = some { td := .struct [(3, 0, true), (5, 1, true)], size := 2, bytes := 16, zero := .agg #[.int .i64 0, .int .u8 0], eqok := false } := by kernel_rfl
theorem ty189 : tab.ty 189 = some { td := .slice 9, size := 1, bytes := 24, zero := .slice none 0 0, eqok := false } := by kernel_rfl
theorem al3 {N : List AV → AHeap → Prop} {d : Option Nat} {tm : List AV} {s : AHeap} : lstep Tryz.prog tab N (.alloc 3) d tm s = N (aput tm d (.ptr s.nx 0)) (s.new (.cells [.int .i64 0] (some 3))) := by rw [lstep_alloc, ty3]; rfl
theorem al9 {N : List AV → AHeap → Prop} {d : Option Nat} {tm : List AV} {s : AHeap} : lstep Tryz.prog tab N (.alloc 9) d tm s = N (aput tm d (.ptr s.nx 0)) (s.new (.cells [.str []] (some 9))) := by rw [lstep_alloc, ty9]; rfl
theorem al28 {N : List AV → AHeap → Prop} {d : Option Nat} {tm : List AV} {s : AHeap} : lstep Tryz.prog tab N (.alloc 28) d tm s = N (aput tm d (.ptr s.nx 0)) (s.new (.cells [.nils] (some 28))) := by rw [lstep_alloc, ty28]; rfl
theorem al44 {N : List AV → AHeap → Prop} {d : Option Nat} {tm : List AV} {s : AHeap} : lstep Tryz.prog tab N (.alloc 44) d tm s = N (aput tm d (.ptr s.nx 0)) (s.new (.cells [.int .i64 0, .int .i64 0, .str []] (some 44))) := by rw [lstep_alloc, ty44]; rfl
theorem al120 {N : List AV → AHeap → Prop} {d : Option Nat} {tm : List AV} {s : AHeap} : lstep Tryz.prog tab N (.alloc 120) d tm s = N (aput tm d (.ptr s.nx 0)) (s.new (.cells [.nilp, .nils] (some 120))) := by rw [lstep_alloc, ty120]; rfl
theorem al123 {N : List AV → AHeap → Prop} {d : Option Nat} {tm : List AV} {s : AHeap} : lstep Tryz.prog tab N (.alloc 123) d tm s = N (aput tm d (.ptr s.nx 0)) (s.new (.cells [.int .i64 0, .nils] (some 123))) := by rw [lstep_alloc, ty123]; rfl
theorem al126 {N : List AV → AHeap → Prop} {d : Option Nat} {tm : List AV} {s : AHeap} : lstep Tryz.prog tab N (.alloc 126) d tm s = N (aput tm d (.ptr s.nx 0)) (s.new (.cells [.int .i64 0, .int .u8 0] (some 126))) := by rw [lstep_alloc, ty126]; rfl
theorem ld3 {x : AV} {s : AHeap} : aload tab 3 x s = (acellsAt s x).bind fun cs => cs[0]? := by rw [aload_one ty3 rfl]
theorem st3 {b o : Nat} {v : AV} {s : AHeap} : astore tab 3 (.ptr b o) v s = astoreAt s b o 1 v := by rw [astore_ptr ty3]
theorem ld4 {x : AV} {s : AHeap} : aload tab 4 x s = (acellsAt s x).bind fun cs => cs[0]? := by rw [aload_one ty4 rfl]
theorem st4 {b o : Nat} {v : AV} {s : AHeap} : astore tab 4 (.ptr b o) v s = astoreAt s b o 1 v := by rw [astore_ptr ty4]
theorem ld5 {x : AV} {s : AHeap} : aload tab 5 x s = (acellsAt s x).bind fun cs => cs[0]? := by rw [aload_one ty5 rfl]
theorem st5 {b o : Nat} {v : AV} {s : AHeap} : astore tab 5 (.ptr b o) v s = astoreAt s b o 1 v := by rw [astore_ptr ty5]
theorem ld9 {x : AV} {s : AHeap} : aload tab 9 x s = (acellsAt s x).bind fun cs => cs[0]? := by rw [aload_one ty9 rfl]
theorem st9 {b o : Nat} {v : AV} {s : AHeap} : astore tab 9 (.ptr b o) v s = astoreAt s b o 1 v := by rw [astore_ptr ty9]
theorem len9 {l : List UInt8} : alen tab 9 (.str l) = some (.int .i64 l.length) := by simp [alen, ty9]
theorem ld22 {x : AV} {s : AHeap} : aload tab 22 x s = (acellsAt s x).bind fun cs => cs[0]? := by rw [aload_one ty22 rfl]
theorem st22 {b o : Nat} {v : AV} {s : AHeap} : astore tab 22 (.ptr b o) v s = astoreAt s b o 1 v := by rw [astore_ptr ty22]
theorem len22r {z b o n : Nat} : alen tab 22 (.rs z b o n) = some (.int .i64 n) := by simp [alen, ty22]
theorem fa25_0p {b o : Nat} : afieldAddr tab 25 (.ptr b o) 0 = some (.ptr b (o + 0)) := by simp [afieldAddr, ty25, Tab.size, ty22]
theorem fa25_1p {b o : Nat} : afieldAddr tab 25 (.ptr b o) 1 = some (.ptr b (o + 1)) := by simp [afieldAddr, ty25, Tab.size, ty3]
theorem ld28 {x : AV} {s : AHeap} : aload tab 28 x s = (acellsAt s x).bind fun cs => cs[0]? := by rw [aload_one ty28 rfl]
theorem st28 {b o : Nat} {v : AV} {s : AHeap} : astore tab 28 (.ptr b o) v s = astoreAt s b o 1 v := by rw [astore_ptr ty28]
theorem fa44_0p {b o : Nat} : afieldAddr tab 44 (.ptr b o) 0 = some (.ptr b (o + 0)) := by simp [afieldAddr, ty44, Tab.size, ty3]
theorem fa44_1p {b o : Nat} : afieldAddr tab 44 (.ptr b o) 1 = some (.ptr b (o + 1)) := by simp [afieldAddr, ty44, Tab.size, ty3]
theorem fa44_2p {b o : Nat} : afieldAddr tab 44 (.ptr b o) 2 = some (.ptr b (o + 2)) := by simp [afieldAddr, ty44, Tab.size, ty9]
theorem ld44 {x : AV} {s : AHeap} : aload tab 44 x s = (acellsAt s x).bind fun cs => if 3 ≤ cs.length then some (.agg (cs.take 3)) else none := by rw [aload_agg ty44 rfl]
theorem st44 {b o : Nat} {v : AV} {s : AHeap} : astore tab 44 (.ptr b o) v s = astoreAt s b o 3 v := by rw [astore_ptr ty44]
theorem ld118 {x : AV} {s : AHeap} : aload tab 118 x s = (acellsAt s x).bind fun cs => cs[0]? := by rw [aload_one ty118 rfl]
theorem st118 {b o : Nat} {v : AV} {s : AHeap} : astore tab 118 (.ptr b o) v s = astoreAt s b o 1 v := by rw [astore_ptr ty118]
theorem len118r {z b o n : Nat} : alen tab 118 (.rs z b o n) = some (.int .i64 n) := by simp [alen, ty118]
theorem fa120_1p {b o : Nat} : afieldAddr tab 120 (.ptr b o) 1 = some (.ptr b (o + 1)) := by simp [afieldAddr, ty120, Tab.size, ty118]
theorem ld121 {x : AV} {s : AHeap} : aload tab 121 x s = (acellsAt s x).bind fun cs => cs[0]? := by rw [aload_one ty121 rfl]
theorem st121 {b o : Nat} {v : AV} {s : AHeap} : astore tab 121 (.ptr b o) v s = astoreAt s b o 1 v := by rw [astore_ptr ty121]
theorem len121n : alen tab 121 .nils = some (.int .i64 0) := by simp [alen, ty121]
theorem len121r {z b o n : Nat} : alen tab 121 (.rs z b o n) = some (.int .i64 n) := by simp [alen, ty121]
theorem fa123_0p {b o : Nat} : afieldAddr tab 123 (.ptr b o) 0 = some (.ptr b (o + 0)) := by simp [afieldAddr, ty123, Tab.size, ty3]
theorem fa123_1p {b o : Nat} : afieldAddr tab 123 (.ptr b o) 1 = some (.ptr b (o + 1)) := by simp [afieldAddr, ty123, Tab.size, ty121]
theorem ld123 {x : AV} {s : AHeap} : aload tab 123 x s = (acellsAt s x).bind fun cs => if 2 ≤ cs.length then some (.agg (cs.take 2)) else none := by rw [aload_agg ty123 rfl]
theorem st123 {b o : Nat} {v : AV} {s : AHeap} : astore tab 123 (.ptr b o) v s = astoreAt s b o 2 v := by rw [astore_ptr ty123]
theorem fa126_0p {b o : Nat} : afieldAddr tab 126 (.ptr b o) 0 = some (.ptr b (o + 0)) := by simp [afieldAddr, ty126, Tab.size, ty3]
theorem fa126_1p {b o : Nat} : afieldAddr tab 126 (.ptr b o) 1 = some (.ptr b (o + 1)) := by simp [afieldAddr, ty126, Tab.size, ty5]
theorem ld126 {x : AV} {s : AHeap} : aload tab 126 x s = (acellsAt s x).bind fun cs => if 2 ≤ cs.length then some (.agg (cs.take 2)) else none := by rw [aload_agg ty126 rfl]
theorem st126 {b o : Nat} {v : AV} {s : AHeap} : astore tab 126 (.ptr b o) v s = astoreAt s b o 2 v := by rw [astore_ptr ty126]
theorem len189r {z b o n : Nat} : alen tab 189 (.rs z b o n) = some (.int .i64 n) := by simp [alen, ty189]
end Go.S1
end
section
namespace Go.S1
open Go Go.Am Go.Proofs
set_option maxRecDepth 100000
noncomputable def L9 : LCode := .seq (.ops [⟨.assign (.const (.string ⟨⟨[]⟩⟩)), some 4, none⟩]) (.seq (.ops [⟨.assign (.const (.string ⟨⟨[]⟩⟩)), some 5, none⟩]) (.seq (.seq (.ops [⟨.move (.tmp 0), some 6, none⟩, ⟨.move (.tmp 1), some 7, none⟩, ⟨.call ⟨.value (.func 33), ⟨[.tmp 6, .const (.int .i64 0), .tmp 7]⟩, ⟨[23, 3, 3]⟩⟩, some 8, none⟩, ⟨.move (.const (.int .i64 0)), some 9, none⟩]) (.block 0 (.loop (.seq (.ops [⟨.binOp .lss 3 (.tmp 9) (.tmp 8) 3, some 10, none⟩]) (.seq (.cond (.tmp 10) .skip (.exit 0)) (.seq (.block 1 (.ops [⟨.move (.tmp 5), some 11, none⟩, ⟨.move (.tmp 0), some 12, none⟩, ⟨.buildSlice 189 5 { toList := [(0, .const (.string ⟨⟨[97]⟩⟩)), (1, .const (.string ⟨⟨[98]⟩⟩)), (2, .const (.string ⟨⟨[99]⟩⟩)), (3, .const (.string ⟨⟨[97]⟩⟩)), (4, .const (.string ⟨⟨[10]⟩⟩))] }, some 13, none⟩, ⟨.call ⟨.value (.func 39), ⟨[.tmp 12, .tmp 13]⟩, ⟨[23, 189]⟩⟩, some 14, none⟩, ⟨.binOp .add 9 (.tmp 11) (.tmp 14) 9, some 15, none⟩, ⟨.assign (.tmp 15), some 5, none⟩])) (.ops [⟨.binOp .add 3 (.tmp 9) (.const (.int .i64 1)) 3, some 16, none⟩, ⟨.move (.tmp 16), some 9, none⟩]))))))) (.seq (.ops [⟨.move (.tmp 5), some 17, none⟩, ⟨.assign (.tmp 17), some 4, none⟩]) .ret)))
theorem l9 : Tryz.f9.body.map lighten = some L9 := by kernel_rfl
theorem rs9 : Tryz.f9.results.toList = [ResultVar.tmp 4] := by kernel_rfl
theorem nt9 : Tryz.f9.ntmps = 18 := by kernel_rfl
noncomputable def L13 : LCode := .seq (.ops [⟨.assign (.const (.slice none 0 0)), some 4, none⟩]) (.seq (.ops [⟨.assign (.const (.slice none 0 0)), some 5, none⟩]) (.seq (.ops [⟨.move (.tmp 0), some 8, none⟩, ⟨.call ⟨.value (.func 33), ⟨[.tmp 8, .const (.int .i64 0), .const (.int .i64 3)]⟩, ⟨[23, 3, 3]⟩⟩, some 9, none⟩, ⟨.assign (.tmp 9), some 6, none⟩]) (.seq (.seq (.ops [⟨.move (.tmp 0), some 10, none⟩, ⟨.buildSlice 22 5 ⟨[(0, .const (.int .i64 0)), (1, .const (.int .i64 1)), (2, .const (.int .i64 1)), (3, .const (.int .i64 2)), (4, .const (.int .i64 3))]⟩, some 11, none⟩, ⟨.call ⟨.value (.func 18), ⟨[.tmp 10, .tmp 11]⟩, ⟨[23, 22]⟩⟩, some 12, none⟩, ⟨.move (.const (.int .i64 0)), some 13, none⟩]) (.block 0 (.loop (.seq (.ops [⟨.binOp .lss 3 (.tmp 13) (.tmp 12) 3, some 14, none⟩]) (.seq (.cond (.tmp 14) .skip (.exit 0)) (.seq (.block 1 (.seq (.seq (.ops [⟨.move (.tmp 6), some 15, none⟩, ⟨.move (.tmp 1), some 16, none⟩, ⟨.binOp .gtr 3 (.tmp 15) (.tmp 16) 3, some 17, none⟩]) (.cond (.tmp 17) (.exit 0) .skip)) (.seq (.ops [⟨.move (.tmp 6), some 18, none⟩, ⟨.move (.tmp 0), some 19, none⟩, ⟨.buildSlice 22 5 ⟨[(0, .const (.int .i64 0)), (1, .const (.int .i64 1)), (2, .const (.int .i64 1)), (3, .const (.int .i64 2)), (4, .const (.int .i64 4))]⟩, some 20, none⟩, ⟨.call ⟨.value (.func 18), ⟨[.tmp 19, .tmp 20]⟩, ⟨[23, 22]⟩⟩, some 21, none⟩, ⟨.move (.tmp 1), some 22, none⟩, ⟨.move (.tmp 6), some 23, none⟩, ⟨.binOp .sub 3 (.tmp 22) (.tmp 23) 3, some 24, none⟩, ⟨.call ⟨.builtin .min, ⟨[.tmp 21, .tmp 24]⟩, ⟨[3, 3]⟩⟩, some 25, none⟩, ⟨.move (.tmp 0), some 26, none⟩, ⟨.buildSlice 189 5 { toList := [(0, .const (.string ⟨⟨[]⟩⟩)), (1, .const (.string ⟨⟨[120]⟩⟩)), (2, .const (.string ⟨⟨[121, 122]⟩⟩)), (3, .const (.string ⟨⟨[120]⟩⟩)), (4, .const (.string ⟨⟨[195, 169]⟩⟩))] }, some 27, none⟩, ⟨.call ⟨.value (.func 39), ⟨[.tmp 26, .tmp 27]⟩, ⟨[23, 189]⟩⟩, some 28, none⟩, ⟨.build 44 ⟨[(0, .tmp 18), (1, .tmp 25), (2, .tmp 28)]⟩, some 29, none⟩, ⟨.alloc 44, some 7, none⟩, ⟨.store 44 (.tmp 7) (.tmp 29), none, none⟩]) (.seq (.seq (.ops [⟨.fieldAddr 44 (.tmp 7) 1, some 30, none⟩, ⟨.load 3 (.tmp 30), some 31, none⟩, ⟨.binOp .eql 3 (.tmp 31) (.const (.int .i64 0)) 3, some 32, none⟩, ⟨.move (.tmp 32), some 33, none⟩, ⟨.fieldAddr 44 (.tmp 7) 2, some 34, some (33, true)⟩, ⟨.load 9 (.tmp 34), some 35, some (33, true)⟩, ⟨.binOp .eql 9 (.tmp 35) (.const (.string ⟨⟨[]⟩⟩)) 9, some 36, some (33, true)⟩, ⟨.pick (.tmp 33) (.tmp 36) (.const (.bool false)), some 37, none⟩]) (.cond (.tmp 37) (.ops [⟨.fieldAddr 44 (.tmp 7) 2, some 38, none⟩, ⟨.store 9 (.tmp 38) (.const (.string ⟨⟨[119]⟩⟩)), none, none⟩]) .skip)) (.seq (.ops [⟨.move (.tmp 5), some 39, none⟩, ⟨.load 44 (.tmp 7), some 40, none⟩, ⟨.buildSlice 28 1 ⟨[(0, .tmp 40)]⟩, some 41, none⟩, ⟨.call ⟨.builtin .append, ⟨[.tmp 39, .tmp 41]⟩, ⟨[28, 28]⟩⟩, some 42, none⟩, ⟨.assign (.tmp 42), some 5, none⟩]) (.draw [0, 0, 2, 0, 0, 24, 62, 127, 255] [⟨.move (.tmp 6), some 43, none⟩, ⟨.fieldAddr 44 (.tmp 7) 1, some 44, none⟩, ⟨.load 3 (.tmp 44), some 45, none⟩, ⟨.move (.tmp 0), some 46, none⟩, ⟨.buildSlice 22 4 ⟨[(0, .const (.int .i64 1)), (1, .const (.int .i64 1)), (2, .const (.int .i64 2)), (3, .const (.int .i64 5))]⟩, some 47, none⟩, ⟨.call ⟨.value (.func 18), ⟨[.tmp 46, .tmp 47]⟩, ⟨[23, 22]⟩⟩, some 48, none⟩, ⟨.binOp .add 3 (.tmp 45) (.tmp 48) 3, some 49, none⟩, ⟨.binOp .add 3 (.tmp 43) (.tmp 49) 3, some 50, none⟩, ⟨.assign (.tmp 50), some 6, none⟩])))))) (.ops [⟨.binOp .add 3 (.tmp 13) (.const (.int .i64 1)) 3, some 51, none⟩, ⟨.move (.tmp 51), some 13, none⟩]))))))) (.seq (.seq (.ops [⟨.move (.tmp 0), some 52, none⟩, ⟨.call ⟨.value (.func 10), ⟨[.tmp 52, .const (.int .i64 15)]⟩, ⟨[23, 3]⟩⟩, some 53, none⟩]) (.cond (.tmp 53) (.ops [⟨.move (.tmp 5), some 54, none⟩, ⟨.move (.tmp 0), some 55, none⟩, ⟨.move (.tmp 1), some 56, none⟩, ⟨.call ⟨.value (.func 50), ⟨[.tmp 55, .tmp 56]⟩, ⟨[23, 3]⟩⟩, some 57, none⟩, ⟨.buildSlice 28 1 ⟨[(0, .tmp 57)]⟩, some 58, none⟩, ⟨.call ⟨.builtin .append, ⟨[.tmp 54, .tmp 58]⟩, ⟨[28, 28]⟩⟩, some 59, none⟩, ⟨.assign (.tmp 59), some 5, none⟩]) .skip)) (.seq (.ops [⟨.move (.tmp 5), some 60, none⟩, ⟨.assign (.tmp 60), some 4, none⟩]) .ret)))))
theorem l13 : Tryz.f13.body.map lighten = some L13 := by kernel_rfl
theorem rs13 : Tryz.f13.results.toList = [ResultVar.tmp 4] := by kernel_rfl
theorem nt13 : Tryz.f13.ntmps = 61 := by kernel_rfl
noncomputable def L33 : LCode := .seq (.ops [⟨.assign (.const (.int .i64 0)), some 6, none⟩]) (.seq (.seq (.ops [⟨.move (.tmp 2), some 7, none⟩, ⟨.move (.tmp 1), some 8, none⟩, ⟨.binOp .lss 3 (.tmp 7) (.tmp 8) 3, some 9, none⟩]) (.cond (.tmp 9) (.seq (.ops [⟨.move (.tmp 1), some 10, none⟩, ⟨.assign (.tmp 10), some 6, none⟩]) .ret) .skip)) (.seq (.ops [⟨.move (.tmp 1), some 11, none⟩, ⟨.move (.tmp 0), some 12, none⟩, ⟨.move (.tmp 2), some 13, none⟩, ⟨.move (.tmp 1), some 14, none⟩, ⟨.binOp .sub 3 (.tmp 13) (.tmp 14) 3, some 15, none⟩, ⟨.binOp .add 3 (.tmp 15) (.const (.int .i64 1)) 3, some 16, none⟩, ⟨.call ⟨.value (.func 75), ⟨[.tmp 12, .tmp 16]⟩, ⟨[23, 3]⟩⟩, some 17, none⟩, ⟨.binOp .add 3 (.tmp 11) (.tmp 17) 3, some 18, none⟩, ⟨.assign (.tmp 18), some 6, none⟩]) .ret))
theorem l33 : Tryz.f33.body.map lighten = some L33 := by kernel_rfl
theorem rs33 : Tryz.f33.results.toList = [ResultVar.tmp 6] := by kernel_rfl
theorem nt33 : Tryz.f33.ntmps = 19 := by kernel_rfl
noncomputable def L10 : LCode := .seq (.ops [⟨.assign (.const (.bool false)), some 4, none⟩]) (.seq (.ops [⟨.move (.tmp 0), some 5, none⟩, ⟨.move (.tmp 1), some 6, none⟩, ⟨.call ⟨.value (.func 75), ⟨[.tmp 5, .tmp 6]⟩, ⟨[23, 3]⟩⟩, some 7, none⟩, ⟨.binOp .eql 3 (.tmp 7) (.const (.int .i64 0)) 3, some 8, none⟩, ⟨.assign (.tmp 8), some 4, none⟩]) .ret)
theorem l10 : Tryz.f10.body.map lighten = some L10 := by kernel_rfl
theorem rs10 : Tryz.f10.results.toList = [ResultVar.tmp 4] := by kernel_rfl
theorem nt10 : Tryz.f10.ntmps = 9 := by kernel_rfl
noncomputable def L76 : LCode := .seq (.ops [⟨.assign (.const (.int .i64 0)), some 4, none⟩]) (.seq (.block 0 (.seq (.ops [⟨.move (.tmp 0), some 10, none⟩, ⟨.call ⟨.value (.func 89), ⟨[.tmp 10, .const (.int .i64 0), .const (.int .i64 20000)]⟩, ⟨[3, 3, 3]⟩⟩, some 11, none⟩, ⟨.unOp .not 4 (.tmp 11), some 12, none⟩, ⟨.assign (.tmp 12), some 9, none⟩]) (.cond (.tmp 9) (.seq (.ops [⟨.assign (.const (.int .i64 1)), some 4, none⟩]) .ret) (.seq (.ops [⟨.move (.tmp 1), some 14, none⟩, ⟨.call ⟨.builtin .len, ⟨[.tmp 14]⟩, ⟨[28]⟩⟩, some 15, none⟩, ⟨.binOp .gtr 3 (.tmp 15) (.const (.int .i64 2000)) 3, some 16, none⟩, ⟨.assign (.tmp 16), some 13, none⟩]) (.cond (.tmp 13) (.seq (.ops [⟨.assign (.const (.int .i64 2)), some 4, none⟩]) .ret) .skip))))) (.seq (.ops [⟨.move (.tmp 0), some 17, none⟩, ⟨.assign (.const (.int .i64 (-1))), some 5, none⟩, ⟨.assign (.tmp 17), some 6, none⟩]) (.seq (.seq (.ops [⟨.move (.tmp 1), some 18, none⟩, ⟨.call ⟨.builtin .len, ⟨[.tmp 18]⟩, ⟨[28]⟩⟩, some 19, none⟩, ⟨.move (.const (.int .i64 0)), some 20, none⟩]) (.block 1 (.loop (.seq (.ops [⟨.binOp .lss 3 (.tmp 20) (.tmp 19) 3, some 21, none⟩]) (.seq (.cond (.tmp 21) .skip (.exit 1)) (.seq (.block 2 (.seq (.ops [⟨.indexAddr 28 (.tmp 18) (.tmp 20), some 22, none⟩, ⟨.load 44 (.tmp 22), some 23, none⟩, ⟨.alloc 44, some 8, none⟩, ⟨.store 44 (.tmp 8) (.tmp 23), none, none⟩]) (.seq (.block 3 (.seq (.ops [⟨.fieldAddr 44 (.tmp 8) 0, some 25, none⟩, ⟨.load 3 (.tmp 25), some 26, none⟩, ⟨.move (.tmp 0), some 27, none⟩, ⟨.call ⟨.value (.func 89), ⟨[.tmp 26, .const (.int .i64 0), .tmp 27]⟩, ⟨[3, 3, 3]⟩⟩, some 28, none⟩, ⟨.unOp .not 4 (.tmp 28), some 29, none⟩, ⟨.move (.tmp 29), some 30, none⟩, ⟨.fieldAddr 44 (.tmp 8) 1, some 31, some (30, false)⟩, ⟨.load 3 (.tmp 31), some 32, some (30, false)⟩, ⟨.move (.tmp 0), some 33, some (30, false)⟩, ⟨.fieldAddr 44 (.tmp 8) 0, some 34, some (30, false)⟩, ⟨.load 3 (.tmp 34), some 35, some (30, false)⟩, ⟨.binOp .sub 3 (.tmp 33) (.tmp 35) 3, some 36, some (30, false)⟩, ⟨.call ⟨.value (.func 89), ⟨[.tmp 32, .const (.int .i64 0), .tmp 36]⟩, ⟨[3, 3, 3]⟩⟩, some 37, some (30, false)⟩, ⟨.unOp .not 4 (.tmp 37), some 38, some (30, false)⟩, ⟨.pick (.tmp 30) (.const (.bool true)) (.tmp 38), some 39, none⟩, ⟨.assign (.tmp 39), some 24, none⟩]) (.cond (.tmp 24) (.seq (.ops [⟨.assign (.const (.int .i64 1)), some 4, none⟩]) .ret) (.seq (.ops [⟨.fieldAddr 44 (.tmp 8) 1, some 41, none⟩, ⟨.load 3 (.tmp 41), some 42, none⟩, ⟨.binOp .eql 3 (.tmp 42) (.const (.int .i64 0)) 3, some 43, none⟩, ⟨.move (.tmp 43), some 44, none⟩, ⟨.fieldAddr 44 (.tmp 8) 2, some 45, some (44, true)⟩, ⟨.load 9 (.tmp 45), some 46, some (44, true)⟩, ⟨.binOp .eql 9 (.tmp 46) (.const (.string ⟨⟨[]⟩⟩)) 9, some 47, some (44, true)⟩, ⟨.pick (.tmp 44) (.tmp 47) (.const (.bool false)), some 48, none⟩, ⟨.assign (.tmp 48), some 40, none⟩]) (.cond (.tmp 40) (.seq (.ops [⟨.assign (.const (.int .i64 3)), some 4, none⟩]) .ret) (.seq (.ops [⟨.fieldAddr 44 (.tmp 8) 0, some 50, none⟩, ⟨.load 3 (.tmp 50), some 51, none⟩, ⟨.move (.tmp 5), some 52, none⟩, ⟨.binOp .leq 3 (.tmp 51) (.tmp 52) 3, some 53, none⟩, ⟨.assign (.tmp 53), some 49, none⟩]) (.cond (.tmp 49) (.seq (.ops [⟨.assign (.const (.int .i64 7)), some 4, none⟩]) .ret) .skip))))))) (.seq (.ops [⟨.fieldAddr 44 (.tmp 8) 0, some 54, none⟩, ⟨.load 3 (.tmp 54), some 55, none⟩, ⟨.fieldAddr 44 (.tmp 8) 1, some 56, none⟩, ⟨.load 3 (.tmp 56), some 57, none⟩, ⟨.binOp .add 3 (.tmp 55) (.tmp 57) 3, some 58, none⟩, ⟨.assign (.tmp 58), some 5, none⟩]) (.ops [⟨.move (.tmp 6), some 59, none⟩, ⟨.fieldAddr 44 (.tmp 8) 2, some 60, none⟩, ⟨.load 9 (.tmp 60), some 61, none⟩, ⟨.call ⟨.builtin .len, ⟨[.tmp 61]⟩, ⟨[9]⟩⟩, some 62, none⟩, ⟨.fieldAddr 44 (.tmp 8) 1, some 63, none⟩, ⟨.load 3 (.tmp 63), some 64, none⟩, ⟨.binOp .sub 3 (.tmp 62) (.tmp 64) 3, some 65, none⟩, ⟨.binOp .add 3 (.tmp 59) (.tmp 65) 3, some 66, none⟩, ⟨.assign (.tmp 66), some 6, none⟩]))))) (.ops [⟨.binOp .add 3 (.tmp 20) (.const (.int .i64 1)) 3, some 67, none⟩, ⟨.move (.tmp 67), some 20, none⟩]))))))) (.seq (.seq (.ops [⟨.move (.tmp 6), some 68, none⟩, ⟨.binOp .gtr 3 (.tmp 68) (.const (.int .i64 20000)) 3, some 69, none⟩]) (.cond (.tmp 69) (.seq (.ops [⟨.assign (.const (.int .i64 2)), some 4, none⟩]) .ret) .skip)) (.seq (.ops [⟨.assign (.const (.int .i64 0)), some 4, none⟩]) .ret)))))
theorem l76 : Tryz.f76.body.map lighten = some L76 := by kernel_rfl
theorem rs76 : Tryz.f76.results.toList = [ResultVar.tmp 4] := by kernel_rfl
theorem nt76 : Tryz.f76.ntmps = 70 := by kernel_rfl
theorem go76 {args : List AV} {s : AHeap} {R : AV → AHeap → Prop} (hl : args.length ≤ 70) (h : ∀ tm, tm.length = 70 → (∀ i, aev tm (.tmp i) = args.getD i aundef) → lvc Tryz.prog tab L76 (lpost tab [ResultVar.tmp 4] R) tm s) : ACall Tryz.prog 76 args s R := ACall.go tab_ok mixed Tryz.func76 l76 nm76 rs76 nt76 hl h
noncomputable def L18 : LCode := .seq (.ops [⟨.assign (.const (.int .i64 0)), some 4, none⟩]) (.seq (.ops [⟨.move (.tmp 1), some 5, none⟩, ⟨.move (.tmp 0), some 6, none⟩, ⟨.move (.tmp 1), some 7, none⟩, ⟨.call ⟨.builtin .len, ⟨[.tmp 7]⟩, ⟨[22]⟩⟩, some 8, none⟩, ⟨.call ⟨.value (.func 75), ⟨[.tmp 6, .tmp 8]⟩, ⟨[23, 3]⟩⟩, some 9, none⟩, ⟨.indexAddr 22 (.tmp 5) (.tmp 9), some 10, none⟩, ⟨.load 3 (.tmp 10), some 11, none⟩, ⟨.assign (.tmp 11), some 4, none⟩]) .ret)
theorem l18 : Tryz.f18.body.map lighten = some L18 := by kernel_rfl
theorem rs18 : Tryz.f18.results.toList = [ResultVar.tmp 4] := by kernel_rfl
theorem nt18 : Tryz.f18.ntmps = 12 := by kernel_rfl
noncomputable def L12 : LCode := .seq (.ops [⟨.assign (.const (.string ⟨⟨[]⟩⟩)), some 4, none⟩]) (.seq (.ops [⟨.alloc 120, some 5, none⟩]) (.seq (.seq (.ops [⟨.move (.tmp 0), some 8, none⟩, ⟨.call ⟨.builtin .len, ⟨[.tmp 8]⟩, ⟨[9]⟩⟩, some 9, none⟩, ⟨.move (.tmp 1), some 10, none⟩, ⟨.call ⟨.value (.func 77), ⟨[.tmp 9, .tmp 10]⟩, ⟨[3, 28]⟩⟩, some 11, none⟩, ⟨.field 123 (.tmp 11) 1, some 12, none⟩, ⟨.call ⟨.builtin .len, ⟨[.tmp 12]⟩, ⟨[121]⟩⟩, some 13, none⟩, ⟨.move (.const (.int .i64 0)), some 14, none⟩]) (.block 0 (.loop (.seq (.ops [⟨.binOp .lss 3 (.tmp 14) (.tmp 13) 3, some 15, none⟩]) (.seq (.cond (.tmp 15) .skip (.exit 0)) (.seq (.block 1 (.seq (.ops [⟨.indexAddr 121 (.tmp 12) (.tmp 14), some 16, none⟩, ⟨.load 126 (.tmp 16), some 17, none⟩, ⟨.alloc 126, some 7, none⟩, ⟨.store 126 (.tmp 7) (.tmp 17), none, none⟩]) (.seq (.seq (.ops [⟨.fieldAddr 126 (.tmp 7) 0, some 18, none⟩, ⟨.load 3 (.tmp 18), some 19, none⟩, ⟨.binOp .geq 3 (.tmp 19) (.const (.int .i64 0)) 3, some 20, none⟩]) (.cond (.tmp 20) (.ops [⟨.move (.tmp 0), some 21, none⟩, ⟨.fieldAddr 126 (.tmp 7) 0, some 22, none⟩, ⟨.load 3 (.tmp 22), some 23, none⟩, ⟨.index 9 (.tmp 21) (.tmp 23), some 24, none⟩, ⟨.fieldAddr 126 (.tmp 7) 1, some 25, none⟩, ⟨.store 5 (.tmp 25) (.tmp 24), none, none⟩]) .skip)) (.ops [⟨.fieldAddr 126 (.tmp 7) 1, some 26, none⟩, ⟨.load 5 (.tmp 26), some 27, none⟩, ⟨.call ⟨.value (.func 78), ⟨[.tmp 5, .tmp 27]⟩, ⟨[120, 5]⟩⟩, some 28, none⟩])))) (.ops [⟨.binOp .add 3 (.tmp 14) (.const (.int .i64 1)) 3, some 29, none⟩, ⟨.move (.tmp 29), some 14, none⟩]))))))) (.seq (.ops [⟨.call ⟨.value (.func 79), ⟨[.tmp 5]⟩, ⟨[120]⟩⟩, some 30, none⟩, ⟨.assign (.tmp 30), some 4, none⟩]) .ret)))
theorem l12 : Tryz.f12.body.map lighten = some L12 := by kernel_rfl
theorem rs12 : Tryz.f12.results.toList = [ResultVar.tmp 4] := by kernel_rfl
theorem nt12 : Tryz.f12.ntmps = 31 := by kernel_rfl
theorem go12 {args : List AV} {s : AHeap} {R : AV → AHeap → Prop} (hl : args.length ≤ 31) (h : ∀ tm, tm.length = 31 → (∀ i, aev tm (.tmp i) = args.getD i aundef) → lvc Tryz.prog tab L12 (lpost tab [ResultVar.tmp 4] R) tm s) : ACall Tryz.prog 12 args s R := ACall.go tab_ok mixed Tryz.func12 l12 nm12 rs12 nt12 hl h
noncomputable def L39 : LCode := .seq (.ops [⟨.assign (.const (.string ⟨⟨[]⟩⟩)), some 4, none⟩]) (.seq (.ops [⟨.move (.tmp 1), some 5, none⟩, ⟨.move (.tmp 0), some 6, none⟩, ⟨.move (.tmp 1), some 7, none⟩, ⟨.call ⟨.builtin .len, ⟨[.tmp 7]⟩, ⟨[189]⟩⟩, some 8, none⟩, ⟨.call ⟨.value (.func 75), ⟨[.tmp 6, .tmp 8]⟩, ⟨[23, 3]⟩⟩, some 9, none⟩, ⟨.indexAddr 189 (.tmp 5) (.tmp 9), some 10, none⟩, ⟨.load 9 (.tmp 10), some 11, none⟩, ⟨.assign (.tmp 11), some 4, none⟩]) .ret)
theorem l39 : Tryz.f39.body.map lighten = some L39 := by kernel_rfl
theorem rs39 : Tryz.f39.results.toList = [ResultVar.tmp 4] := by kernel_rfl
theorem nt39 : Tryz.f39.ntmps = 12 := by kernel_rfl
noncomputable def L50 : LCode := .seq (.ops [⟨.alloc 44, some 4, none⟩]) (.seq (.ops [⟨.move (.tmp 0), some 7, none⟩, ⟨.move (.tmp 1), some 8, none⟩, ⟨.binOp .add 3 (.tmp 8) (.const (.int .i64 1)) 3, some 9, none⟩, ⟨.call ⟨.value (.func 75), ⟨[.tmp 7, .tmp 9]⟩, ⟨[23, 3]⟩⟩, some 10, none⟩, ⟨.assign (.tmp 10), some 5, none⟩]) (.seq (.ops [⟨.move (.tmp 5), some 11, none⟩, ⟨.move (.tmp 0), some 12, none⟩, ⟨.buildSlice 22 5 ⟨[(0, .const (.int .i64 0)), (1, .const (.int .i64 0)), (2, .const (.int .i64 1)), (3, .const (.int .i64 2)), (4, .const (.int .i64 5))]⟩, some 13, none⟩, ⟨.call ⟨.value (.func 18), ⟨[.tmp 12, .tmp 13]⟩, ⟨[23, 22]⟩⟩, some 14, none⟩, ⟨.move (.tmp 1), some 15, none⟩, ⟨.move (.tmp 5), some 16, none⟩, ⟨.binOp .sub 3 (.tmp 15) (.tmp 16) 3, some 17, none⟩, ⟨.call ⟨.builtin .min, ⟨[.tmp 14, .tmp 17]⟩, ⟨[3, 3]⟩⟩, some 18, none⟩, ⟨.move (.tmp 0), some 19, none⟩, ⟨.buildSlice 189 10 { toList := [(0, .const (.string ⟨⟨[]⟩⟩)), (1, .const (.string ⟨⟨[97]⟩⟩)), (2, .const (.string ⟨⟨[32]⟩⟩)), (3, .const (.string ⟨⟨[49]⟩⟩)), (4, .const (.string ⟨⟨[43]⟩⟩)), (5, .const (.string ⟨⟨[41]⟩⟩)), (6, .const (.string ⟨⟨[35]⟩⟩)), (7, .const (.string ⟨⟨[34]⟩⟩)), (8, .const (.string ⟨⟨[97, 98, 32, 49]⟩⟩)), (9, .const (.string ⟨⟨[46]⟩⟩))] }, some 20, none⟩, ⟨.call ⟨.value (.func 39), ⟨[.tmp 19, .tmp 20]⟩, ⟨[23, 189]⟩⟩, some 21, none⟩, ⟨.build 44 ⟨[(0, .tmp 11), (1, .tmp 18), (2, .tmp 21)]⟩, some 22, none⟩, ⟨.alloc 44, some 6, none⟩, ⟨.store 44 (.tmp 6) (.tmp 22), none, none⟩]) (.seq (.seq (.ops [⟨.move (.tmp 0), some 23, none⟩, ⟨.call ⟨.value (.func 10), ⟨[.tmp 23, .const (.int .i64 25)]⟩, ⟨[23, 3]⟩⟩, some 24, none⟩]) (.cond (.tmp 24) (.ops [⟨.move (.tmp 0), some 25, none⟩, ⟨.move (.tmp 1), some 26, none⟩, ⟨.binOp .add 3 (.tmp 26) (.const (.int .i64 1)) 3, some 27, none⟩, ⟨.move (.tmp 5), some 28, none⟩, ⟨.buildSlice 22 3 ⟨[(0, .const (.int .i64 (-1))), (1, .tmp 27), (2, .tmp 28)]⟩, some 29, none⟩, ⟨.call ⟨.value (.func 18), ⟨[.tmp 25, .tmp 29]⟩, ⟨[23, 22]⟩⟩, some 30, none⟩, ⟨.move (.tmp 0), some 31, none⟩, ⟨.move (.tmp 1), some 32, none⟩, ⟨.binOp .add 3 (.tmp 32) (.const (.int .i64 1)) 3, some 33, none⟩, ⟨.buildSlice 22 3 ⟨[(0, .const (.int .i64 0)), (1, .const (.int .i64 (-1))), (2, .tmp 33)]⟩, some 34, none⟩, ⟨.call ⟨.value (.func 18), ⟨[.tmp 31, .tmp 34]⟩, ⟨[23, 22]⟩⟩, some 35, none⟩, ⟨.fieldAddr 44 (.tmp 6) 0, some 36, none⟩, ⟨.store 3 (.tmp 36) (.tmp 30), none, none⟩, ⟨.fieldAddr 44 (.tmp 6) 1, some 37, none⟩, ⟨.store 3 (.tmp 37) (.tmp 35), none, none⟩]) .skip)) (.seq (.ops [⟨.load 44 (.tmp 6), some 38, none⟩, ⟨.store 44 (.tmp 4) (.tmp 38), none, none⟩]) .ret))))
theorem l50 : Tryz.f50.body.map lighten = some L50 := by kernel_rfl
theorem rs50 : Tryz.f50.results.toList = [ResultVar.cell 4 44] := by kernel_rfl
theorem nt50 : Tryz.f50.ntmps = 39 := by kernel_rfl
noncomputable def L75 : LCode := .seq (.ops [⟨.assign (.const (.int .i64 0)), some 4, none⟩]) (.seq (.ops [⟨.move (.tmp 0), some 7, none⟩, ⟨.nilCheck (.tmp 7), some 8, none⟩, ⟨.fieldAddr 25 (.tmp 8) 1, some 9, none⟩, ⟨.load 3 (.tmp 9), some 10, none⟩, ⟨.binOp .add 3 (.tmp 10) (.const (.int .i64 1)) 3, some 11, none⟩, ⟨.nilCheck (.tmp 7), some 12, none⟩, ⟨.fieldAddr 25 (.tmp 12) 1, some 13, none⟩, ⟨.store 3 (.tmp 13) (.tmp 11), none, none⟩]) (.seq (.seq (.ops [⟨.move (.tmp 0), some 14, none⟩, ⟨.nilCheck (.tmp 14), some 15, none⟩, ⟨.fieldAddr 25 (.tmp 15) 0, some 16, none⟩, ⟨.load 22 (.tmp 16), some 17, none⟩, ⟨.call ⟨.builtin .len, ⟨[.tmp 17]⟩, ⟨[22]⟩⟩, some 18, none⟩, ⟨.binOp .eql 3 (.tmp 18) (.const (.int .i64 0)) 3, some 19, none⟩]) (.cond (.tmp 19) (.seq (.ops [⟨.move (.tmp 0), some 20, none⟩, ⟨.nilCheck (.tmp 20), some 21, none⟩, ⟨.fieldAddr 25 (.tmp 21) 1, some 22, none⟩, ⟨.load 3 (.tmp 22), some 23, none⟩, ⟨.binOp .mul 3 (.tmp 23) (.const (.int .i64 7919)) 3, some 24, none⟩, ⟨.move (.tmp 1), some 25, none⟩, ⟨.call ⟨.value (.func 135), ⟨[.tmp 24, .tmp 25]⟩, ⟨[3, 3]⟩⟩, some 26, none⟩, ⟨.assign (.tmp 26), some 4, none⟩]) .ret) .skip)) (.seq (.draw [0, 1, 3, 7, 15, 0, 32, 96, 224, 480, 1023, 2047] [⟨.move (.tmp 0), some 27, none⟩, ⟨.nilCheck (.tmp 27), some 28, none⟩, ⟨.fieldAddr 25 (.tmp 28) 1, some 29, none⟩, ⟨.load 3 (.tmp 29), some 30, none⟩, ⟨.binOp .sub 3 (.tmp 30) (.const (.int .i64 1)) 3, some 31, none⟩, ⟨.move (.tmp 0), some 32, none⟩, ⟨.nilCheck (.tmp 32), some 33, none⟩, ⟨.fieldAddr 25 (.tmp 33) 0, some 34, none⟩, ⟨.load 22 (.tmp 34), some 35, none⟩, ⟨.call ⟨.builtin .len, ⟨[.tmp 35]⟩, ⟨[22]⟩⟩, some 36, none⟩, ⟨.binOp .rem 3 (.tmp 31) (.tmp 36) 3, some 37, none⟩, ⟨.assign (.tmp 37), some 5, none⟩]) (.seq (.draw [0, 1, 3, 7, 15, 0, 32, 96, 224, 480, 1023, 2047] [⟨.move (.tmp 0), some 38, none⟩, ⟨.nilCheck (.tmp 38), some 39, none⟩, ⟨.fieldAddr 25 (.tmp 39) 1, some 40, none⟩, ⟨.load 3 (.tmp 40), some 41, none⟩, ⟨.binOp .sub 3 (.tmp 41) (.const (.int .i64 1)) 3, some 42, none⟩, ⟨.move (.tmp 0), some 43, none⟩, ⟨.nilCheck (.tmp 43), some 44, none⟩, ⟨.fieldAddr 25 (.tmp 44) 0, some 45, none⟩, ⟨.load 22 (.tmp 45), some 46, none⟩, ⟨.call ⟨.builtin .len, ⟨[.tmp 46]⟩, ⟨[22]⟩⟩, some 47, none⟩, ⟨.binOp .quo 3 (.tmp 42) (.tmp 47) 3, some 48, none⟩, ⟨.assign (.tmp 48), some 6, none⟩]) (.seq (.ops [⟨.move (.tmp 0), some 49, none⟩, ⟨.nilCheck (.tmp 49), some 50, none⟩, ⟨.fieldAddr 25 (.tmp 50) 0, some 51, none⟩, ⟨.load 22 (.tmp 51), some 52, none⟩, ⟨.move (.tmp 5), some 53, none⟩, ⟨.indexAddr 22 (.tmp 52) (.tmp 53), some 54, none⟩, ⟨.load 3 (.tmp 54), some 55, none⟩, ⟨.call ⟨.value (.func 135), ⟨[.tmp 55, .const (.int .i64 1073741824)]⟩, ⟨[3, 3]⟩⟩, some 56, none⟩, ⟨.move (.tmp 6), some 57, none⟩, ⟨.move (.tmp 5), some 58, none⟩, ⟨.binOp .add 3 (.const (.int .i64 7919)) (.tmp 58) 3, some 59, none⟩, ⟨.binOp .mul 3 (.tmp 57) (.tmp 59) 3, some 60, none⟩, ⟨.binOp .add 3 (.tmp 56) (.tmp 60) 3, some 61, none⟩, ⟨.move (.tmp 1), some 62, none⟩, ⟨.call ⟨.value (.func 135), ⟨[.tmp 61, .tmp 62]⟩, ⟨[3, 3]⟩⟩, some 63, none⟩, ⟨.assign (.tmp 63), some 4, none⟩]) .ret)))))
theorem l75 : Tryz.f75.body.map lighten = some L75 := by kernel_rfl
theorem rs75 : Tryz.f75.results.toList = [ResultVar.tmp 4] := by kernel_rfl
theorem nt75 : Tryz.f75.ntmps = 64 := by kernel_rfl
noncomputable def L89 : LCode := .seq (.ops [⟨.assign (.const (.bool false)), some 6, none⟩]) (.seq (.ops [⟨.move (.tmp 1), some 7, none⟩, ⟨.move (.tmp 0), some 8, none⟩, ⟨.binOp .leq 3 (.tmp 7) (.tmp 8) 3, some 9, none⟩, ⟨.move (.tmp 9), some 10, none⟩, ⟨.move (.tmp 0), some 11, some (10, true)⟩, ⟨.move (.tmp 2), some 12, some (10, true)⟩, ⟨.binOp .leq 3 (.tmp 11) (.tmp 12) 3, some 13, some (10, true)⟩, ⟨.pick (.tmp 10) (.tmp 13) (.const (.bool false)), some 14, none⟩, ⟨.assign (.tmp 14), some 6, none⟩]) .ret)
theorem l89 : Tryz.f89.body.map lighten = some L89 := by kernel_rfl
theorem rs89 : Tryz.f89.results.toList = [ResultVar.tmp 6] := by kernel_rfl
theorem nt89 : Tryz.f89.ntmps = 15 := by kernel_rfl
theorem go89 {args : List AV} {s : AHeap} {R : AV → AHeap → Prop} (hl : args.length ≤ 15) (h : ∀ tm, tm.length = 15 → (∀ i, aev tm (.tmp i) = args.getD i aundef) → lvc Tryz.prog tab L89 (lpost tab [ResultVar.tmp 6] R) tm s) : ACall Tryz.prog 89 args s R := ACall.go tab_ok mixed Tryz.func89 l89 nm89 rs89 nt89 hl h
noncomputable def L77 : LCode := .seq (.ops [⟨.alloc 123, some 4, none⟩]) (.seq (.ops [⟨.move (.tmp 0), some 11, none⟩, ⟨.build 123 ⟨[(0, .tmp 11)]⟩, some 12, none⟩, ⟨.alloc 123, some 5, none⟩, ⟨.store 123 (.tmp 5) (.tmp 12), none, none⟩]) (.seq (.ops [⟨.alloc 3, some 6, none⟩, ⟨.store 3 (.tmp 6) (.const (.int .i64 0)), none, none⟩]) (.seq (.ops [⟨.makeFunc (Fn.func 136) ⟨[]⟩ ⟨[.tmp 6, .tmp 5]⟩, some 13, none⟩, ⟨.assign (.tmp 13), some 7, none⟩]) (.seq (.seq (.ops [⟨.move (.tmp 1), some 14, none⟩, ⟨.call ⟨.builtin .len, ⟨[.tmp 14]⟩, ⟨[28]⟩⟩, some 15, none⟩, ⟨.move (.const (.int .i64 0)), some 16, none⟩]) (.block 0 (.loop (.seq (.ops [⟨.binOp .lss 3 (.tmp 16) (.tmp 15) 3, some 17, none⟩]) (.seq (.cond (.tmp 17) .skip (.exit 0)) (.seq (.block 1 (.seq (.ops [⟨.indexAddr 28 (.tmp 14) (.tmp 16), some 18, none⟩, ⟨.load 44 (.tmp 18), some 19, none⟩, ⟨.alloc 44, some 9, none⟩, ⟨.store 44 (.tmp 9) (.tmp 19), none, none⟩]) (.seq (.ops [⟨.move (.tmp 7), some 20, none⟩, ⟨.fieldAddr 44 (.tmp 9) 0, some 21, none⟩, ⟨.load 3 (.tmp 21), some 22, none⟩, ⟨.call ⟨.value (.tmp 20), ⟨[.tmp 22]⟩, ⟨[3]⟩⟩, some 23, none⟩]) (.seq (.seq (.ops [⟨.fieldAddr 44 (.tmp 9) 2, some 24, none⟩, ⟨.load 9 (.tmp 24), some 25, none⟩, ⟨.call ⟨.builtin .len, ⟨[.tmp 25]⟩, ⟨[9]⟩⟩, some 26, none⟩, ⟨.move (.const (.int .i64 0)), some 27, none⟩]) (.block 2 (.loop (.seq (.ops [⟨.binOp .lss 3 (.tmp 27) (.tmp 26) 3, some 28, none⟩]) (.seq (.cond (.tmp 28) .skip (.exit 2)) (.seq (.block 3 (.seq (.ops [⟨.move (.tmp 27), some 29, none⟩, ⟨.assign (.tmp 29), some 10, none⟩]) (.draw [0, 1, 0, 4, 0, 28, 60, 124, 255, 511, 1023] [⟨.fieldAddr 123 (.tmp 5) 1, some 30, none⟩, ⟨.load 121 (.tmp 30), some 31, none⟩, ⟨.fieldAddr 44 (.tmp 9) 2, some 32, none⟩, ⟨.load 9 (.tmp 32), some 33, none⟩, ⟨.move (.tmp 10), some 34, none⟩, ⟨.index 9 (.tmp 33) (.tmp 34), some 35, none⟩, ⟨.build 126 ⟨[(0, .const (.int .i64 (-1))), (1, .tmp 35)]⟩, some 36, none⟩, ⟨.buildSlice 121 1 ⟨[(0, .tmp 36)]⟩, some 37, none⟩, ⟨.call ⟨.builtin .append, ⟨[.tmp 31, .tmp 37]⟩, ⟨[121, 121]⟩⟩, some 38, none⟩, ⟨.fieldAddr 123 (.tmp 5) 1, some 39, none⟩, ⟨.store 121 (.tmp 39) (.tmp 38), none, none⟩]))) (.ops [⟨.binOp .add 3 (.tmp 27) (.const (.int .i64 1)) 3, some 40, none⟩, ⟨.move (.tmp 40), some 27, none⟩]))))))) (.ops [⟨.fieldAddr 44 (.tmp 9) 0, some 41, none⟩, ⟨.load 3 (.tmp 41), some 42, none⟩, ⟨.fieldAddr 44 (.tmp 9) 1, some 43, none⟩, ⟨.load 3 (.tmp 43), some 44, none⟩, ⟨.binOp .add 3 (.tmp 42) (.tmp 44) 3, some 45, none⟩, ⟨.store 3 (.tmp 6) (.tmp 45), none, none⟩]))))) (.ops [⟨.binOp .add 3 (.tmp 16) (.const (.int .i64 1)) 3, some 46, none⟩, ⟨.move (.tmp 46), some 16, none⟩]))))))) (.seq (.ops [⟨.move (.tmp 7), some 47, none⟩, ⟨.move (.tmp 0), some 48, none⟩, ⟨.call ⟨.value (.tmp 47), ⟨[.tmp 48]⟩, ⟨[3]⟩⟩, some 49, none⟩]) (.seq (.ops [⟨.load 123 (.tmp 5), some 50, none⟩, ⟨.store 123 (.tmp 4) (.tmp 50), none, none⟩]) .ret))))))
theorem l77 : Tryz.f77.body.map lighten = some L77 := by kernel_rfl
theorem rs77 : Tryz.f77.results.toList = [ResultVar.cell 4 123] := by kernel_rfl
theorem nt77 : Tryz.f77.ntmps = 51 := by kernel_rfl
theorem go77 {args : List AV} {s : AHeap} {R : AV → AHeap → Prop} (hl : args.length ≤ 51) (h : ∀ tm, tm.length = 51 → (∀ i, aev tm (.tmp i) = args.getD i aundef) → lvc Tryz.prog tab L77 (lpost tab [ResultVar.cell 4 123] R) tm s) : ACall Tryz.prog 77 args s R := ACall.go tab_ok mixed Tryz.func77 l77 nm77 rs77 nt77 hl h
noncomputable def L78 : LCode := .seq (.ops [⟨.assign (.const .nilIface), some 4, none⟩]) (.seq (.ops [⟨.move (.tmp 0), some 5, none⟩, ⟨.call ⟨.value (.func 137), ⟨[.tmp 5]⟩, ⟨[117]⟩⟩, some 6, none⟩]) (.seq (.ops [⟨.move (.tmp 0), some 7, none⟩, ⟨.move (.tmp 0), some 8, none⟩, ⟨.nilCheck (.tmp 8), some 9, none⟩, ⟨.fieldAddr 120 (.tmp 9) 1, some 10, none⟩, ⟨.load 118 (.tmp 10), some 11, none⟩, ⟨.move (.tmp 1), some 12, none⟩, ⟨.buildSlice 118 1 ⟨[(0, .tmp 12)]⟩, some 13, none⟩, ⟨.call ⟨.builtin .append, ⟨[.tmp 11, .tmp 13]⟩, ⟨[118, 118]⟩⟩, some 14, none⟩, ⟨.nilCheck (.tmp 7), some 15, none⟩, ⟨.fieldAddr 120 (.tmp 15) 1, some 16, none⟩, ⟨.store 118 (.tmp 16) (.tmp 14), none, none⟩]) (.seq (.ops [⟨.assign (.const .nilIface), some 4, none⟩]) .ret)))
theorem l78 : Tryz.f78.body.map lighten = some L78 := by kernel_rfl
theorem rs78 : Tryz.f78.results.toList = [ResultVar.tmp 4] := by kernel_rfl
theorem nt78 : Tryz.f78.ntmps = 17 := by kernel_rfl
theorem go78 {args : List AV} {s : AHeap} {R : AV → AHeap → Prop} (hl : args.length ≤ 17) (h : ∀ tm, tm.length = 17 → (∀ i, aev tm (.tmp i) = args.getD i aundef) → lvc Tryz.prog tab L78 (lpost tab [ResultVar.tmp 4] R) tm s) : ACall Tryz.prog 78 args s R := ACall.go tab_ok mixed Tryz.func78 l78 nm78 rs78 nt78 hl h
noncomputable def L85 : LCode := .seq (.ops [⟨.assign (.const (.bool false)), some 6, none⟩]) (.seq (.ops [⟨.move (.tmp 0), some 7, none⟩, ⟨.move (.tmp 1), some 8, none⟩, ⟨.binOp .geq 3 (.tmp 7) (.tmp 8) 3, some 9, none⟩, ⟨.move (.tmp 9), some 10, none⟩, ⟨.move (.tmp 0), some 11, some (10, true)⟩, ⟨.move (.tmp 2), some 12, some (10, true)⟩, ⟨.binOp .leq 3 (.tmp 11) (.tmp 12) 3, some 13, some (10, true)⟩, ⟨.pick (.tmp 10) (.tmp 13) (.const (.bool false)), some 14, none⟩, ⟨.assign (.tmp 14), some 6, none⟩]) .ret)
theorem l85 : Tryz.f85.body.map lighten = some L85 := by kernel_rfl
theorem rs85 : Tryz.f85.results.toList = [ResultVar.tmp 6] := by kernel_rfl
theorem nt85 : Tryz.f85.ntmps = 15 := by kernel_rfl
theorem go85 {args : List AV} {s : AHeap} {R : AV → AHeap → Prop} (hl : args.length ≤ 15) (h : ∀ tm, tm.length = 15 → (∀ i, aev tm (.tmp i) = args.getD i aundef) → lvc Tryz.prog tab L85 (lpost tab [ResultVar.tmp 6] R) tm s) : ACall Tryz.prog 85 args s R := ACall.go tab_ok mixed Tryz.func85 l85 nm85 rs85 nt85 hl h
noncomputable def L86 : LCode := .seq (.ops [⟨.assign (.const (.int .i64 0)), some 4, none⟩, ⟨.assign (.const .nilIface), some 5, none⟩]) (.seq (.ops [⟨.move (.tmp 0), some 6, none⟩, ⟨.call ⟨.value (.func 137), ⟨[.tmp 6]⟩, ⟨[117]⟩⟩, some 7, none⟩]) (.seq (.ops [⟨.move (.tmp 0), some 8, none⟩, ⟨.move (.tmp 0), some 9, none⟩, ⟨.nilCheck (.tmp 9), some 10, none⟩, ⟨.fieldAddr 120 (.tmp 10) 1, some 11, none⟩, ⟨.load 118 (.tmp 11), some 12, none⟩, ⟨.move (.tmp 1), some 13, none⟩, ⟨.call ⟨.builtin .append, ⟨[.tmp 12, .tmp 13]⟩, ⟨[118, 9]⟩⟩, some 14, none⟩, ⟨.nilCheck (.tmp 8), some 15, none⟩, ⟨.fieldAddr 120 (.tmp 15) 1, some 16, none⟩, ⟨.store 118 (.tmp 16) (.tmp 14), none, none⟩]) (.seq (.ops [⟨.move (.tmp 1), some 17, none⟩, ⟨.call ⟨.builtin .len, ⟨[.tmp 17]⟩, ⟨[9]⟩⟩, some 18, none⟩, ⟨.assign (.tmp 18), some 4, none⟩, ⟨.assign (.const .nilIface), some 5, none⟩]) .ret)))
theorem l86 : Tryz.f86.body.map lighten = some L86 := by kernel_rfl
theorem rs86 : Tryz.f86.results.toList = [ResultVar.tmp 4, ResultVar.tmp 5] := by kernel_rfl
theorem nt86 : Tryz.f86.ntmps = 19 := by kernel_rfl
noncomputable def L135 : LCode := .seq (.ops [⟨.assign (.const (.int .i64 0)), some 4, none⟩]) (.seq (.seq (.ops [⟨.move (.tmp 1), some 5, none⟩, ⟨.binOp .lss 3 (.tmp 5) (.const (.int .i64 1)) 3, some 6, none⟩]) (.cond (.tmp 6) (.seq (.ops [⟨.assign (.const (.int .i64 0)), some 4, none⟩]) .ret) .skip)) (.seq (.ops [⟨.move (.tmp 0), some 7, none⟩, ⟨.move (.tmp 1), some 8, none⟩, ⟨.binOp .rem 3 (.tmp 7) (.tmp 8) 3, some 9, none⟩, ⟨.assign (.tmp 9), some 0, none⟩]) (.seq (.seq (.ops [⟨.move (.tmp 0), some 10, none⟩, ⟨.binOp .lss 3 (.tmp 10) (.const (.int .i64 0)) 3, some 11, none⟩]) (.cond (.tmp 11) (.ops [⟨.move (.tmp 0), some 12, none⟩, ⟨.move (.tmp 1), some 13, none⟩, ⟨.binOp .add 3 (.tmp 12) (.tmp 13) 3, some 14, none⟩, ⟨.assign (.tmp 14), some 0, none⟩]) .skip)) (.seq (.ops [⟨.move (.tmp 0), some 15, none⟩, ⟨.assign (.tmp 15), some 4, none⟩]) .ret))))
theorem l135 : Tryz.f135.body.map lighten = some L135 := by kernel_rfl
theorem rs135 : Tryz.f135.results.toList = [ResultVar.tmp 4] := by kernel_rfl
theorem nt135 : Tryz.f135.ntmps = 16 := by kernel_rfl
theorem go135 {args : List AV} {s : AHeap} {R : AV → AHeap → Prop} (hl : args.length ≤ 16) (h : ∀ tm, tm.length = 16 → (∀ i, aev tm (.tmp i) = args.getD i aundef) → lvc Tryz.prog tab L135 (lpost tab [ResultVar.tmp 4] R) tm s) : ACall Tryz.prog 135 args s R := ACall.go tab_ok mixed Tryz.func135 l135 nm135 rs135 nt135 hl h
noncomputable def L136 : LCode := .block 0 (.loop (.seq (.seq (.ops [⟨.load 3 (.tmp 1), some 4, none⟩, ⟨.move (.tmp 0), some 5, none⟩, ⟨.binOp .lss 3 (.tmp 4) (.tmp 5) 3, some 6, none⟩]) (.cond (.tmp 6) .skip (.exit 0))) (.seq (.block 1 (.ops [⟨.fieldAddr 123 (.tmp 2) 1, some 9, none⟩, ⟨.load 121 (.tmp 9), some 10, none⟩, ⟨.load 3 (.tmp 1), some 11, none⟩, ⟨.build 126 ⟨[(0, .tmp 11)]⟩, some 12, none⟩, ⟨.buildSlice 121 1 ⟨[(0, .tmp 12)]⟩, some 13, none⟩, ⟨.call ⟨.builtin .append, ⟨[.tmp 10, .tmp 13]⟩, ⟨[121, 121]⟩⟩, some 14, none⟩, ⟨.fieldAddr 123 (.tmp 2) 1, some 15, none⟩, ⟨.store 121 (.tmp 15) (.tmp 14), none, none⟩])) (.ops [⟨.load 3 (.tmp 1), some 7, none⟩, ⟨.binOp .add 3 (.tmp 7) (.const (.int .i64 1)) 3, some 8, none⟩, ⟨.store 3 (.tmp 1) (.tmp 8), none, none⟩]))))
theorem l136 : Tryz.f136.body.map lighten = some L136 := by kernel_rfl
theorem rs136 : Tryz.f136.results.toList = [] := by kernel_rfl
theorem nt136 : Tryz.f136.ntmps = 16 := by kernel_rfl
theorem go136 {args : List AV} {s : AHeap} {R : AV → AHeap → Prop} (hl : args.length ≤ 16) (h : ∀ tm, tm.length = 16 → (∀ i, aev tm (.tmp i) = args.getD i aundef) → lvc Tryz.prog tab L136 (lpost tab [] R) tm s) : ACall Tryz.prog 136 args s R := ACall.go tab_ok mixed Tryz.func136 l136 nm136 rs136 nt136 hl h
end Go.S1
end
