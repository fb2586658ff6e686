/- Part 1 of a proof: texts of this work, put together. -/
import Derived.Test.YtiohblpikmjofaaGreatDoorAm6
import Derived.Test.YtiohblpikmjofaaGreatDoorProg
import Derived.KernelRfl
set_option linter.unusedVariables false
set_option linter.unusedSimpArgs false
section
namespace Go.S1
open Go Go.Am Go.Proofs
set_option maxRecDepth 100000
noncomputable def ti1 : TI := ⟨.func, 1, 8, .nilFunc, false⟩
noncomputable def ti2 : TI := ⟨.int .i64, 1, 8, .int .i64 0, false⟩
noncomputable def ti3 : TI := ⟨.int .i64, 1, 8, .int .i64 0, false⟩
noncomputable def ti4 : TI := ⟨.bool, 1, 1, .bool false, false⟩
noncomputable def ti5 : TI := ⟨.int .u8, 1, 1, .int .u8 0, false⟩
noncomputable def ti6 : TI := ⟨.int .u8, 1, 1, .int .u8 0, false⟩
noncomputable def ti7 : TI := ⟨.struct [(2, 0, true), (3, 1, true), (4, 2, true), (6, 3, true)], 4, 24, .agg #[.int .i64 0, .int .i64 0, .bool false, .int .u8 0], false⟩
noncomputable def ti8 : TI := ⟨.struct [(2, 0, true), (3, 1, true), (4, 2, true), (6, 3, true)], 4, 24, .agg #[.int .i64 0, .int .i64 0, .bool false, .int .u8 0], false⟩
noncomputable def ti9 : TI := ⟨.str, 1, 16, .string ⟨#[]⟩, false⟩
noncomputable def ti10 : TI := ⟨.str, 1, 16, .string ⟨#[]⟩, false⟩
noncomputable def ti11 : TI := ⟨.str, 1, 16, .string ⟨#[]⟩, false⟩
noncomputable def ti12 : TI := ⟨.int .u64, 1, 8, .int .u64 0, false⟩
noncomputable def ti13 : TI := ⟨.struct [(9, 0, true), (12, 1, true)], 2, 24, .agg #[.string ⟨#[]⟩, .int .u64 0], false⟩
noncomputable def ti14 : TI := ⟨.struct [(9, 0, true), (12, 1, true)], 2, 24, .agg #[.string ⟨#[]⟩, .int .u64 0], false⟩
noncomputable def ti15 : TI := ⟨.ptr 605, 1, 8, .pointer none, false⟩
noncomputable def ti16 : TI := ⟨.ptr 608, 1, 8, .pointer none, false⟩
noncomputable def ti17 : TI := ⟨.ptr 615, 1, 8, .pointer none, false⟩
noncomputable def ti18 : TI := ⟨.struct [(17, 0, true)], 1, 8, .agg #[.pointer none], false⟩
noncomputable def ti19 : TI := ⟨.struct [(17, 0, true)], 1, 8, .agg #[.pointer none], false⟩
noncomputable def ti21 : TI := ⟨.int .i32, 1, 4, .int .i32 0, false⟩
noncomputable def ti22 : TI := ⟨.slice 3, 1, 24, .slice none 0 0, false⟩
noncomputable def ti23 : TI := ⟨.ptr 25, 1, 8, .pointer none, false⟩
noncomputable def ti24 : TI := ⟨.struct [(22, 0, true), (3, 1, true)], 2, 32, .agg #[.slice none 0 0, .int .i64 0], false⟩
noncomputable def ti25 : TI := ⟨.struct [(22, 0, true), (3, 1, true)], 2, 32, .agg #[.slice none 0 0, .int .i64 0], false⟩
noncomputable def ti26 : TI := ⟨.func, 1, 8, .nilFunc, false⟩
noncomputable def ti27 : TI := ⟨.slice 37, 1, 24, .slice none 0 0, false⟩
noncomputable def ti28 : TI := ⟨.func, 1, 8, .nilFunc, false⟩
noncomputable def ti29 : TI := ⟨.int .i64, 1, 8, .int .i64 0, false⟩
noncomputable def ti31 : TI := ⟨.func, 1, 8, .nilFunc, false⟩
noncomputable def ti33 : TI := ⟨.func, 1, 8, .nilFunc, false⟩
noncomputable def ti34 : TI := ⟨.func, 1, 8, .nilFunc, false⟩
noncomputable def ti35 : TI := ⟨.func, 1, 8, .nilFunc, false⟩
noncomputable def ti36 : TI := ⟨.struct [(3, 0, true), (3, 1, true), (9, 2, true)], 3, 32, .agg #[.int .i64 0, .int .i64 0, .string ⟨#[]⟩], false⟩
noncomputable def ti37 : TI := ⟨.struct [(3, 0, true), (3, 1, true), (9, 2, true)], 3, 32, .agg #[.int .i64 0, .int .i64 0, .string ⟨#[]⟩], true⟩
noncomputable def ti38 : TI := ⟨.func, 1, 8, .nilFunc, false⟩
noncomputable def ti39 : TI := ⟨.func, 1, 8, .nilFunc, false⟩
noncomputable def ti41 : TI := ⟨.func, 1, 8, .nilFunc, false⟩
noncomputable def ti42 : TI := ⟨.func, 1, 8, .nilFunc, false⟩
noncomputable def ti43 : TI := ⟨.func, 1, 8, .nilFunc, false⟩
noncomputable def ti44 : TI := ⟨.slice 27, 1, 24, .slice none 0 0, false⟩
noncomputable def ti45 : TI := ⟨.func, 1, 8, .nilFunc, false⟩
noncomputable def ti46 : TI := ⟨.func, 1, 8, .nilFunc, false⟩
noncomputable def ti48 : TI := ⟨.func, 1, 8, .nilFunc, false⟩
noncomputable def ti49 : TI := ⟨.func, 1, 8, .nilFunc, false⟩
noncomputable def ti51 : TI := ⟨.func, 1, 8, .nilFunc, false⟩
noncomputable def ti52 : TI := ⟨.func, 1, 8, .nilFunc, false⟩
noncomputable def ti53 : TI := ⟨.func, 1, 8, .nilFunc, false⟩
noncomputable def ti54 : TI := ⟨.func, 1, 8, .nilFunc, false⟩
noncomputable def ti55 : TI := ⟨.func, 1, 8, .nilFunc, false⟩
noncomputable def ti56 : TI := ⟨.func, 1, 8, .nilFunc, false⟩
noncomputable def ti57 : TI := ⟨.func, 1, 8, .nilFunc, false⟩
noncomputable def ti58 : TI := ⟨.slice 29, 1, 24, .slice none 0 0, false⟩
noncomputable def ti59 : TI := ⟨.slice 70, 1, 24, .slice none 0 0, false⟩
noncomputable def ti61 : TI := ⟨.func, 1, 8, .nilFunc, false⟩
noncomputable def ti62 : TI := ⟨.slice 64, 1, 24, .slice none 0 0, false⟩
noncomputable def ti63 : TI := ⟨.struct [(3, 0, true), (3, 1, true), (3, 2, true), (62, 3, true)], 4, 48, .agg #[.int .i64 0, .int .i64 0, .int .i64 0, .slice none 0 0], false⟩
noncomputable def ti64 : TI := ⟨.struct [(3, 0, true), (3, 1, true), (3, 2, true), (62, 3, true)], 4, 48, .agg #[.int .i64 0, .int .i64 0, .int .i64 0, .slice none 0 0], false⟩
noncomputable def ti65 : TI := ⟨.struct [(9, 0, true), (64, 1, true)], 5, 64, .agg #[.string ⟨#[]⟩, .int .i64 0, .int .i64 0, .int .i64 0, .slice none 0 0], false⟩
noncomputable def ti66 : TI := ⟨.struct [(9, 0, true), (64, 1, true)], 5, 64, .agg #[.string ⟨#[]⟩, .int .i64 0, .int .i64 0, .int .i64 0, .slice none 0 0], false⟩
noncomputable def ti67 : TI := ⟨.slice 66, 1, 24, .slice none 0 0, false⟩
noncomputable def ti68 : TI := ⟨.func, 1, 8, .nilFunc, false⟩
noncomputable def ti69 : TI := ⟨.struct [(9, 0, true), (9, 1, true), (9, 2, true)], 3, 48, .agg #[.string ⟨#[]⟩, .string ⟨#[]⟩, .string ⟨#[]⟩], false⟩
noncomputable def ti70 : TI := ⟨.struct [(9, 0, true), (9, 1, true), (9, 2, true)], 3, 48, .agg #[.string ⟨#[]⟩, .string ⟨#[]⟩, .string ⟨#[]⟩], true⟩
noncomputable def ti71 : TI := ⟨.slice 73, 1, 24, .slice none 0 0, false⟩
noncomputable def ti72 : TI := ⟨.struct [(3, 0, true), (70, 1, true), (71, 4, true)], 5, 80, .agg #[.int .i64 0, .string ⟨#[]⟩, .string ⟨#[]⟩, .string ⟨#[]⟩, .slice none 0 0], false⟩
noncomputable def ti73 : TI := ⟨.struct [(3, 0, true), (70, 1, true), (71, 4, true)], 5, 80, .agg #[.int .i64 0, .string ⟨#[]⟩, .string ⟨#[]⟩, .string ⟨#[]⟩, .slice none 0 0], false⟩
noncomputable def ti74 : TI := ⟨.func, 1, 8, .nilFunc, false⟩
noncomputable def ti75 : TI := ⟨.slice 9, 1, 24, .slice none 0 0, false⟩
noncomputable def ti76 : TI := ⟨.struct [(9, 0, true), (75, 1, true), (3, 2, true)], 3, 48, .agg #[.string ⟨#[]⟩, .slice none 0 0, .int .i64 0], false⟩
noncomputable def ti77 : TI := ⟨.struct [(9, 0, true), (75, 1, true), (3, 2, true)], 3, 48, .agg #[.string ⟨#[]⟩, .slice none 0 0, .int .i64 0], false⟩
noncomputable def ti78 : TI := ⟨.slice 77, 1, 24, .slice none 0 0, false⟩
noncomputable def ti79 : TI := ⟨.struct [(75, 0, true), (9, 1, true), (78, 2, true)], 3, 64, .agg #[.slice none 0 0, .string ⟨#[]⟩, .slice none 0 0], false⟩
noncomputable def ti80 : TI := ⟨.struct [(75, 0, true), (9, 1, true), (78, 2, true)], 3, 64, .agg #[.slice none 0 0, .string ⟨#[]⟩, .slice none 0 0], false⟩
noncomputable def ti81 : TI := ⟨.slice 83, 1, 24, .slice none 0 0, false⟩
noncomputable def ti82 : TI := ⟨.struct [(3, 0, true), (9, 1, true), (9, 2, true), (9, 3, true), (9, 4, true), (3, 5, true), (81, 6, true)], 7, 104, .agg #[.int .i64 0, .string ⟨#[]⟩, .string ⟨#[]⟩, .string ⟨#[]⟩, .string ⟨#[]⟩, .int .i64 0, .slice none 0 0], false⟩
noncomputable def ti83 : TI := ⟨.struct [(3, 0, true), (9, 1, true), (9, 2, true), (9, 3, true), (9, 4, true), (3, 5, true), (81, 6, true)], 7, 104, .agg #[.int .i64 0, .string ⟨#[]⟩, .string ⟨#[]⟩, .string ⟨#[]⟩, .string ⟨#[]⟩, .int .i64 0, .slice none 0 0], false⟩
noncomputable def ti84 : TI := ⟨.func, 1, 8, .nilFunc, false⟩
noncomputable def ti85 : TI := ⟨.func, 1, 8, .nilFunc, false⟩
noncomputable def ti86 : TI := ⟨.func, 1, 8, .nilFunc, false⟩
noncomputable def ti87 : TI := ⟨.func, 1, 8, .nilFunc, false⟩
noncomputable def ti88 : TI := ⟨.func, 1, 8, .nilFunc, false⟩
noncomputable def ti89 : TI := ⟨.slice 98, 1, 24, .slice none 0 0, false⟩
noncomputable def ti90 : TI := ⟨.struct [(89, 0, true), (89, 1, true), (89, 2, true), (3, 3, true)], 4, 80, .agg #[.slice none 0 0, .slice none 0 0, .slice none 0 0, .int .i64 0], false⟩
noncomputable def ti91 : TI := ⟨.struct [(89, 0, true), (89, 1, true), (89, 2, true), (3, 3, true)], 4, 80, .agg #[.slice none 0 0, .slice none 0 0, .slice none 0 0, .int .i64 0], false⟩
noncomputable def ti92 : TI := ⟨.func, 1, 8, .nilFunc, false⟩
noncomputable def ti93 : TI := ⟨.func, 1, 8, .nilFunc, false⟩
noncomputable def ti94 : TI := ⟨.slice 22, 1, 24, .slice none 0 0, false⟩
noncomputable def ti95 : TI := ⟨.func, 1, 8, .nilFunc, false⟩
noncomputable def ti96 : TI := ⟨.func, 1, 8, .nilFunc, false⟩
noncomputable def ti97 : TI := ⟨.struct [(3, 0, true), (3, 1, true), (9, 2, true)], 3, 32, .agg #[.int .i64 0, .int .i64 0, .string ⟨#[]⟩], false⟩
noncomputable def ti98 : TI := ⟨.struct [(3, 0, true), (3, 1, true), (9, 2, true)], 3, 32, .agg #[.int .i64 0, .int .i64 0, .string ⟨#[]⟩], false⟩
noncomputable def ti99 : TI := ⟨.func, 1, 8, .nilFunc, false⟩
noncomputable def ti100 : TI := ⟨.func, 1, 8, .nilFunc, false⟩
noncomputable def ti101 : TI := ⟨.func, 1, 8, .nilFunc, false⟩
noncomputable def ti102 : TI := ⟨.func, 1, 8, .nilFunc, false⟩
noncomputable def ti103 : TI := ⟨.func, 1, 8, .nilFunc, false⟩
noncomputable def ti104 : TI := ⟨.ptr 107, 1, 8, .pointer none, false⟩
noncomputable def ti105 : TI := ⟨.slice 5, 1, 24, .slice none 0 0, false⟩
noncomputable def ti106 : TI := ⟨.struct [(104, 0, true), (105, 1, true)], 2, 32, .agg #[.pointer none, .slice none 0 0], false⟩
noncomputable def ti107 : TI := ⟨.struct [(104, 0, true), (105, 1, true)], 2, 32, .agg #[.pointer none, .slice none 0 0], false⟩
noncomputable def ti111 : TI := ⟨.func, 1, 8, .nilFunc, false⟩
noncomputable def ti112 : TI := ⟨.func, 1, 8, .nilFunc, false⟩
noncomputable def ti113 : TI := ⟨.ptr 186, 1, 8, .pointer none, false⟩
noncomputable def ti115 : TI := ⟨.func, 1, 8, .nilFunc, false⟩
noncomputable def ti116 : TI := ⟨.slice 150, 1, 24, .slice none 0 0, false⟩
noncomputable def ti117 : TI := ⟨.struct [(116, 0, true), (59, 1, true), (22, 2, true), (22, 3, true), (9, 4, true)], 5, 112, .agg #[.slice none 0 0, .slice none 0 0, .slice none 0 0, .slice none 0 0, .string ⟨#[]⟩], false⟩
noncomputable def ti118 : TI := ⟨.struct [(116, 0, true), (59, 1, true), (22, 2, true), (22, 3, true), (9, 4, true)], 5, 112, .agg #[.slice none 0 0, .slice none 0 0, .slice none 0 0, .slice none 0 0, .string ⟨#[]⟩], false⟩
noncomputable def ti120 : TI := ⟨.func, 1, 8, .nilFunc, false⟩
noncomputable def ti121 : TI := ⟨.func, 1, 8, .nilFunc, false⟩
noncomputable def ti122 : TI := ⟨.func, 1, 8, .nilFunc, false⟩
noncomputable def ti123 : TI := ⟨.func, 1, 8, .nilFunc, false⟩
noncomputable def ti124 : TI := ⟨.func, 1, 8, .nilFunc, false⟩
noncomputable def ti125 : TI := ⟨.func, 1, 8, .nilFunc, false⟩
noncomputable def ti126 : TI := ⟨.ptr 162, 1, 8, .pointer none, false⟩
noncomputable def ti127 : TI := ⟨.func, 1, 8, .nilFunc, false⟩
noncomputable def ti128 : TI := ⟨.func, 1, 8, .nilFunc, false⟩
noncomputable def ti129 : TI := ⟨.func, 1, 8, .nilFunc, false⟩
noncomputable def ti130 : TI := ⟨.ptr 135, 1, 8, .pointer none, false⟩
noncomputable def ti131 : TI := ⟨.func, 1, 8, .nilFunc, false⟩
noncomputable def ti132 : TI := ⟨.func, 1, 8, .nilFunc, false⟩
noncomputable def ti133 : TI := ⟨.func, 1, 8, .nilFunc, false⟩
noncomputable def ti134 : TI := ⟨.struct [(89, 0, true), (89, 1, true)], 2, 48, .agg #[.slice none 0 0, .slice none 0 0], false⟩
noncomputable def ti135 : TI := ⟨.struct [(89, 0, true), (89, 1, true)], 2, 48, .agg #[.slice none 0 0, .slice none 0 0], false⟩
noncomputable def ti136 : TI := ⟨.func, 1, 8, .nilFunc, false⟩
noncomputable def ti137 : TI := ⟨.func, 1, 8, .nilFunc, false⟩
noncomputable def ti139 : TI := ⟨.func, 1, 8, .nilFunc, false⟩
noncomputable def ti140 : TI := ⟨.func, 1, 8, .nilFunc, false⟩
noncomputable def ti141 : TI := ⟨.func, 1, 8, .nilFunc, false⟩
noncomputable def ti142 : TI := ⟨.ptr 5, 1, 8, .pointer none, false⟩
noncomputable def ti143 : TI := ⟨.func, 1, 8, .nilFunc, false⟩
noncomputable def ti144 : TI := ⟨.ptr 3, 1, 8, .pointer none, false⟩
noncomputable def ti145 : TI := ⟨.func, 1, 8, .nilFunc, false⟩
noncomputable def ti146 : TI := ⟨.func, 1, 8, .nilFunc, false⟩
noncomputable def ti148 : TI := ⟨.func, 1, 8, .nilFunc, false⟩
noncomputable def ti149 : TI := ⟨.struct [(3, 0, true), (3, 1, true), (3, 2, true), (3, 3, true)], 4, 32, .agg #[.int .i64 0, .int .i64 0, .int .i64 0, .int .i64 0], false⟩
noncomputable def ti150 : TI := ⟨.struct [(3, 0, true), (3, 1, true), (3, 2, true), (3, 3, true)], 4, 32, .agg #[.int .i64 0, .int .i64 0, .int .i64 0, .int .i64 0], false⟩
noncomputable def ti151 : TI := ⟨.struct [(3, 0, true), (3, 1, true)], 2, 16, .agg #[.int .i64 0, .int .i64 0], false⟩
noncomputable def ti152 : TI := ⟨.struct [(3, 0, true), (3, 1, true)], 2, 16, .agg #[.int .i64 0, .int .i64 0], false⟩
noncomputable def ti153 : TI := ⟨.func, 1, 8, .nilFunc, false⟩
noncomputable def ti154 : TI := ⟨.func, 1, 8, .nilFunc, false⟩
noncomputable def ti155 : TI := ⟨.func, 1, 8, .nilFunc, false⟩
noncomputable def ti156 : TI := ⟨.func, 1, 8, .nilFunc, false⟩
noncomputable def ti157 : TI := ⟨.func, 1, 8, .nilFunc, false⟩
noncomputable def ti158 : TI := ⟨.func, 1, 8, .nilFunc, false⟩
noncomputable def ti159 : TI := ⟨.slice 248, 1, 24, .slice none 0 0, false⟩
noncomputable def ti160 : TI := ⟨.ptr 80, 1, 8, .pointer none, false⟩
noncomputable def ti161 : TI := ⟨.struct [(159, 0, true), (3, 1, true), (75, 2, true), (160, 3, true), (67, 4, true)], 5, 88, .agg #[.slice none 0 0, .int .i64 0, .slice none 0 0, .pointer none, .slice none 0 0], false⟩
noncomputable def ti162 : TI := ⟨.struct [(159, 0, true), (3, 1, true), (75, 2, true), (160, 3, true), (67, 4, true)], 5, 88, .agg #[.slice none 0 0, .int .i64 0, .slice none 0 0, .pointer none, .slice none 0 0], false⟩
noncomputable def ti163 : TI := ⟨.func, 1, 8, .nilFunc, false⟩
noncomputable def ti164 : TI := ⟨.func, 1, 8, .nilFunc, false⟩
noncomputable def ti165 : TI := ⟨.func, 1, 8, .nilFunc, false⟩
noncomputable def ti166 : TI := ⟨.func, 1, 8, .nilFunc, false⟩
noncomputable def ti167 : TI := ⟨.func, 1, 8, .nilFunc, false⟩
noncomputable def ti168 : TI := ⟨.func, 1, 8, .nilFunc, false⟩
noncomputable def ti170 : TI := ⟨.func, 1, 8, .nilFunc, false⟩
noncomputable def ti171 : TI := ⟨.func, 1, 8, .nilFunc, false⟩
noncomputable def ti173 : TI := ⟨.func, 1, 8, .nilFunc, false⟩
noncomputable def ti174 : TI := ⟨.func, 1, 8, .nilFunc, false⟩
noncomputable def ti175 : TI := ⟨.func, 1, 8, .nilFunc, false⟩
noncomputable def ti176 : TI := ⟨.func, 1, 8, .nilFunc, false⟩
noncomputable def ti177 : TI := ⟨.ptr 219, 1, 8, .pointer none, false⟩
noncomputable def ti178 : TI := ⟨.func, 1, 8, .nilFunc, false⟩
noncomputable def ti179 : TI := ⟨.map 9 3, 1, 8, .map none, false⟩
noncomputable def ti180 : TI := ⟨.slice 182, 1, 24, .slice none 0 0, false⟩
noncomputable def ti181 : TI := ⟨.slice 221, 1, 24, .slice none 0 0, false⟩
noncomputable def ti182 : TI := ⟨.slice 221, 1, 24, .slice none 0 0, false⟩
noncomputable def ti183 : TI := ⟨.arr 256 3, 256, 2048, .agg ⟨List.replicate 256 (.int .i64 0)⟩, false⟩
noncomputable def ti184 : TI := ⟨.slice 193, 1, 24, .slice none 0 0, false⟩
noncomputable def ti185 : TI := ⟨.struct [(177, 0, true), (180, 1, true), (182, 2, true), (183, 3, true), (105, 259, true), (180, 260, true), (184, 261, true), (179, 262, true)], 263, 2184, .agg #[.pointer none, .slice none 0 0, .slice none 0 0, .int .i64 0, .int .i64 0, .int .i64 0, .int .i64 0, .int .i64 0, .int .i64 0, .int .i64 0, .int .i64 0, .int .i64 0, .int .i64 0, .int .i64 0, .int .i64 0, .int .i64 0, .int .i64 0, .int .i64 0, .int .i64 0, .int .i64 0, .int .i64 0, .int .i64 0, .int .i64 0, .int .i64 0, .int .i64 0, .int .i64 0, .int .i64 0, .int .i64 0, .int .i64 0, .int .i64 0, .int .i64 0, .int .i64 0, .int .i64 0, .int .i64 0, .int .i64 0, .int .i64 0, .int .i64 0, .int .i64 0, .int .i64 0, .int .i64 0, .int .i64 0, .int .i64 0, .int .i64 0, .int .i64 0, .int .i64 0, .int .i64 0, .int .i64 0, .int .i64 0, .int .i64 0, .int .i64 0, .int .i64 0, .int .i64 0, .int .i64 0, .int .i64 0, .int .i64 0, .int .i64 0, .int .i64 0, .int .i64 0, .int .i64 0, .int .i64 0, .int .i64 0, .int .i64 0, .int .i64 0, .int .i64 0, .int .i64 0, .int .i64 0, .int .i64 0, .int .i64 0, .int .i64 0, .int .i64 0, .int .i64 0, .int .i64 0, .int .i64 0, .int .i64 0, .int .i64 0, .int .i64 0, .int .i64 0, .int .i64 0, .int .i64 0, .int .i64 0, .int .i64 0, .int .i64 0, .int .i64 0, .int .i64 0, .int .i64 0, .int .i64 0, .int .i64 0, .int .i64 0, .int .i64 0, .int .i64 0, .int .i64 0, .int .i64 0, .int .i64 0, .int .i64 0, .int .i64 0, .int .i64 0, .int .i64 0, .int .i64 0, .int .i64 0, .int .i64 0, .int .i64 0, .int .i64 0, .int .i64 0, .int .i64 0, .int .i64 0, .int .i64 0, .int .i64 0, .int .i64 0, .int .i64 0, .int .i64 0, .int .i64 0, .int .i64 0, .int .i64 0, .int .i64 0, .int .i64 0, .int .i64 0, .int .i64 0, .int .i64 0, .int .i64 0, .int .i64 0, .int .i64 0, .int .i64 0, .int .i64 0, .int .i64 0, .int .i64 0, .int .i64 0, .int .i64 0, .int .i64 0, .int .i64 0, .int .i64 0, .int .i64 0, .int .i64 0, .int .i64 0, .int .i64 0, .int .i64 0, .int .i64 0, .int .i64 0, .int .i64 0, .int .i64 0, .int .i64 0, .int .i64 0, .int .i64 0, .int .i64 0, .int .i64 0, .int .i64 0, .int .i64 0, .int .i64 0, .int .i64 0, .int .i64 0, .int .i64 0, .int .i64 0, .int .i64 0, .int .i64 0, .int .i64 0, .int .i64 0, .int .i64 0, .int .i64 0, .int .i64 0, .int .i64 0, .int .i64 0, .int .i64 0, .int .i64 0, .int .i64 0, .int .i64 0, .int .i64 0, .int .i64 0, .int .i64 0, .int .i64 0, .int .i64 0, .int .i64 0, .int .i64 0, .int .i64 0, .int .i64 0, .int .i64 0, .int .i64 0, .int .i64 0, .int .i64 0, .int .i64 0, .int .i64 0, .int .i64 0, .int .i64 0, .int .i64 0, .int .i64 0, .int .i64 0, .int .i64 0, .int .i64 0, .int .i64 0, .int .i64 0, .int .i64 0, .int .i64 0, .int .i64 0, .int .i64 0, .int .i64 0, .int .i64 0, .int .i64 0, .int .i64 0, .int .i64 0, .int .i64 0, .int .i64 0, .int .i64 0, .int .i64 0, .int .i64 0, .int .i64 0, .int .i64 0, .int .i64 0, .int .i64 0, .int .i64 0, .int .i64 0, .int .i64 0, .int .i64 0, .int .i64 0, .int .i64 0, .int .i64 0, .int .i64 0, .int .i64 0, .int .i64 0, .int .i64 0, .int .i64 0, .int .i64 0, .int .i64 0, .int .i64 0, .int .i64 0, .int .i64 0, .int .i64 0, .int .i64 0, .int .i64 0, .int .i64 0, .int .i64 0, .int .i64 0, .int .i64 0, .int .i64 0, .int .i64 0, .int .i64 0, .int .i64 0, .int .i64 0, .int .i64 0, .int .i64 0, .int .i64 0, .int .i64 0, .int .i64 0, .int .i64 0, .int .i64 0, .int .i64 0, .int .i64 0, .int .i64 0, .int .i64 0, .int .i64 0, .int .i64 0, .int .i64 0, .int .i64 0, .int .i64 0, .int .i64 0, .int .i64 0, .int .i64 0, .int .i64 0, .int .i64 0, .int .i64 0, .int .i64 0, .int .i64 0, .slice none 0 0, .slice none 0 0, .slice none 0 0, .map none], false⟩
noncomputable def ti186 : TI := ⟨.struct [(177, 0, true), (180, 1, true), (182, 2, true), (183, 3, true), (105, 259, true), (180, 260, true), (184, 261, true), (179, 262, true)], 263, 2184, .agg #[.pointer none, .slice none 0 0, .slice none 0 0, .int .i64 0, .int .i64 0, .int .i64 0, .int .i64 0, .int .i64 0, .int .i64 0, .int .i64 0, .int .i64 0, .int .i64 0, .int .i64 0, .int .i64 0, .int .i64 0, .int .i64 0, .int .i64 0, .int .i64 0, .int .i64 0, .int .i64 0, .int .i64 0, .int .i64 0, .int .i64 0, .int .i64 0, .int .i64 0, .int .i64 0, .int .i64 0, .int .i64 0, .int .i64 0, .int .i64 0, .int .i64 0, .int .i64 0, .int .i64 0, .int .i64 0, .int .i64 0, .int .i64 0, .int .i64 0, .int .i64 0, .int .i64 0, .int .i64 0, .int .i64 0, .int .i64 0, .int .i64 0, .int .i64 0, .int .i64 0, .int .i64 0, .int .i64 0, .int .i64 0, .int .i64 0, .int .i64 0, .int .i64 0, .int .i64 0, .int .i64 0, .int .i64 0, .int .i64 0, .int .i64 0, .int .i64 0, .int .i64 0, .int .i64 0, .int .i64 0, .int .i64 0, .int .i64 0, .int .i64 0, .int .i64 0, .int .i64 0, .int .i64 0, .int .i64 0, .int .i64 0, .int .i64 0, .int .i64 0, .int .i64 0, .int .i64 0, .int .i64 0, .int .i64 0, .int .i64 0, .int .i64 0, .int .i64 0, .int .i64 0, .int .i64 0, .int .i64 0, .int .i64 0, .int .i64 0, .int .i64 0, .int .i64 0, .int .i64 0, .int .i64 0, .int .i64 0, .int .i64 0, .int .i64 0, .int .i64 0, .int .i64 0, .int .i64 0, .int .i64 0, .int .i64 0, .int .i64 0, .int .i64 0, .int .i64 0, .int .i64 0, .int .i64 0, .int .i64 0, .int .i64 0, .int .i64 0, .int .i64 0, .int .i64 0, .int .i64 0, .int .i64 0, .int .i64 0, .int .i64 0, .int .i64 0, .int .i64 0, .int .i64 0, .int .i64 0, .int .i64 0, .int .i64 0, .int .i64 0, .int .i64 0, .int .i64 0, .int .i64 0, .int .i64 0, .int .i64 0, .int .i64 0, .int .i64 0, .int .i64 0, .int .i64 0, .int .i64 0, .int .i64 0, .int .i64 0, .int .i64 0, .int .i64 0, .int .i64 0, .int .i64 0, .int .i64 0, .int .i64 0, .int .i64 0, .int .i64 0, .int .i64 0, .int .i64 0, .int .i64 0, .int .i64 0, .int .i64 0, .int .i64 0, .int .i64 0, .int .i64 0, .int .i64 0, .int .i64 0, .int .i64 0, .int .i64 0, .int .i64 0, .int .i64 0, .int .i64 0, .int .i64 0, .int .i64 0, .int .i64 0, .int .i64 0, .int .i64 0, .int .i64 0, .int .i64 0, .int .i64 0, .int .i64 0, .int .i64 0, .int .i64 0, .int .i64 0, .int .i64 0, .int .i64 0, .int .i64 0, .int .i64 0, .int .i64 0, .int .i64 0, .int .i64 0, .int .i64 0, .int .i64 0, .int .i64 0, .int .i64 0, .int .i64 0, .int .i64 0, .int .i64 0, .int .i64 0, .int .i64 0, .int .i64 0, .int .i64 0, .int .i64 0, .int .i64 0, .int .i64 0, .int .i64 0, .int .i64 0, .int .i64 0, .int .i64 0, .int .i64 0, .int .i64 0, .int .i64 0, .int .i64 0, .int .i64 0, .int .i64 0, .int .i64 0, .int .i64 0, .int .i64 0, .int .i64 0, .int .i64 0, .int .i64 0, .int .i64 0, .int .i64 0, .int .i64 0, .int .i64 0, .int .i64 0, .int .i64 0, .int .i64 0, .int .i64 0, .int .i64 0, .int .i64 0, .int .i64 0, .int .i64 0, .int .i64 0, .int .i64 0, .int .i64 0, .int .i64 0, .int .i64 0, .int .i64 0, .int .i64 0, .int .i64 0, .int .i64 0, .int .i64 0, .int .i64 0, .int .i64 0, .int .i64 0, .int .i64 0, .int .i64 0, .int .i64 0, .int .i64 0, .int .i64 0, .int .i64 0, .int .i64 0, .int .i64 0, .int .i64 0, .int .i64 0, .int .i64 0, .int .i64 0, .int .i64 0, .int .i64 0, .int .i64 0, .int .i64 0, .int .i64 0, .int .i64 0, .int .i64 0, .int .i64 0, .int .i64 0, .int .i64 0, .int .i64 0, .int .i64 0, .int .i64 0, .int .i64 0, .int .i64 0, .int .i64 0, .int .i64 0, .int .i64 0, .int .i64 0, .int .i64 0, .int .i64 0, .int .i64 0, .int .i64 0, .slice none 0 0, .slice none 0 0, .slice none 0 0, .map none], false⟩
noncomputable def ti187 : TI := ⟨.func, 1, 8, .nilFunc, false⟩
noncomputable def ti188 : TI := ⟨.struct [(4, 0, true), (182, 1, true), (182, 2, true)], 3, 56, .agg #[.bool false, .slice none 0 0, .slice none 0 0], false⟩
noncomputable def ti189 : TI := ⟨.struct [(4, 0, true), (182, 1, true), (182, 2, true)], 3, 56, .agg #[.bool false, .slice none 0 0, .slice none 0 0], false⟩
noncomputable def ti190 : TI := ⟨.func, 1, 8, .nilFunc, false⟩
noncomputable def ti191 : TI := ⟨.func, 1, 8, .nilFunc, false⟩
noncomputable def ti192 : TI := ⟨.struct [(182, 0, true), (182, 1, true), (22, 2, true)], 3, 72, .agg #[.slice none 0 0, .slice none 0 0, .slice none 0 0], false⟩
noncomputable def ti193 : TI := ⟨.struct [(182, 0, true), (182, 1, true), (22, 2, true)], 3, 72, .agg #[.slice none 0 0, .slice none 0 0, .slice none 0 0], false⟩
noncomputable def ti194 : TI := ⟨.func, 1, 8, .nilFunc, false⟩
noncomputable def ti195 : TI := ⟨.func, 1, 8, .nilFunc, false⟩
noncomputable def ti196 : TI := ⟨.ptr 152, 1, 8, .pointer none, false⟩
noncomputable def ti197 : TI := ⟨.func, 1, 8, .nilFunc, false⟩
noncomputable def ti198 : TI := ⟨.func, 1, 8, .nilFunc, false⟩
noncomputable def ti199 : TI := ⟨.map 9 9, 1, 8, .map none, false⟩
noncomputable def ti201 : TI := ⟨.func, 1, 8, .nilFunc, false⟩
noncomputable def ti202 : TI := ⟨.func, 1, 8, .nilFunc, false⟩
noncomputable def ti203 : TI := ⟨.func, 1, 8, .nilFunc, false⟩
noncomputable def ti204 : TI := ⟨.func, 1, 8, .nilFunc, false⟩
noncomputable def ti205 : TI := ⟨.func, 1, 8, .nilFunc, false⟩
noncomputable def ti206 : TI := ⟨.func, 1, 8, .nilFunc, false⟩
noncomputable def ti207 : TI := ⟨.func, 1, 8, .nilFunc, false⟩
noncomputable def ti209 : TI := ⟨.func, 1, 8, .nilFunc, false⟩
noncomputable def ti210 : TI := ⟨.func, 1, 8, .nilFunc, false⟩
noncomputable def ti211 : TI := ⟨.func, 1, 8, .nilFunc, false⟩
noncomputable def ti212 : TI := ⟨.func, 1, 8, .nilFunc, false⟩
noncomputable def ti213 : TI := ⟨.func, 1, 8, .nilFunc, false⟩
noncomputable def ti214 : TI := ⟨.func, 1, 8, .nilFunc, false⟩
noncomputable def ti215 : TI := ⟨.func, 1, 8, .nilFunc, false⟩
noncomputable def ti216 : TI := ⟨.int .u64, 1, 8, .int .u64 0, false⟩
noncomputable def ti217 : TI := ⟨.func, 1, 8, .nilFunc, false⟩
noncomputable def ti218 : TI := ⟨.struct [(3, 0, true), (22, 1, true), (22, 2, true), (180, 3, true)], 4, 80, .agg #[.int .i64 0, .slice none 0 0, .slice none 0 0, .slice none 0 0], false⟩
noncomputable def ti219 : TI := ⟨.struct [(3, 0, true), (22, 1, true), (22, 2, true), (180, 3, true)], 4, 80, .agg #[.int .i64 0, .slice none 0 0, .slice none 0 0, .slice none 0 0], false⟩
noncomputable def ti220 : TI := ⟨.func, 1, 8, .nilFunc, false⟩
noncomputable def ti221 : TI := ⟨.int .u64, 1, 8, .int .u64 0, false⟩
noncomputable def ti222 : TI := ⟨.arr 257 4, 257, 257, .agg ⟨List.replicate 257 (.bool false)⟩, false⟩
noncomputable def ti223 : TI := ⟨.func, 1, 8, .nilFunc, false⟩
noncomputable def ti224 : TI := ⟨.func, 1, 8, .nilFunc, false⟩
noncomputable def ti225 : TI := ⟨.ptr 227, 1, 8, .pointer none, false⟩
noncomputable def ti226 : TI := ⟨.struct [(80, 0, true), (199, 3, true)], 4, 72, .agg #[.slice none 0 0, .string ⟨#[]⟩, .slice none 0 0, .map none], false⟩
noncomputable def ti227 : TI := ⟨.struct [(80, 0, true), (199, 3, true)], 4, 72, .agg #[.slice none 0 0, .string ⟨#[]⟩, .slice none 0 0, .map none], false⟩
noncomputable def ti228 : TI := ⟨.func, 1, 8, .nilFunc, false⟩
noncomputable def ti229 : TI := ⟨.func, 1, 8, .nilFunc, false⟩
noncomputable def ti231 : TI := ⟨.func, 1, 8, .nilFunc, false⟩
noncomputable def ti232 : TI := ⟨.func, 1, 8, .nilFunc, false⟩
noncomputable def ti234 : TI := ⟨.func, 1, 8, .nilFunc, false⟩
noncomputable def ti236 : TI := ⟨.func, 1, 8, .nilFunc, false⟩
noncomputable def ti237 : TI := ⟨.slice 242, 1, 24, .slice none 0 0, false⟩
noncomputable def ti239 : TI := ⟨.func, 1, 8, .nilFunc, false⟩
noncomputable def ti240 : TI := ⟨.slice 413, 1, 24, .slice none 0 0, false⟩
noncomputable def ti241 : TI := ⟨.struct [(22, 0, true), (240, 1, true)], 2, 48, .agg #[.slice none 0 0, .slice none 0 0], false⟩
noncomputable def ti242 : TI := ⟨.struct [(22, 0, true), (240, 1, true)], 2, 48, .agg #[.slice none 0 0, .slice none 0 0], false⟩
noncomputable def ti243 : TI := ⟨.func, 1, 8, .nilFunc, false⟩
noncomputable def ti245 : TI := ⟨.func, 1, 8, .nilFunc, false⟩
noncomputable def ti246 : TI := ⟨.func, 1, 8, .nilFunc, false⟩
noncomputable def ti247 : TI := ⟨.struct [(9, 0, true), (3, 1, true), (3, 2, true), (3, 3, true), (3, 4, true), (27, 5, true), (9, 6, true), (3, 7, true)], 8, 96, .agg #[.string ⟨#[]⟩, .int .i64 0, .int .i64 0, .int .i64 0, .int .i64 0, .slice none 0 0, .string ⟨#[]⟩, .int .i64 0], false⟩
noncomputable def ti248 : TI := ⟨.struct [(9, 0, true), (3, 1, true), (3, 2, true), (3, 3, true), (3, 4, true), (27, 5, true), (9, 6, true), (3, 7, true)], 8, 96, .agg #[.string ⟨#[]⟩, .int .i64 0, .int .i64 0, .int .i64 0, .int .i64 0, .slice none 0 0, .string ⟨#[]⟩, .int .i64 0], false⟩
noncomputable def ti250 : TI := ⟨.func, 1, 8, .nilFunc, false⟩
noncomputable def ti252 : TI := ⟨.func, 1, 8, .nilFunc, false⟩
noncomputable def ti254 : TI := ⟨.func, 1, 8, .nilFunc, false⟩
noncomputable def ti255 : TI := ⟨.func, 1, 8, .nilFunc, false⟩
noncomputable def ti256 : TI := ⟨.slice 260, 1, 24, .slice none 0 0, false⟩
noncomputable def ti258 : TI := ⟨.func, 1, 8, .nilFunc, false⟩
noncomputable def ti259 : TI := ⟨.struct [(3, 0, true), (3, 1, true)], 2, 16, .agg #[.int .i64 0, .int .i64 0], false⟩
noncomputable def ti260 : TI := ⟨.struct [(3, 0, true), (3, 1, true)], 2, 16, .agg #[.int .i64 0, .int .i64 0], false⟩
noncomputable def ti262 : TI := ⟨.func, 1, 8, .nilFunc, false⟩
noncomputable def ti264 : TI := ⟨.func, 1, 8, .nilFunc, false⟩
noncomputable def ti265 : TI := ⟨.slice 359, 1, 24, .slice none 0 0, false⟩
noncomputable def ti267 : TI := ⟨.func, 1, 8, .nilFunc, false⟩
noncomputable def ti268 : TI := ⟨.struct [(3, 0, true), (3, 1, true), (3, 2, true)], 3, 24, .agg #[.int .i64 0, .int .i64 0, .int .i64 0], false⟩
noncomputable def ti269 : TI := ⟨.struct [(3, 0, true), (3, 1, true), (3, 2, true)], 3, 24, .agg #[.int .i64 0, .int .i64 0, .int .i64 0], false⟩
noncomputable def ti270 : TI := ⟨.func, 1, 8, .nilFunc, false⟩
noncomputable def ti271 : TI := ⟨.func, 1, 8, .nilFunc, false⟩
noncomputable def ti272 : TI := ⟨.int .i64, 1, 8, .int .i64 0, false⟩
noncomputable def ti274 : TI := ⟨.func, 1, 8, .nilFunc, false⟩
noncomputable def ti275 : TI := ⟨.func, 1, 8, .nilFunc, false⟩
noncomputable def ti276 : TI := ⟨.func, 1, 8, .nilFunc, false⟩
noncomputable def ti277 : TI := ⟨.func, 1, 8, .nilFunc, false⟩
noncomputable def ti278 : TI := ⟨.func, 1, 8, .nilFunc, false⟩
noncomputable def ti279 : TI := ⟨.func, 1, 8, .nilFunc, false⟩
noncomputable def ti280 : TI := ⟨.int .u32, 1, 4, .int .u32 0, false⟩
noncomputable def ti281 : TI := ⟨.func, 1, 8, .nilFunc, false⟩
noncomputable def ti282 : TI := ⟨.func, 1, 8, .nilFunc, false⟩
noncomputable def ti283 : TI := ⟨.func, 1, 8, .nilFunc, false⟩
noncomputable def ti284 : TI := ⟨.map 9 4, 1, 8, .map none, false⟩
noncomputable def ti285 : TI := ⟨.func, 1, 8, .nilFunc, false⟩
noncomputable def ti286 : TI := ⟨.func, 1, 8, .nilFunc, false⟩
noncomputable def ti287 : TI := ⟨.func, 1, 8, .nilFunc, false⟩
noncomputable def ti288 : TI := ⟨.func, 1, 8, .nilFunc, false⟩
noncomputable def ti289 : TI := ⟨.func, 1, 8, .nilFunc, false⟩
noncomputable def ti290 : TI := ⟨.func, 1, 8, .nilFunc, false⟩
noncomputable def ti291 : TI := ⟨.arr 24 5, 24, 24, .agg ⟨List.replicate 24 (.int .u8 0)⟩, false⟩
noncomputable def ti292 : TI := ⟨.func, 1, 8, .nilFunc, false⟩
noncomputable def ti294 : TI := ⟨.func, 1, 8, .nilFunc, false⟩
noncomputable def ti295 : TI := ⟨.func, 1, 8, .nilFunc, false⟩
noncomputable def ti296 : TI := ⟨.ptr 298, 1, 8, .pointer none, false⟩
noncomputable def ti297 : TI := ⟨.struct [(9, 0, true), (3, 1, true), (4, 2, true)], 3, 32, .agg #[.string ⟨#[]⟩, .int .i64 0, .bool false], false⟩
noncomputable def ti298 : TI := ⟨.struct [(9, 0, true), (3, 1, true), (4, 2, true)], 3, 32, .agg #[.string ⟨#[]⟩, .int .i64 0, .bool false], false⟩
noncomputable def ti299 : TI := ⟨.func, 1, 8, .nilFunc, false⟩
noncomputable def ti301 : TI := ⟨.func, 1, 8, .nilFunc, false⟩
noncomputable def ti302 : TI := ⟨.ptr 309, 1, 8, .pointer none, false⟩
noncomputable def ti304 : TI := ⟨.func, 1, 8, .nilFunc, false⟩
noncomputable def ti305 : TI := ⟨.slice 312, 1, 24, .slice none 0 0, false⟩
noncomputable def ti306 : TI := ⟨.slice 316, 1, 24, .slice none 0 0, false⟩
noncomputable def ti307 : TI := ⟨.map 404 312, 1, 8, .map none, false⟩
noncomputable def ti308 : TI := ⟨.struct [(306, 0, true), (179, 1, true), (307, 2, true)], 3, 40, .agg #[.slice none 0 0, .map none, .map none], false⟩
noncomputable def ti309 : TI := ⟨.struct [(306, 0, true), (179, 1, true), (307, 2, true)], 3, 40, .agg #[.slice none 0 0, .map none, .map none], false⟩
noncomputable def ti310 : TI := ⟨.slice 408, 1, 24, .slice none 0 0, false⟩
noncomputable def ti311 : TI := ⟨.struct [(4, 0, true), (310, 1, true)], 2, 32, .agg #[.bool false, .slice none 0 0], false⟩
noncomputable def ti312 : TI := ⟨.struct [(4, 0, true), (310, 1, true)], 2, 32, .agg #[.bool false, .slice none 0 0], false⟩
noncomputable def ti313 : TI := ⟨.func, 1, 8, .nilFunc, false⟩
noncomputable def ti314 : TI := ⟨.ptr 83, 1, 8, .pointer none, false⟩
noncomputable def ti315 : TI := ⟨.struct [(22, 0, true), (73, 1, true), (22, 6, true), (3, 7, true)], 8, 136, .agg #[.slice none 0 0, .int .i64 0, .string ⟨#[]⟩, .string ⟨#[]⟩, .string ⟨#[]⟩, .slice none 0 0, .slice none 0 0, .int .i64 0], false⟩
noncomputable def ti316 : TI := ⟨.struct [(22, 0, true), (73, 1, true), (22, 6, true), (3, 7, true)], 8, 136, .agg #[.slice none 0 0, .int .i64 0, .string ⟨#[]⟩, .string ⟨#[]⟩, .string ⟨#[]⟩, .slice none 0 0, .slice none 0 0, .int .i64 0], false⟩
noncomputable def ti317 : TI := ⟨.func, 1, 8, .nilFunc, false⟩
noncomputable def ti318 : TI := ⟨.func, 1, 8, .nilFunc, false⟩
noncomputable def ti320 : TI := ⟨.func, 1, 8, .nilFunc, false⟩
noncomputable def ti322 : TI := ⟨.func, 1, 8, .nilFunc, false⟩
noncomputable def ti324 : TI := ⟨.func, 1, 8, .nilFunc, false⟩
noncomputable def ti325 : TI := ⟨.func, 1, 8, .nilFunc, false⟩
noncomputable def ti326 : TI := ⟨.func, 1, 8, .nilFunc, false⟩
noncomputable def ti327 : TI := ⟨.func, 1, 8, .nilFunc, false⟩
noncomputable def ti329 : TI := ⟨.func, 1, 8, .nilFunc, false⟩
noncomputable def ti330 : TI := ⟨.func, 1, 8, .nilFunc, false⟩
noncomputable def ti331 : TI := ⟨.func, 1, 8, .nilFunc, false⟩
noncomputable def ti332 : TI := ⟨.func, 1, 8, .nilFunc, false⟩
noncomputable def ti333 : TI := ⟨.func, 1, 8, .nilFunc, false⟩
noncomputable def ti334 : TI := ⟨.func, 1, 8, .nilFunc, false⟩
noncomputable def ti335 : TI := ⟨.ptr 342, 1, 8, .pointer none, false⟩
noncomputable def ti337 : TI := ⟨.func, 1, 8, .nilFunc, false⟩
noncomputable def ti339 : TI := ⟨.func, 1, 8, .nilFunc, false⟩
noncomputable def ti340 : TI := ⟨.map 3 3, 1, 8, .map none, false⟩
noncomputable def ti341 : TI := ⟨.struct [(159, 0, true), (22, 1, true), (340, 2, true), (44, 3, true), (58, 4, true), (22, 5, true), (75, 6, true)], 7, 152, .agg #[.slice none 0 0, .slice none 0 0, .map none, .slice none 0 0, .slice none 0 0, .slice none 0 0, .slice none 0 0], false⟩
noncomputable def ti342 : TI := ⟨.struct [(159, 0, true), (22, 1, true), (340, 2, true), (44, 3, true), (58, 4, true), (22, 5, true), (75, 6, true)], 7, 152, .agg #[.slice none 0 0, .slice none 0 0, .map none, .slice none 0 0, .slice none 0 0, .slice none 0 0, .slice none 0 0], false⟩
noncomputable def ti343 : TI := ⟨.ptr 438, 1, 8, .pointer none, false⟩
noncomputable def ti344 : TI := ⟨.struct [(22, 0, true), (269, 1, true), (3, 4, true)], 5, 56, .agg #[.slice none 0 0, .int .i64 0, .int .i64 0, .int .i64 0, .int .i64 0], false⟩
noncomputable def ti345 : TI := ⟨.struct [(22, 0, true), (269, 1, true), (3, 4, true)], 5, 56, .agg #[.slice none 0 0, .int .i64 0, .int .i64 0, .int .i64 0, .int .i64 0], false⟩
noncomputable def ti347 : TI := ⟨.func, 1, 8, .nilFunc, false⟩
noncomputable def ti348 : TI := ⟨.struct [(3, 0, true), (3, 1, true)], 2, 16, .agg #[.int .i64 0, .int .i64 0], false⟩
noncomputable def ti349 : TI := ⟨.struct [(3, 0, true), (3, 1, true)], 2, 16, .agg #[.int .i64 0, .int .i64 0], false⟩
noncomputable def ti350 : TI := ⟨.func, 1, 8, .nilFunc, false⟩
noncomputable def ti351 : TI := ⟨.struct [(3, 0, true), (3, 1, true), (3, 2, true), (3, 3, true), (3, 4, true)], 5, 40, .agg #[.int .i64 0, .int .i64 0, .int .i64 0, .int .i64 0, .int .i64 0], false⟩
noncomputable def ti352 : TI := ⟨.struct [(3, 0, true), (3, 1, true), (3, 2, true), (3, 3, true), (3, 4, true)], 5, 40, .agg #[.int .i64 0, .int .i64 0, .int .i64 0, .int .i64 0, .int .i64 0], false⟩
noncomputable def ti353 : TI := ⟨.func, 1, 8, .nilFunc, false⟩
noncomputable def ti354 : TI := ⟨.ptr 445, 1, 8, .pointer none, false⟩
noncomputable def ti355 : TI := ⟨.func, 1, 8, .nilFunc, false⟩
noncomputable def ti356 : TI := ⟨.func, 1, 8, .nilFunc, false⟩
noncomputable def ti357 : TI := ⟨.func, 1, 8, .nilFunc, false⟩
noncomputable def ti358 : TI := ⟨.struct [(3, 0, true), (3, 1, true), (9, 2, true)], 3, 32, .agg #[.int .i64 0, .int .i64 0, .string ⟨#[]⟩], false⟩
noncomputable def ti359 : TI := ⟨.struct [(3, 0, true), (3, 1, true), (9, 2, true)], 3, 32, .agg #[.int .i64 0, .int .i64 0, .string ⟨#[]⟩], false⟩
noncomputable def ti360 : TI := ⟨.func, 1, 8, .nilFunc, false⟩
noncomputable def ti361 : TI := ⟨.func, 1, 8, .nilFunc, false⟩
noncomputable def ti362 : TI := ⟨.func, 1, 8, .nilFunc, false⟩
noncomputable def ti363 : TI := ⟨.int .u64, 1, 8, .int .u64 0, false⟩
noncomputable def ti364 : TI := ⟨.func, 1, 8, .nilFunc, false⟩
noncomputable def ti365 : TI := ⟨.func, 1, 8, .nilFunc, false⟩
noncomputable def ti366 : TI := ⟨.func, 1, 8, .nilFunc, false⟩
noncomputable def ti367 : TI := ⟨.func, 1, 8, .nilFunc, false⟩
noncomputable def ti368 : TI := ⟨.arr 64 5, 64, 64, .agg ⟨List.replicate 64 (.int .u8 0)⟩, false⟩
noncomputable def ti369 : TI := ⟨.func, 1, 8, .nilFunc, false⟩
noncomputable def ti370 : TI := ⟨.func, 1, 8, .nilFunc, false⟩
noncomputable def ti371 : TI := ⟨.func, 1, 8, .nilFunc, false⟩
noncomputable def ti372 : TI := ⟨.func, 1, 8, .nilFunc, false⟩
noncomputable def ti373 : TI := ⟨.func, 1, 8, .nilFunc, false⟩
noncomputable def ti374 : TI := ⟨.func, 1, 8, .nilFunc, false⟩
noncomputable def ti375 : TI := ⟨.arr 256 5, 256, 256, .agg ⟨List.replicate 256 (.int .u8 0)⟩, false⟩
noncomputable def ti376 : TI := ⟨.struct [(5, 0, true), (5, 1, true)], 2, 2, .agg #[.int .u8 0, .int .u8 0], false⟩
noncomputable def ti377 : TI := ⟨.struct [(5, 0, true), (5, 1, true)], 2, 2, .agg #[.int .u8 0, .int .u8 0], false⟩
noncomputable def ti378 : TI := ⟨.arr 16 377, 32, 32, .agg ⟨List.replicate 32 (.int .u8 0)⟩, false⟩
noncomputable def ti380 : TI := ⟨.func, 1, 8, .nilFunc, false⟩
noncomputable def ti381 : TI := ⟨.func, 1, 8, .nilFunc, false⟩
noncomputable def ti382 : TI := ⟨.arr 20 221, 20, 160, .agg ⟨List.replicate 20 (.int .u64 0)⟩, false⟩
noncomputable def ti383 : TI := ⟨.arr 65 5, 65, 65, .agg ⟨List.replicate 65 (.int .u8 0)⟩, false⟩
noncomputable def ti384 : TI := ⟨.func, 1, 8, .nilFunc, false⟩
noncomputable def ti385 : TI := ⟨.func, 1, 8, .nilFunc, false⟩
noncomputable def ti386 : TI := ⟨.ptr 497, 1, 8, .pointer none, false⟩
noncomputable def ti388 : TI := ⟨.func, 1, 8, .nilFunc, false⟩
noncomputable def ti389 : TI := ⟨.ptr 396, 1, 8, .pointer none, false⟩
noncomputable def ti390 : TI := ⟨.func, 1, 8, .nilFunc, false⟩
noncomputable def ti391 : TI := ⟨.ptr 393, 1, 8, .pointer none, false⟩
noncomputable def ti392 : TI := ⟨.struct [(80, 0, true), (59, 3, true), (3, 4, true), (71, 5, true)], 6, 120, .agg #[.slice none 0 0, .string ⟨#[]⟩, .slice none 0 0, .slice none 0 0, .int .i64 0, .slice none 0 0], false⟩
noncomputable def ti393 : TI := ⟨.struct [(80, 0, true), (59, 3, true), (3, 4, true), (71, 5, true)], 6, 120, .agg #[.slice none 0 0, .string ⟨#[]⟩, .slice none 0 0, .slice none 0 0, .int .i64 0, .slice none 0 0], false⟩
noncomputable def ti394 : TI := ⟨.func, 1, 8, .nilFunc, false⟩
noncomputable def ti395 : TI := ⟨.struct [(386, 0, true), (22, 1, true), (75, 2, true), (3, 3, true), (394, 4, true)], 5, 72, .agg #[.pointer none, .slice none 0 0, .slice none 0 0, .int .i64 0, .nilFunc], false⟩
noncomputable def ti396 : TI := ⟨.struct [(386, 0, true), (22, 1, true), (75, 2, true), (3, 3, true), (394, 4, true)], 5, 72, .agg #[.pointer none, .slice none 0 0, .slice none 0 0, .int .i64 0, .nilFunc], false⟩
noncomputable def ti397 : TI := ⟨.func, 1, 8, .nilFunc, false⟩
noncomputable def ti398 : TI := ⟨.func, 1, 8, .nilFunc, false⟩
noncomputable def ti400 : TI := ⟨.func, 1, 8, .nilFunc, false⟩
noncomputable def ti401 : TI := ⟨.func, 1, 8, .nilFunc, false⟩
noncomputable def ti402 : TI := ⟨.func, 1, 8, .nilFunc, false⟩
noncomputable def ti403 : TI := ⟨.struct [(314, 0, true), (3, 1, true)], 2, 16, .agg #[.pointer none, .int .i64 0], false⟩
noncomputable def ti404 : TI := ⟨.struct [(314, 0, true), (3, 1, true)], 2, 16, .agg #[.pointer none, .int .i64 0], false⟩
noncomputable def ti406 : TI := ⟨.func, 1, 8, .nilFunc, false⟩
noncomputable def ti407 : TI := ⟨.struct [(9, 0, true), (3, 1, true)], 2, 24, .agg #[.string ⟨#[]⟩, .int .i64 0], false⟩
noncomputable def ti408 : TI := ⟨.struct [(9, 0, true), (3, 1, true)], 2, 24, .agg #[.string ⟨#[]⟩, .int .i64 0], false⟩
noncomputable def ti409 : TI := ⟨.func, 1, 8, .nilFunc, false⟩
noncomputable def ti410 : TI := ⟨.func, 1, 8, .nilFunc, false⟩
noncomputable def ti411 : TI := ⟨.func, 1, 8, .nilFunc, false⟩
noncomputable def ti412 : TI := ⟨.struct [(9, 0, true), (73, 1, true)], 6, 96, .agg #[.string ⟨#[]⟩, .int .i64 0, .string ⟨#[]⟩, .string ⟨#[]⟩, .string ⟨#[]⟩, .slice none 0 0], false⟩
noncomputable def ti413 : TI := ⟨.struct [(9, 0, true), (73, 1, true)], 6, 96, .agg #[.string ⟨#[]⟩, .int .i64 0, .string ⟨#[]⟩, .string ⟨#[]⟩, .string ⟨#[]⟩, .slice none 0 0], false⟩
noncomputable def ti414 : TI := ⟨.func, 1, 8, .nilFunc, false⟩
noncomputable def ti415 : TI := ⟨.func, 1, 8, .nilFunc, false⟩
noncomputable def ti416 : TI := ⟨.func, 1, 8, .nilFunc, false⟩
noncomputable def ti417 : TI := ⟨.func, 1, 8, .nilFunc, false⟩
noncomputable def ti418 : TI := ⟨.func, 1, 8, .nilFunc, false⟩
noncomputable def ti419 : TI := ⟨.func, 1, 8, .nilFunc, false⟩
noncomputable def ti420 : TI := ⟨.ptr 422, 1, 8, .pointer none, false⟩
noncomputable def ti421 : TI := ⟨.struct [(9, 0, true), (3, 1, true), (4, 2, true)], 3, 32, .agg #[.string ⟨#[]⟩, .int .i64 0, .bool false], false⟩
noncomputable def ti422 : TI := ⟨.struct [(9, 0, true), (3, 1, true), (4, 2, true)], 3, 32, .agg #[.string ⟨#[]⟩, .int .i64 0, .bool false], false⟩
noncomputable def ti423 : TI := ⟨.func, 1, 8, .nilFunc, false⟩
noncomputable def ti424 : TI := ⟨.func, 1, 8, .nilFunc, false⟩
noncomputable def ti425 : TI := ⟨.func, 1, 8, .nilFunc, false⟩
noncomputable def ti426 : TI := ⟨.ptr 441, 1, 8, .pointer none, false⟩
noncomputable def ti428 : TI := ⟨.func, 1, 8, .nilFunc, false⟩
noncomputable def ti429 : TI := ⟨.func, 1, 8, .nilFunc, false⟩
noncomputable def ti430 : TI := ⟨.func, 1, 8, .nilFunc, false⟩
noncomputable def ti431 : TI := ⟨.func, 1, 8, .nilFunc, false⟩
noncomputable def ti432 : TI := ⟨.slice 349, 1, 24, .slice none 0 0, false⟩
noncomputable def ti435 : TI := ⟨.slice 432, 1, 24, .slice none 0 0, false⟩
noncomputable def ti436 : TI := ⟨.slice 435, 1, 24, .slice none 0 0, false⟩
noncomputable def ti437 : TI := ⟨.struct [(426, 0, true), (3, 1, true), (434, 2, true), (435, 3, true), (436, 4, true)], 5, 80, .agg #[.pointer none, .int .i64 0, .nilIface, .slice none 0 0, .slice none 0 0], false⟩
noncomputable def ti438 : TI := ⟨.struct [(426, 0, true), (3, 1, true), (434, 2, true), (435, 3, true), (436, 4, true)], 5, 80, .agg #[.pointer none, .int .i64 0, .nilIface, .slice none 0 0, .slice none 0 0], false⟩
noncomputable def ti439 : TI := ⟨.slice 487, 1, 24, .slice none 0 0, false⟩
noncomputable def ti440 : TI := ⟨.struct [(75, 0, true), (3, 1, true), (3, 2, true), (439, 3, true), (94, 4, true), (179, 5, true)], 6, 96, .agg #[.slice none 0 0, .int .i64 0, .int .i64 0, .slice none 0 0, .slice none 0 0, .map none], false⟩
noncomputable def ti441 : TI := ⟨.struct [(75, 0, true), (3, 1, true), (3, 2, true), (439, 3, true), (94, 4, true), (179, 5, true)], 6, 96, .agg #[.slice none 0 0, .int .i64 0, .int .i64 0, .slice none 0 0, .slice none 0 0, .map none], false⟩
noncomputable def ti442 : TI := ⟨.map 352 450, 1, 8, .map none, false⟩
noncomputable def ti443 : TI := ⟨.slice 352, 1, 24, .slice none 0 0, false⟩
noncomputable def ti444 : TI := ⟨.struct [(443, 0, true), (442, 1, true)], 2, 32, .agg #[.slice none 0 0, .map none], false⟩
noncomputable def ti445 : TI := ⟨.struct [(443, 0, true), (442, 1, true)], 2, 32, .agg #[.slice none 0 0, .map none], false⟩
noncomputable def ti446 : TI := ⟨.func, 1, 8, .nilFunc, false⟩
noncomputable def ti447 : TI := ⟨.map 352 265, 1, 8, .map none, false⟩
noncomputable def ti448 : TI := ⟨.func, 1, 8, .nilFunc, false⟩
noncomputable def ti450 : TI := ⟨.slice 443, 1, 24, .slice none 0 0, false⟩
noncomputable def ti451 : TI := ⟨.func, 1, 8, .nilFunc, false⟩
noncomputable def ti452 : TI := ⟨.func, 1, 8, .nilFunc, false⟩
noncomputable def ti453 : TI := ⟨.slice 265, 1, 24, .slice none 0 0, false⟩
noncomputable def ti454 : TI := ⟨.func, 1, 8, .nilFunc, false⟩
noncomputable def ti455 : TI := ⟨.func, 1, 8, .nilFunc, false⟩
noncomputable def ti456 : TI := ⟨.func, 1, 8, .nilFunc, false⟩
noncomputable def ti457 : TI := ⟨.func, 1, 8, .nilFunc, false⟩
noncomputable def ti458 : TI := ⟨.func, 1, 8, .nilFunc, false⟩
noncomputable def ti459 : TI := ⟨.func, 1, 8, .nilFunc, false⟩
noncomputable def ti460 : TI := ⟨.ptr 363, 1, 8, .pointer none, false⟩
noncomputable def ti461 : TI := ⟨.func, 1, 8, .nilFunc, false⟩
noncomputable def ti462 : TI := ⟨.func, 1, 8, .nilFunc, false⟩
noncomputable def ti463 : TI := ⟨.func, 1, 8, .nilFunc, false⟩
noncomputable def ti464 : TI := ⟨.func, 1, 8, .nilFunc, false⟩
noncomputable def ti465 : TI := ⟨.func, 1, 8, .nilFunc, false⟩
noncomputable def ti466 : TI := ⟨.func, 1, 8, .nilFunc, false⟩
noncomputable def ti467 : TI := ⟨.func, 1, 8, .nilFunc, false⟩
noncomputable def ti468 : TI := ⟨.func, 1, 8, .nilFunc, false⟩
noncomputable def ti469 : TI := ⟨.func, 1, 8, .nilFunc, false⟩
noncomputable def ti470 : TI := ⟨.func, 1, 8, .nilFunc, false⟩
noncomputable def ti471 : TI := ⟨.func, 1, 8, .nilFunc, false⟩
noncomputable def ti473 : TI := ⟨.func, 1, 8, .nilFunc, false⟩
noncomputable def ti474 : TI := ⟨.func, 1, 8, .nilFunc, false⟩
noncomputable def ti475 : TI := ⟨.func, 1, 8, .nilFunc, false⟩
noncomputable def ti476 : TI := ⟨.func, 1, 8, .nilFunc, false⟩
noncomputable def ti477 : TI := ⟨.func, 1, 8, .nilFunc, false⟩
noncomputable def ti478 : TI := ⟨.func, 1, 8, .nilFunc, false⟩
noncomputable def ti479 : TI := ⟨.func, 1, 8, .nilFunc, false⟩
noncomputable def ti480 : TI := ⟨.func, 1, 8, .nilFunc, false⟩
noncomputable def ti481 : TI := ⟨.func, 1, 8, .nilFunc, false⟩
noncomputable def ti482 : TI := ⟨.func, 1, 8, .nilFunc, false⟩
noncomputable def ti483 : TI := ⟨.func, 1, 8, .nilFunc, false⟩
noncomputable def ti484 : TI := ⟨.func, 1, 8, .nilFunc, false⟩
noncomputable def ti485 : TI := ⟨.func, 1, 8, .nilFunc, false⟩
noncomputable def ti486 : TI := ⟨.struct [(3, 0, true), (22, 1, true), (3, 2, true)], 3, 40, .agg #[.int .i64 0, .slice none 0 0, .int .i64 0], false⟩
noncomputable def ti487 : TI := ⟨.struct [(3, 0, true), (22, 1, true), (3, 2, true)], 3, 40, .agg #[.int .i64 0, .slice none 0 0, .int .i64 0], false⟩
noncomputable def ti488 : TI := ⟨.func, 1, 8, .nilFunc, false⟩
noncomputable def ti490 : TI := ⟨.func, 1, 8, .nilFunc, false⟩
noncomputable def ti491 : TI := ⟨.arr 32 5, 32, 32, .agg ⟨List.replicate 32 (.int .u8 0)⟩, false⟩
noncomputable def ti492 : TI := ⟨.slice 501, 1, 24, .slice none 0 0, false⟩
noncomputable def ti494 : TI := ⟨.func, 1, 8, .nilFunc, false⟩
noncomputable def ti495 : TI := ⟨.slice 179, 1, 24, .slice none 0 0, false⟩
noncomputable def ti496 : TI := ⟨.struct [(80, 0, true), (495, 3, true), (495, 4, true)], 5, 112, .agg #[.slice none 0 0, .string ⟨#[]⟩, .slice none 0 0, .slice none 0 0, .slice none 0 0], false⟩
noncomputable def ti497 : TI := ⟨.struct [(80, 0, true), (495, 3, true), (495, 4, true)], 5, 112, .agg #[.slice none 0 0, .string ⟨#[]⟩, .slice none 0 0, .slice none 0 0, .slice none 0 0], false⟩
noncomputable def ti498 : TI := ⟨.slice 503, 1, 24, .slice none 0 0, false⟩
noncomputable def ti499 : TI := ⟨.slice 505, 1, 24, .slice none 0 0, false⟩
noncomputable def ti500 : TI := ⟨.struct [(498, 0, true), (499, 1, true)], 2, 48, .agg #[.slice none 0 0, .slice none 0 0], false⟩
noncomputable def ti501 : TI := ⟨.struct [(498, 0, true), (499, 1, true)], 2, 48, .agg #[.slice none 0 0, .slice none 0 0], false⟩
noncomputable def ti502 : TI := ⟨.struct [(9, 0, true), (3, 1, true)], 2, 24, .agg #[.string ⟨#[]⟩, .int .i64 0], false⟩
noncomputable def ti503 : TI := ⟨.struct [(9, 0, true), (3, 1, true)], 2, 24, .agg #[.string ⟨#[]⟩, .int .i64 0], false⟩
noncomputable def ti504 : TI := ⟨.struct [(9, 0, true), (3, 1, true)], 2, 24, .agg #[.string ⟨#[]⟩, .int .i64 0], false⟩
noncomputable def ti505 : TI := ⟨.struct [(9, 0, true), (3, 1, true)], 2, 24, .agg #[.string ⟨#[]⟩, .int .i64 0], false⟩
noncomputable def ti506 : TI := ⟨.func, 1, 8, .nilFunc, false⟩
noncomputable def ti507 : TI := ⟨.func, 1, 8, .nilFunc, false⟩
noncomputable def ti508 : TI := ⟨.func, 1, 8, .nilFunc, false⟩
noncomputable def ti509 : TI := ⟨.func, 1, 8, .nilFunc, false⟩
noncomputable def ti510 : TI := ⟨.func, 1, 8, .nilFunc, false⟩
noncomputable def ti511 : TI := ⟨.func, 1, 8, .nilFunc, false⟩
noncomputable def ti512 : TI := ⟨.func, 1, 8, .nilFunc, false⟩
noncomputable def ti513 : TI := ⟨.func, 1, 8, .nilFunc, false⟩
noncomputable def ti514 : TI := ⟨.func, 1, 8, .nilFunc, false⟩
noncomputable def ti515 : TI := ⟨.func, 1, 8, .nilFunc, false⟩
noncomputable def ti516 : TI := ⟨.func, 1, 8, .nilFunc, false⟩
noncomputable def ti517 : TI := ⟨.func, 1, 8, .nilFunc, false⟩
noncomputable def ti518 : TI := ⟨.slice 4, 1, 24, .slice none 0 0, false⟩
noncomputable def ti519 : TI := ⟨.func, 1, 8, .nilFunc, false⟩
noncomputable def ti520 : TI := ⟨.func, 1, 8, .nilFunc, false⟩
noncomputable def ti521 : TI := ⟨.func, 1, 8, .nilFunc, false⟩
noncomputable def ti522 : TI := ⟨.func, 1, 8, .nilFunc, false⟩
noncomputable def ti523 : TI := ⟨.func, 1, 8, .nilFunc, false⟩
noncomputable def ti524 : TI := ⟨.func, 1, 8, .nilFunc, false⟩
noncomputable def ti525 : TI := ⟨.func, 1, 8, .nilFunc, false⟩
noncomputable def ti526 : TI := ⟨.func, 1, 8, .nilFunc, false⟩
noncomputable def ti527 : TI := ⟨.func, 1, 8, .nilFunc, false⟩
noncomputable def ti528 : TI := ⟨.func, 1, 8, .nilFunc, false⟩
noncomputable def ti529 : TI := ⟨.ptr 545, 1, 8, .pointer none, false⟩
noncomputable def ti531 : TI := ⟨.func, 1, 8, .nilFunc, false⟩
noncomputable def ti533 : TI := ⟨.func, 1, 8, .nilFunc, false⟩
noncomputable def ti534 : TI := ⟨.func, 1, 8, .nilFunc, false⟩
noncomputable def ti535 : TI := ⟨.func, 1, 8, .nilFunc, false⟩
noncomputable def ti536 : TI := ⟨.func, 1, 8, .nilFunc, false⟩
noncomputable def ti537 : TI := ⟨.func, 1, 8, .nilFunc, false⟩
noncomputable def ti538 : TI := ⟨.func, 1, 8, .nilFunc, false⟩
noncomputable def ti540 : TI := ⟨.func, 1, 8, .nilFunc, false⟩
noncomputable def ti542 : TI := ⟨.func, 1, 8, .nilFunc, false⟩
noncomputable def ti543 : TI := ⟨.slice 548, 1, 24, .slice none 0 0, false⟩
noncomputable def ti544 : TI := ⟨.struct [(426, 0, true), (518, 1, true), (181, 2, true), (22, 3, true), (22, 4, true), (543, 5, true)], 6, 128, .agg #[.pointer none, .slice none 0 0, .slice none 0 0, .slice none 0 0, .slice none 0 0, .slice none 0 0], false⟩
noncomputable def ti545 : TI := ⟨.struct [(426, 0, true), (518, 1, true), (181, 2, true), (22, 3, true), (22, 4, true), (543, 5, true)], 6, 128, .agg #[.pointer none, .slice none 0 0, .slice none 0 0, .slice none 0 0, .slice none 0 0, .slice none 0 0], false⟩
noncomputable def ti546 : TI := ⟨.slice 564, 1, 24, .slice none 0 0, false⟩
noncomputable def ti547 : TI := ⟨.struct [(546, 0, true), (181, 1, true), (22, 2, true)], 3, 72, .agg #[.slice none 0 0, .slice none 0 0, .slice none 0 0], false⟩
noncomputable def ti548 : TI := ⟨.struct [(546, 0, true), (181, 1, true), (22, 2, true)], 3, 72, .agg #[.slice none 0 0, .slice none 0 0, .slice none 0 0], false⟩
noncomputable def ti549 : TI := ⟨.struct [(22, 0, true), (4, 1, true), (4, 2, true), (3, 3, true), (4, 4, true), (4, 5, true)], 6, 48, .agg #[.slice none 0 0, .bool false, .bool false, .int .i64 0, .bool false, .bool false], false⟩
noncomputable def ti550 : TI := ⟨.struct [(22, 0, true), (4, 1, true), (4, 2, true), (3, 3, true), (4, 4, true), (4, 5, true)], 6, 48, .agg #[.slice none 0 0, .bool false, .bool false, .int .i64 0, .bool false, .bool false], false⟩
noncomputable def ti551 : TI := ⟨.func, 1, 8, .nilFunc, false⟩
noncomputable def ti552 : TI := ⟨.func, 1, 8, .nilFunc, false⟩
noncomputable def ti553 : TI := ⟨.func, 1, 8, .nilFunc, false⟩
noncomputable def ti554 : TI := ⟨.func, 1, 8, .nilFunc, false⟩
noncomputable def ti555 : TI := ⟨.func, 1, 8, .nilFunc, false⟩
noncomputable def ti556 : TI := ⟨.func, 1, 8, .nilFunc, false⟩
noncomputable def ti557 : TI := ⟨.func, 1, 8, .nilFunc, false⟩
noncomputable def ti558 : TI := ⟨.func, 1, 8, .nilFunc, false⟩
noncomputable def ti559 : TI := ⟨.func, 1, 8, .nilFunc, false⟩
noncomputable def ti561 : TI := ⟨.func, 1, 8, .nilFunc, false⟩
noncomputable def ti562 : TI := ⟨.func, 1, 8, .nilFunc, false⟩
noncomputable def ti563 : TI := ⟨.struct [(3, 0, true), (3, 1, true)], 2, 16, .agg #[.int .i64 0, .int .i64 0], false⟩
noncomputable def ti564 : TI := ⟨.struct [(3, 0, true), (3, 1, true)], 2, 16, .agg #[.int .i64 0, .int .i64 0], false⟩
noncomputable def ti565 : TI := ⟨.func, 1, 8, .nilFunc, false⟩
noncomputable def ti566 : TI := ⟨.func, 1, 8, .nilFunc, false⟩
noncomputable def ti567 : TI := ⟨.func, 1, 8, .nilFunc, false⟩
noncomputable def ti568 : TI := ⟨.func, 1, 8, .nilFunc, false⟩
noncomputable def ti569 : TI := ⟨.func, 1, 8, .nilFunc, false⟩
noncomputable def ti570 : TI := ⟨.func, 1, 8, .nilFunc, false⟩
noncomputable def ti571 : TI := ⟨.func, 1, 8, .nilFunc, false⟩
noncomputable def ti572 : TI := ⟨.func, 1, 8, .nilFunc, false⟩
noncomputable def ti573 : TI := ⟨.func, 1, 8, .nilFunc, false⟩
noncomputable def ti574 : TI := ⟨.func, 1, 8, .nilFunc, false⟩
noncomputable def ti576 : TI := ⟨.func, 1, 8, .nilFunc, false⟩
noncomputable def ti577 : TI := ⟨.func, 1, 8, .nilFunc, false⟩
noncomputable def ti578 : TI := ⟨.map 564 221, 1, 8, .map none, false⟩
noncomputable def ti579 : TI := ⟨.func, 1, 8, .nilFunc, false⟩
noncomputable def ti581 : TI := ⟨.func, 1, 8, .nilFunc, false⟩
noncomputable def ti583 : TI := ⟨.func, 1, 8, .nilFunc, false⟩
noncomputable def ti584 : TI := ⟨.ptr 548, 1, 8, .pointer none, false⟩
noncomputable def ti585 : TI := ⟨.func, 1, 8, .nilFunc, false⟩
noncomputable def ti586 : TI := ⟨.func, 1, 8, .nilFunc, false⟩
noncomputable def ti587 : TI := ⟨.func, 1, 8, .nilFunc, false⟩
noncomputable def ti588 : TI := ⟨.func, 1, 8, .nilFunc, false⟩
noncomputable def ti589 : TI := ⟨.func, 1, 8, .nilFunc, false⟩
noncomputable def ti590 : TI := ⟨.func, 1, 8, .nilFunc, false⟩
noncomputable def ti591 : TI := ⟨.func, 1, 8, .nilFunc, false⟩
noncomputable def ti592 : TI := ⟨.func, 1, 8, .nilFunc, false⟩
noncomputable def ti593 : TI := ⟨.func, 1, 8, .nilFunc, false⟩
noncomputable def ti594 : TI := ⟨.func, 1, 8, .nilFunc, false⟩
noncomputable def ti595 : TI := ⟨.func, 1, 8, .nilFunc, false⟩
noncomputable def ti596 : TI := ⟨.func, 1, 8, .nilFunc, false⟩
noncomputable def ti597 : TI := ⟨.func, 1, 8, .nilFunc, false⟩
noncomputable def ti598 : TI := ⟨.func, 1, 8, .nilFunc, false⟩
noncomputable def ti599 : TI := ⟨.func, 1, 8, .nilFunc, false⟩
noncomputable def ti600 : TI := ⟨.func, 1, 8, .nilFunc, false⟩
noncomputable def ti601 : TI := ⟨.func, 1, 8, .nilFunc, false⟩
noncomputable def ti602 : TI := ⟨.func, 1, 8, .nilFunc, false⟩
noncomputable def ti603 : TI := ⟨.func, 1, 8, .nilFunc, false⟩
noncomputable def ti604 : TI := ⟨.struct [(17, 0, true), (17, 1, true), (17, 2, true), (9, 3, true)], 4, 40, .agg #[.pointer none, .pointer none, .pointer none, .string ⟨#[]⟩], false⟩
noncomputable def ti605 : TI := ⟨.struct [(17, 0, true), (17, 1, true), (17, 2, true), (9, 3, true)], 4, 40, .agg #[.pointer none, .pointer none, .pointer none, .string ⟨#[]⟩], false⟩
noncomputable def ti606 : TI := ⟨.arr 0 16, 0, 0, .agg #[], false⟩
noncomputable def ti607 : TI := ⟨.struct [(606, 0, false)], 0, 0, .agg #[], false⟩
noncomputable def ti608 : TI := ⟨.struct [(606, 0, false)], 0, 0, .agg #[], false⟩
noncomputable def ti609 : TI := ⟨.int .u8, 1, 1, .int .u8 0, false⟩
noncomputable def ti610 : TI := ⟨.int .u8, 1, 1, .int .u8 0, false⟩
noncomputable def ti611 : TI := ⟨.func, 1, 8, .nilFunc, false⟩
noncomputable def ti612 : TI := ⟨.int .i32, 1, 4, .int .i32 0, false⟩
noncomputable def ti613 : TI := ⟨.int .i32, 1, 4, .int .i32 0, false⟩
noncomputable def ti614 : TI := ⟨.struct [(12, 0, true), (12, 1, true), (280, 2, true), (609, 3, true), (5, 4, true), (5, 5, true), (610, 6, true), (611, 7, true), (142, 8, true), (612, 9, true), (613, 10, true)], 11, 48, .agg #[.int .u64 0, .int .u64 0, .int .u32 0, .int .u8 0, .int .u8 0, .int .u8 0, .int .u8 0, .nilFunc, .pointer none, .int .i32 0, .int .i32 0], false⟩
noncomputable def ti615 : TI := ⟨.struct [(12, 0, true), (12, 1, true), (280, 2, true), (609, 3, true), (5, 4, true), (5, 5, true), (610, 6, true), (611, 7, true), (142, 8, true), (612, 9, true), (613, 10, true)], 11, 48, .agg #[.int .u64 0, .int .u64 0, .int .u32 0, .int .u8 0, .int .u8 0, .int .u8 0, .int .u8 0, .nilFunc, .pointer none, .int .i32 0, .int .i32 0], false⟩
noncomputable def tys : BT TI := (.node 312 ti312 (.node 153 ti153 (.node 77 ti77 (.node 38 ti38 (.node 18 ti18 (.node 9 ti9 (.node 5 ti5 (.node 3 ti3 (.node 2 ti2 (.node 1 ti1 .nil .nil) .nil) (.node 4 ti4 .nil .nil)) (.node 7 ti7 (.node 6 ti6 .nil .nil) (.node 8 ti8 .nil .nil))) (.node 14 ti14 (.node 12 ti12 (.node 11 ti11 (.node 10 ti10 .nil .nil) .nil) (.node 13 ti13 .nil .nil)) (.node 16 ti16 (.node 15 ti15 .nil .nil) (.node 17 ti17 .nil .nil)))) (.node 28 ti28 (.node 24 ti24 (.node 22 ti22 (.node 21 ti21 (.node 19 ti19 .nil .nil) .nil) (.node 23 ti23 .nil .nil)) (.node 26 ti26 (.node 25 ti25 .nil .nil) (.node 27 ti27 .nil .nil))) (.node 34 ti34 (.node 31 ti31 (.node 29 ti29 .nil .nil) (.node 33 ti33 .nil .nil)) (.node 36 ti36 (.node 35 ti35 .nil .nil) (.node 37 ti37 .nil .nil))))) (.node 59 ti59 (.node 49 ti49 (.node 44 ti44 (.node 42 ti42 (.node 41 ti41 (.node 39 ti39 .nil .nil) .nil) (.node 43 ti43 .nil .nil)) (.node 46 ti46 (.node 45 ti45 .nil .nil) (.node 48 ti48 .nil .nil))) (.node 55 ti55 (.node 53 ti53 (.node 52 ti52 (.node 51 ti51 .nil .nil) .nil) (.node 54 ti54 .nil .nil)) (.node 57 ti57 (.node 56 ti56 .nil .nil) (.node 58 ti58 .nil .nil)))) (.node 69 ti69 (.node 65 ti65 (.node 63 ti63 (.node 62 ti62 (.node 61 ti61 .nil .nil) .nil) (.node 64 ti64 .nil .nil)) (.node 67 ti67 (.node 66 ti66 .nil .nil) (.node 68 ti68 .nil .nil))) (.node 73 ti73 (.node 71 ti71 (.node 70 ti70 .nil .nil) (.node 72 ti72 .nil .nil)) (.node 75 ti75 (.node 74 ti74 .nil .nil) (.node 76 ti76 .nil .nil)))))) (.node 116 ti116 (.node 95 ti95 (.node 86 ti86 (.node 82 ti82 (.node 80 ti80 (.node 79 ti79 (.node 78 ti78 .nil .nil) .nil) (.node 81 ti81 .nil .nil)) (.node 84 ti84 (.node 83 ti83 .nil .nil) (.node 85 ti85 .nil .nil))) (.node 91 ti91 (.node 89 ti89 (.node 88 ti88 (.node 87 ti87 .nil .nil) .nil) (.node 90 ti90 .nil .nil)) (.node 93 ti93 (.node 92 ti92 .nil .nil) (.node 94 ti94 .nil .nil)))) (.node 104 ti104 (.node 100 ti100 (.node 98 ti98 (.node 97 ti97 (.node 96 ti96 .nil .nil) .nil) (.node 99 ti99 .nil .nil)) (.node 102 ti102 (.node 101 ti101 .nil .nil) (.node 103 ti103 .nil .nil))) (.node 111 ti111 (.node 106 ti106 (.node 105 ti105 .nil .nil) (.node 107 ti107 .nil .nil)) (.node 113 ti113 (.node 112 ti112 .nil .nil) (.node 115 ti115 .nil .nil))))) (.node 134 ti134 (.node 126 ti126 (.node 122 ti122 (.node 120 ti120 (.node 118 ti118 (.node 117 ti117 .nil .nil) .nil) (.node 121 ti121 .nil .nil)) (.node 124 ti124 (.node 123 ti123 .nil .nil) (.node 125 ti125 .nil .nil))) (.node 130 ti130 (.node 128 ti128 (.node 127 ti127 .nil .nil) (.node 129 ti129 .nil .nil)) (.node 132 ti132 (.node 131 ti131 .nil .nil) (.node 133 ti133 .nil .nil)))) (.node 144 ti144 (.node 140 ti140 (.node 137 ti137 (.node 136 ti136 (.node 135 ti135 .nil .nil) .nil) (.node 139 ti139 .nil .nil)) (.node 142 ti142 (.node 141 ti141 .nil .nil) (.node 143 ti143 .nil .nil))) (.node 149 ti149 (.node 146 ti146 (.node 145 ti145 .nil .nil) (.node 148 ti148 .nil .nil)) (.node 151 ti151 (.node 150 ti150 .nil .nil) (.node 152 ti152 .nil .nil))))))) (.node 227 ti227 (.node 190 ti190 (.node 173 ti173 (.node 162 ti162 (.node 158 ti158 (.node 156 ti156 (.node 155 ti155 (.node 154 ti154 .nil .nil) .nil) (.node 157 ti157 .nil .nil)) (.node 160 ti160 (.node 159 ti159 .nil .nil) (.node 161 ti161 .nil .nil))) (.node 167 ti167 (.node 165 ti165 (.node 164 ti164 (.node 163 ti163 .nil .nil) .nil) (.node 166 ti166 .nil .nil)) (.node 170 ti170 (.node 168 ti168 .nil .nil) (.node 171 ti171 .nil .nil)))) (.node 182 ti182 (.node 178 ti178 (.node 176 ti176 (.node 175 ti175 (.node 174 ti174 .nil .nil) .nil) (.node 177 ti177 .nil .nil)) (.node 180 ti180 (.node 179 ti179 .nil .nil) (.node 181 ti181 .nil .nil))) (.node 186 ti186 (.node 184 ti184 (.node 183 ti183 .nil .nil) (.node 185 ti185 .nil .nil)) (.node 188 ti188 (.node 187 ti187 .nil .nil) (.node 189 ti189 .nil .nil))))) (.node 210 ti210 (.node 199 ti199 (.node 195 ti195 (.node 193 ti193 (.node 192 ti192 (.node 191 ti191 .nil .nil) .nil) (.node 194 ti194 .nil .nil)) (.node 197 ti197 (.node 196 ti196 .nil .nil) (.node 198 ti198 .nil .nil))) (.node 205 ti205 (.node 203 ti203 (.node 202 ti202 (.node 201 ti201 .nil .nil) .nil) (.node 204 ti204 .nil .nil)) (.node 207 ti207 (.node 206 ti206 .nil .nil) (.node 209 ti209 .nil .nil)))) (.node 219 ti219 (.node 215 ti215 (.node 213 ti213 (.node 212 ti212 (.node 211 ti211 .nil .nil) .nil) (.node 214 ti214 .nil .nil)) (.node 217 ti217 (.node 216 ti216 .nil .nil) (.node 218 ti218 .nil .nil))) (.node 223 ti223 (.node 221 ti221 (.node 220 ti220 .nil .nil) (.node 222 ti222 .nil .nil)) (.node 225 ti225 (.node 224 ti224 .nil .nil) (.node 226 ti226 .nil .nil)))))) (.node 275 ti275 (.node 252 ti252 (.node 240 ti240 (.node 234 ti234 (.node 231 ti231 (.node 229 ti229 (.node 228 ti228 .nil .nil) .nil) (.node 232 ti232 .nil .nil)) (.node 237 ti237 (.node 236 ti236 .nil .nil) (.node 239 ti239 .nil .nil))) (.node 246 ti246 (.node 243 ti243 (.node 242 ti242 (.node 241 ti241 .nil .nil) .nil) (.node 245 ti245 .nil .nil)) (.node 248 ti248 (.node 247 ti247 .nil .nil) (.node 250 ti250 .nil .nil)))) (.node 265 ti265 (.node 259 ti259 (.node 256 ti256 (.node 255 ti255 (.node 254 ti254 .nil .nil) .nil) (.node 258 ti258 .nil .nil)) (.node 262 ti262 (.node 260 ti260 .nil .nil) (.node 264 ti264 .nil .nil))) (.node 270 ti270 (.node 268 ti268 (.node 267 ti267 .nil .nil) (.node 269 ti269 .nil .nil)) (.node 272 ti272 (.node 271 ti271 .nil .nil) (.node 274 ti274 .nil .nil))))) (.node 292 ti292 (.node 284 ti284 (.node 280 ti280 (.node 278 ti278 (.node 277 ti277 (.node 276 ti276 .nil .nil) .nil) (.node 279 ti279 .nil .nil)) (.node 282 ti282 (.node 281 ti281 .nil .nil) (.node 283 ti283 .nil .nil))) (.node 288 ti288 (.node 286 ti286 (.node 285 ti285 .nil .nil) (.node 287 ti287 .nil .nil)) (.node 290 ti290 (.node 289 ti289 .nil .nil) (.node 291 ti291 .nil .nil)))) (.node 304 ti304 (.node 298 ti298 (.node 296 ti296 (.node 295 ti295 (.node 294 ti294 .nil .nil) .nil) (.node 297 ti297 .nil .nil)) (.node 301 ti301 (.node 299 ti299 .nil .nil) (.node 302 ti302 .nil .nil))) (.node 308 ti308 (.node 306 ti306 (.node 305 ti305 .nil .nil) (.node 307 ti307 .nil .nil)) (.node 310 ti310 (.node 309 ti309 .nil .nil) (.node 311 ti311 .nil .nil)))))))) (.node 466 ti466 (.node 391 ti391 (.node 354 ti354 (.node 334 ti334 (.node 324 ti324 (.node 317 ti317 (.node 315 ti315 (.node 314 ti314 (.node 313 ti313 .nil .nil) .nil) (.node 316 ti316 .nil .nil)) (.node 320 ti320 (.node 318 ti318 .nil .nil) (.node 322 ti322 .nil .nil))) (.node 330 ti330 (.node 327 ti327 (.node 326 ti326 (.node 325 ti325 .nil .nil) .nil) (.node 329 ti329 .nil .nil)) (.node 332 ti332 (.node 331 ti331 .nil .nil) (.node 333 ti333 .nil .nil)))) (.node 345 ti345 (.node 341 ti341 (.node 339 ti339 (.node 337 ti337 (.node 335 ti335 .nil .nil) .nil) (.node 340 ti340 .nil .nil)) (.node 343 ti343 (.node 342 ti342 .nil .nil) (.node 344 ti344 .nil .nil))) (.node 350 ti350 (.node 348 ti348 (.node 347 ti347 .nil .nil) (.node 349 ti349 .nil .nil)) (.node 352 ti352 (.node 351 ti351 .nil .nil) (.node 353 ti353 .nil .nil))))) (.node 372 ti372 (.node 363 ti363 (.node 359 ti359 (.node 357 ti357 (.node 356 ti356 (.node 355 ti355 .nil .nil) .nil) (.node 358 ti358 .nil .nil)) (.node 361 ti361 (.node 360 ti360 .nil .nil) (.node 362 ti362 .nil .nil))) (.node 368 ti368 (.node 366 ti366 (.node 365 ti365 (.node 364 ti364 .nil .nil) .nil) (.node 367 ti367 .nil .nil)) (.node 370 ti370 (.node 369 ti369 .nil .nil) (.node 371 ti371 .nil .nil)))) (.node 382 ti382 (.node 377 ti377 (.node 375 ti375 (.node 374 ti374 (.node 373 ti373 .nil .nil) .nil) (.node 376 ti376 .nil .nil)) (.node 380 ti380 (.node 378 ti378 .nil .nil) (.node 381 ti381 .nil .nil))) (.node 386 ti386 (.node 384 ti384 (.node 383 ti383 .nil .nil) (.node 385 ti385 .nil .nil)) (.node 389 ti389 (.node 388 ti388 .nil .nil) (.node 390 ti390 .nil .nil)))))) (.node 429 ti429 (.node 411 ti411 (.node 401 ti401 (.node 396 ti396 (.node 394 ti394 (.node 393 ti393 (.node 392 ti392 .nil .nil) .nil) (.node 395 ti395 .nil .nil)) (.node 398 ti398 (.node 397 ti397 .nil .nil) (.node 400 ti400 .nil .nil))) (.node 407 ti407 (.node 404 ti404 (.node 403 ti403 (.node 402 ti402 .nil .nil) .nil) (.node 406 ti406 .nil .nil)) (.node 409 ti409 (.node 408 ti408 .nil .nil) (.node 410 ti410 .nil .nil)))) (.node 420 ti420 (.node 416 ti416 (.node 414 ti414 (.node 413 ti413 (.node 412 ti412 .nil .nil) .nil) (.node 415 ti415 .nil .nil)) (.node 418 ti418 (.node 417 ti417 .nil .nil) (.node 419 ti419 .nil .nil))) (.node 424 ti424 (.node 422 ti422 (.node 421 ti421 .nil .nil) (.node 423 ti423 .nil .nil)) (.node 426 ti426 (.node 425 ti425 .nil .nil) (.node 428 ti428 .nil .nil))))) (.node 448 ti448 (.node 440 ti440 (.node 436 ti436 (.node 432 ti432 (.node 431 ti431 (.node 430 ti430 .nil .nil) .nil) (.node 435 ti435 .nil .nil)) (.node 438 ti438 (.node 437 ti437 .nil .nil) (.node 439 ti439 .nil .nil))) (.node 444 ti444 (.node 442 ti442 (.node 441 ti441 .nil .nil) (.node 443 ti443 .nil .nil)) (.node 446 ti446 (.node 445 ti445 .nil .nil) (.node 447 ti447 .nil .nil)))) (.node 458 ti458 (.node 454 ti454 (.node 452 ti452 (.node 451 ti451 (.node 450 ti450 .nil .nil) .nil) (.node 453 ti453 .nil .nil)) (.node 456 ti456 (.node 455 ti455 .nil .nil) (.node 457 ti457 .nil .nil))) (.node 462 ti462 (.node 460 ti460 (.node 459 ti459 .nil .nil) (.node 461 ti461 .nil .nil)) (.node 464 ti464 (.node 463 ti463 .nil .nil) (.node 465 ti465 .nil .nil))))))) (.node 543 ti543 (.node 504 ti504 (.node 485 ti485 (.node 476 ti476 (.node 471 ti471 (.node 469 ti469 (.node 468 ti468 (.node 467 ti467 .nil .nil) .nil) (.node 470 ti470 .nil .nil)) (.node 474 ti474 (.node 473 ti473 .nil .nil) (.node 475 ti475 .nil .nil))) (.node 481 ti481 (.node 479 ti479 (.node 478 ti478 (.node 477 ti477 .nil .nil) .nil) (.node 480 ti480 .nil .nil)) (.node 483 ti483 (.node 482 ti482 .nil .nil) (.node 484 ti484 .nil .nil)))) (.node 496 ti496 (.node 491 ti491 (.node 488 ti488 (.node 487 ti487 (.node 486 ti486 .nil .nil) .nil) (.node 490 ti490 .nil .nil)) (.node 494 ti494 (.node 492 ti492 .nil .nil) (.node 495 ti495 .nil .nil))) (.node 500 ti500 (.node 498 ti498 (.node 497 ti497 .nil .nil) (.node 499 ti499 .nil .nil)) (.node 502 ti502 (.node 501 ti501 .nil .nil) (.node 503 ti503 .nil .nil))))) (.node 522 ti522 (.node 513 ti513 (.node 509 ti509 (.node 507 ti507 (.node 506 ti506 (.node 505 ti505 .nil .nil) .nil) (.node 508 ti508 .nil .nil)) (.node 511 ti511 (.node 510 ti510 .nil .nil) (.node 512 ti512 .nil .nil))) (.node 518 ti518 (.node 516 ti516 (.node 515 ti515 (.node 514 ti514 .nil .nil) .nil) (.node 517 ti517 .nil .nil)) (.node 520 ti520 (.node 519 ti519 .nil .nil) (.node 521 ti521 .nil .nil)))) (.node 533 ti533 (.node 527 ti527 (.node 525 ti525 (.node 524 ti524 (.node 523 ti523 .nil .nil) .nil) (.node 526 ti526 .nil .nil)) (.node 529 ti529 (.node 528 ti528 .nil .nil) (.node 531 ti531 .nil .nil))) (.node 537 ti537 (.node 535 ti535 (.node 534 ti534 .nil .nil) (.node 536 ti536 .nil .nil)) (.node 540 ti540 (.node 538 ti538 .nil .nil) (.node 542 ti542 .nil .nil)))))) (.node 581 ti581 (.node 562 ti562 (.node 552 ti552 (.node 548 ti548 (.node 546 ti546 (.node 545 ti545 (.node 544 ti544 .nil .nil) .nil) (.node 547 ti547 .nil .nil)) (.node 550 ti550 (.node 549 ti549 .nil .nil) (.node 551 ti551 .nil .nil))) (.node 557 ti557 (.node 555 ti555 (.node 554 ti554 (.node 553 ti553 .nil .nil) .nil) (.node 556 ti556 .nil .nil)) (.node 559 ti559 (.node 558 ti558 .nil .nil) (.node 561 ti561 .nil .nil)))) (.node 571 ti571 (.node 567 ti567 (.node 565 ti565 (.node 564 ti564 (.node 563 ti563 .nil .nil) .nil) (.node 566 ti566 .nil .nil)) (.node 569 ti569 (.node 568 ti568 .nil .nil) (.node 570 ti570 .nil .nil))) (.node 576 ti576 (.node 573 ti573 (.node 572 ti572 .nil .nil) (.node 574 ti574 .nil .nil)) (.node 578 ti578 (.node 577 ti577 .nil .nil) (.node 579 ti579 .nil .nil))))) (.node 599 ti599 (.node 591 ti591 (.node 587 ti587 (.node 585 ti585 (.node 584 ti584 (.node 583 ti583 .nil .nil) .nil) (.node 586 ti586 .nil .nil)) (.node 589 ti589 (.node 588 ti588 .nil .nil) (.node 590 ti590 .nil .nil))) (.node 595 ti595 (.node 593 ti593 (.node 592 ti592 .nil .nil) (.node 594 ti594 .nil .nil)) (.node 597 ti597 (.node 596 ti596 .nil .nil) (.node 598 ti598 .nil .nil)))) (.node 608 ti608 (.node 604 ti604 (.node 602 ti602 (.node 601 ti601 (.node 600 ti600 .nil .nil) .nil) (.node 603 ti603 .nil .nil)) (.node 606 ti606 (.node 605 ti605 .nil .nil) (.node 607 ti607 .nil .nil))) (.node 612 ti612 (.node 610 ti610 (.node 609 ti609 .nil .nil) (.node 611 ti611 .nil .nil)) (.node 614 ti614 (.node 613 ti613 .nil .nil) (.node 615 ti615 .nil .nil)))))))))
noncomputable def fns : BT Func := (.node 256 Tryz.f256 (.node 129 Tryz.f129 (.node 66 Tryz.f66 (.node 34 Tryz.f34 (.node 18 Tryz.f18 (.node 10 Tryz.f10 (.node 6 Tryz.f6 (.node 4 Tryz.f4 (.node 3 Tryz.f3 .nil .nil) (.node 5 Tryz.f5 .nil .nil)) (.node 8 Tryz.f8 (.node 7 Tryz.f7 .nil .nil) (.node 9 Tryz.f9 .nil .nil))) (.node 14 Tryz.f14 (.node 12 Tryz.f12 (.node 11 Tryz.f11 .nil .nil) (.node 13 Tryz.f13 .nil .nil)) (.node 16 Tryz.f16 (.node 15 Tryz.f15 .nil .nil) (.node 17 Tryz.f17 .nil .nil)))) (.node 26 Tryz.f26 (.node 22 Tryz.f22 (.node 20 Tryz.f20 (.node 19 Tryz.f19 .nil .nil) (.node 21 Tryz.f21 .nil .nil)) (.node 24 Tryz.f24 (.node 23 Tryz.f23 .nil .nil) (.node 25 Tryz.f25 .nil .nil))) (.node 30 Tryz.f30 (.node 28 Tryz.f28 (.node 27 Tryz.f27 .nil .nil) (.node 29 Tryz.f29 .nil .nil)) (.node 32 Tryz.f32 (.node 31 Tryz.f31 .nil .nil) (.node 33 Tryz.f33 .nil .nil))))) (.node 50 Tryz.f50 (.node 42 Tryz.f42 (.node 38 Tryz.f38 (.node 36 Tryz.f36 (.node 35 Tryz.f35 .nil .nil) (.node 37 Tryz.f37 .nil .nil)) (.node 40 Tryz.f40 (.node 39 Tryz.f39 .nil .nil) (.node 41 Tryz.f41 .nil .nil))) (.node 46 Tryz.f46 (.node 44 Tryz.f44 (.node 43 Tryz.f43 .nil .nil) (.node 45 Tryz.f45 .nil .nil)) (.node 48 Tryz.f48 (.node 47 Tryz.f47 .nil .nil) (.node 49 Tryz.f49 .nil .nil)))) (.node 58 Tryz.f58 (.node 54 Tryz.f54 (.node 52 Tryz.f52 (.node 51 Tryz.f51 .nil .nil) (.node 53 Tryz.f53 .nil .nil)) (.node 56 Tryz.f56 (.node 55 Tryz.f55 .nil .nil) (.node 57 Tryz.f57 .nil .nil))) (.node 62 Tryz.f62 (.node 60 Tryz.f60 (.node 59 Tryz.f59 .nil .nil) (.node 61 Tryz.f61 .nil .nil)) (.node 64 Tryz.f64 (.node 63 Tryz.f63 .nil .nil) (.node 65 Tryz.f65 .nil .nil)))))) (.node 98 Tryz.f98 (.node 82 Tryz.f82 (.node 74 Tryz.f74 (.node 70 Tryz.f70 (.node 68 Tryz.f68 (.node 67 Tryz.f67 .nil .nil) (.node 69 Tryz.f69 .nil .nil)) (.node 72 Tryz.f72 (.node 71 Tryz.f71 .nil .nil) (.node 73 Tryz.f73 .nil .nil))) (.node 78 Tryz.f78 (.node 76 Tryz.f76 (.node 75 Tryz.f75 .nil .nil) (.node 77 Tryz.f77 .nil .nil)) (.node 80 Tryz.f80 (.node 79 Tryz.f79 .nil .nil) (.node 81 Tryz.f81 .nil .nil)))) (.node 90 Tryz.f90 (.node 86 Tryz.f86 (.node 84 Tryz.f84 (.node 83 Tryz.f83 .nil .nil) (.node 85 Tryz.f85 .nil .nil)) (.node 88 Tryz.f88 (.node 87 Tryz.f87 .nil .nil) (.node 89 Tryz.f89 .nil .nil))) (.node 94 Tryz.f94 (.node 92 Tryz.f92 (.node 91 Tryz.f91 .nil .nil) (.node 93 Tryz.f93 .nil .nil)) (.node 96 Tryz.f96 (.node 95 Tryz.f95 .nil .nil) (.node 97 Tryz.f97 .nil .nil))))) (.node 114 Tryz.f114 (.node 106 Tryz.f106 (.node 102 Tryz.f102 (.node 100 Tryz.f100 (.node 99 Tryz.f99 .nil .nil) (.node 101 Tryz.f101 .nil .nil)) (.node 104 Tryz.f104 (.node 103 Tryz.f103 .nil .nil) (.node 105 Tryz.f105 .nil .nil))) (.node 110 Tryz.f110 (.node 108 Tryz.f108 (.node 107 Tryz.f107 .nil .nil) (.node 109 Tryz.f109 .nil .nil)) (.node 112 Tryz.f112 (.node 111 Tryz.f111 .nil .nil) (.node 113 Tryz.f113 .nil .nil)))) (.node 122 Tryz.f122 (.node 118 Tryz.f118 (.node 116 Tryz.f116 (.node 115 Tryz.f115 .nil .nil) (.node 117 Tryz.f117 .nil .nil)) (.node 120 Tryz.f120 (.node 119 Tryz.f119 .nil .nil) (.node 121 Tryz.f121 .nil .nil))) (.node 126 Tryz.f126 (.node 124 Tryz.f124 (.node 123 Tryz.f123 .nil .nil) (.node 125 Tryz.f125 .nil .nil)) (.node 128 Tryz.f128 (.node 127 Tryz.f127 .nil .nil) .nil)))))) (.node 193 Tryz.f193 (.node 161 Tryz.f161 (.node 145 Tryz.f145 (.node 137 Tryz.f137 (.node 133 Tryz.f133 (.node 131 Tryz.f131 (.node 130 Tryz.f130 .nil .nil) (.node 132 Tryz.f132 .nil .nil)) (.node 135 Tryz.f135 (.node 134 Tryz.f134 .nil .nil) (.node 136 Tryz.f136 .nil .nil))) (.node 141 Tryz.f141 (.node 139 Tryz.f139 (.node 138 Tryz.f138 .nil .nil) (.node 140 Tryz.f140 .nil .nil)) (.node 143 Tryz.f143 (.node 142 Tryz.f142 .nil .nil) (.node 144 Tryz.f144 .nil .nil)))) (.node 153 Tryz.f153 (.node 149 Tryz.f149 (.node 147 Tryz.f147 (.node 146 Tryz.f146 .nil .nil) (.node 148 Tryz.f148 .nil .nil)) (.node 151 Tryz.f151 (.node 150 Tryz.f150 .nil .nil) (.node 152 Tryz.f152 .nil .nil))) (.node 157 Tryz.f157 (.node 155 Tryz.f155 (.node 154 Tryz.f154 .nil .nil) (.node 156 Tryz.f156 .nil .nil)) (.node 159 Tryz.f159 (.node 158 Tryz.f158 .nil .nil) (.node 160 Tryz.f160 .nil .nil))))) (.node 177 Tryz.f177 (.node 169 Tryz.f169 (.node 165 Tryz.f165 (.node 163 Tryz.f163 (.node 162 Tryz.f162 .nil .nil) (.node 164 Tryz.f164 .nil .nil)) (.node 167 Tryz.f167 (.node 166 Tryz.f166 .nil .nil) (.node 168 Tryz.f168 .nil .nil))) (.node 173 Tryz.f173 (.node 171 Tryz.f171 (.node 170 Tryz.f170 .nil .nil) (.node 172 Tryz.f172 .nil .nil)) (.node 175 Tryz.f175 (.node 174 Tryz.f174 .nil .nil) (.node 176 Tryz.f176 .nil .nil)))) (.node 185 Tryz.f185 (.node 181 Tryz.f181 (.node 179 Tryz.f179 (.node 178 Tryz.f178 .nil .nil) (.node 180 Tryz.f180 .nil .nil)) (.node 183 Tryz.f183 (.node 182 Tryz.f182 .nil .nil) (.node 184 Tryz.f184 .nil .nil))) (.node 189 Tryz.f189 (.node 187 Tryz.f187 (.node 186 Tryz.f186 .nil .nil) (.node 188 Tryz.f188 .nil .nil)) (.node 191 Tryz.f191 (.node 190 Tryz.f190 .nil .nil) (.node 192 Tryz.f192 .nil .nil)))))) (.node 225 Tryz.f225 (.node 209 Tryz.f209 (.node 201 Tryz.f201 (.node 197 Tryz.f197 (.node 195 Tryz.f195 (.node 194 Tryz.f194 .nil .nil) (.node 196 Tryz.f196 .nil .nil)) (.node 199 Tryz.f199 (.node 198 Tryz.f198 .nil .nil) (.node 200 Tryz.f200 .nil .nil))) (.node 205 Tryz.f205 (.node 203 Tryz.f203 (.node 202 Tryz.f202 .nil .nil) (.node 204 Tryz.f204 .nil .nil)) (.node 207 Tryz.f207 (.node 206 Tryz.f206 .nil .nil) (.node 208 Tryz.f208 .nil .nil)))) (.node 217 Tryz.f217 (.node 213 Tryz.f213 (.node 211 Tryz.f211 (.node 210 Tryz.f210 .nil .nil) (.node 212 Tryz.f212 .nil .nil)) (.node 215 Tryz.f215 (.node 214 Tryz.f214 .nil .nil) (.node 216 Tryz.f216 .nil .nil))) (.node 221 Tryz.f221 (.node 219 Tryz.f219 (.node 218 Tryz.f218 .nil .nil) (.node 220 Tryz.f220 .nil .nil)) (.node 223 Tryz.f223 (.node 222 Tryz.f222 .nil .nil) (.node 224 Tryz.f224 .nil .nil))))) (.node 241 Tryz.f241 (.node 233 Tryz.f233 (.node 229 Tryz.f229 (.node 227 Tryz.f227 (.node 226 Tryz.f226 .nil .nil) (.node 228 Tryz.f228 .nil .nil)) (.node 231 Tryz.f231 (.node 230 Tryz.f230 .nil .nil) (.node 232 Tryz.f232 .nil .nil))) (.node 237 Tryz.f237 (.node 235 Tryz.f235 (.node 234 Tryz.f234 .nil .nil) (.node 236 Tryz.f236 .nil .nil)) (.node 239 Tryz.f239 (.node 238 Tryz.f238 .nil .nil) (.node 240 Tryz.f240 .nil .nil)))) (.node 249 Tryz.f249 (.node 245 Tryz.f245 (.node 243 Tryz.f243 (.node 242 Tryz.f242 .nil .nil) (.node 244 Tryz.f244 .nil .nil)) (.node 247 Tryz.f247 (.node 246 Tryz.f246 .nil .nil) (.node 248 Tryz.f248 .nil .nil))) (.node 253 Tryz.f253 (.node 251 Tryz.f251 (.node 250 Tryz.f250 .nil .nil) (.node 252 Tryz.f252 .nil .nil)) (.node 255 Tryz.f255 (.node 254 Tryz.f254 .nil .nil) .nil))))))) (.node 383 Tryz.f383 (.node 320 Tryz.f320 (.node 288 Tryz.f288 (.node 272 Tryz.f272 (.node 264 Tryz.f264 (.node 260 Tryz.f260 (.node 258 Tryz.f258 (.node 257 Tryz.f257 .nil .nil) (.node 259 Tryz.f259 .nil .nil)) (.node 262 Tryz.f262 (.node 261 Tryz.f261 .nil .nil) (.node 263 Tryz.f263 .nil .nil))) (.node 268 Tryz.f268 (.node 266 Tryz.f266 (.node 265 Tryz.f265 .nil .nil) (.node 267 Tryz.f267 .nil .nil)) (.node 270 Tryz.f270 (.node 269 Tryz.f269 .nil .nil) (.node 271 Tryz.f271 .nil .nil)))) (.node 280 Tryz.f280 (.node 276 Tryz.f276 (.node 274 Tryz.f274 (.node 273 Tryz.f273 .nil .nil) (.node 275 Tryz.f275 .nil .nil)) (.node 278 Tryz.f278 (.node 277 Tryz.f277 .nil .nil) (.node 279 Tryz.f279 .nil .nil))) (.node 284 Tryz.f284 (.node 282 Tryz.f282 (.node 281 Tryz.f281 .nil .nil) (.node 283 Tryz.f283 .nil .nil)) (.node 286 Tryz.f286 (.node 285 Tryz.f285 .nil .nil) (.node 287 Tryz.f287 .nil .nil))))) (.node 304 Tryz.f304 (.node 296 Tryz.f296 (.node 292 Tryz.f292 (.node 290 Tryz.f290 (.node 289 Tryz.f289 .nil .nil) (.node 291 Tryz.f291 .nil .nil)) (.node 294 Tryz.f294 (.node 293 Tryz.f293 .nil .nil) (.node 295 Tryz.f295 .nil .nil))) (.node 300 Tryz.f300 (.node 298 Tryz.f298 (.node 297 Tryz.f297 .nil .nil) (.node 299 Tryz.f299 .nil .nil)) (.node 302 Tryz.f302 (.node 301 Tryz.f301 .nil .nil) (.node 303 Tryz.f303 .nil .nil)))) (.node 312 Tryz.f312 (.node 308 Tryz.f308 (.node 306 Tryz.f306 (.node 305 Tryz.f305 .nil .nil) (.node 307 Tryz.f307 .nil .nil)) (.node 310 Tryz.f310 (.node 309 Tryz.f309 .nil .nil) (.node 311 Tryz.f311 .nil .nil))) (.node 316 Tryz.f316 (.node 314 Tryz.f314 (.node 313 Tryz.f313 .nil .nil) (.node 315 Tryz.f315 .nil .nil)) (.node 318 Tryz.f318 (.node 317 Tryz.f317 .nil .nil) (.node 319 Tryz.f319 .nil .nil)))))) (.node 352 Tryz.f352 (.node 336 Tryz.f336 (.node 328 Tryz.f328 (.node 324 Tryz.f324 (.node 322 Tryz.f322 (.node 321 Tryz.f321 .nil .nil) (.node 323 Tryz.f323 .nil .nil)) (.node 326 Tryz.f326 (.node 325 Tryz.f325 .nil .nil) (.node 327 Tryz.f327 .nil .nil))) (.node 332 Tryz.f332 (.node 330 Tryz.f330 (.node 329 Tryz.f329 .nil .nil) (.node 331 Tryz.f331 .nil .nil)) (.node 334 Tryz.f334 (.node 333 Tryz.f333 .nil .nil) (.node 335 Tryz.f335 .nil .nil)))) (.node 344 Tryz.f344 (.node 340 Tryz.f340 (.node 338 Tryz.f338 (.node 337 Tryz.f337 .nil .nil) (.node 339 Tryz.f339 .nil .nil)) (.node 342 Tryz.f342 (.node 341 Tryz.f341 .nil .nil) (.node 343 Tryz.f343 .nil .nil))) (.node 348 Tryz.f348 (.node 346 Tryz.f346 (.node 345 Tryz.f345 .nil .nil) (.node 347 Tryz.f347 .nil .nil)) (.node 350 Tryz.f350 (.node 349 Tryz.f349 .nil .nil) (.node 351 Tryz.f351 .nil .nil))))) (.node 368 Tryz.f368 (.node 360 Tryz.f360 (.node 356 Tryz.f356 (.node 354 Tryz.f354 (.node 353 Tryz.f353 .nil .nil) (.node 355 Tryz.f355 .nil .nil)) (.node 358 Tryz.f358 (.node 357 Tryz.f357 .nil .nil) (.node 359 Tryz.f359 .nil .nil))) (.node 364 Tryz.f364 (.node 362 Tryz.f362 (.node 361 Tryz.f361 .nil .nil) (.node 363 Tryz.f363 .nil .nil)) (.node 366 Tryz.f366 (.node 365 Tryz.f365 .nil .nil) (.node 367 Tryz.f367 .nil .nil)))) (.node 376 Tryz.f376 (.node 372 Tryz.f372 (.node 370 Tryz.f370 (.node 369 Tryz.f369 .nil .nil) (.node 371 Tryz.f371 .nil .nil)) (.node 374 Tryz.f374 (.node 373 Tryz.f373 .nil .nil) (.node 375 Tryz.f375 .nil .nil))) (.node 380 Tryz.f380 (.node 378 Tryz.f378 (.node 377 Tryz.f377 .nil .nil) (.node 379 Tryz.f379 .nil .nil)) (.node 382 Tryz.f382 (.node 381 Tryz.f381 .nil .nil) .nil)))))) (.node 447 Tryz.f447 (.node 415 Tryz.f415 (.node 399 Tryz.f399 (.node 391 Tryz.f391 (.node 387 Tryz.f387 (.node 385 Tryz.f385 (.node 384 Tryz.f384 .nil .nil) (.node 386 Tryz.f386 .nil .nil)) (.node 389 Tryz.f389 (.node 388 Tryz.f388 .nil .nil) (.node 390 Tryz.f390 .nil .nil))) (.node 395 Tryz.f395 (.node 393 Tryz.f393 (.node 392 Tryz.f392 .nil .nil) (.node 394 Tryz.f394 .nil .nil)) (.node 397 Tryz.f397 (.node 396 Tryz.f396 .nil .nil) (.node 398 Tryz.f398 .nil .nil)))) (.node 407 Tryz.f407 (.node 403 Tryz.f403 (.node 401 Tryz.f401 (.node 400 Tryz.f400 .nil .nil) (.node 402 Tryz.f402 .nil .nil)) (.node 405 Tryz.f405 (.node 404 Tryz.f404 .nil .nil) (.node 406 Tryz.f406 .nil .nil))) (.node 411 Tryz.f411 (.node 409 Tryz.f409 (.node 408 Tryz.f408 .nil .nil) (.node 410 Tryz.f410 .nil .nil)) (.node 413 Tryz.f413 (.node 412 Tryz.f412 .nil .nil) (.node 414 Tryz.f414 .nil .nil))))) (.node 431 Tryz.f431 (.node 423 Tryz.f423 (.node 419 Tryz.f419 (.node 417 Tryz.f417 (.node 416 Tryz.f416 .nil .nil) (.node 418 Tryz.f418 .nil .nil)) (.node 421 Tryz.f421 (.node 420 Tryz.f420 .nil .nil) (.node 422 Tryz.f422 .nil .nil))) (.node 427 Tryz.f427 (.node 425 Tryz.f425 (.node 424 Tryz.f424 .nil .nil) (.node 426 Tryz.f426 .nil .nil)) (.node 429 Tryz.f429 (.node 428 Tryz.f428 .nil .nil) (.node 430 Tryz.f430 .nil .nil)))) (.node 439 Tryz.f439 (.node 435 Tryz.f435 (.node 433 Tryz.f433 (.node 432 Tryz.f432 .nil .nil) (.node 434 Tryz.f434 .nil .nil)) (.node 437 Tryz.f437 (.node 436 Tryz.f436 .nil .nil) (.node 438 Tryz.f438 .nil .nil))) (.node 443 Tryz.f443 (.node 441 Tryz.f441 (.node 440 Tryz.f440 .nil .nil) (.node 442 Tryz.f442 .nil .nil)) (.node 445 Tryz.f445 (.node 444 Tryz.f444 .nil .nil) (.node 446 Tryz.f446 .nil .nil)))))) (.node 479 Tryz.f479 (.node 463 Tryz.f463 (.node 455 Tryz.f455 (.node 451 Tryz.f451 (.node 449 Tryz.f449 (.node 448 Tryz.f448 .nil .nil) (.node 450 Tryz.f450 .nil .nil)) (.node 453 Tryz.f453 (.node 452 Tryz.f452 .nil .nil) (.node 454 Tryz.f454 .nil .nil))) (.node 459 Tryz.f459 (.node 457 Tryz.f457 (.node 456 Tryz.f456 .nil .nil) (.node 458 Tryz.f458 .nil .nil)) (.node 461 Tryz.f461 (.node 460 Tryz.f460 .nil .nil) (.node 462 Tryz.f462 .nil .nil)))) (.node 471 Tryz.f471 (.node 467 Tryz.f467 (.node 465 Tryz.f465 (.node 464 Tryz.f464 .nil .nil) (.node 466 Tryz.f466 .nil .nil)) (.node 469 Tryz.f469 (.node 468 Tryz.f468 .nil .nil) (.node 470 Tryz.f470 .nil .nil))) (.node 475 Tryz.f475 (.node 473 Tryz.f473 (.node 472 Tryz.f472 .nil .nil) (.node 474 Tryz.f474 .nil .nil)) (.node 477 Tryz.f477 (.node 476 Tryz.f476 .nil .nil) (.node 478 Tryz.f478 .nil .nil))))) (.node 495 Tryz.f495 (.node 487 Tryz.f487 (.node 483 Tryz.f483 (.node 481 Tryz.f481 (.node 480 Tryz.f480 .nil .nil) (.node 482 Tryz.f482 .nil .nil)) (.node 485 Tryz.f485 (.node 484 Tryz.f484 .nil .nil) (.node 486 Tryz.f486 .nil .nil))) (.node 491 Tryz.f491 (.node 489 Tryz.f489 (.node 488 Tryz.f488 .nil .nil) (.node 490 Tryz.f490 .nil .nil)) (.node 493 Tryz.f493 (.node 492 Tryz.f492 .nil .nil) (.node 494 Tryz.f494 .nil .nil)))) (.node 503 Tryz.f503 (.node 499 Tryz.f499 (.node 497 Tryz.f497 (.node 496 Tryz.f496 .nil .nil) (.node 498 Tryz.f498 .nil .nil)) (.node 501 Tryz.f501 (.node 500 Tryz.f500 .nil .nil) (.node 502 Tryz.f502 .nil .nil))) (.node 507 Tryz.f507 (.node 505 Tryz.f505 (.node 504 Tryz.f504 .nil .nil) (.node 506 Tryz.f506 .nil .nil)) (.node 509 Tryz.f509 (.node 508 Tryz.f508 .nil .nil) .nil))))))))
noncomputable def tab : Tab := Tab.ofTrees tys fns
theorem tys_ok : tys.all (checkTy Tryz.prog) = true := by kernel_rfl
theorem nm8 : (Tryz.f8.name == "runtime.NumGoroutine") = false := by kernel_rfl
theorem nm9 : (Tryz.f9.name == "runtime.NumGoroutine") = false := by kernel_rfl
theorem nm10 : (Tryz.f10.name == "runtime.NumGoroutine") = false := by kernel_rfl
theorem nm11 : (Tryz.f11.name == "runtime.NumGoroutine") = false := by kernel_rfl
theorem nm13 : (Tryz.f13.name == "runtime.NumGoroutine") = false := by kernel_rfl
theorem nm19 : (Tryz.f19.name == "runtime.NumGoroutine") = false := by kernel_rfl
theorem nm25 : (Tryz.f25.name == "runtime.NumGoroutine") = false := by kernel_rfl
theorem nm26 : (Tryz.f26.name == "runtime.NumGoroutine") = false := by kernel_rfl
theorem nm27 : (Tryz.f27.name == "runtime.NumGoroutine") = false := by kernel_rfl
theorem nm28 : (Tryz.f28.name == "runtime.NumGoroutine") = false := by kernel_rfl
theorem nm29 : (Tryz.f29.name == "runtime.NumGoroutine") = false := by kernel_rfl
theorem nm30 : (Tryz.f30.name == "runtime.NumGoroutine") = false := by kernel_rfl
theorem nm31 : (Tryz.f31.name == "runtime.NumGoroutine") = false := by kernel_rfl
theorem nm32 : (Tryz.f32.name == "runtime.NumGoroutine") = false := by kernel_rfl
theorem nm37 : (Tryz.f37.name == "runtime.NumGoroutine") = false := by kernel_rfl
theorem nm38 : (Tryz.f38.name == "runtime.NumGoroutine") = false := by kernel_rfl
theorem nm40 : (Tryz.f40.name == "runtime.NumGoroutine") = false := by kernel_rfl
theorem nm41 : (Tryz.f41.name == "runtime.NumGoroutine") = false := by kernel_rfl
theorem nm44 : (Tryz.f44.name == "runtime.NumGoroutine") = false := by kernel_rfl
theorem nm45 : (Tryz.f45.name == "runtime.NumGoroutine") = false := by kernel_rfl
theorem nm46 : (Tryz.f46.name == "runtime.NumGoroutine") = false := by kernel_rfl
theorem nm47 : (Tryz.f47.name == "runtime.NumGoroutine") = false := by kernel_rfl
theorem nm48 : (Tryz.f48.name == "runtime.NumGoroutine") = false := by kernel_rfl
theorem nm49 : (Tryz.f49.name == "runtime.NumGoroutine") = false := by kernel_rfl
theorem nm50 : (Tryz.f50.name == "runtime.NumGoroutine") = false := by kernel_rfl
theorem nm51 : (Tryz.f51.name == "runtime.NumGoroutine") = false := by kernel_rfl
theorem nm52 : (Tryz.f52.name == "runtime.NumGoroutine") = false := by kernel_rfl
theorem nm53 : (Tryz.f53.name == "runtime.NumGoroutine") = false := by kernel_rfl
theorem nm71 : (Tryz.f71.name == "runtime.NumGoroutine") = false := by kernel_rfl
theorem nm75 : (Tryz.f75.name == "runtime.NumGoroutine") = false := by kernel_rfl
theorem nm76 : (Tryz.f76.name == "runtime.NumGoroutine") = false := by kernel_rfl
theorem nm97 : (Tryz.f97.name == "runtime.NumGoroutine") = false := by kernel_rfl
theorem fns_f : fns.All fun f fn => Tryz.prog.funcs[f]? = some fn := ⟨Tryz.func256, ⟨Tryz.func129, ⟨Tryz.func66, ⟨Tryz.func34, ⟨Tryz.func18, ⟨Tryz.func10, ⟨Tryz.func6, ⟨Tryz.func4, ⟨Tryz.func3, trivial, trivial⟩, ⟨Tryz.func5, trivial, trivial⟩⟩, ⟨Tryz.func8, ⟨Tryz.func7, trivial, trivial⟩, ⟨Tryz.func9, trivial, trivial⟩⟩⟩, ⟨Tryz.func14, ⟨Tryz.func12, ⟨Tryz.func11, trivial, trivial⟩, ⟨Tryz.func13, trivial, trivial⟩⟩, ⟨Tryz.func16, ⟨Tryz.func15, trivial, trivial⟩, ⟨Tryz.func17, trivial, trivial⟩⟩⟩⟩, ⟨Tryz.func26, ⟨Tryz.func22, ⟨Tryz.func20, ⟨Tryz.func19, trivial, trivial⟩, ⟨Tryz.func21, trivial, trivial⟩⟩, ⟨Tryz.func24, ⟨Tryz.func23, trivial, trivial⟩, ⟨Tryz.func25, trivial, trivial⟩⟩⟩, ⟨Tryz.func30, ⟨Tryz.func28, ⟨Tryz.func27, trivial, trivial⟩, ⟨Tryz.func29, trivial, trivial⟩⟩, ⟨Tryz.func32, ⟨Tryz.func31, trivial, trivial⟩, ⟨Tryz.func33, trivial, trivial⟩⟩⟩⟩⟩, ⟨Tryz.func50, ⟨Tryz.func42, ⟨Tryz.func38, ⟨Tryz.func36, ⟨Tryz.func35, trivial, trivial⟩, ⟨Tryz.func37, trivial, trivial⟩⟩, ⟨Tryz.func40, ⟨Tryz.func39, trivial, trivial⟩, ⟨Tryz.func41, trivial, trivial⟩⟩⟩, ⟨Tryz.func46, ⟨Tryz.func44, ⟨Tryz.func43, trivial, trivial⟩, ⟨Tryz.func45, trivial, trivial⟩⟩, ⟨Tryz.func48, ⟨Tryz.func47, trivial, trivial⟩, ⟨Tryz.func49, trivial, trivial⟩⟩⟩⟩, ⟨Tryz.func58, ⟨Tryz.func54, ⟨Tryz.func52, ⟨Tryz.func51, trivial, trivial⟩, ⟨Tryz.func53, trivial, trivial⟩⟩, ⟨Tryz.func56, ⟨Tryz.func55, trivial, trivial⟩, ⟨Tryz.func57, trivial, trivial⟩⟩⟩, ⟨Tryz.func62, ⟨Tryz.func60, ⟨Tryz.func59, trivial, trivial⟩, ⟨Tryz.func61, trivial, trivial⟩⟩, ⟨Tryz.func64, ⟨Tryz.func63, trivial, trivial⟩, ⟨Tryz.func65, trivial, trivial⟩⟩⟩⟩⟩⟩, ⟨Tryz.func98, ⟨Tryz.func82, ⟨Tryz.func74, ⟨Tryz.func70, ⟨Tryz.func68, ⟨Tryz.func67, trivial, trivial⟩, ⟨Tryz.func69, trivial, trivial⟩⟩, ⟨Tryz.func72, ⟨Tryz.func71, trivial, trivial⟩, ⟨Tryz.func73, trivial, trivial⟩⟩⟩, ⟨Tryz.func78, ⟨Tryz.func76, ⟨Tryz.func75, trivial, trivial⟩, ⟨Tryz.func77, trivial, trivial⟩⟩, ⟨Tryz.func80, ⟨Tryz.func79, trivial, trivial⟩, ⟨Tryz.func81, trivial, trivial⟩⟩⟩⟩, ⟨Tryz.func90, ⟨Tryz.func86, ⟨Tryz.func84, ⟨Tryz.func83, trivial, trivial⟩, ⟨Tryz.func85, trivial, trivial⟩⟩, ⟨Tryz.func88, ⟨Tryz.func87, trivial, trivial⟩, ⟨Tryz.func89, trivial, trivial⟩⟩⟩, ⟨Tryz.func94, ⟨Tryz.func92, ⟨Tryz.func91, trivial, trivial⟩, ⟨Tryz.func93, trivial, trivial⟩⟩, ⟨Tryz.func96, ⟨Tryz.func95, trivial, trivial⟩, ⟨Tryz.func97, trivial, trivial⟩⟩⟩⟩⟩, ⟨Tryz.func114, ⟨Tryz.func106, ⟨Tryz.func102, ⟨Tryz.func100, ⟨Tryz.func99, trivial, trivial⟩, ⟨Tryz.func101, trivial, trivial⟩⟩, ⟨Tryz.func104, ⟨Tryz.func103, trivial, trivial⟩, ⟨Tryz.func105, trivial, trivial⟩⟩⟩, ⟨Tryz.func110, ⟨Tryz.func108, ⟨Tryz.func107, trivial, trivial⟩, ⟨Tryz.func109, trivial, trivial⟩⟩, ⟨Tryz.func112, ⟨Tryz.func111, trivial, trivial⟩, ⟨Tryz.func113, trivial, trivial⟩⟩⟩⟩, ⟨Tryz.func122, ⟨Tryz.func118, ⟨Tryz.func116, ⟨Tryz.func115, trivial, trivial⟩, ⟨Tryz.func117, trivial, trivial⟩⟩, ⟨Tryz.func120, ⟨Tryz.func119, trivial, trivial⟩, ⟨Tryz.func121, trivial, trivial⟩⟩⟩, ⟨Tryz.func126, ⟨Tryz.func124, ⟨Tryz.func123, trivial, trivial⟩, ⟨Tryz.func125, trivial, trivial⟩⟩, ⟨Tryz.func128, ⟨Tryz.func127, trivial, trivial⟩, trivial⟩⟩⟩⟩⟩⟩, ⟨Tryz.func193, ⟨Tryz.func161, ⟨Tryz.func145, ⟨Tryz.func137, ⟨Tryz.func133, ⟨Tryz.func131, ⟨Tryz.func130, trivial, trivial⟩, ⟨Tryz.func132, trivial, trivial⟩⟩, ⟨Tryz.func135, ⟨Tryz.func134, trivial, trivial⟩, ⟨Tryz.func136, trivial, trivial⟩⟩⟩, ⟨Tryz.func141, ⟨Tryz.func139, ⟨Tryz.func138, trivial, trivial⟩, ⟨Tryz.func140, trivial, trivial⟩⟩, ⟨Tryz.func143, ⟨Tryz.func142, trivial, trivial⟩, ⟨Tryz.func144, trivial, trivial⟩⟩⟩⟩, ⟨Tryz.func153, ⟨Tryz.func149, ⟨Tryz.func147, ⟨Tryz.func146, trivial, trivial⟩, ⟨Tryz.func148, trivial, trivial⟩⟩, ⟨Tryz.func151, ⟨Tryz.func150, trivial, trivial⟩, ⟨Tryz.func152, trivial, trivial⟩⟩⟩, ⟨Tryz.func157, ⟨Tryz.func155, ⟨Tryz.func154, trivial, trivial⟩, ⟨Tryz.func156, trivial, trivial⟩⟩, ⟨Tryz.func159, ⟨Tryz.func158, trivial, trivial⟩, ⟨Tryz.func160, trivial, trivial⟩⟩⟩⟩⟩, ⟨Tryz.func177, ⟨Tryz.func169, ⟨Tryz.func165, ⟨Tryz.func163, ⟨Tryz.func162, trivial, trivial⟩, ⟨Tryz.func164, trivial, trivial⟩⟩, ⟨Tryz.func167, ⟨Tryz.func166, trivial, trivial⟩, ⟨Tryz.func168, trivial, trivial⟩⟩⟩, ⟨Tryz.func173, ⟨Tryz.func171, ⟨Tryz.func170, trivial, trivial⟩, ⟨Tryz.func172, trivial, trivial⟩⟩, ⟨Tryz.func175, ⟨Tryz.func174, trivial, trivial⟩, ⟨Tryz.func176, trivial, trivial⟩⟩⟩⟩, ⟨Tryz.func185, ⟨Tryz.func181, ⟨Tryz.func179, ⟨Tryz.func178, trivial, trivial⟩, ⟨Tryz.func180, trivial, trivial⟩⟩, ⟨Tryz.func183, ⟨Tryz.func182, trivial, trivial⟩, ⟨Tryz.func184, trivial, trivial⟩⟩⟩, ⟨Tryz.func189, ⟨Tryz.func187, ⟨Tryz.func186, trivial, trivial⟩, ⟨Tryz.func188, trivial, trivial⟩⟩, ⟨Tryz.func191, ⟨Tryz.func190, trivial, trivial⟩, ⟨Tryz.func192, trivial, trivial⟩⟩⟩⟩⟩⟩, ⟨Tryz.func225, ⟨Tryz.func209, ⟨Tryz.func201, ⟨Tryz.func197, ⟨Tryz.func195, ⟨Tryz.func194, trivial, trivial⟩, ⟨Tryz.func196, trivial, trivial⟩⟩, ⟨Tryz.func199, ⟨Tryz.func198, trivial, trivial⟩, ⟨Tryz.func200, trivial, trivial⟩⟩⟩, ⟨Tryz.func205, ⟨Tryz.func203, ⟨Tryz.func202, trivial, trivial⟩, ⟨Tryz.func204, trivial, trivial⟩⟩, ⟨Tryz.func207, ⟨Tryz.func206, trivial, trivial⟩, ⟨Tryz.func208, trivial, trivial⟩⟩⟩⟩, ⟨Tryz.func217, ⟨Tryz.func213, ⟨Tryz.func211, ⟨Tryz.func210, trivial, trivial⟩, ⟨Tryz.func212, trivial, trivial⟩⟩, ⟨Tryz.func215, ⟨Tryz.func214, trivial, trivial⟩, ⟨Tryz.func216, trivial, trivial⟩⟩⟩, ⟨Tryz.func221, ⟨Tryz.func219, ⟨Tryz.func218, trivial, trivial⟩, ⟨Tryz.func220, trivial, trivial⟩⟩, ⟨Tryz.func223, ⟨Tryz.func222, trivial, trivial⟩, ⟨Tryz.func224, trivial, trivial⟩⟩⟩⟩⟩, ⟨Tryz.func241, ⟨Tryz.func233, ⟨Tryz.func229, ⟨Tryz.func227, ⟨Tryz.func226, trivial, trivial⟩, ⟨Tryz.func228, trivial, trivial⟩⟩, ⟨Tryz.func231, ⟨Tryz.func230, trivial, trivial⟩, ⟨Tryz.func232, trivial, trivial⟩⟩⟩, ⟨Tryz.func237, ⟨Tryz.func235, ⟨Tryz.func234, trivial, trivial⟩, ⟨Tryz.func236, trivial, trivial⟩⟩, ⟨Tryz.func239, ⟨Tryz.func238, trivial, trivial⟩, ⟨Tryz.func240, trivial, trivial⟩⟩⟩⟩, ⟨Tryz.func249, ⟨Tryz.func245, ⟨Tryz.func243, ⟨Tryz.func242, trivial, trivial⟩, ⟨Tryz.func244, trivial, trivial⟩⟩, ⟨Tryz.func247, ⟨Tryz.func246, trivial, trivial⟩, ⟨Tryz.func248, trivial, trivial⟩⟩⟩, ⟨Tryz.func253, ⟨Tryz.func251, ⟨Tryz.func250, trivial, trivial⟩, ⟨Tryz.func252, trivial, trivial⟩⟩, ⟨Tryz.func255, ⟨Tryz.func254, trivial, trivial⟩, trivial⟩⟩⟩⟩⟩⟩⟩, ⟨Tryz.func383, ⟨Tryz.func320, ⟨Tryz.func288, ⟨Tryz.func272, ⟨Tryz.func264, ⟨Tryz.func260, ⟨Tryz.func258, ⟨Tryz.func257, trivial, trivial⟩, ⟨Tryz.func259, trivial, trivial⟩⟩, ⟨Tryz.func262, ⟨Tryz.func261, trivial, trivial⟩, ⟨Tryz.func263, trivial, trivial⟩⟩⟩, ⟨Tryz.func268, ⟨Tryz.func266, ⟨Tryz.func265, trivial, trivial⟩, ⟨Tryz.func267, trivial, trivial⟩⟩, ⟨Tryz.func270, ⟨Tryz.func269, trivial, trivial⟩, ⟨Tryz.func271, trivial, trivial⟩⟩⟩⟩, ⟨Tryz.func280, ⟨Tryz.func276, ⟨Tryz.func274, ⟨Tryz.func273, trivial, trivial⟩, ⟨Tryz.func275, trivial, trivial⟩⟩, ⟨Tryz.func278, ⟨Tryz.func277, trivial, trivial⟩, ⟨Tryz.func279, trivial, trivial⟩⟩⟩, ⟨Tryz.func284, ⟨Tryz.func282, ⟨Tryz.func281, trivial, trivial⟩, ⟨Tryz.func283, trivial, trivial⟩⟩, ⟨Tryz.func286, ⟨Tryz.func285, trivial, trivial⟩, ⟨Tryz.func287, trivial, trivial⟩⟩⟩⟩⟩, ⟨Tryz.func304, ⟨Tryz.func296, ⟨Tryz.func292, ⟨Tryz.func290, ⟨Tryz.func289, trivial, trivial⟩, ⟨Tryz.func291, trivial, trivial⟩⟩, ⟨Tryz.func294, ⟨Tryz.func293, trivial, trivial⟩, ⟨Tryz.func295, trivial, trivial⟩⟩⟩, ⟨Tryz.func300, ⟨Tryz.func298, ⟨Tryz.func297, trivial, trivial⟩, ⟨Tryz.func299, trivial, trivial⟩⟩, ⟨Tryz.func302, ⟨Tryz.func301, trivial, trivial⟩, ⟨Tryz.func303, trivial, trivial⟩⟩⟩⟩, ⟨Tryz.func312, ⟨Tryz.func308, ⟨Tryz.func306, ⟨Tryz.func305, trivial, trivial⟩, ⟨Tryz.func307, trivial, trivial⟩⟩, ⟨Tryz.func310, ⟨Tryz.func309, trivial, trivial⟩, ⟨Tryz.func311, trivial, trivial⟩⟩⟩, ⟨Tryz.func316, ⟨Tryz.func314, ⟨Tryz.func313, trivial, trivial⟩, ⟨Tryz.func315, trivial, trivial⟩⟩, ⟨Tryz.func318, ⟨Tryz.func317, trivial, trivial⟩, ⟨Tryz.func319, trivial, trivial⟩⟩⟩⟩⟩⟩, ⟨Tryz.func352, ⟨Tryz.func336, ⟨Tryz.func328, ⟨Tryz.func324, ⟨Tryz.func322, ⟨Tryz.func321, trivial, trivial⟩, ⟨Tryz.func323, trivial, trivial⟩⟩, ⟨Tryz.func326, ⟨Tryz.func325, trivial, trivial⟩, ⟨Tryz.func327, trivial, trivial⟩⟩⟩, ⟨Tryz.func332, ⟨Tryz.func330, ⟨Tryz.func329, trivial, trivial⟩, ⟨Tryz.func331, trivial, trivial⟩⟩, ⟨Tryz.func334, ⟨Tryz.func333, trivial, trivial⟩, ⟨Tryz.func335, trivial, trivial⟩⟩⟩⟩, ⟨Tryz.func344, ⟨Tryz.func340, ⟨Tryz.func338, ⟨Tryz.func337, trivial, trivial⟩, ⟨Tryz.func339, trivial, trivial⟩⟩, ⟨Tryz.func342, ⟨Tryz.func341, trivial, trivial⟩, ⟨Tryz.func343, trivial, trivial⟩⟩⟩, ⟨Tryz.func348, ⟨Tryz.func346, ⟨Tryz.func345, trivial, trivial⟩, ⟨Tryz.func347, trivial, trivial⟩⟩, ⟨Tryz.func350, ⟨Tryz.func349, trivial, trivial⟩, ⟨Tryz.func351, trivial, trivial⟩⟩⟩⟩⟩, ⟨Tryz.func368, ⟨Tryz.func360, ⟨Tryz.func356, ⟨Tryz.func354, ⟨Tryz.func353, trivial, trivial⟩, ⟨Tryz.func355, trivial, trivial⟩⟩, ⟨Tryz.func358, ⟨Tryz.func357, trivial, trivial⟩, ⟨Tryz.func359, trivial, trivial⟩⟩⟩, ⟨Tryz.func364, ⟨Tryz.func362, ⟨Tryz.func361, trivial, trivial⟩, ⟨Tryz.func363, trivial, trivial⟩⟩, ⟨Tryz.func366, ⟨Tryz.func365, trivial, trivial⟩, ⟨Tryz.func367, trivial, trivial⟩⟩⟩⟩, ⟨Tryz.func376, ⟨Tryz.func372, ⟨Tryz.func370, ⟨Tryz.func369, trivial, trivial⟩, ⟨Tryz.func371, trivial, trivial⟩⟩, ⟨Tryz.func374, ⟨Tryz.func373, trivial, trivial⟩, ⟨Tryz.func375, trivial, trivial⟩⟩⟩, ⟨Tryz.func380, ⟨Tryz.func378, ⟨Tryz.func377, trivial, trivial⟩, ⟨Tryz.func379, trivial, trivial⟩⟩, ⟨Tryz.func382, ⟨Tryz.func381, trivial, trivial⟩, trivial⟩⟩⟩⟩⟩⟩, ⟨Tryz.func447, ⟨Tryz.func415, ⟨Tryz.func399, ⟨Tryz.func391, ⟨Tryz.func387, ⟨Tryz.func385, ⟨Tryz.func384, trivial, trivial⟩, ⟨Tryz.func386, trivial, trivial⟩⟩, ⟨Tryz.func389, ⟨Tryz.func388, trivial, trivial⟩, ⟨Tryz.func390, trivial, trivial⟩⟩⟩, ⟨Tryz.func395, ⟨Tryz.func393, ⟨Tryz.func392, trivial, trivial⟩, ⟨Tryz.func394, trivial, trivial⟩⟩, ⟨Tryz.func397, ⟨Tryz.func396, trivial, trivial⟩, ⟨Tryz.func398, trivial, trivial⟩⟩⟩⟩, ⟨Tryz.func407, ⟨Tryz.func403, ⟨Tryz.func401, ⟨Tryz.func400, trivial, trivial⟩, ⟨Tryz.func402, trivial, trivial⟩⟩, ⟨Tryz.func405, ⟨Tryz.func404, trivial, trivial⟩, ⟨Tryz.func406, trivial, trivial⟩⟩⟩, ⟨Tryz.func411, ⟨Tryz.func409, ⟨Tryz.func408, trivial, trivial⟩, ⟨Tryz.func410, trivial, trivial⟩⟩, ⟨Tryz.func413, ⟨Tryz.func412, trivial, trivial⟩, ⟨Tryz.func414, trivial, trivial⟩⟩⟩⟩⟩, ⟨Tryz.func431, ⟨Tryz.func423, ⟨Tryz.func419, ⟨Tryz.func417, ⟨Tryz.func416, trivial, trivial⟩, ⟨Tryz.func418, trivial, trivial⟩⟩, ⟨Tryz.func421, ⟨Tryz.func420, trivial, trivial⟩, ⟨Tryz.func422, trivial, trivial⟩⟩⟩, ⟨Tryz.func427, ⟨Tryz.func425, ⟨Tryz.func424, trivial, trivial⟩, ⟨Tryz.func426, trivial, trivial⟩⟩, ⟨Tryz.func429, ⟨Tryz.func428, trivial, trivial⟩, ⟨Tryz.func430, trivial, trivial⟩⟩⟩⟩, ⟨Tryz.func439, ⟨Tryz.func435, ⟨Tryz.func433, ⟨Tryz.func432, trivial, trivial⟩, ⟨Tryz.func434, trivial, trivial⟩⟩, ⟨Tryz.func437, ⟨Tryz.func436, trivial, trivial⟩, ⟨Tryz.func438, trivial, trivial⟩⟩⟩, ⟨Tryz.func443, ⟨Tryz.func441, ⟨Tryz.func440, trivial, trivial⟩, ⟨Tryz.func442, trivial, trivial⟩⟩, ⟨Tryz.func445, ⟨Tryz.func444, trivial, trivial⟩, ⟨Tryz.func446, trivial, trivial⟩⟩⟩⟩⟩⟩, ⟨Tryz.func479, ⟨Tryz.func463, ⟨Tryz.func455, ⟨Tryz.func451, ⟨Tryz.func449, ⟨Tryz.func448, trivial, trivial⟩, ⟨Tryz.func450, trivial, trivial⟩⟩, ⟨Tryz.func453, ⟨Tryz.func452, trivial, trivial⟩, ⟨Tryz.func454, trivial, trivial⟩⟩⟩, ⟨Tryz.func459, ⟨Tryz.func457, ⟨Tryz.func456, trivial, trivial⟩, ⟨Tryz.func458, trivial, trivial⟩⟩, ⟨Tryz.func461, ⟨Tryz.func460, trivial, trivial⟩, ⟨Tryz.func462, trivial, trivial⟩⟩⟩⟩, ⟨Tryz.func471, ⟨Tryz.func467, ⟨Tryz.func465, ⟨Tryz.func464, trivial, trivial⟩, ⟨Tryz.func466, trivial, trivial⟩⟩, ⟨Tryz.func469, ⟨Tryz.func468, trivial, trivial⟩, ⟨Tryz.func470, trivial, trivial⟩⟩⟩, ⟨Tryz.func475, ⟨Tryz.func473, ⟨Tryz.func472, trivial, trivial⟩, ⟨Tryz.func474, trivial, trivial⟩⟩, ⟨Tryz.func477, ⟨Tryz.func476, trivial, trivial⟩, ⟨Tryz.func478, trivial, trivial⟩⟩⟩⟩⟩, ⟨Tryz.func495, ⟨Tryz.func487, ⟨Tryz.func483, ⟨Tryz.func481, ⟨Tryz.func480, trivial, trivial⟩, ⟨Tryz.func482, trivial, trivial⟩⟩, ⟨Tryz.func485, ⟨Tryz.func484, trivial, trivial⟩, ⟨Tryz.func486, trivial, trivial⟩⟩⟩, ⟨Tryz.func491, ⟨Tryz.func489, ⟨Tryz.func488, trivial, trivial⟩, ⟨Tryz.func490, trivial, trivial⟩⟩, ⟨Tryz.func493, ⟨Tryz.func492, trivial, trivial⟩, ⟨Tryz.func494, trivial, trivial⟩⟩⟩⟩, ⟨Tryz.func503, ⟨Tryz.func499, ⟨Tryz.func497, ⟨Tryz.func496, trivial, trivial⟩, ⟨Tryz.func498, trivial, trivial⟩⟩, ⟨Tryz.func501, ⟨Tryz.func500, trivial, trivial⟩, ⟨Tryz.func502, trivial, trivial⟩⟩⟩, ⟨Tryz.func507, ⟨Tryz.func505, ⟨Tryz.func504, trivial, trivial⟩, ⟨Tryz.func506, trivial, trivial⟩⟩, ⟨Tryz.func509, ⟨Tryz.func508, trivial, trivial⟩, trivial⟩⟩⟩⟩⟩⟩⟩⟩
theorem fns_n : (fns.all fun _ fn => !(fn.name == "runtime.NumGoroutine")) = true := by kernel_rfl
theorem all_two {α : Type} {p q : Nat → α → Prop} {r : Nat → α → Bool} (h : ∀ k v, p k v → r k v = true → q k v) : ∀ {t : BT α}, t.All p → t.all r = true → t.All q
  | .nil, _, _ => trivial
  | .node k v a b, h1, h2 => by
    simp only [BT.all, Bool.and_eq_true] at h2
    exact ⟨h k v h1.1 h2.1, all_two h h1.2.1 h2.2.1, all_two h h1.2.2 h2.2.2⟩
theorem fns_ok : fns.All fun f fn => FnOk Tryz.prog (f, fn) := all_two (fun k v h1 h2 => ⟨h1, by simpa using h2⟩) fns_f fns_n
theorem tab_ok : tab.Ok Tryz.prog := Tab.ofTrees_ok tys_ok fns_ok
theorem mixed : Tryz.prog.follows .mixedOrders = true := by kernel_rfl
end Go.S1
end
section
namespace Go.S1
open Go Go.Am Go.Proofs
set_option maxRecDepth 100000
theorem ty3 : tab.ty 3 = some { td := .int .i64, size := 1, bytes := 8, zero := .int .i64 0, eqok := false } := by kernel_rfl
theorem ty5 : tab.ty 5 = some { td := .int .u8, size := 1, bytes := 1, zero := .int .u8 0, eqok := false } := by kernel_rfl
theorem ty9 : tab.ty 9 = some { td := .str, size := 1, bytes := 16, zero := .string ⟨#[]⟩, eqok := false } := by kernel_rfl
theorem ty22 : tab.ty 22 = some { td := .slice 3, size := 1, bytes := 24, zero := .slice none 0 0, eqok := false } := by kernel_rfl
theorem ty25 : tab.ty 25 = some { td := .struct [(22, 0, true), (3, 1, true)], size := 2, bytes := 32, zero := .agg #[.slice none 0 0, .int .i64 0], eqok := false } := by kernel_rfl
theorem ty27 : tab.ty 27 = some { td := .slice 37, size := 1, bytes := 24, zero := .slice none 0 0, eqok := false } := by kernel_rfl
theorem ty29 : tab.ty 29 = some { td := .int .i64, size := 1, bytes := 8, zero := .int .i64 0, eqok := false } := by kernel_rfl
theorem ty37 : tab.ty 37 = some { td := .struct [(3, 0, true), (3, 1, true), (9, 2, true)], size := 3, bytes := 32, zero := .agg #[.int .i64 0, .int .i64 0, .string ⟨#[]⟩], eqok := true } := by kernel_rfl
theorem ty58 : tab.ty 58 = some { td := .slice 29, size := 1, bytes := 24, zero := .slice none 0 0, eqok := false } := by kernel_rfl
theorem ty75 : tab.ty 75 = some { td := .slice 9, size := 1, bytes := 24, zero := .slice none 0 0, eqok := false } := by kernel_rfl
theorem ty105 : tab.ty 105 = some { td := .slice 5, size := 1, bytes := 24, zero := .slice none 0 0, eqok := false } := by kernel_rfl
theorem ty107 : tab.ty 107 = some { td := .struct [(104, 0, true), (105, 1, true)], size := 2, bytes := 32, zero := .agg #[.pointer none, .slice none 0 0], eqok := false } := by kernel_rfl
theorem al3 {N : List AV → AHeap → Prop} {d : Option Nat} {tm : List AV} {s : AHeap} : lstep Tryz.prog tab N (.alloc 3) d tm s = N (aput tm d (.ptr s.nx 0)) (s.new (.cells [.int .i64 0] (some 3))) := by rw [lstep_alloc, ty3]; rfl
theorem al9 {N : List AV → AHeap → Prop} {d : Option Nat} {tm : List AV} {s : AHeap} : lstep Tryz.prog tab N (.alloc 9) d tm s = N (aput tm d (.ptr s.nx 0)) (s.new (.cells [.str []] (some 9))) := by rw [lstep_alloc, ty9]; rfl
theorem al27 {N : List AV → AHeap → Prop} {d : Option Nat} {tm : List AV} {s : AHeap} : lstep Tryz.prog tab N (.alloc 27) d tm s = N (aput tm d (.ptr s.nx 0)) (s.new (.cells [.nils] (some 27))) := by rw [lstep_alloc, ty27]; rfl
theorem al37 {N : List AV → AHeap → Prop} {d : Option Nat} {tm : List AV} {s : AHeap} : lstep Tryz.prog tab N (.alloc 37) d tm s = N (aput tm d (.ptr s.nx 0)) (s.new (.cells [.int .i64 0, .int .i64 0, .str []] (some 37))) := by rw [lstep_alloc, ty37]; rfl
theorem al107 {N : List AV → AHeap → Prop} {d : Option Nat} {tm : List AV} {s : AHeap} : lstep Tryz.prog tab N (.alloc 107) d tm s = N (aput tm d (.ptr s.nx 0)) (s.new (.cells [.nilp, .nils] (some 107))) := by rw [lstep_alloc, ty107]; rfl
theorem ld3 {x : AV} {s : AHeap} : aload tab 3 x s = (acellsAt s x).bind fun cs => cs[0]? := by rw [aload_one ty3 rfl]
theorem st3 {b o : Nat} {v : AV} {s : AHeap} : astore tab 3 (.ptr b o) v s = astoreAt s b o 1 v := by rw [astore_ptr ty3]
theorem ld9 {x : AV} {s : AHeap} : aload tab 9 x s = (acellsAt s x).bind fun cs => cs[0]? := by rw [aload_one ty9 rfl]
theorem st9 {b o : Nat} {v : AV} {s : AHeap} : astore tab 9 (.ptr b o) v s = astoreAt s b o 1 v := by rw [astore_ptr ty9]
theorem len9 {l : List UInt8} : alen tab 9 (.str l) = some (.int .i64 l.length) := by simp [alen, ty9]
theorem ld22 {x : AV} {s : AHeap} : aload tab 22 x s = (acellsAt s x).bind fun cs => cs[0]? := by rw [aload_one ty22 rfl]
theorem st22 {b o : Nat} {v : AV} {s : AHeap} : astore tab 22 (.ptr b o) v s = astoreAt s b o 1 v := by rw [astore_ptr ty22]
theorem len22r {z b o n : Nat} : alen tab 22 (.rs z b o n) = some (.int .i64 n) := by simp [alen, ty22]
theorem fa25_0p {b o : Nat} : afieldAddr tab 25 (.ptr b o) 0 = some (.ptr b (o + 0)) := by simp [afieldAddr, ty25, Tab.size, ty22]
theorem fa25_1p {b o : Nat} : afieldAddr tab 25 (.ptr b o) 1 = some (.ptr b (o + 1)) := by simp [afieldAddr, ty25, Tab.size, ty3]
theorem ld27 {x : AV} {s : AHeap} : aload tab 27 x s = (acellsAt s x).bind fun cs => cs[0]? := by rw [aload_one ty27 rfl]
theorem st27 {b o : Nat} {v : AV} {s : AHeap} : astore tab 27 (.ptr b o) v s = astoreAt s b o 1 v := by rw [astore_ptr ty27]
theorem ld29 {x : AV} {s : AHeap} : aload tab 29 x s = (acellsAt s x).bind fun cs => cs[0]? := by rw [aload_one ty29 rfl]
theorem fa37_0p {b o : Nat} : afieldAddr tab 37 (.ptr b o) 0 = some (.ptr b (o + 0)) := by simp [afieldAddr, ty37, Tab.size, ty3]
theorem fa37_1p {b o : Nat} : afieldAddr tab 37 (.ptr b o) 1 = some (.ptr b (o + 1)) := by simp [afieldAddr, ty37, Tab.size, ty3]
theorem fa37_2p {b o : Nat} : afieldAddr tab 37 (.ptr b o) 2 = some (.ptr b (o + 2)) := by simp [afieldAddr, ty37, Tab.size, ty9]
theorem ld37 {x : AV} {s : AHeap} : aload tab 37 x s = (acellsAt s x).bind fun cs => if 3 ≤ cs.length then some (.agg (cs.take 3)) else none := by rw [aload_agg ty37 rfl]
theorem st37 {b o : Nat} {v : AV} {s : AHeap} : astore tab 37 (.ptr b o) v s = astoreAt s b o 3 v := by rw [astore_ptr ty37]
theorem len58r {z b o n : Nat} : alen tab 58 (.rs z b o n) = some (.int .i64 n) := by simp [alen, ty58]
theorem len75r {z b o n : Nat} : alen tab 75 (.rs z b o n) = some (.int .i64 n) := by simp [alen, ty75]
theorem ld105 {x : AV} {s : AHeap} : aload tab 105 x s = (acellsAt s x).bind fun cs => cs[0]? := by rw [aload_one ty105 rfl]
theorem st105 {b o : Nat} {v : AV} {s : AHeap} : astore tab 105 (.ptr b o) v s = astoreAt s b o 1 v := by rw [astore_ptr ty105]
theorem fa107_1p {b o : Nat} : afieldAddr tab 107 (.ptr b o) 1 = some (.ptr b (o + 1)) := by simp [afieldAddr, ty107, Tab.size, ty105]
end Go.S1
end
section
namespace Go.S1
open Go Go.Am Go.Proofs
set_option maxRecDepth 100000
noncomputable def L9 : LCode := .seq (.ops [⟨.assign (.const (.string { data := { toList := [] } })), some 4, none⟩]) (.seq (.ops [⟨.assign (.const (.string { data := { toList := [] } })), some 5, none⟩]) (.seq (.seq (.ops [⟨.move (.tmp 0), some 6, none⟩, ⟨.move (.tmp 1), some 7, none⟩, ⟨.call { callee := .value (.func 19), args := { toList := [.tmp 6, .const (.int .i64 0), .tmp 7] }, argTypes := { toList := [23, 3, 3] } }, some 8, none⟩, ⟨.move (.const (.int .i64 0)), some 9, none⟩]) (.block 0 (.loop (.seq (.ops [⟨.binOp .lss 3 (.tmp 9) (.tmp 8) 3, some 10, none⟩]) (.seq (.cond (.tmp 10) .skip (.exit 0)) (.seq (.block 1 (.ops [⟨.move (.tmp 5), some 11, none⟩, ⟨.move (.tmp 0), some 12, none⟩, ⟨.buildSlice 75 5 { toList := [(0, .const (.string { data := { toList := [97] } })), (1, .const (.string { data := { toList := [98] } })), (2, .const (.string { data := { toList := [99] } })), (3, .const (.string { data := { toList := [97] } })), (4, .const (.string { data := { toList := [10] } }))] }, some 13, none⟩, ⟨.call { callee := .value (.func 28), args := { toList := [.tmp 12, .tmp 13] }, argTypes := { toList := [23, 75] } }, some 14, none⟩, ⟨.binOp .add 9 (.tmp 11) (.tmp 14) 9, some 15, none⟩, ⟨.assign (.tmp 15), some 5, none⟩])) (.ops [⟨.binOp .add 3 (.tmp 9) (.const (.int .i64 1)) 3, some 16, none⟩, ⟨.move (.tmp 16), some 9, none⟩]))))))) (.seq (.ops [⟨.move (.tmp 5), some 17, none⟩, ⟨.assign (.tmp 17), some 4, none⟩]) .ret)))
theorem l9 : Tryz.f9.body.map lighten = some L9 := by kernel_rfl
theorem rs9 : Tryz.f9.results.toList = [ResultVar.tmp 4] := by kernel_rfl
theorem nt9 : Tryz.f9.ntmps = 18 := by kernel_rfl
noncomputable def L29 : LCode := .seq (.ops [⟨.assign (.const (.slice none 0 0)), some 4, none⟩]) (.seq (.ops [⟨.assign (.const (.slice none 0 0)), some 5, none⟩]) (.seq (.ops [⟨.move (.tmp 0), some 8, none⟩, ⟨.call { callee := .value (.func 19), args := { toList := [.tmp 8, .const (.int .i64 0), .const (.int .i64 3)] }, argTypes := { toList := [23, 3, 3] } }, some 9, none⟩, ⟨.assign (.tmp 9), some 6, none⟩]) (.seq (.seq (.ops [⟨.move (.tmp 0), some 10, none⟩, ⟨.buildSlice 22 5 { toList := [(0, .const (.int .i64 0)), (1, .const (.int .i64 1)), (2, .const (.int .i64 1)), (3, .const (.int .i64 2)), (4, .const (.int .i64 3))] }, some 11, none⟩, ⟨.call { callee := .value (.func 49), args := { toList := [.tmp 10, .tmp 11] }, argTypes := { toList := [23, 22] } }, some 12, none⟩, ⟨.move (.const (.int .i64 0)), some 13, none⟩]) (.block 0 (.loop (.seq (.ops [⟨.binOp .lss 3 (.tmp 13) (.tmp 12) 3, some 14, none⟩]) (.seq (.cond (.tmp 14) .skip (.exit 0)) (.seq (.block 1 (.seq (.seq (.ops [⟨.move (.tmp 6), some 15, none⟩, ⟨.move (.tmp 1), some 16, none⟩, ⟨.binOp .gtr 3 (.tmp 15) (.tmp 16) 3, some 17, none⟩]) (.cond (.tmp 17) (.exit 0) .skip)) (.seq (.ops [⟨.move (.tmp 6), some 18, none⟩, ⟨.move (.tmp 0), some 19, none⟩, ⟨.buildSlice 22 5 { toList := [(0, .const (.int .i64 0)), (1, .const (.int .i64 1)), (2, .const (.int .i64 1)), (3, .const (.int .i64 2)), (4, .const (.int .i64 4))] }, some 20, none⟩, ⟨.call { callee := .value (.func 49), args := { toList := [.tmp 19, .tmp 20] }, argTypes := { toList := [23, 22] } }, some 21, none⟩, ⟨.move (.tmp 1), some 22, none⟩, ⟨.move (.tmp 6), some 23, none⟩, ⟨.binOp .sub 3 (.tmp 22) (.tmp 23) 3, some 24, none⟩, ⟨.call { callee := .builtin .min, args := { toList := [.tmp 21, .tmp 24] }, argTypes := { toList := [3, 3] } }, some 25, none⟩, ⟨.move (.tmp 0), some 26, none⟩, ⟨.buildSlice 75 5 { toList := [(0, .const (.string { data := { toList := [] } })), (1, .const (.string { data := { toList := [120] } })), (2, .const (.string { data := { toList := [121, 122] } })), (3, .const (.string { data := { toList := [120] } })), (4, .const (.string { data := { toList := [195, 169] } }))] }, some 27, none⟩, ⟨.call { callee := .value (.func 28), args := { toList := [.tmp 26, .tmp 27] }, argTypes := { toList := [23, 75] } }, some 28, none⟩, ⟨.build 37 { toList := [(0, .tmp 18), (1, .tmp 25), (2, .tmp 28)] }, some 29, none⟩, ⟨.alloc 37, some 7, none⟩, ⟨.store 37 (.tmp 7) (.tmp 29), none, none⟩]) (.seq (.seq (.ops [⟨.fieldAddr 37 (.tmp 7) 1, some 30, none⟩, ⟨.load 3 (.tmp 30), some 31, none⟩, ⟨.binOp .eql 3 (.tmp 31) (.const (.int .i64 0)) 3, some 32, none⟩, ⟨.move (.tmp 32), some 33, none⟩, ⟨.fieldAddr 37 (.tmp 7) 2, some 34, some (33, true)⟩, ⟨.load 9 (.tmp 34), some 35, some (33, true)⟩, ⟨.binOp .eql 9 (.tmp 35) (.const (.string { data := { toList := [] } })) 9, some 36, some (33, true)⟩, ⟨.pick (.tmp 33) (.tmp 36) (.const (.bool false)), some 37, none⟩]) (.cond (.tmp 37) (.ops [⟨.fieldAddr 37 (.tmp 7) 2, some 38, none⟩, ⟨.store 9 (.tmp 38) (.const (.string { data := { toList := [119] } })), none, none⟩]) .skip)) (.seq (.ops [⟨.move (.tmp 5), some 39, none⟩, ⟨.load 37 (.tmp 7), some 40, none⟩, ⟨.buildSlice 27 1 { toList := [(0, .tmp 40)] }, some 41, none⟩, ⟨.call { callee := .builtin .append, args := { toList := [.tmp 39, .tmp 41] }, argTypes := { toList := [27, 27] } }, some 42, none⟩, ⟨.assign (.tmp 42), some 5, none⟩]) (.draw [0, 0, 2, 0, 0, 24, 62, 127, 255] [⟨.move (.tmp 6), some 43, none⟩, ⟨.fieldAddr 37 (.tmp 7) 1, some 44, none⟩, ⟨.load 3 (.tmp 44), some 45, none⟩, ⟨.move (.tmp 0), some 46, none⟩, ⟨.buildSlice 22 4 { toList := [(0, .const (.int .i64 1)), (1, .const (.int .i64 1)), (2, .const (.int .i64 2)), (3, .const (.int .i64 5))] }, some 47, none⟩, ⟨.call { callee := .value (.func 49), args := { toList := [.tmp 46, .tmp 47] }, argTypes := { toList := [23, 22] } }, some 48, none⟩, ⟨.binOp .add 3 (.tmp 45) (.tmp 48) 3, some 49, none⟩, ⟨.binOp .add 3 (.tmp 43) (.tmp 49) 3, some 50, none⟩, ⟨.assign (.tmp 50), some 6, none⟩])))))) (.ops [⟨.binOp .add 3 (.tmp 13) (.const (.int .i64 1)) 3, some 51, none⟩, ⟨.move (.tmp 51), some 13, none⟩]))))))) (.seq (.seq (.ops [⟨.move (.tmp 0), some 52, none⟩, ⟨.call { callee := .value (.func 50), args := { toList := [.tmp 52, .const (.int .i64 15)] }, argTypes := { toList := [23, 3] } }, some 53, none⟩]) (.cond (.tmp 53) (.ops [⟨.move (.tmp 5), some 54, none⟩, ⟨.move (.tmp 0), some 55, none⟩, ⟨.move (.tmp 1), some 56, none⟩, ⟨.call { callee := .value (.func 51), args := { toList := [.tmp 55, .tmp 56] }, argTypes := { toList := [23, 3] } }, some 57, none⟩, ⟨.buildSlice 27 1 { toList := [(0, .tmp 57)] }, some 58, none⟩, ⟨.call { callee := .builtin .append, args := { toList := [.tmp 54, .tmp 58] }, argTypes := { toList := [27, 27] } }, some 59, none⟩, ⟨.assign (.tmp 59), some 5, none⟩]) .skip)) (.seq (.ops [⟨.move (.tmp 5), some 60, none⟩, ⟨.assign (.tmp 60), some 4, none⟩]) .ret)))))
theorem l29 : Tryz.f29.body.map lighten = some L29 := by kernel_rfl
theorem rs29 : Tryz.f29.results.toList = [ResultVar.tmp 4] := by kernel_rfl
theorem nt29 : Tryz.f29.ntmps = 61 := by kernel_rfl
noncomputable def L19 : LCode := .seq (.ops [⟨.assign (.const (.int .i64 0)), some 6, none⟩]) (.seq (.seq (.ops [⟨.move (.tmp 2), some 7, none⟩, ⟨.move (.tmp 1), some 8, none⟩, ⟨.binOp .lss 3 (.tmp 7) (.tmp 8) 3, some 9, none⟩]) (.cond (.tmp 9) (.seq (.ops [⟨.move (.tmp 1), some 10, none⟩, ⟨.assign (.tmp 10), some 6, none⟩]) .ret) .skip)) (.seq (.ops [⟨.move (.tmp 1), some 11, none⟩, ⟨.move (.tmp 0), some 12, none⟩, ⟨.move (.tmp 2), some 13, none⟩, ⟨.move (.tmp 1), some 14, none⟩, ⟨.binOp .sub 3 (.tmp 13) (.tmp 14) 3, some 15, none⟩, ⟨.binOp .add 3 (.tmp 15) (.const (.int .i64 1)) 3, some 16, none⟩, ⟨.call { callee := .value (.func 41), args := { toList := [.tmp 12, .tmp 16] }, argTypes := { toList := [23, 3] } }, some 17, none⟩, ⟨.binOp .add 3 (.tmp 11) (.tmp 17) 3, some 18, none⟩, ⟨.assign (.tmp 18), some 6, none⟩]) .ret))
theorem l19 : Tryz.f19.body.map lighten = some L19 := by kernel_rfl
theorem rs19 : Tryz.f19.results.toList = [ResultVar.tmp 6] := by kernel_rfl
theorem nt19 : Tryz.f19.ntmps = 19 := by kernel_rfl
noncomputable def L50 : LCode := .seq (.ops [⟨.assign (.const (.bool false)), some 4, none⟩]) (.seq (.ops [⟨.move (.tmp 0), some 5, none⟩, ⟨.move (.tmp 1), some 6, none⟩, ⟨.call { callee := .value (.func 41), args := { toList := [.tmp 5, .tmp 6] }, argTypes := { toList := [23, 3] } }, some 7, none⟩, ⟨.binOp .eql 3 (.tmp 7) (.const (.int .i64 0)) 3, some 8, none⟩, ⟨.assign (.tmp 8), some 4, none⟩]) .ret)
theorem l50 : Tryz.f50.body.map lighten = some L50 := by kernel_rfl
theorem rs50 : Tryz.f50.results.toList = [ResultVar.tmp 4] := by kernel_rfl
theorem nt50 : Tryz.f50.ntmps = 9 := by kernel_rfl
noncomputable def L30 : LCode := .seq (.ops [⟨.assign (.const (.int .i64 0)), some 4, none⟩]) (.seq (.block 0 (.seq (.ops [⟨.move (.tmp 0), some 10, none⟩, ⟨.call { callee := .value (.func 52), args := { toList := [.tmp 10, .const (.int .i64 0), .const (.int .i64 20000)] }, argTypes := { toList := [3, 3, 3] } }, some 11, none⟩, ⟨.unOp .not 4 (.tmp 11), some 12, none⟩, ⟨.assign (.tmp 12), some 9, none⟩]) (.cond (.tmp 9) (.seq (.ops [⟨.assign (.const (.int .i64 1)), some 4, none⟩]) .ret) (.seq (.ops [⟨.move (.tmp 1), some 14, none⟩, ⟨.call { callee := .builtin .len, args := { toList := [.tmp 14] }, argTypes := { toList := [27] } }, some 15, none⟩, ⟨.binOp .gtr 3 (.tmp 15) (.const (.int .i64 2000)) 3, some 16, none⟩, ⟨.assign (.tmp 16), some 13, none⟩]) (.cond (.tmp 13) (.seq (.ops [⟨.assign (.const (.int .i64 2)), some 4, none⟩]) .ret) .skip))))) (.seq (.ops [⟨.move (.tmp 0), some 17, none⟩, ⟨.assign (.const (.int .i64 (-1))), some 5, none⟩, ⟨.assign (.tmp 17), some 6, none⟩]) (.seq (.seq (.ops [⟨.move (.tmp 1), some 18, none⟩, ⟨.call { callee := .builtin .len, args := { toList := [.tmp 18] }, argTypes := { toList := [27] } }, some 19, none⟩, ⟨.move (.const (.int .i64 0)), some 20, none⟩]) (.block 1 (.loop (.seq (.ops [⟨.binOp .lss 3 (.tmp 20) (.tmp 19) 3, some 21, none⟩]) (.seq (.cond (.tmp 21) .skip (.exit 1)) (.seq (.block 2 (.seq (.ops [⟨.indexAddr 27 (.tmp 18) (.tmp 20), some 22, none⟩, ⟨.load 37 (.tmp 22), some 23, none⟩, ⟨.alloc 37, some 8, none⟩, ⟨.store 37 (.tmp 8) (.tmp 23), none, none⟩]) (.seq (.block 3 (.seq (.ops [⟨.fieldAddr 37 (.tmp 8) 0, some 25, none⟩, ⟨.load 3 (.tmp 25), some 26, none⟩, ⟨.move (.tmp 0), some 27, none⟩, ⟨.call { callee := .value (.func 52), args := { toList := [.tmp 26, .const (.int .i64 0), .tmp 27] }, argTypes := { toList := [3, 3, 3] } }, some 28, none⟩, ⟨.unOp .not 4 (.tmp 28), some 29, none⟩, ⟨.move (.tmp 29), some 30, none⟩, ⟨.fieldAddr 37 (.tmp 8) 1, some 31, some (30, false)⟩, ⟨.load 3 (.tmp 31), some 32, some (30, false)⟩, ⟨.move (.tmp 0), some 33, some (30, false)⟩, ⟨.fieldAddr 37 (.tmp 8) 0, some 34, some (30, false)⟩, ⟨.load 3 (.tmp 34), some 35, some (30, false)⟩, ⟨.binOp .sub 3 (.tmp 33) (.tmp 35) 3, some 36, some (30, false)⟩, ⟨.call { callee := .value (.func 52), args := { toList := [.tmp 32, .const (.int .i64 0), .tmp 36] }, argTypes := { toList := [3, 3, 3] } }, some 37, some (30, false)⟩, ⟨.unOp .not 4 (.tmp 37), some 38, some (30, false)⟩, ⟨.pick (.tmp 30) (.const (.bool true)) (.tmp 38), some 39, none⟩, ⟨.assign (.tmp 39), some 24, none⟩]) (.cond (.tmp 24) (.seq (.ops [⟨.assign (.const (.int .i64 1)), some 4, none⟩]) .ret) (.seq (.ops [⟨.fieldAddr 37 (.tmp 8) 1, some 41, none⟩, ⟨.load 3 (.tmp 41), some 42, none⟩, ⟨.binOp .eql 3 (.tmp 42) (.const (.int .i64 0)) 3, some 43, none⟩, ⟨.move (.tmp 43), some 44, none⟩, ⟨.fieldAddr 37 (.tmp 8) 2, some 45, some (44, true)⟩, ⟨.load 9 (.tmp 45), some 46, some (44, true)⟩, ⟨.binOp .eql 9 (.tmp 46) (.const (.string { data := { toList := [] } })) 9, some 47, some (44, true)⟩, ⟨.pick (.tmp 44) (.tmp 47) (.const (.bool false)), some 48, none⟩, ⟨.assign (.tmp 48), some 40, none⟩]) (.cond (.tmp 40) (.seq (.ops [⟨.assign (.const (.int .i64 3)), some 4, none⟩]) .ret) (.seq (.ops [⟨.fieldAddr 37 (.tmp 8) 0, some 50, none⟩, ⟨.load 3 (.tmp 50), some 51, none⟩, ⟨.move (.tmp 5), some 52, none⟩, ⟨.binOp .leq 3 (.tmp 51) (.tmp 52) 3, some 53, none⟩, ⟨.assign (.tmp 53), some 49, none⟩]) (.cond (.tmp 49) (.seq (.ops [⟨.assign (.const (.int .i64 7)), some 4, none⟩]) .ret) .skip))))))) (.seq (.ops [⟨.fieldAddr 37 (.tmp 8) 0, some 54, none⟩, ⟨.load 3 (.tmp 54), some 55, none⟩, ⟨.fieldAddr 37 (.tmp 8) 1, some 56, none⟩, ⟨.load 3 (.tmp 56), some 57, none⟩, ⟨.binOp .add 3 (.tmp 55) (.tmp 57) 3, some 58, none⟩, ⟨.assign (.tmp 58), some 5, none⟩]) (.ops [⟨.move (.tmp 6), some 59, none⟩, ⟨.fieldAddr 37 (.tmp 8) 2, some 60, none⟩, ⟨.load 9 (.tmp 60), some 61, none⟩, ⟨.call { callee := .builtin .len, args := { toList := [.tmp 61] }, argTypes := { toList := [9] } }, some 62, none⟩, ⟨.fieldAddr 37 (.tmp 8) 1, some 63, none⟩, ⟨.load 3 (.tmp 63), some 64, none⟩, ⟨.binOp .sub 3 (.tmp 62) (.tmp 64) 3, some 65, none⟩, ⟨.binOp .add 3 (.tmp 59) (.tmp 65) 3, some 66, none⟩, ⟨.assign (.tmp 66), some 6, none⟩]))))) (.ops [⟨.binOp .add 3 (.tmp 20) (.const (.int .i64 1)) 3, some 67, none⟩, ⟨.move (.tmp 67), some 20, none⟩]))))))) (.seq (.seq (.ops [⟨.move (.tmp 6), some 68, none⟩, ⟨.binOp .gtr 3 (.tmp 68) (.const (.int .i64 20000)) 3, some 69, none⟩]) (.cond (.tmp 69) (.seq (.ops [⟨.assign (.const (.int .i64 2)), some 4, none⟩]) .ret) .skip)) (.seq (.ops [⟨.assign (.const (.int .i64 0)), some 4, none⟩]) .ret)))))
theorem l30 : Tryz.f30.body.map lighten = some L30 := by kernel_rfl
theorem rs30 : Tryz.f30.results.toList = [ResultVar.tmp 4] := by kernel_rfl
theorem nt30 : Tryz.f30.ntmps = 70 := by kernel_rfl
theorem go30 {args : List AV} {s : AHeap} {R : AV → AHeap → Prop} (hl : args.length ≤ 70) (h : ∀ tm, tm.length = 70 → (∀ i, aev tm (.tmp i) = args.getD i aundef) → lvc Tryz.prog tab L30 (lpost tab [ResultVar.tmp 4] R) tm s) : ACall Tryz.prog 30 args s R := ACall.go tab_ok mixed Tryz.func30 l30 nm30 rs30 nt30 hl h
noncomputable def L13 : LCode := .seq (.ops [⟨.assign (.const (.int .i64 0)), some 2, none⟩]) (.seq (.seq (.ops [⟨.move (.tmp 0), some 5, none⟩, ⟨.call { callee := .builtin .len, args := { toList := [.tmp 5] }, argTypes := { toList := [58] } }, some 6, none⟩, ⟨.move (.const (.int .i64 0)), some 7, none⟩]) (.block 0 (.loop (.seq (.ops [⟨.binOp .lss 3 (.tmp 7) (.tmp 6) 3, some 8, none⟩]) (.seq (.cond (.tmp 8) .skip (.exit 0)) (.seq (.block 1 (.seq (.ops [⟨.indexAddr 58 (.tmp 5) (.tmp 7), some 9, none⟩, ⟨.load 29 (.tmp 9), some 10, none⟩, ⟨.assign (.tmp 10), some 4, none⟩]) (.seq (.ops [⟨.move (.tmp 4), some 11, none⟩, ⟨.binOp .neq 29 (.tmp 11) (.const (.int .i64 0)) 29, some 12, none⟩]) (.cond (.tmp 12) (.seq (.ops [⟨.move (.tmp 4), some 13, none⟩, ⟨.assign (.tmp 13), some 2, none⟩]) .ret) .skip)))) (.ops [⟨.binOp .add 3 (.tmp 7) (.const (.int .i64 1)) 3, some 14, none⟩, ⟨.move (.tmp 14), some 7, none⟩]))))))) (.seq (.ops [⟨.assign (.const (.int .i64 0)), some 2, none⟩]) .ret))
theorem l13 : Tryz.f13.body.map lighten = some L13 := by kernel_rfl
theorem rs13 : Tryz.f13.results.toList = [ResultVar.tmp 2] := by kernel_rfl
theorem nt13 : Tryz.f13.ntmps = 15 := by kernel_rfl
theorem go13 {args : List AV} {s : AHeap} {R : AV → AHeap → Prop} (hl : args.length ≤ 15) (h : ∀ tm, tm.length = 15 → (∀ i, aev tm (.tmp i) = args.getD i aundef) → lvc Tryz.prog tab L13 (lpost tab [ResultVar.tmp 2] R) tm s) : ACall Tryz.prog 13 args s R := ACall.go tab_ok mixed Tryz.func13 l13 nm13 rs13 nt13 hl h
noncomputable def L49 : LCode := .seq (.ops [⟨.assign (.const (.int .i64 0)), some 4, none⟩]) (.seq (.ops [⟨.move (.tmp 1), some 5, none⟩, ⟨.move (.tmp 0), some 6, none⟩, ⟨.move (.tmp 1), some 7, none⟩, ⟨.call { callee := .builtin .len, args := { toList := [.tmp 7] }, argTypes := { toList := [22] } }, some 8, none⟩, ⟨.call { callee := .value (.func 41), args := { toList := [.tmp 6, .tmp 8] }, argTypes := { toList := [23, 3] } }, some 9, none⟩, ⟨.indexAddr 22 (.tmp 5) (.tmp 9), some 10, none⟩, ⟨.load 3 (.tmp 10), some 11, none⟩, ⟨.assign (.tmp 11), some 4, none⟩]) .ret)
theorem l49 : Tryz.f49.body.map lighten = some L49 := by kernel_rfl
theorem rs49 : Tryz.f49.results.toList = [ResultVar.tmp 4] := by kernel_rfl
theorem nt49 : Tryz.f49.ntmps = 12 := by kernel_rfl
noncomputable def L11 : LCode := .seq (.ops [⟨.assign (.const (.string { data := { toList := [] } })), some 4, none⟩, ⟨.assign (.const (.int .i64 0)), some 5, none⟩]) (.seq (.seq (.ops [⟨.move (.tmp 0), some 7, none⟩, ⟨.move (.tmp 1), some 8, none⟩, ⟨.call { callee := .value (.func 31), args := { toList := [.tmp 7, .tmp 8] }, argTypes := { toList := [9, 27] } }, some 9, none⟩, ⟨.assign (.tmp 9), some 6, none⟩]) (.seq (.ops [⟨.move (.tmp 6), some 10, none⟩, ⟨.binOp .neq 29 (.tmp 10) (.const (.int .i64 0)) 29, some 11, none⟩]) (.cond (.tmp 11) (.seq (.ops [⟨.move (.tmp 6), some 12, none⟩, ⟨.assign (.const (.string { data := { toList := [] } })), some 4, none⟩, ⟨.assign (.tmp 12), some 5, none⟩]) .ret) .skip))) (.seq (.ops [⟨.move (.tmp 0), some 13, none⟩, ⟨.move (.tmp 1), some 14, none⟩, ⟨.call { callee := .value (.func 32), args := { toList := [.tmp 13, .tmp 14] }, argTypes := { toList := [9, 27] } }, some 15, none⟩, ⟨.assign (.tmp 15), some 4, none⟩, ⟨.assign (.const (.int .i64 0)), some 5, none⟩]) .ret))
theorem l11 : Tryz.f11.body.map lighten = some L11 := by kernel_rfl
theorem rs11 : Tryz.f11.results.toList = [ResultVar.tmp 4, ResultVar.tmp 5] := by kernel_rfl
theorem nt11 : Tryz.f11.ntmps = 16 := by kernel_rfl
noncomputable def L37 : LCode := .seq (.ops [⟨.assign (.const (.int .i64 0)), some 4, none⟩]) (.seq (.block 0 (.seq (.ops [⟨.move (.tmp 0), some 9, none⟩, ⟨.call { callee := .value (.func 40), args := { toList := [.tmp 9, .const (.int .i64 0), .const (.int .i64 20000)] }, argTypes := { toList := [3, 3, 3] } }, some 10, none⟩, ⟨.unOp .not 4 (.tmp 10), some 11, none⟩, ⟨.assign (.tmp 11), some 8, none⟩]) (.cond (.tmp 8) (.seq (.ops [⟨.assign (.const (.int .i64 1)), some 4, none⟩]) .ret) (.seq (.ops [⟨.move (.tmp 1), some 13, none⟩, ⟨.call { callee := .builtin .len, args := { toList := [.tmp 13] }, argTypes := { toList := [27] } }, some 14, none⟩, ⟨.binOp .gtr 3 (.tmp 14) (.const (.int .i64 2000)) 3, some 15, none⟩, ⟨.assign (.tmp 15), some 12, none⟩]) (.cond (.tmp 12) (.seq (.ops [⟨.assign (.const (.int .i64 2)), some 4, none⟩]) .ret) .skip))))) (.seq (.ops [⟨.assign (.const (.int .i64 (-1))), some 5, none⟩]) (.seq (.seq (.ops [⟨.move (.tmp 1), some 16, none⟩, ⟨.call { callee := .builtin .len, args := { toList := [.tmp 16] }, argTypes := { toList := [27] } }, some 17, none⟩, ⟨.move (.const (.int .i64 0)), some 18, none⟩]) (.block 1 (.loop (.seq (.ops [⟨.binOp .lss 3 (.tmp 18) (.tmp 17) 3, some 19, none⟩]) (.seq (.cond (.tmp 19) .skip (.exit 1)) (.seq (.block 2 (.seq (.ops [⟨.indexAddr 27 (.tmp 16) (.tmp 18), some 20, none⟩, ⟨.load 37 (.tmp 20), some 21, none⟩, ⟨.alloc 37, some 7, none⟩, ⟨.store 37 (.tmp 7) (.tmp 21), none, none⟩]) (.seq (.block 3 (.seq (.ops [⟨.fieldAddr 37 (.tmp 7) 0, some 23, none⟩, ⟨.load 3 (.tmp 23), some 24, none⟩, ⟨.move (.tmp 0), some 25, none⟩, ⟨.call { callee := .value (.func 40), args := { toList := [.tmp 24, .const (.int .i64 0), .tmp 25] }, argTypes := { toList := [3, 3, 3] } }, some 26, none⟩, ⟨.unOp .not 4 (.tmp 26), some 27, none⟩, ⟨.move (.tmp 27), some 28, none⟩, ⟨.fieldAddr 37 (.tmp 7) 1, some 29, some (28, false)⟩, ⟨.load 3 (.tmp 29), some 30, some (28, false)⟩, ⟨.move (.tmp 0), some 31, some (28, false)⟩, ⟨.fieldAddr 37 (.tmp 7) 0, some 32, some (28, false)⟩, ⟨.load 3 (.tmp 32), some 33, some (28, false)⟩, ⟨.binOp .sub 3 (.tmp 31) (.tmp 33) 3, some 34, some (28, false)⟩, ⟨.call { callee := .value (.func 40), args := { toList := [.tmp 30, .const (.int .i64 0), .tmp 34] }, argTypes := { toList := [3, 3, 3] } }, some 35, some (28, false)⟩, ⟨.unOp .not 4 (.tmp 35), some 36, some (28, false)⟩, ⟨.pick (.tmp 28) (.const (.bool true)) (.tmp 36), some 37, none⟩, ⟨.assign (.tmp 37), some 22, none⟩]) (.cond (.tmp 22) (.seq (.ops [⟨.assign (.const (.int .i64 1)), some 4, none⟩]) .ret) (.seq (.ops [⟨.fieldAddr 37 (.tmp 7) 1, some 39, none⟩, ⟨.load 3 (.tmp 39), some 40, none⟩, ⟨.binOp .eql 3 (.tmp 40) (.const (.int .i64 0)) 3, some 41, none⟩, ⟨.move (.tmp 41), some 42, none⟩, ⟨.fieldAddr 37 (.tmp 7) 2, some 43, some (42, true)⟩, ⟨.load 9 (.tmp 43), some 44, some (42, true)⟩, ⟨.binOp .eql 9 (.tmp 44) (.const (.string { data := { toList := [] } })) 9, some 45, some (42, true)⟩, ⟨.pick (.tmp 42) (.tmp 45) (.const (.bool false)), some 46, none⟩, ⟨.assign (.tmp 46), some 38, none⟩]) (.cond (.tmp 38) (.seq (.ops [⟨.assign (.const (.int .i64 3)), some 4, none⟩]) .ret) (.seq (.ops [⟨.fieldAddr 37 (.tmp 7) 0, some 48, none⟩, ⟨.load 3 (.tmp 48), some 49, none⟩, ⟨.move (.tmp 5), some 50, none⟩, ⟨.binOp .leq 3 (.tmp 49) (.tmp 50) 3, some 51, none⟩, ⟨.assign (.tmp 51), some 47, none⟩]) (.cond (.tmp 47) (.seq (.ops [⟨.assign (.const (.int .i64 7)), some 4, none⟩]) .ret) .skip))))))) (.ops [⟨.fieldAddr 37 (.tmp 7) 0, some 52, none⟩, ⟨.load 3 (.tmp 52), some 53, none⟩, ⟨.fieldAddr 37 (.tmp 7) 1, some 54, none⟩, ⟨.load 3 (.tmp 54), some 55, none⟩, ⟨.binOp .add 3 (.tmp 53) (.tmp 55) 3, some 56, none⟩, ⟨.assign (.tmp 56), some 5, none⟩])))) (.ops [⟨.binOp .add 3 (.tmp 18) (.const (.int .i64 1)) 3, some 57, none⟩, ⟨.move (.tmp 57), some 18, none⟩]))))))) (.seq (.seq (.ops [⟨.move (.tmp 0), some 58, none⟩, ⟨.move (.tmp 1), some 59, none⟩, ⟨.call { callee := .value (.func 38), args := { toList := [.tmp 58, .tmp 59] }, argTypes := { toList := [3, 27] } }, some 60, none⟩, ⟨.binOp .gtr 3 (.tmp 60) (.const (.int .i64 20000)) 3, some 61, none⟩]) (.cond (.tmp 61) (.seq (.ops [⟨.assign (.const (.int .i64 2)), some 4, none⟩]) .ret) .skip)) (.seq (.ops [⟨.assign (.const (.int .i64 0)), some 4, none⟩]) .ret)))))
theorem l37 : Tryz.f37.body.map lighten = some L37 := by kernel_rfl
theorem rs37 : Tryz.f37.results.toList = [ResultVar.tmp 4] := by kernel_rfl
theorem nt37 : Tryz.f37.ntmps = 62 := by kernel_rfl
theorem go37 {args : List AV} {s : AHeap} {R : AV → AHeap → Prop} (hl : args.length ≤ 62) (h : ∀ tm, tm.length = 62 → (∀ i, aev tm (.tmp i) = args.getD i aundef) → lvc Tryz.prog tab L37 (lpost tab [ResultVar.tmp 4] R) tm s) : ACall Tryz.prog 37 args s R := ACall.go tab_ok mixed Tryz.func37 l37 nm37 rs37 nt37 hl h
noncomputable def L28 : LCode := .seq (.ops [⟨.assign (.const (.string { data := { toList := [] } })), some 4, none⟩]) (.seq (.ops [⟨.move (.tmp 1), some 5, none⟩, ⟨.move (.tmp 0), some 6, none⟩, ⟨.move (.tmp 1), some 7, none⟩, ⟨.call { callee := .builtin .len, args := { toList := [.tmp 7] }, argTypes := { toList := [75] } }, some 8, none⟩, ⟨.call { callee := .value (.func 41), args := { toList := [.tmp 6, .tmp 8] }, argTypes := { toList := [23, 3] } }, some 9, none⟩, ⟨.indexAddr 75 (.tmp 5) (.tmp 9), some 10, none⟩, ⟨.load 9 (.tmp 10), some 11, none⟩, ⟨.assign (.tmp 11), some 4, none⟩]) .ret)
theorem l28 : Tryz.f28.body.map lighten = some L28 := by kernel_rfl
theorem rs28 : Tryz.f28.results.toList = [ResultVar.tmp 4] := by kernel_rfl
theorem nt28 : Tryz.f28.ntmps = 12 := by kernel_rfl
noncomputable def L51 : LCode := .seq (.ops [⟨.alloc 37, some 4, none⟩]) (.seq (.ops [⟨.move (.tmp 0), some 7, none⟩, ⟨.move (.tmp 1), some 8, none⟩, ⟨.binOp .add 3 (.tmp 8) (.const (.int .i64 1)) 3, some 9, none⟩, ⟨.call { callee := .value (.func 41), args := { toList := [.tmp 7, .tmp 9] }, argTypes := { toList := [23, 3] } }, some 10, none⟩, ⟨.assign (.tmp 10), some 5, none⟩]) (.seq (.ops [⟨.move (.tmp 5), some 11, none⟩, ⟨.move (.tmp 0), some 12, none⟩, ⟨.buildSlice 22 5 { toList := [(0, .const (.int .i64 0)), (1, .const (.int .i64 0)), (2, .const (.int .i64 1)), (3, .const (.int .i64 2)), (4, .const (.int .i64 5))] }, some 13, none⟩, ⟨.call { callee := .value (.func 49), args := { toList := [.tmp 12, .tmp 13] }, argTypes := { toList := [23, 22] } }, some 14, none⟩, ⟨.move (.tmp 1), some 15, none⟩, ⟨.move (.tmp 5), some 16, none⟩, ⟨.binOp .sub 3 (.tmp 15) (.tmp 16) 3, some 17, none⟩, ⟨.call { callee := .builtin .min, args := { toList := [.tmp 14, .tmp 17] }, argTypes := { toList := [3, 3] } }, some 18, none⟩, ⟨.move (.tmp 0), some 19, none⟩, ⟨.buildSlice 75 10 { toList := [(0, .const (.string { data := { toList := [] } })), (1, .const (.string { data := { toList := [97] } })), (2, .const (.string { data := { toList := [32] } })), (3, .const (.string { data := { toList := [49] } })), (4, .const (.string { data := { toList := [43] } })), (5, .const (.string { data := { toList := [41] } })), (6, .const (.string { data := { toList := [35] } })), (7, .const (.string { data := { toList := [34] } })), (8, .const (.string { data := { toList := [97, 98, 32, 49] } })), (9, .const (.string { data := { toList := [46] } }))] }, some 20, none⟩, ⟨.call { callee := .value (.func 28), args := { toList := [.tmp 19, .tmp 20] }, argTypes := { toList := [23, 75] } }, some 21, none⟩, ⟨.build 37 { toList := [(0, .tmp 11), (1, .tmp 18), (2, .tmp 21)] }, some 22, none⟩, ⟨.alloc 37, some 6, none⟩, ⟨.store 37 (.tmp 6) (.tmp 22), none, none⟩]) (.seq (.seq (.ops [⟨.move (.tmp 0), some 23, none⟩, ⟨.call { callee := .value (.func 50), args := { toList := [.tmp 23, .const (.int .i64 25)] }, argTypes := { toList := [23, 3] } }, some 24, none⟩]) (.cond (.tmp 24) (.ops [⟨.move (.tmp 0), some 25, none⟩, ⟨.move (.tmp 1), some 26, none⟩, ⟨.binOp .add 3 (.tmp 26) (.const (.int .i64 1)) 3, some 27, none⟩, ⟨.move (.tmp 5), some 28, none⟩, ⟨.buildSlice 22 3 { toList := [(0, .const (.int .i64 (-1))), (1, .tmp 27), (2, .tmp 28)] }, some 29, none⟩, ⟨.call { callee := .value (.func 49), args := { toList := [.tmp 25, .tmp 29] }, argTypes := { toList := [23, 22] } }, some 30, none⟩, ⟨.move (.tmp 0), some 31, none⟩, ⟨.move (.tmp 1), some 32, none⟩, ⟨.binOp .add 3 (.tmp 32) (.const (.int .i64 1)) 3, some 33, none⟩, ⟨.buildSlice 22 3 { toList := [(0, .const (.int .i64 0)), (1, .const (.int .i64 (-1))), (2, .tmp 33)] }, some 34, none⟩, ⟨.call { callee := .value (.func 49), args := { toList := [.tmp 31, .tmp 34] }, argTypes := { toList := [23, 22] } }, some 35, none⟩, ⟨.fieldAddr 37 (.tmp 6) 0, some 36, none⟩, ⟨.store 3 (.tmp 36) (.tmp 30), none, none⟩, ⟨.fieldAddr 37 (.tmp 6) 1, some 37, none⟩, ⟨.store 3 (.tmp 37) (.tmp 35), none, none⟩]) .skip)) (.seq (.ops [⟨.load 37 (.tmp 6), some 38, none⟩, ⟨.store 37 (.tmp 4) (.tmp 38), none, none⟩]) .ret))))
theorem l51 : Tryz.f51.body.map lighten = some L51 := by kernel_rfl
theorem rs51 : Tryz.f51.results.toList = [ResultVar.cell 4 37] := by kernel_rfl
theorem nt51 : Tryz.f51.ntmps = 39 := by kernel_rfl
noncomputable def L41 : LCode := .seq (.ops [⟨.assign (.const (.int .i64 0)), some 4, none⟩]) (.seq (.ops [⟨.move (.tmp 0), some 7, none⟩, ⟨.nilCheck (.tmp 7), some 8, none⟩, ⟨.fieldAddr 25 (.tmp 8) 1, some 9, none⟩, ⟨.load 3 (.tmp 9), some 10, none⟩, ⟨.binOp .add 3 (.tmp 10) (.const (.int .i64 1)) 3, some 11, none⟩, ⟨.nilCheck (.tmp 7), some 12, none⟩, ⟨.fieldAddr 25 (.tmp 12) 1, some 13, none⟩, ⟨.store 3 (.tmp 13) (.tmp 11), none, none⟩]) (.seq (.seq (.ops [⟨.move (.tmp 0), some 14, none⟩, ⟨.nilCheck (.tmp 14), some 15, none⟩, ⟨.fieldAddr 25 (.tmp 15) 0, some 16, none⟩, ⟨.load 22 (.tmp 16), some 17, none⟩, ⟨.call { callee := .builtin .len, args := { toList := [.tmp 17] }, argTypes := { toList := [22] } }, some 18, none⟩, ⟨.binOp .eql 3 (.tmp 18) (.const (.int .i64 0)) 3, some 19, none⟩]) (.cond (.tmp 19) (.seq (.ops [⟨.move (.tmp 0), some 20, none⟩, ⟨.nilCheck (.tmp 20), some 21, none⟩, ⟨.fieldAddr 25 (.tmp 21) 1, some 22, none⟩, ⟨.load 3 (.tmp 22), some 23, none⟩, ⟨.binOp .mul 3 (.tmp 23) (.const (.int .i64 7919)) 3, some 24, none⟩, ⟨.move (.tmp 1), some 25, none⟩, ⟨.call { callee := .value (.func 71), args := { toList := [.tmp 24, .tmp 25] }, argTypes := { toList := [3, 3] } }, some 26, none⟩, ⟨.assign (.tmp 26), some 4, none⟩]) .ret) .skip)) (.seq (.draw [0, 1, 3, 7, 15, 0, 32, 96, 224, 480, 1023, 2047] [⟨.move (.tmp 0), some 27, none⟩, ⟨.nilCheck (.tmp 27), some 28, none⟩, ⟨.fieldAddr 25 (.tmp 28) 1, some 29, none⟩, ⟨.load 3 (.tmp 29), some 30, none⟩, ⟨.binOp .sub 3 (.tmp 30) (.const (.int .i64 1)) 3, some 31, none⟩, ⟨.move (.tmp 0), some 32, none⟩, ⟨.nilCheck (.tmp 32), some 33, none⟩, ⟨.fieldAddr 25 (.tmp 33) 0, some 34, none⟩, ⟨.load 22 (.tmp 34), some 35, none⟩, ⟨.call { callee := .builtin .len, args := { toList := [.tmp 35] }, argTypes := { toList := [22] } }, some 36, none⟩, ⟨.binOp .rem 3 (.tmp 31) (.tmp 36) 3, some 37, none⟩, ⟨.assign (.tmp 37), some 5, none⟩]) (.seq (.draw [0, 1, 3, 7, 15, 0, 32, 96, 224, 480, 1023, 2047] [⟨.move (.tmp 0), some 38, none⟩, ⟨.nilCheck (.tmp 38), some 39, none⟩, ⟨.fieldAddr 25 (.tmp 39) 1, some 40, none⟩, ⟨.load 3 (.tmp 40), some 41, none⟩, ⟨.binOp .sub 3 (.tmp 41) (.const (.int .i64 1)) 3, some 42, none⟩, ⟨.move (.tmp 0), some 43, none⟩, ⟨.nilCheck (.tmp 43), some 44, none⟩, ⟨.fieldAddr 25 (.tmp 44) 0, some 45, none⟩, ⟨.load 22 (.tmp 45), some 46, none⟩, ⟨.call { callee := .builtin .len, args := { toList := [.tmp 46] }, argTypes := { toList := [22] } }, some 47, none⟩, ⟨.binOp .quo 3 (.tmp 42) (.tmp 47) 3, some 48, none⟩, ⟨.assign (.tmp 48), some 6, none⟩]) (.seq (.ops [⟨.move (.tmp 0), some 49, none⟩, ⟨.nilCheck (.tmp 49), some 50, none⟩, ⟨.fieldAddr 25 (.tmp 50) 0, some 51, none⟩, ⟨.load 22 (.tmp 51), some 52, none⟩, ⟨.move (.tmp 5), some 53, none⟩, ⟨.indexAddr 22 (.tmp 52) (.tmp 53), some 54, none⟩, ⟨.load 3 (.tmp 54), some 55, none⟩, ⟨.call { callee := .value (.func 71), args := { toList := [.tmp 55, .const (.int .i64 1073741824)] }, argTypes := { toList := [3, 3] } }, some 56, none⟩, ⟨.move (.tmp 6), some 57, none⟩, ⟨.move (.tmp 5), some 58, none⟩, ⟨.binOp .add 3 (.const (.int .i64 7919)) (.tmp 58) 3, some 59, none⟩, ⟨.binOp .mul 3 (.tmp 57) (.tmp 59) 3, some 60, none⟩, ⟨.binOp .add 3 (.tmp 56) (.tmp 60) 3, some 61, none⟩, ⟨.move (.tmp 1), some 62, none⟩, ⟨.call { callee := .value (.func 71), args := { toList := [.tmp 61, .tmp 62] }, argTypes := { toList := [3, 3] } }, some 63, none⟩, ⟨.assign (.tmp 63), some 4, none⟩]) .ret)))))
theorem l41 : Tryz.f41.body.map lighten = some L41 := by kernel_rfl
theorem rs41 : Tryz.f41.results.toList = [ResultVar.tmp 4] := by kernel_rfl
theorem nt41 : Tryz.f41.ntmps = 64 := by kernel_rfl
noncomputable def L31 : LCode := .seq (.ops [⟨.assign (.const (.int .i64 0)), some 4, none⟩]) (.seq (.seq (.ops [⟨.move (.tmp 0), some 5, none⟩, ⟨.call { callee := .builtin .len, args := { toList := [.tmp 5] }, argTypes := { toList := [9] } }, some 6, none⟩, ⟨.binOp .gtr 3 (.tmp 6) (.const (.int .i64 20000)) 3, some 7, none⟩]) (.cond (.tmp 7) (.seq (.ops [⟨.assign (.const (.int .i64 2)), some 4, none⟩]) .ret) .skip)) (.seq (.ops [⟨.move (.tmp 0), some 8, none⟩, ⟨.call { callee := .builtin .len, args := { toList := [.tmp 8] }, argTypes := { toList := [9] } }, some 9, none⟩, ⟨.move (.tmp 1), some 10, none⟩, ⟨.call { callee := .value (.func 37), args := { toList := [.tmp 9, .tmp 10] }, argTypes := { toList := [3, 27] } }, some 11, none⟩, ⟨.assign (.tmp 11), some 4, none⟩]) .ret))
theorem l31 : Tryz.f31.body.map lighten = some L31 := by kernel_rfl
theorem rs31 : Tryz.f31.results.toList = [ResultVar.tmp 4] := by kernel_rfl
theorem nt31 : Tryz.f31.ntmps = 12 := by kernel_rfl
theorem go31 {args : List AV} {s : AHeap} {R : AV → AHeap → Prop} (hl : args.length ≤ 12) (h : ∀ tm, tm.length = 12 → (∀ i, aev tm (.tmp i) = args.getD i aundef) → lvc Tryz.prog tab L31 (lpost tab [ResultVar.tmp 4] R) tm s) : ACall Tryz.prog 31 args s R := ACall.go tab_ok mixed Tryz.func31 l31 nm31 rs31 nt31 hl h
noncomputable def L32 : LCode := .seq (.ops [⟨.assign (.const (.string { data := { toList := [] } })), some 4, none⟩]) (.seq (.ops [⟨.alloc 107, some 5, none⟩]) (.seq (.ops [⟨.assign (.const (.int .i64 0)), some 6, none⟩]) (.seq (.seq (.ops [⟨.move (.tmp 1), some 9, none⟩, ⟨.call { callee := .builtin .len, args := { toList := [.tmp 9] }, argTypes := { toList := [27] } }, some 10, none⟩, ⟨.move (.const (.int .i64 0)), some 11, none⟩]) (.block 0 (.loop (.seq (.ops [⟨.binOp .lss 3 (.tmp 11) (.tmp 10) 3, some 12, none⟩]) (.seq (.cond (.tmp 12) .skip (.exit 0)) (.seq (.block 1 (.seq (.ops [⟨.indexAddr 27 (.tmp 9) (.tmp 11), some 13, none⟩, ⟨.load 37 (.tmp 13), some 14, none⟩, ⟨.alloc 37, some 8, none⟩, ⟨.store 37 (.tmp 8) (.tmp 14), none, none⟩]) (.seq (.draw [0, 0, 0, 4, 15, 0, 32, 127, 255] [⟨.move (.tmp 0), some 15, none⟩, ⟨.move (.tmp 6), some 16, none⟩, ⟨.fieldAddr 37 (.tmp 8) 0, some 17, none⟩, ⟨.load 3 (.tmp 17), some 18, none⟩, ⟨.slice 9 (.tmp 15) (some (.tmp 16)) (some (.tmp 18)) none, some 19, none⟩, ⟨.fieldAddr 37 (.tmp 8) 2, some 20, none⟩, ⟨.load 9 (.tmp 20), some 21, none⟩, ⟨.binOp .add 9 (.tmp 19) (.tmp 21) 9, some 22, none⟩, ⟨.call { callee := .value (.func 53), args := { toList := [.tmp 5, .tmp 22] }, argTypes := { toList := [107, 9] } }, some 23, none⟩]) (.ops [⟨.fieldAddr 37 (.tmp 8) 0, some 24, none⟩, ⟨.load 3 (.tmp 24), some 25, none⟩, ⟨.fieldAddr 37 (.tmp 8) 1, some 26, none⟩, ⟨.load 3 (.tmp 26), some 27, none⟩, ⟨.binOp .add 3 (.tmp 25) (.tmp 27) 3, some 28, none⟩, ⟨.assign (.tmp 28), some 6, none⟩])))) (.ops [⟨.binOp .add 3 (.tmp 11) (.const (.int .i64 1)) 3, some 29, none⟩, ⟨.move (.tmp 29), some 11, none⟩]))))))) (.seq (.ops [⟨.move (.tmp 0), some 30, none⟩, ⟨.move (.tmp 6), some 31, none⟩, ⟨.slice 9 (.tmp 30) (some (.tmp 31)) none none, some 32, none⟩, ⟨.call { callee := .value (.func 53), args := { toList := [.tmp 5, .tmp 32] }, argTypes := { toList := [107, 9] } }, some 33, none⟩]) (.seq (.ops [⟨.call { callee := .value (.func 54), args := { toList := [.tmp 5] }, argTypes := { toList := [107] } }, some 34, none⟩, ⟨.assign (.tmp 34), some 4, none⟩]) .ret)))))
theorem l32 : Tryz.f32.body.map lighten = some L32 := by kernel_rfl
theorem rs32 : Tryz.f32.results.toList = [ResultVar.tmp 4] := by kernel_rfl
theorem nt32 : Tryz.f32.ntmps = 35 := by kernel_rfl
theorem go32 {args : List AV} {s : AHeap} {R : AV → AHeap → Prop} (hl : args.length ≤ 35) (h : ∀ tm, tm.length = 35 → (∀ i, aev tm (.tmp i) = args.getD i aundef) → lvc Tryz.prog tab L32 (lpost tab [ResultVar.tmp 4] R) tm s) : ACall Tryz.prog 32 args s R := ACall.go tab_ok mixed Tryz.func32 l32 nm32 rs32 nt32 hl h
noncomputable def L52 : LCode := .seq (.ops [⟨.assign (.const (.bool false)), some 6, none⟩]) (.seq (.ops [⟨.move (.tmp 1), some 7, none⟩, ⟨.move (.tmp 0), some 8, none⟩, ⟨.binOp .leq 3 (.tmp 7) (.tmp 8) 3, some 9, none⟩, ⟨.move (.tmp 9), some 10, none⟩, ⟨.move (.tmp 0), some 11, some (10, true)⟩, ⟨.move (.tmp 2), some 12, some (10, true)⟩, ⟨.binOp .leq 3 (.tmp 11) (.tmp 12) 3, some 13, some (10, true)⟩, ⟨.pick (.tmp 10) (.tmp 13) (.const (.bool false)), some 14, none⟩, ⟨.assign (.tmp 14), some 6, none⟩]) .ret)
theorem l52 : Tryz.f52.body.map lighten = some L52 := by kernel_rfl
theorem rs52 : Tryz.f52.results.toList = [ResultVar.tmp 6] := by kernel_rfl
theorem nt52 : Tryz.f52.ntmps = 15 := by kernel_rfl
theorem go52 {args : List AV} {s : AHeap} {R : AV → AHeap → Prop} (hl : args.length ≤ 15) (h : ∀ tm, tm.length = 15 → (∀ i, aev tm (.tmp i) = args.getD i aundef) → lvc Tryz.prog tab L52 (lpost tab [ResultVar.tmp 6] R) tm s) : ACall Tryz.prog 52 args s R := ACall.go tab_ok mixed Tryz.func52 l52 nm52 rs52 nt52 hl h
noncomputable def L38 : LCode := .seq (.ops [⟨.assign (.const (.int .i64 0)), some 4, none⟩]) (.seq (.seq (.ops [⟨.move (.tmp 1), some 7, none⟩, ⟨.call { callee := .builtin .len, args := { toList := [.tmp 7] }, argTypes := { toList := [27] } }, some 8, none⟩, ⟨.move (.const (.int .i64 0)), some 9, none⟩]) (.block 0 (.loop (.seq (.ops [⟨.binOp .lss 3 (.tmp 9) (.tmp 8) 3, some 10, none⟩]) (.seq (.cond (.tmp 10) .skip (.exit 0)) (.seq (.block 1 (.seq (.ops [⟨.indexAddr 27 (.tmp 7) (.tmp 9), some 11, none⟩, ⟨.load 37 (.tmp 11), some 12, none⟩, ⟨.alloc 37, some 6, none⟩, ⟨.store 37 (.tmp 6) (.tmp 12), none, none⟩]) (.ops [⟨.move (.tmp 0), some 13, none⟩, ⟨.fieldAddr 37 (.tmp 6) 2, some 14, none⟩, ⟨.load 9 (.tmp 14), some 15, none⟩, ⟨.call { callee := .builtin .len, args := { toList := [.tmp 15] }, argTypes := { toList := [9] } }, some 16, none⟩, ⟨.fieldAddr 37 (.tmp 6) 1, some 17, none⟩, ⟨.load 3 (.tmp 17), some 18, none⟩, ⟨.binOp .sub 3 (.tmp 16) (.tmp 18) 3, some 19, none⟩, ⟨.binOp .add 3 (.tmp 13) (.tmp 19) 3, some 20, none⟩, ⟨.assign (.tmp 20), some 0, none⟩]))) (.ops [⟨.binOp .add 3 (.tmp 9) (.const (.int .i64 1)) 3, some 21, none⟩, ⟨.move (.tmp 21), some 9, none⟩]))))))) (.seq (.ops [⟨.move (.tmp 0), some 22, none⟩, ⟨.assign (.tmp 22), some 4, none⟩]) .ret))
theorem l38 : Tryz.f38.body.map lighten = some L38 := by kernel_rfl
theorem rs38 : Tryz.f38.results.toList = [ResultVar.tmp 4] := by kernel_rfl
theorem nt38 : Tryz.f38.ntmps = 23 := by kernel_rfl
theorem go38 {args : List AV} {s : AHeap} {R : AV → AHeap → Prop} (hl : args.length ≤ 23) (h : ∀ tm, tm.length = 23 → (∀ i, aev tm (.tmp i) = args.getD i aundef) → lvc Tryz.prog tab L38 (lpost tab [ResultVar.tmp 4] R) tm s) : ACall Tryz.prog 38 args s R := ACall.go tab_ok mixed Tryz.func38 l38 nm38 rs38 nt38 hl h
noncomputable def L40 : LCode := .seq (.ops [⟨.assign (.const (.bool false)), some 6, none⟩]) (.seq (.ops [⟨.move (.tmp 0), some 7, none⟩, ⟨.move (.tmp 1), some 8, none⟩, ⟨.binOp .geq 3 (.tmp 7) (.tmp 8) 3, some 9, none⟩, ⟨.move (.tmp 9), some 10, none⟩, ⟨.move (.tmp 0), some 11, some (10, true)⟩, ⟨.move (.tmp 2), some 12, some (10, true)⟩, ⟨.binOp .leq 3 (.tmp 11) (.tmp 12) 3, some 13, some (10, true)⟩, ⟨.pick (.tmp 10) (.tmp 13) (.const (.bool false)), some 14, none⟩, ⟨.assign (.tmp 14), some 6, none⟩]) .ret)
theorem l40 : Tryz.f40.body.map lighten = some L40 := by kernel_rfl
theorem rs40 : Tryz.f40.results.toList = [ResultVar.tmp 6] := by kernel_rfl
theorem nt40 : Tryz.f40.ntmps = 15 := by kernel_rfl
theorem go40 {args : List AV} {s : AHeap} {R : AV → AHeap → Prop} (hl : args.length ≤ 15) (h : ∀ tm, tm.length = 15 → (∀ i, aev tm (.tmp i) = args.getD i aundef) → lvc Tryz.prog tab L40 (lpost tab [ResultVar.tmp 6] R) tm s) : ACall Tryz.prog 40 args s R := ACall.go tab_ok mixed Tryz.func40 l40 nm40 rs40 nt40 hl h
noncomputable def L53 : LCode := .seq (.ops [⟨.assign (.const (.int .i64 0)), some 4, none⟩, ⟨.assign (.const .nilIface), some 5, none⟩]) (.seq (.ops [⟨.move (.tmp 0), some 6, none⟩, ⟨.call { callee := .value (.func 77), args := { toList := [.tmp 6] }, argTypes := { toList := [104] } }, some 7, none⟩]) (.seq (.ops [⟨.move (.tmp 0), some 8, none⟩, ⟨.move (.tmp 0), some 9, none⟩, ⟨.nilCheck (.tmp 9), some 10, none⟩, ⟨.fieldAddr 107 (.tmp 10) 1, some 11, none⟩, ⟨.load 105 (.tmp 11), some 12, none⟩, ⟨.move (.tmp 1), some 13, none⟩, ⟨.call { callee := .builtin .append, args := { toList := [.tmp 12, .tmp 13] }, argTypes := { toList := [105, 9] } }, some 14, none⟩, ⟨.nilCheck (.tmp 8), some 15, none⟩, ⟨.fieldAddr 107 (.tmp 15) 1, some 16, none⟩, ⟨.store 105 (.tmp 16) (.tmp 14), none, none⟩]) (.seq (.ops [⟨.move (.tmp 1), some 17, none⟩, ⟨.call { callee := .builtin .len, args := { toList := [.tmp 17] }, argTypes := { toList := [9] } }, some 18, none⟩, ⟨.assign (.tmp 18), some 4, none⟩, ⟨.assign (.const .nilIface), some 5, none⟩]) .ret)))
theorem l53 : Tryz.f53.body.map lighten = some L53 := by kernel_rfl
theorem rs53 : Tryz.f53.results.toList = [ResultVar.tmp 4, ResultVar.tmp 5] := by kernel_rfl
theorem nt53 : Tryz.f53.ntmps = 19 := by kernel_rfl
theorem go53 {args : List AV} {s : AHeap} {R : AV → AHeap → Prop} (hl : args.length ≤ 19) (h : ∀ tm, tm.length = 19 → (∀ i, aev tm (.tmp i) = args.getD i aundef) → lvc Tryz.prog tab L53 (lpost tab [ResultVar.tmp 4, ResultVar.tmp 5] R) tm s) : ACall Tryz.prog 53 args s R := ACall.go tab_ok mixed Tryz.func53 l53 nm53 rs53 nt53 hl h
noncomputable def L71 : LCode := .seq (.ops [⟨.assign (.const (.int .i64 0)), some 4, none⟩]) (.seq (.seq (.ops [⟨.move (.tmp 1), some 5, none⟩, ⟨.binOp .lss 3 (.tmp 5) (.const (.int .i64 1)) 3, some 6, none⟩]) (.cond (.tmp 6) (.seq (.ops [⟨.assign (.const (.int .i64 0)), some 4, none⟩]) .ret) .skip)) (.seq (.ops [⟨.move (.tmp 0), some 7, none⟩, ⟨.move (.tmp 1), some 8, none⟩, ⟨.binOp .rem 3 (.tmp 7) (.tmp 8) 3, some 9, none⟩, ⟨.assign (.tmp 9), some 0, none⟩]) (.seq (.seq (.ops [⟨.move (.tmp 0), some 10, none⟩, ⟨.binOp .lss 3 (.tmp 10) (.const (.int .i64 0)) 3, some 11, none⟩]) (.cond (.tmp 11) (.ops [⟨.move (.tmp 0), some 12, none⟩, ⟨.move (.tmp 1), some 13, none⟩, ⟨.binOp .add 3 (.tmp 12) (.tmp 13) 3, some 14, none⟩, ⟨.assign (.tmp 14), some 0, none⟩]) .skip)) (.seq (.ops [⟨.move (.tmp 0), some 15, none⟩, ⟨.assign (.tmp 15), some 4, none⟩]) .ret))))
theorem l71 : Tryz.f71.body.map lighten = some L71 := by kernel_rfl
theorem rs71 : Tryz.f71.results.toList = [ResultVar.tmp 4] := by kernel_rfl
theorem nt71 : Tryz.f71.ntmps = 16 := by kernel_rfl
theorem go71 {args : List AV} {s : AHeap} {R : AV → AHeap → Prop} (hl : args.length ≤ 16) (h : ∀ tm, tm.length = 16 → (∀ i, aev tm (.tmp i) = args.getD i aundef) → lvc Tryz.prog tab L71 (lpost tab [ResultVar.tmp 4] R) tm s) : ACall Tryz.prog 71 args s R := ACall.go tab_ok mixed Tryz.func71 l71 nm71 rs71 nt71 hl h
end Go.S1
end
