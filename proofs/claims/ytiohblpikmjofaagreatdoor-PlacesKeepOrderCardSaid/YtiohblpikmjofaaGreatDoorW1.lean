/- Part 1 of a proof: texts of this work, put together. -/
import Derived.Test.YtiohblpikmjofaaGreatDoorAm6
import Derived.Test.YtiohblpikmjofaaGreatDoorProg
import Derived.KernelRfl
section
set_option linter.unusedVariables false
set_option linter.unusedSimpArgs false
namespace Go.S1
open Go Go.Am Go.Proofs
set_option maxRecDepth 100000
noncomputable def ti1 : TI := { td := .func, size := 1, bytes := 8, zero := .nilFunc, eqok := false }
noncomputable def ti2 : TI := { td := .int .i64, size := 1, bytes := 8, zero := .int .i64 0, eqok := false }
noncomputable def ti3 : TI := { td := .int .i64, size := 1, bytes := 8, zero := .int .i64 0, eqok := false }
noncomputable def ti4 : TI := { td := .bool, size := 1, bytes := 1, zero := .bool false, eqok := false }
noncomputable def ti5 : TI := { td := .int .u8, size := 1, bytes := 1, zero := .int .u8 0, eqok := false }
noncomputable def ti6 : TI := { td := .int .u8, size := 1, bytes := 1, zero := .int .u8 0, eqok := false }
noncomputable def ti7 : TI := { td := .struct [(2, 0, true), (3, 1, true), (4, 2, true), (6, 3, true)], size := 4, bytes := 24, zero := .agg #[.int .i64 0, .int .i64 0, .bool false, .int .u8 0], eqok := false }
noncomputable def ti8 : TI := { td := .struct [(2, 0, true), (3, 1, true), (4, 2, true), (6, 3, true)], size := 4, bytes := 24, zero := .agg #[.int .i64 0, .int .i64 0, .bool false, .int .u8 0], eqok := false }
noncomputable def ti9 : TI := { td := .str, size := 1, bytes := 16, zero := .string ⟨#[]⟩, eqok := false }
noncomputable def ti10 : TI := { td := .str, size := 1, bytes := 16, zero := .string ⟨#[]⟩, eqok := false }
noncomputable def ti11 : TI := { td := .str, size := 1, bytes := 16, zero := .string ⟨#[]⟩, eqok := false }
noncomputable def ti12 : TI := { td := .int .u64, size := 1, bytes := 8, zero := .int .u64 0, eqok := false }
noncomputable def ti13 : TI := { td := .struct [(9, 0, true), (12, 1, true)], size := 2, bytes := 24, zero := .agg #[.string ⟨#[]⟩, .int .u64 0], eqok := false }
noncomputable def ti14 : TI := { td := .struct [(9, 0, true), (12, 1, true)], size := 2, bytes := 24, zero := .agg #[.string ⟨#[]⟩, .int .u64 0], eqok := false }
noncomputable def ti15 : TI := { td := .ptr 605, size := 1, bytes := 8, zero := .pointer none, eqok := false }
noncomputable def ti16 : TI := { td := .ptr 608, size := 1, bytes := 8, zero := .pointer none, eqok := false }
noncomputable def ti17 : TI := { td := .ptr 615, size := 1, bytes := 8, zero := .pointer none, eqok := false }
noncomputable def ti18 : TI := { td := .struct [(17, 0, true)], size := 1, bytes := 8, zero := .agg #[.pointer none], eqok := false }
noncomputable def ti19 : TI := { td := .struct [(17, 0, true)], size := 1, bytes := 8, zero := .agg #[.pointer none], eqok := false }
noncomputable def ti21 : TI := { td := .int .i32, size := 1, bytes := 4, zero := .int .i32 0, eqok := false }
noncomputable def ti22 : TI := { td := .slice 3, size := 1, bytes := 24, zero := .slice none 0 0, eqok := false }
noncomputable def ti23 : TI := { td := .ptr 25, size := 1, bytes := 8, zero := .pointer none, eqok := false }
noncomputable def ti24 : TI := { td := .struct [(22, 0, true), (3, 1, true)], size := 2, bytes := 32, zero := .agg #[.slice none 0 0, .int .i64 0], eqok := false }
noncomputable def ti25 : TI := { td := .struct [(22, 0, true), (3, 1, true)], size := 2, bytes := 32, zero := .agg #[.slice none 0 0, .int .i64 0], eqok := false }
noncomputable def ti26 : TI := { td := .func, size := 1, bytes := 8, zero := .nilFunc, eqok := false }
noncomputable def ti27 : TI := { td := .slice 37, size := 1, bytes := 24, zero := .slice none 0 0, eqok := false }
noncomputable def ti28 : TI := { td := .func, size := 1, bytes := 8, zero := .nilFunc, eqok := false }
noncomputable def ti29 : TI := { td := .int .i64, size := 1, bytes := 8, zero := .int .i64 0, eqok := false }
noncomputable def ti31 : TI := { td := .func, size := 1, bytes := 8, zero := .nilFunc, eqok := false }
noncomputable def ti33 : TI := { td := .func, size := 1, bytes := 8, zero := .nilFunc, eqok := false }
noncomputable def ti34 : TI := { td := .func, size := 1, bytes := 8, zero := .nilFunc, eqok := false }
noncomputable def ti35 : TI := { td := .func, size := 1, bytes := 8, zero := .nilFunc, eqok := false }
noncomputable def ti36 : TI := { td := .struct [(3, 0, true), (3, 1, true), (9, 2, true)], size := 3, bytes := 32, zero := .agg #[.int .i64 0, .int .i64 0, .string ⟨#[]⟩], eqok := false }
noncomputable def ti37 : TI := { td := .struct [(3, 0, true), (3, 1, true), (9, 2, true)], size := 3, bytes := 32, zero := .agg #[.int .i64 0, .int .i64 0, .string ⟨#[]⟩], eqok := true }
noncomputable def ti38 : TI := { td := .func, size := 1, bytes := 8, zero := .nilFunc, eqok := false }
noncomputable def ti39 : TI := { td := .func, size := 1, bytes := 8, zero := .nilFunc, eqok := false }
noncomputable def ti41 : TI := { td := .func, size := 1, bytes := 8, zero := .nilFunc, eqok := false }
noncomputable def ti42 : TI := { td := .func, size := 1, bytes := 8, zero := .nilFunc, eqok := false }
noncomputable def ti43 : TI := { td := .func, size := 1, bytes := 8, zero := .nilFunc, eqok := false }
noncomputable def ti44 : TI := { td := .slice 27, size := 1, bytes := 24, zero := .slice none 0 0, eqok := false }
noncomputable def ti45 : TI := { td := .func, size := 1, bytes := 8, zero := .nilFunc, eqok := false }
noncomputable def ti46 : TI := { td := .func, size := 1, bytes := 8, zero := .nilFunc, eqok := false }
noncomputable def ti48 : TI := { td := .func, size := 1, bytes := 8, zero := .nilFunc, eqok := false }
noncomputable def ti49 : TI := { td := .func, size := 1, bytes := 8, zero := .nilFunc, eqok := false }
noncomputable def ti51 : TI := { td := .func, size := 1, bytes := 8, zero := .nilFunc, eqok := false }
noncomputable def ti52 : TI := { td := .func, size := 1, bytes := 8, zero := .nilFunc, eqok := false }
noncomputable def ti53 : TI := { td := .func, size := 1, bytes := 8, zero := .nilFunc, eqok := false }
noncomputable def ti54 : TI := { td := .func, size := 1, bytes := 8, zero := .nilFunc, eqok := false }
noncomputable def ti55 : TI := { td := .func, size := 1, bytes := 8, zero := .nilFunc, eqok := false }
noncomputable def ti56 : TI := { td := .func, size := 1, bytes := 8, zero := .nilFunc, eqok := false }
noncomputable def ti57 : TI := { td := .func, size := 1, bytes := 8, zero := .nilFunc, eqok := false }
noncomputable def ti58 : TI := { td := .slice 29, size := 1, bytes := 24, zero := .slice none 0 0, eqok := false }
noncomputable def ti59 : TI := { td := .slice 70, size := 1, bytes := 24, zero := .slice none 0 0, eqok := false }
noncomputable def ti61 : TI := { td := .func, size := 1, bytes := 8, zero := .nilFunc, eqok := false }
noncomputable def ti62 : TI := { td := .slice 64, size := 1, bytes := 24, zero := .slice none 0 0, eqok := false }
noncomputable def ti63 : TI := { td := .struct [(3, 0, true), (3, 1, true), (3, 2, true), (62, 3, true)], size := 4, bytes := 48, zero := .agg #[.int .i64 0, .int .i64 0, .int .i64 0, .slice none 0 0], eqok := false }
noncomputable def ti64 : TI := { td := .struct [(3, 0, true), (3, 1, true), (3, 2, true), (62, 3, true)], size := 4, bytes := 48, zero := .agg #[.int .i64 0, .int .i64 0, .int .i64 0, .slice none 0 0], eqok := false }
noncomputable def ti65 : TI := { td := .struct [(9, 0, true), (64, 1, true)], size := 5, bytes := 64, zero := .agg #[.string ⟨#[]⟩, .int .i64 0, .int .i64 0, .int .i64 0, .slice none 0 0], eqok := false }
noncomputable def ti66 : TI := { td := .struct [(9, 0, true), (64, 1, true)], size := 5, bytes := 64, zero := .agg #[.string ⟨#[]⟩, .int .i64 0, .int .i64 0, .int .i64 0, .slice none 0 0], eqok := false }
noncomputable def ti67 : TI := { td := .slice 66, size := 1, bytes := 24, zero := .slice none 0 0, eqok := false }
noncomputable def ti68 : TI := { td := .func, size := 1, bytes := 8, zero := .nilFunc, eqok := false }
noncomputable def ti69 : TI := { td := .struct [(9, 0, true), (9, 1, true), (9, 2, true)], size := 3, bytes := 48, zero := .agg #[.string ⟨#[]⟩, .string ⟨#[]⟩, .string ⟨#[]⟩], eqok := false }
noncomputable def ti70 : TI := { td := .struct [(9, 0, true), (9, 1, true), (9, 2, true)], size := 3, bytes := 48, zero := .agg #[.string ⟨#[]⟩, .string ⟨#[]⟩, .string ⟨#[]⟩], eqok := true }
noncomputable def ti71 : TI := { td := .slice 73, size := 1, bytes := 24, zero := .slice none 0 0, eqok := false }
noncomputable def ti72 : TI := { td := .struct [(3, 0, true), (70, 1, true), (71, 4, true)], size := 5, bytes := 80, zero := .agg #[.int .i64 0, .string ⟨#[]⟩, .string ⟨#[]⟩, .string ⟨#[]⟩, .slice none 0 0], eqok := false }
noncomputable def ti73 : TI := { td := .struct [(3, 0, true), (70, 1, true), (71, 4, true)], size := 5, bytes := 80, zero := .agg #[.int .i64 0, .string ⟨#[]⟩, .string ⟨#[]⟩, .string ⟨#[]⟩, .slice none 0 0], eqok := false }
noncomputable def ti74 : TI := { td := .func, size := 1, bytes := 8, zero := .nilFunc, eqok := false }
noncomputable def ti75 : TI := { td := .slice 9, size := 1, bytes := 24, zero := .slice none 0 0, eqok := false }
noncomputable def ti76 : TI := { td := .struct [(9, 0, true), (75, 1, true), (3, 2, true)], size := 3, bytes := 48, zero := .agg #[.string ⟨#[]⟩, .slice none 0 0, .int .i64 0], eqok := false }
noncomputable def ti77 : TI := { td := .struct [(9, 0, true), (75, 1, true), (3, 2, true)], size := 3, bytes := 48, zero := .agg #[.string ⟨#[]⟩, .slice none 0 0, .int .i64 0], eqok := false }
noncomputable def ti78 : TI := { td := .slice 77, size := 1, bytes := 24, zero := .slice none 0 0, eqok := false }
noncomputable def ti79 : TI := { td := .struct [(75, 0, true), (9, 1, true), (78, 2, true)], size := 3, bytes := 64, zero := .agg #[.slice none 0 0, .string ⟨#[]⟩, .slice none 0 0], eqok := false }
noncomputable def ti80 : TI := { td := .struct [(75, 0, true), (9, 1, true), (78, 2, true)], size := 3, bytes := 64, zero := .agg #[.slice none 0 0, .string ⟨#[]⟩, .slice none 0 0], eqok := false }
noncomputable def ti81 : TI := { td := .slice 83, size := 1, bytes := 24, zero := .slice none 0 0, eqok := false }
noncomputable def ti82 : TI := { td := .struct [(3, 0, true), (9, 1, true), (9, 2, true), (9, 3, true), (9, 4, true), (3, 5, true), (81, 6, true)], size := 7, bytes := 104, zero := .agg #[.int .i64 0, .string ⟨#[]⟩, .string ⟨#[]⟩, .string ⟨#[]⟩, .string ⟨#[]⟩, .int .i64 0, .slice none 0 0], eqok := false }
noncomputable def ti83 : TI := { td := .struct [(3, 0, true), (9, 1, true), (9, 2, true), (9, 3, true), (9, 4, true), (3, 5, true), (81, 6, true)], size := 7, bytes := 104, zero := .agg #[.int .i64 0, .string ⟨#[]⟩, .string ⟨#[]⟩, .string ⟨#[]⟩, .string ⟨#[]⟩, .int .i64 0, .slice none 0 0], eqok := false }
noncomputable def ti84 : TI := { td := .func, size := 1, bytes := 8, zero := .nilFunc, eqok := false }
noncomputable def ti85 : TI := { td := .func, size := 1, bytes := 8, zero := .nilFunc, eqok := false }
noncomputable def ti86 : TI := { td := .func, size := 1, bytes := 8, zero := .nilFunc, eqok := false }
noncomputable def ti87 : TI := { td := .func, size := 1, bytes := 8, zero := .nilFunc, eqok := false }
noncomputable def ti88 : TI := { td := .func, size := 1, bytes := 8, zero := .nilFunc, eqok := false }
noncomputable def ti89 : TI := { td := .slice 98, size := 1, bytes := 24, zero := .slice none 0 0, eqok := false }
noncomputable def ti90 : TI := { td := .struct [(89, 0, true), (89, 1, true), (89, 2, true), (3, 3, true)], size := 4, bytes := 80, zero := .agg #[.slice none 0 0, .slice none 0 0, .slice none 0 0, .int .i64 0], eqok := false }
noncomputable def ti91 : TI := { td := .struct [(89, 0, true), (89, 1, true), (89, 2, true), (3, 3, true)], size := 4, bytes := 80, zero := .agg #[.slice none 0 0, .slice none 0 0, .slice none 0 0, .int .i64 0], eqok := false }
noncomputable def ti92 : TI := { td := .func, size := 1, bytes := 8, zero := .nilFunc, eqok := false }
noncomputable def ti93 : TI := { td := .func, size := 1, bytes := 8, zero := .nilFunc, eqok := false }
noncomputable def ti94 : TI := { td := .slice 22, size := 1, bytes := 24, zero := .slice none 0 0, eqok := false }
noncomputable def ti95 : TI := { td := .func, size := 1, bytes := 8, zero := .nilFunc, eqok := false }
noncomputable def ti96 : TI := { td := .func, size := 1, bytes := 8, zero := .nilFunc, eqok := false }
noncomputable def ti97 : TI := { td := .struct [(3, 0, true), (3, 1, true), (9, 2, true)], size := 3, bytes := 32, zero := .agg #[.int .i64 0, .int .i64 0, .string ⟨#[]⟩], eqok := false }
noncomputable def ti98 : TI := { td := .struct [(3, 0, true), (3, 1, true), (9, 2, true)], size := 3, bytes := 32, zero := .agg #[.int .i64 0, .int .i64 0, .string ⟨#[]⟩], eqok := false }
noncomputable def ti99 : TI := { td := .func, size := 1, bytes := 8, zero := .nilFunc, eqok := false }
noncomputable def ti100 : TI := { td := .func, size := 1, bytes := 8, zero := .nilFunc, eqok := false }
noncomputable def ti101 : TI := { td := .func, size := 1, bytes := 8, zero := .nilFunc, eqok := false }
noncomputable def ti102 : TI := { td := .func, size := 1, bytes := 8, zero := .nilFunc, eqok := false }
noncomputable def ti103 : TI := { td := .func, size := 1, bytes := 8, zero := .nilFunc, eqok := false }
noncomputable def ti104 : TI := { td := .ptr 107, size := 1, bytes := 8, zero := .pointer none, eqok := false }
noncomputable def ti105 : TI := { td := .slice 5, size := 1, bytes := 24, zero := .slice none 0 0, eqok := false }
noncomputable def ti106 : TI := { td := .struct [(104, 0, true), (105, 1, true)], size := 2, bytes := 32, zero := .agg #[.pointer none, .slice none 0 0], eqok := false }
noncomputable def ti107 : TI := { td := .struct [(104, 0, true), (105, 1, true)], size := 2, bytes := 32, zero := .agg #[.pointer none, .slice none 0 0], eqok := false }
noncomputable def ti111 : TI := { td := .func, size := 1, bytes := 8, zero := .nilFunc, eqok := false }
noncomputable def ti112 : TI := { td := .func, size := 1, bytes := 8, zero := .nilFunc, eqok := false }
noncomputable def ti113 : TI := { td := .ptr 186, size := 1, bytes := 8, zero := .pointer none, eqok := false }
noncomputable def ti115 : TI := { td := .func, size := 1, bytes := 8, zero := .nilFunc, eqok := false }
noncomputable def ti116 : TI := { td := .slice 150, size := 1, bytes := 24, zero := .slice none 0 0, eqok := false }
noncomputable def ti117 : TI := { td := .struct [(116, 0, true), (59, 1, true), (22, 2, true), (22, 3, true), (9, 4, true)], size := 5, bytes := 112, zero := .agg #[.slice none 0 0, .slice none 0 0, .slice none 0 0, .slice none 0 0, .string ⟨#[]⟩], eqok := false }
noncomputable def ti118 : TI := { td := .struct [(116, 0, true), (59, 1, true), (22, 2, true), (22, 3, true), (9, 4, true)], size := 5, bytes := 112, zero := .agg #[.slice none 0 0, .slice none 0 0, .slice none 0 0, .slice none 0 0, .string ⟨#[]⟩], eqok := false }
noncomputable def ti120 : TI := { td := .func, size := 1, bytes := 8, zero := .nilFunc, eqok := false }
noncomputable def ti121 : TI := { td := .func, size := 1, bytes := 8, zero := .nilFunc, eqok := false }
noncomputable def ti122 : TI := { td := .func, size := 1, bytes := 8, zero := .nilFunc, eqok := false }
noncomputable def ti123 : TI := { td := .func, size := 1, bytes := 8, zero := .nilFunc, eqok := false }
noncomputable def ti124 : TI := { td := .func, size := 1, bytes := 8, zero := .nilFunc, eqok := false }
noncomputable def ti125 : TI := { td := .func, size := 1, bytes := 8, zero := .nilFunc, eqok := false }
noncomputable def ti126 : TI := { td := .ptr 162, size := 1, bytes := 8, zero := .pointer none, eqok := false }
noncomputable def ti127 : TI := { td := .func, size := 1, bytes := 8, zero := .nilFunc, eqok := false }
noncomputable def ti128 : TI := { td := .func, size := 1, bytes := 8, zero := .nilFunc, eqok := false }
noncomputable def ti129 : TI := { td := .func, size := 1, bytes := 8, zero := .nilFunc, eqok := false }
noncomputable def ti130 : TI := { td := .ptr 135, size := 1, bytes := 8, zero := .pointer none, eqok := false }
noncomputable def ti131 : TI := { td := .func, size := 1, bytes := 8, zero := .nilFunc, eqok := false }
noncomputable def ti132 : TI := { td := .func, size := 1, bytes := 8, zero := .nilFunc, eqok := false }
noncomputable def ti133 : TI := { td := .func, size := 1, bytes := 8, zero := .nilFunc, eqok := false }
noncomputable def ti134 : TI := { td := .struct [(89, 0, true), (89, 1, true)], size := 2, bytes := 48, zero := .agg #[.slice none 0 0, .slice none 0 0], eqok := false }
noncomputable def ti135 : TI := { td := .struct [(89, 0, true), (89, 1, true)], size := 2, bytes := 48, zero := .agg #[.slice none 0 0, .slice none 0 0], eqok := false }
noncomputable def ti136 : TI := { td := .func, size := 1, bytes := 8, zero := .nilFunc, eqok := false }
noncomputable def ti137 : TI := { td := .func, size := 1, bytes := 8, zero := .nilFunc, eqok := false }
noncomputable def ti139 : TI := { td := .func, size := 1, bytes := 8, zero := .nilFunc, eqok := false }
noncomputable def ti140 : TI := { td := .func, size := 1, bytes := 8, zero := .nilFunc, eqok := false }
noncomputable def ti141 : TI := { td := .func, size := 1, bytes := 8, zero := .nilFunc, eqok := false }
noncomputable def ti142 : TI := { td := .ptr 5, size := 1, bytes := 8, zero := .pointer none, eqok := false }
noncomputable def ti143 : TI := { td := .func, size := 1, bytes := 8, zero := .nilFunc, eqok := false }
noncomputable def ti144 : TI := { td := .ptr 3, size := 1, bytes := 8, zero := .pointer none, eqok := false }
noncomputable def ti145 : TI := { td := .func, size := 1, bytes := 8, zero := .nilFunc, eqok := false }
noncomputable def ti146 : TI := { td := .func, size := 1, bytes := 8, zero := .nilFunc, eqok := false }
noncomputable def ti148 : TI := { td := .func, size := 1, bytes := 8, zero := .nilFunc, eqok := false }
noncomputable def ti149 : TI := { td := .struct [(3, 0, true), (3, 1, true), (3, 2, true), (3, 3, true)], size := 4, bytes := 32, zero := .agg #[.int .i64 0, .int .i64 0, .int .i64 0, .int .i64 0], eqok := false }
noncomputable def ti150 : TI := { td := .struct [(3, 0, true), (3, 1, true), (3, 2, true), (3, 3, true)], size := 4, bytes := 32, zero := .agg #[.int .i64 0, .int .i64 0, .int .i64 0, .int .i64 0], eqok := false }
noncomputable def ti151 : TI := { td := .struct [(3, 0, true), (3, 1, true)], size := 2, bytes := 16, zero := .agg #[.int .i64 0, .int .i64 0], eqok := false }
noncomputable def ti152 : TI := { td := .struct [(3, 0, true), (3, 1, true)], size := 2, bytes := 16, zero := .agg #[.int .i64 0, .int .i64 0], eqok := false }
noncomputable def ti153 : TI := { td := .func, size := 1, bytes := 8, zero := .nilFunc, eqok := false }
noncomputable def ti154 : TI := { td := .func, size := 1, bytes := 8, zero := .nilFunc, eqok := false }
noncomputable def ti155 : TI := { td := .func, size := 1, bytes := 8, zero := .nilFunc, eqok := false }
noncomputable def ti156 : TI := { td := .func, size := 1, bytes := 8, zero := .nilFunc, eqok := false }
noncomputable def ti157 : TI := { td := .func, size := 1, bytes := 8, zero := .nilFunc, eqok := false }
noncomputable def ti158 : TI := { td := .func, size := 1, bytes := 8, zero := .nilFunc, eqok := false }
noncomputable def ti159 : TI := { td := .slice 248, size := 1, bytes := 24, zero := .slice none 0 0, eqok := false }
noncomputable def ti160 : TI := { td := .ptr 80, size := 1, bytes := 8, zero := .pointer none, eqok := false }
noncomputable def ti161 : TI := { td := .struct [(159, 0, true), (3, 1, true), (75, 2, true), (160, 3, true), (67, 4, true)], size := 5, bytes := 88, zero := .agg #[.slice none 0 0, .int .i64 0, .slice none 0 0, .pointer none, .slice none 0 0], eqok := false }
noncomputable def ti162 : TI := { td := .struct [(159, 0, true), (3, 1, true), (75, 2, true), (160, 3, true), (67, 4, true)], size := 5, bytes := 88, zero := .agg #[.slice none 0 0, .int .i64 0, .slice none 0 0, .pointer none, .slice none 0 0], eqok := false }
noncomputable def ti163 : TI := { td := .func, size := 1, bytes := 8, zero := .nilFunc, eqok := false }
noncomputable def ti164 : TI := { td := .func, size := 1, bytes := 8, zero := .nilFunc, eqok := false }
noncomputable def ti165 : TI := { td := .func, size := 1, bytes := 8, zero := .nilFunc, eqok := false }
noncomputable def ti166 : TI := { td := .func, size := 1, bytes := 8, zero := .nilFunc, eqok := false }
noncomputable def ti167 : TI := { td := .func, size := 1, bytes := 8, zero := .nilFunc, eqok := false }
noncomputable def ti168 : TI := { td := .func, size := 1, bytes := 8, zero := .nilFunc, eqok := false }
noncomputable def ti170 : TI := { td := .func, size := 1, bytes := 8, zero := .nilFunc, eqok := false }
noncomputable def ti171 : TI := { td := .func, size := 1, bytes := 8, zero := .nilFunc, eqok := false }
noncomputable def ti173 : TI := { td := .func, size := 1, bytes := 8, zero := .nilFunc, eqok := false }
noncomputable def ti174 : TI := { td := .func, size := 1, bytes := 8, zero := .nilFunc, eqok := false }
noncomputable def ti175 : TI := { td := .func, size := 1, bytes := 8, zero := .nilFunc, eqok := false }
noncomputable def ti176 : TI := { td := .func, size := 1, bytes := 8, zero := .nilFunc, eqok := false }
noncomputable def ti177 : TI := { td := .ptr 219, size := 1, bytes := 8, zero := .pointer none, eqok := false }
noncomputable def ti178 : TI := { td := .func, size := 1, bytes := 8, zero := .nilFunc, eqok := false }
noncomputable def ti179 : TI := { td := .map 9 3, size := 1, bytes := 8, zero := .map none, eqok := false }
noncomputable def ti180 : TI := { td := .slice 182, size := 1, bytes := 24, zero := .slice none 0 0, eqok := false }
noncomputable def ti181 : TI := { td := .slice 221, size := 1, bytes := 24, zero := .slice none 0 0, eqok := false }
noncomputable def ti182 : TI := { td := .slice 221, size := 1, bytes := 24, zero := .slice none 0 0, eqok := false }
noncomputable def ti183 : TI := { td := .arr 256 3, size := 256, bytes := 2048, zero := .agg #[.int .i64 0, .int .i64 0, .int .i64 0, .int .i64 0, .int .i64 0, .int .i64 0, .int .i64 0, .int .i64 0, .int .i64 0, .int .i64 0, .int .i64 0, .int .i64 0, .int .i64 0, .int .i64 0, .int .i64 0, .int .i64 0, .int .i64 0, .int .i64 0, .int .i64 0, .int .i64 0, .int .i64 0, .int .i64 0, .int .i64 0, .int .i64 0, .int .i64 0, .int .i64 0, .int .i64 0, .int .i64 0, .int .i64 0, .int .i64 0, .int .i64 0, .int .i64 0, .int .i64 0, .int .i64 0, .int .i64 0, .int .i64 0, .int .i64 0, .int .i64 0, .int .i64 0, .int .i64 0, .int .i64 0, .int .i64 0, .int .i64 0, .int .i64 0, .int .i64 0, .int .i64 0, .int .i64 0, .int .i64 0, .int .i64 0, .int .i64 0, .int .i64 0, .int .i64 0, .int .i64 0, .int .i64 0, .int .i64 0, .int .i64 0, .int .i64 0, .int .i64 0, .int .i64 0, .int .i64 0, .int .i64 0, .int .i64 0, .int .i64 0, .int .i64 0, .int .i64 0, .int .i64 0, .int .i64 0, .int .i64 0, .int .i64 0, .int .i64 0, .int .i64 0, .int .i64 0, .int .i64 0, .int .i64 0, .int .i64 0, .int .i64 0, .int .i64 0, .int .i64 0, .int .i64 0, .int .i64 0, .int .i64 0, .int .i64 0, .int .i64 0, .int .i64 0, .int .i64 0, .int .i64 0, .int .i64 0, .int .i64 0, .int .i64 0, .int .i64 0, .int .i64 0, .int .i64 0, .int .i64 0, .int .i64 0, .int .i64 0, .int .i64 0, .int .i64 0, .int .i64 0, .int .i64 0, .int .i64 0, .int .i64 0, .int .i64 0, .int .i64 0, .int .i64 0, .int .i64 0, .int .i64 0, .int .i64 0, .int .i64 0, .int .i64 0, .int .i64 0, .int .i64 0, .int .i64 0, .int .i64 0, .int .i64 0, .int .i64 0, .int .i64 0, .int .i64 0, .int .i64 0, .int .i64 0, .int .i64 0, .int .i64 0, .int .i64 0, .int .i64 0, .int .i64 0, .int .i64 0, .int .i64 0, .int .i64 0, .int .i64 0, .int .i64 0, .int .i64 0, .int .i64 0, .int .i64 0, .int .i64 0, .int .i64 0, .int .i64 0, .int .i64 0, .int .i64 0, .int .i64 0, .int .i64 0, .int .i64 0, .int .i64 0, .int .i64 0, .int .i64 0, .int .i64 0, .int .i64 0, .int .i64 0, .int .i64 0, .int .i64 0, .int .i64 0, .int .i64 0, .int .i64 0, .int .i64 0, .int .i64 0, .int .i64 0, .int .i64 0, .int .i64 0, .int .i64 0, .int .i64 0, .int .i64 0, .int .i64 0, .int .i64 0, .int .i64 0, .int .i64 0, .int .i64 0, .int .i64 0, .int .i64 0, .int .i64 0, .int .i64 0, .int .i64 0, .int .i64 0, .int .i64 0, .int .i64 0, .int .i64 0, .int .i64 0, .int .i64 0, .int .i64 0, .int .i64 0, .int .i64 0, .int .i64 0, .int .i64 0, .int .i64 0, .int .i64 0, .int .i64 0, .int .i64 0, .int .i64 0, .int .i64 0, .int .i64 0, .int .i64 0, .int .i64 0, .int .i64 0, .int .i64 0, .int .i64 0, .int .i64 0, .int .i64 0, .int .i64 0, .int .i64 0, .int .i64 0, .int .i64 0, .int .i64 0, .int .i64 0, .int .i64 0, .int .i64 0, .int .i64 0, .int .i64 0, .int .i64 0, .int .i64 0, .int .i64 0, .int .i64 0, .int .i64 0, .int .i64 0, .int .i64 0, .int .i64 0, .int .i64 0, .int .i64 0, .int .i64 0, .int .i64 0, .int .i64 0, .int .i64 0, .int .i64 0, .int .i64 0, .int .i64 0, .int .i64 0, .int .i64 0, .int .i64 0, .int .i64 0, .int .i64 0, .int .i64 0, .int .i64 0, .int .i64 0, .int .i64 0, .int .i64 0, .int .i64 0, .int .i64 0, .int .i64 0, .int .i64 0, .int .i64 0, .int .i64 0, .int .i64 0, .int .i64 0, .int .i64 0, .int .i64 0, .int .i64 0, .int .i64 0, .int .i64 0, .int .i64 0, .int .i64 0, .int .i64 0, .int .i64 0, .int .i64 0, .int .i64 0, .int .i64 0, .int .i64 0, .int .i64 0, .int .i64 0, .int .i64 0, .int .i64 0], eqok := false }
noncomputable def ti184 : TI := { td := .slice 193, size := 1, bytes := 24, zero := .slice none 0 0, eqok := false }
noncomputable def ti185 : TI := { td := .struct [(177, 0, true), (180, 1, true), (182, 2, true), (183, 3, true), (105, 259, true), (180, 260, true), (184, 261, true), (179, 262, true)], size := 263, bytes := 2184, zero := .agg #[.pointer none, .slice none 0 0, .slice none 0 0, .int .i64 0, .int .i64 0, .int .i64 0, .int .i64 0, .int .i64 0, .int .i64 0, .int .i64 0, .int .i64 0, .int .i64 0, .int .i64 0, .int .i64 0, .int .i64 0, .int .i64 0, .int .i64 0, .int .i64 0, .int .i64 0, .int .i64 0, .int .i64 0, .int .i64 0, .int .i64 0, .int .i64 0, .int .i64 0, .int .i64 0, .int .i64 0, .int .i64 0, .int .i64 0, .int .i64 0, .int .i64 0, .int .i64 0, .int .i64 0, .int .i64 0, .int .i64 0, .int .i64 0, .int .i64 0, .int .i64 0, .int .i64 0, .int .i64 0, .int .i64 0, .int .i64 0, .int .i64 0, .int .i64 0, .int .i64 0, .int .i64 0, .int .i64 0, .int .i64 0, .int .i64 0, .int .i64 0, .int .i64 0, .int .i64 0, .int .i64 0, .int .i64 0, .int .i64 0, .int .i64 0, .int .i64 0, .int .i64 0, .int .i64 0, .int .i64 0, .int .i64 0, .int .i64 0, .int .i64 0, .int .i64 0, .int .i64 0, .int .i64 0, .int .i64 0, .int .i64 0, .int .i64 0, .int .i64 0, .int .i64 0, .int .i64 0, .int .i64 0, .int .i64 0, .int .i64 0, .int .i64 0, .int .i64 0, .int .i64 0, .int .i64 0, .int .i64 0, .int .i64 0, .int .i64 0, .int .i64 0, .int .i64 0, .int .i64 0, .int .i64 0, .int .i64 0, .int .i64 0, .int .i64 0, .int .i64 0, .int .i64 0, .int .i64 0, .int .i64 0, .int .i64 0, .int .i64 0, .int .i64 0, .int .i64 0, .int .i64 0, .int .i64 0, .int .i64 0, .int .i64 0, .int .i64 0, .int .i64 0, .int .i64 0, .int .i64 0, .int .i64 0, .int .i64 0, .int .i64 0, .int .i64 0, .int .i64 0, .int .i64 0, .int .i64 0, .int .i64 0, .int .i64 0, .int .i64 0, .int .i64 0, .int .i64 0, .int .i64 0, .int .i64 0, .int .i64 0, .int .i64 0, .int .i64 0, .int .i64 0, .int .i64 0, .int .i64 0, .int .i64 0, .int .i64 0, .int .i64 0, .int .i64 0, .int .i64 0, .int .i64 0, .int .i64 0, .int .i64 0, .int .i64 0, .int .i64 0, .int .i64 0, .int .i64 0, .int .i64 0, .int .i64 0, .int .i64 0, .int .i64 0, .int .i64 0, .int .i64 0, .int .i64 0, .int .i64 0, .int .i64 0, .int .i64 0, .int .i64 0, .int .i64 0, .int .i64 0, .int .i64 0, .int .i64 0, .int .i64 0, .int .i64 0, .int .i64 0, .int .i64 0, .int .i64 0, .int .i64 0, .int .i64 0, .int .i64 0, .int .i64 0, .int .i64 0, .int .i64 0, .int .i64 0, .int .i64 0, .int .i64 0, .int .i64 0, .int .i64 0, .int .i64 0, .int .i64 0, .int .i64 0, .int .i64 0, .int .i64 0, .int .i64 0, .int .i64 0, .int .i64 0, .int .i64 0, .int .i64 0, .int .i64 0, .int .i64 0, .int .i64 0, .int .i64 0, .int .i64 0, .int .i64 0, .int .i64 0, .int .i64 0, .int .i64 0, .int .i64 0, .int .i64 0, .int .i64 0, .int .i64 0, .int .i64 0, .int .i64 0, .int .i64 0, .int .i64 0, .int .i64 0, .int .i64 0, .int .i64 0, .int .i64 0, .int .i64 0, .int .i64 0, .int .i64 0, .int .i64 0, .int .i64 0, .int .i64 0, .int .i64 0, .int .i64 0, .int .i64 0, .int .i64 0, .int .i64 0, .int .i64 0, .int .i64 0, .int .i64 0, .int .i64 0, .int .i64 0, .int .i64 0, .int .i64 0, .int .i64 0, .int .i64 0, .int .i64 0, .int .i64 0, .int .i64 0, .int .i64 0, .int .i64 0, .int .i64 0, .int .i64 0, .int .i64 0, .int .i64 0, .int .i64 0, .int .i64 0, .int .i64 0, .int .i64 0, .int .i64 0, .int .i64 0, .int .i64 0, .int .i64 0, .int .i64 0, .int .i64 0, .int .i64 0, .int .i64 0, .int .i64 0, .int .i64 0, .int .i64 0, .int .i64 0, .int .i64 0, .int .i64 0, .int .i64 0, .int .i64 0, .int .i64 0, .int .i64 0, .int .i64 0, .int .i64 0, .int .i64 0, .int .i64 0, .int .i64 0, .int .i64 0, .int .i64 0, .int .i64 0, .int .i64 0, .slice none 0 0, .slice none 0 0, .slice none 0 0, .map none], eqok := false }
noncomputable def ti186 : TI := { td := .struct [(177, 0, true), (180, 1, true), (182, 2, true), (183, 3, true), (105, 259, true), (180, 260, true), (184, 261, true), (179, 262, true)], size := 263, bytes := 2184, zero := .agg #[.pointer none, .slice none 0 0, .slice none 0 0, .int .i64 0, .int .i64 0, .int .i64 0, .int .i64 0, .int .i64 0, .int .i64 0, .int .i64 0, .int .i64 0, .int .i64 0, .int .i64 0, .int .i64 0, .int .i64 0, .int .i64 0, .int .i64 0, .int .i64 0, .int .i64 0, .int .i64 0, .int .i64 0, .int .i64 0, .int .i64 0, .int .i64 0, .int .i64 0, .int .i64 0, .int .i64 0, .int .i64 0, .int .i64 0, .int .i64 0, .int .i64 0, .int .i64 0, .int .i64 0, .int .i64 0, .int .i64 0, .int .i64 0, .int .i64 0, .int .i64 0, .int .i64 0, .int .i64 0, .int .i64 0, .int .i64 0, .int .i64 0, .int .i64 0, .int .i64 0, .int .i64 0, .int .i64 0, .int .i64 0, .int .i64 0, .int .i64 0, .int .i64 0, .int .i64 0, .int .i64 0, .int .i64 0, .int .i64 0, .int .i64 0, .int .i64 0, .int .i64 0, .int .i64 0, .int .i64 0, .int .i64 0, .int .i64 0, .int .i64 0, .int .i64 0, .int .i64 0, .int .i64 0, .int .i64 0, .int .i64 0, .int .i64 0, .int .i64 0, .int .i64 0, .int .i64 0, .int .i64 0, .int .i64 0, .int .i64 0, .int .i64 0, .int .i64 0, .int .i64 0, .int .i64 0, .int .i64 0, .int .i64 0, .int .i64 0, .int .i64 0, .int .i64 0, .int .i64 0, .int .i64 0, .int .i64 0, .int .i64 0, .int .i64 0, .int .i64 0, .int .i64 0, .int .i64 0, .int .i64 0, .int .i64 0, .int .i64 0, .int .i64 0, .int .i64 0, .int .i64 0, .int .i64 0, .int .i64 0, .int .i64 0, .int .i64 0, .int .i64 0, .int .i64 0, .int .i64 0, .int .i64 0, .int .i64 0, .int .i64 0, .int .i64 0, .int .i64 0, .int .i64 0, .int .i64 0, .int .i64 0, .int .i64 0, .int .i64 0, .int .i64 0, .int .i64 0, .int .i64 0, .int .i64 0, .int .i64 0, .int .i64 0, .int .i64 0, .int .i64 0, .int .i64 0, .int .i64 0, .int .i64 0, .int .i64 0, .int .i64 0, .int .i64 0, .int .i64 0, .int .i64 0, .int .i64 0, .int .i64 0, .int .i64 0, .int .i64 0, .int .i64 0, .int .i64 0, .int .i64 0, .int .i64 0, .int .i64 0, .int .i64 0, .int .i64 0, .int .i64 0, .int .i64 0, .int .i64 0, .int .i64 0, .int .i64 0, .int .i64 0, .int .i64 0, .int .i64 0, .int .i64 0, .int .i64 0, .int .i64 0, .int .i64 0, .int .i64 0, .int .i64 0, .int .i64 0, .int .i64 0, .int .i64 0, .int .i64 0, .int .i64 0, .int .i64 0, .int .i64 0, .int .i64 0, .int .i64 0, .int .i64 0, .int .i64 0, .int .i64 0, .int .i64 0, .int .i64 0, .int .i64 0, .int .i64 0, .int .i64 0, .int .i64 0, .int .i64 0, .int .i64 0, .int .i64 0, .int .i64 0, .int .i64 0, .int .i64 0, .int .i64 0, .int .i64 0, .int .i64 0, .int .i64 0, .int .i64 0, .int .i64 0, .int .i64 0, .int .i64 0, .int .i64 0, .int .i64 0, .int .i64 0, .int .i64 0, .int .i64 0, .int .i64 0, .int .i64 0, .int .i64 0, .int .i64 0, .int .i64 0, .int .i64 0, .int .i64 0, .int .i64 0, .int .i64 0, .int .i64 0, .int .i64 0, .int .i64 0, .int .i64 0, .int .i64 0, .int .i64 0, .int .i64 0, .int .i64 0, .int .i64 0, .int .i64 0, .int .i64 0, .int .i64 0, .int .i64 0, .int .i64 0, .int .i64 0, .int .i64 0, .int .i64 0, .int .i64 0, .int .i64 0, .int .i64 0, .int .i64 0, .int .i64 0, .int .i64 0, .int .i64 0, .int .i64 0, .int .i64 0, .int .i64 0, .int .i64 0, .int .i64 0, .int .i64 0, .int .i64 0, .int .i64 0, .int .i64 0, .int .i64 0, .int .i64 0, .int .i64 0, .int .i64 0, .int .i64 0, .int .i64 0, .int .i64 0, .int .i64 0, .int .i64 0, .int .i64 0, .int .i64 0, .int .i64 0, .int .i64 0, .int .i64 0, .int .i64 0, .int .i64 0, .int .i64 0, .int .i64 0, .int .i64 0, .int .i64 0, .int .i64 0, .int .i64 0, .int .i64 0, .int .i64 0, .slice none 0 0, .slice none 0 0, .slice none 0 0, .map none], eqok := false }
noncomputable def ti187 : TI := { td := .func, size := 1, bytes := 8, zero := .nilFunc, eqok := false }
noncomputable def ti188 : TI := { td := .struct [(4, 0, true), (182, 1, true), (182, 2, true)], size := 3, bytes := 56, zero := .agg #[.bool false, .slice none 0 0, .slice none 0 0], eqok := false }
noncomputable def ti189 : TI := { td := .struct [(4, 0, true), (182, 1, true), (182, 2, true)], size := 3, bytes := 56, zero := .agg #[.bool false, .slice none 0 0, .slice none 0 0], eqok := false }
noncomputable def ti190 : TI := { td := .func, size := 1, bytes := 8, zero := .nilFunc, eqok := false }
noncomputable def ti191 : TI := { td := .func, size := 1, bytes := 8, zero := .nilFunc, eqok := false }
noncomputable def ti192 : TI := { td := .struct [(182, 0, true), (182, 1, true), (22, 2, true)], size := 3, bytes := 72, zero := .agg #[.slice none 0 0, .slice none 0 0, .slice none 0 0], eqok := false }
noncomputable def ti193 : TI := { td := .struct [(182, 0, true), (182, 1, true), (22, 2, true)], size := 3, bytes := 72, zero := .agg #[.slice none 0 0, .slice none 0 0, .slice none 0 0], eqok := false }
noncomputable def ti194 : TI := { td := .func, size := 1, bytes := 8, zero := .nilFunc, eqok := false }
noncomputable def ti195 : TI := { td := .func, size := 1, bytes := 8, zero := .nilFunc, eqok := false }
noncomputable def ti196 : TI := { td := .ptr 152, size := 1, bytes := 8, zero := .pointer none, eqok := false }
noncomputable def ti197 : TI := { td := .func, size := 1, bytes := 8, zero := .nilFunc, eqok := false }
noncomputable def ti198 : TI := { td := .func, size := 1, bytes := 8, zero := .nilFunc, eqok := false }
noncomputable def ti199 : TI := { td := .map 9 9, size := 1, bytes := 8, zero := .map none, eqok := false }
noncomputable def ti201 : TI := { td := .func, size := 1, bytes := 8, zero := .nilFunc, eqok := false }
noncomputable def ti202 : TI := { td := .func, size := 1, bytes := 8, zero := .nilFunc, eqok := false }
noncomputable def ti203 : TI := { td := .func, size := 1, bytes := 8, zero := .nilFunc, eqok := false }
noncomputable def ti204 : TI := { td := .func, size := 1, bytes := 8, zero := .nilFunc, eqok := false }
noncomputable def ti205 : TI := { td := .func, size := 1, bytes := 8, zero := .nilFunc, eqok := false }
noncomputable def ti206 : TI := { td := .func, size := 1, bytes := 8, zero := .nilFunc, eqok := false }
noncomputable def ti207 : TI := { td := .func, size := 1, bytes := 8, zero := .nilFunc, eqok := false }
noncomputable def ti209 : TI := { td := .func, size := 1, bytes := 8, zero := .nilFunc, eqok := false }
noncomputable def ti210 : TI := { td := .func, size := 1, bytes := 8, zero := .nilFunc, eqok := false }
noncomputable def ti211 : TI := { td := .func, size := 1, bytes := 8, zero := .nilFunc, eqok := false }
noncomputable def ti212 : TI := { td := .func, size := 1, bytes := 8, zero := .nilFunc, eqok := false }
noncomputable def ti213 : TI := { td := .func, size := 1, bytes := 8, zero := .nilFunc, eqok := false }
noncomputable def ti214 : TI := { td := .func, size := 1, bytes := 8, zero := .nilFunc, eqok := false }
noncomputable def ti215 : TI := { td := .func, size := 1, bytes := 8, zero := .nilFunc, eqok := false }
noncomputable def ti216 : TI := { td := .int .u64, size := 1, bytes := 8, zero := .int .u64 0, eqok := false }
noncomputable def ti217 : TI := { td := .func, size := 1, bytes := 8, zero := .nilFunc, eqok := false }
noncomputable def ti218 : TI := { td := .struct [(3, 0, true), (22, 1, true), (22, 2, true), (180, 3, true)], size := 4, bytes := 80, zero := .agg #[.int .i64 0, .slice none 0 0, .slice none 0 0, .slice none 0 0], eqok := false }
noncomputable def ti219 : TI := { td := .struct [(3, 0, true), (22, 1, true), (22, 2, true), (180, 3, true)], size := 4, bytes := 80, zero := .agg #[.int .i64 0, .slice none 0 0, .slice none 0 0, .slice none 0 0], eqok := false }
noncomputable def ti220 : TI := { td := .func, size := 1, bytes := 8, zero := .nilFunc, eqok := false }
noncomputable def ti221 : TI := { td := .int .u64, size := 1, bytes := 8, zero := .int .u64 0, eqok := false }
noncomputable def ti222 : TI := { td := .arr 257 4, size := 257, bytes := 257, zero := .agg #[.bool false, .bool false, .bool false, .bool false, .bool false, .bool false, .bool false, .bool false, .bool false, .bool false, .bool false, .bool false, .bool false, .bool false, .bool false, .bool false, .bool false, .bool false, .bool false, .bool false, .bool false, .bool false, .bool false, .bool false, .bool false, .bool false, .bool false, .bool false, .bool false, .bool false, .bool false, .bool false, .bool false, .bool false, .bool false, .bool false, .bool false, .bool false, .bool false, .bool false, .bool false, .bool false, .bool false, .bool false, .bool false, .bool false, .bool false, .bool false, .bool false, .bool false, .bool false, .bool false, .bool false, .bool false, .bool false, .bool false, .bool false, .bool false, .bool false, .bool false, .bool false, .bool false, .bool false, .bool false, .bool false, .bool false, .bool false, .bool false, .bool false, .bool false, .bool false, .bool false, .bool false, .bool false, .bool false, .bool false, .bool false, .bool false, .bool false, .bool false, .bool false, .bool false, .bool false, .bool false, .bool false, .bool false, .bool false, .bool false, .bool false, .bool false, .bool false, .bool false, .bool false, .bool false, .bool false, .bool false, .bool false, .bool false, .bool false, .bool false, .bool false, .bool false, .bool false, .bool false, .bool false, .bool false, .bool false, .bool false, .bool false, .bool false, .bool false, .bool false, .bool false, .bool false, .bool false, .bool false, .bool false, .bool false, .bool false, .bool false, .bool false, .bool false, .bool false, .bool false, .bool false, .bool false, .bool false, .bool false, .bool false, .bool false, .bool false, .bool false, .bool false, .bool false, .bool false, .bool false, .bool false, .bool false, .bool false, .bool false, .bool false, .bool false, .bool false, .bool false, .bool false, .bool false, .bool false, .bool false, .bool false, .bool false, .bool false, .bool false, .bool false, .bool false, .bool false, .bool false, .bool false, .bool false, .bool false, .bool false, .bool false, .bool false, .bool false, .bool false, .bool false, .bool false, .bool false, .bool false, .bool false, .bool false, .bool false, .bool false, .bool false, .bool false, .bool false, .bool false, .bool false, .bool false, .bool false, .bool false, .bool false, .bool false, .bool false, .bool false, .bool false, .bool false, .bool false, .bool false, .bool false, .bool false, .bool false, .bool false, .bool false, .bool false, .bool false, .bool false, .bool false, .bool false, .bool false, .bool false, .bool false, .bool false, .bool false, .bool false, .bool false, .bool false, .bool false, .bool false, .bool false, .bool false, .bool false, .bool false, .bool false, .bool false, .bool false, .bool false, .bool false, .bool false, .bool false, .bool false, .bool false, .bool false, .bool false, .bool false, .bool false, .bool false, .bool false, .bool false, .bool false, .bool false, .bool false, .bool false, .bool false, .bool false, .bool false, .bool false, .bool false, .bool false, .bool false, .bool false, .bool false, .bool false, .bool false, .bool false, .bool false, .bool false, .bool false, .bool false, .bool false, .bool false, .bool false, .bool false, .bool false, .bool false, .bool false, .bool false, .bool false], eqok := false }
noncomputable def ti223 : TI := { td := .func, size := 1, bytes := 8, zero := .nilFunc, eqok := false }
noncomputable def ti224 : TI := { td := .func, size := 1, bytes := 8, zero := .nilFunc, eqok := false }
noncomputable def ti225 : TI := { td := .ptr 227, size := 1, bytes := 8, zero := .pointer none, eqok := false }
noncomputable def ti226 : TI := { td := .struct [(80, 0, true), (199, 3, true)], size := 4, bytes := 72, zero := .agg #[.slice none 0 0, .string ⟨#[]⟩, .slice none 0 0, .map none], eqok := false }
noncomputable def ti227 : TI := { td := .struct [(80, 0, true), (199, 3, true)], size := 4, bytes := 72, zero := .agg #[.slice none 0 0, .string ⟨#[]⟩, .slice none 0 0, .map none], eqok := false }
noncomputable def ti228 : TI := { td := .func, size := 1, bytes := 8, zero := .nilFunc, eqok := false }
noncomputable def ti229 : TI := { td := .func, size := 1, bytes := 8, zero := .nilFunc, eqok := false }
noncomputable def ti231 : TI := { td := .func, size := 1, bytes := 8, zero := .nilFunc, eqok := false }
noncomputable def ti232 : TI := { td := .func, size := 1, bytes := 8, zero := .nilFunc, eqok := false }
noncomputable def ti234 : TI := { td := .func, size := 1, bytes := 8, zero := .nilFunc, eqok := false }
noncomputable def ti236 : TI := { td := .func, size := 1, bytes := 8, zero := .nilFunc, eqok := false }
noncomputable def ti237 : TI := { td := .slice 242, size := 1, bytes := 24, zero := .slice none 0 0, eqok := false }
noncomputable def ti239 : TI := { td := .func, size := 1, bytes := 8, zero := .nilFunc, eqok := false }
noncomputable def ti240 : TI := { td := .slice 413, size := 1, bytes := 24, zero := .slice none 0 0, eqok := false }
noncomputable def ti241 : TI := { td := .struct [(22, 0, true), (240, 1, true)], size := 2, bytes := 48, zero := .agg #[.slice none 0 0, .slice none 0 0], eqok := false }
noncomputable def ti242 : TI := { td := .struct [(22, 0, true), (240, 1, true)], size := 2, bytes := 48, zero := .agg #[.slice none 0 0, .slice none 0 0], eqok := false }
noncomputable def ti243 : TI := { td := .func, size := 1, bytes := 8, zero := .nilFunc, eqok := false }
noncomputable def ti245 : TI := { td := .func, size := 1, bytes := 8, zero := .nilFunc, eqok := false }
noncomputable def ti246 : TI := { td := .func, size := 1, bytes := 8, zero := .nilFunc, eqok := false }
noncomputable def ti247 : TI := { td := .struct [(9, 0, true), (3, 1, true), (3, 2, true), (3, 3, true), (3, 4, true), (27, 5, true), (9, 6, true), (3, 7, true)], size := 8, bytes := 96, zero := .agg #[.string ⟨#[]⟩, .int .i64 0, .int .i64 0, .int .i64 0, .int .i64 0, .slice none 0 0, .string ⟨#[]⟩, .int .i64 0], eqok := false }
noncomputable def ti248 : TI := { td := .struct [(9, 0, true), (3, 1, true), (3, 2, true), (3, 3, true), (3, 4, true), (27, 5, true), (9, 6, true), (3, 7, true)], size := 8, bytes := 96, zero := .agg #[.string ⟨#[]⟩, .int .i64 0, .int .i64 0, .int .i64 0, .int .i64 0, .slice none 0 0, .string ⟨#[]⟩, .int .i64 0], eqok := false }
noncomputable def ti250 : TI := { td := .func, size := 1, bytes := 8, zero := .nilFunc, eqok := false }
noncomputable def ti252 : TI := { td := .func, size := 1, bytes := 8, zero := .nilFunc, eqok := false }
noncomputable def ti254 : TI := { td := .func, size := 1, bytes := 8, zero := .nilFunc, eqok := false }
noncomputable def ti255 : TI := { td := .func, size := 1, bytes := 8, zero := .nilFunc, eqok := false }
noncomputable def ti256 : TI := { td := .slice 260, size := 1, bytes := 24, zero := .slice none 0 0, eqok := false }
noncomputable def ti258 : TI := { td := .func, size := 1, bytes := 8, zero := .nilFunc, eqok := false }
noncomputable def ti259 : TI := { td := .struct [(3, 0, true), (3, 1, true)], size := 2, bytes := 16, zero := .agg #[.int .i64 0, .int .i64 0], eqok := false }
noncomputable def ti260 : TI := { td := .struct [(3, 0, true), (3, 1, true)], size := 2, bytes := 16, zero := .agg #[.int .i64 0, .int .i64 0], eqok := false }
noncomputable def ti262 : TI := { td := .func, size := 1, bytes := 8, zero := .nilFunc, eqok := false }
noncomputable def ti264 : TI := { td := .func, size := 1, bytes := 8, zero := .nilFunc, eqok := false }
noncomputable def ti265 : TI := { td := .slice 359, size := 1, bytes := 24, zero := .slice none 0 0, eqok := false }
noncomputable def ti267 : TI := { td := .func, size := 1, bytes := 8, zero := .nilFunc, eqok := false }
noncomputable def ti268 : TI := { td := .struct [(3, 0, true), (3, 1, true), (3, 2, true)], size := 3, bytes := 24, zero := .agg #[.int .i64 0, .int .i64 0, .int .i64 0], eqok := false }
noncomputable def ti269 : TI := { td := .struct [(3, 0, true), (3, 1, true), (3, 2, true)], size := 3, bytes := 24, zero := .agg #[.int .i64 0, .int .i64 0, .int .i64 0], eqok := false }
noncomputable def ti270 : TI := { td := .func, size := 1, bytes := 8, zero := .nilFunc, eqok := false }
noncomputable def ti271 : TI := { td := .func, size := 1, bytes := 8, zero := .nilFunc, eqok := false }
noncomputable def ti272 : TI := { td := .int .i64, size := 1, bytes := 8, zero := .int .i64 0, eqok := false }
noncomputable def ti274 : TI := { td := .func, size := 1, bytes := 8, zero := .nilFunc, eqok := false }
noncomputable def ti275 : TI := { td := .func, size := 1, bytes := 8, zero := .nilFunc, eqok := false }
noncomputable def ti276 : TI := { td := .func, size := 1, bytes := 8, zero := .nilFunc, eqok := false }
noncomputable def ti277 : TI := { td := .func, size := 1, bytes := 8, zero := .nilFunc, eqok := false }
noncomputable def ti278 : TI := { td := .func, size := 1, bytes := 8, zero := .nilFunc, eqok := false }
noncomputable def ti279 : TI := { td := .func, size := 1, bytes := 8, zero := .nilFunc, eqok := false }
noncomputable def ti280 : TI := { td := .int .u32, size := 1, bytes := 4, zero := .int .u32 0, eqok := false }
noncomputable def ti281 : TI := { td := .func, size := 1, bytes := 8, zero := .nilFunc, eqok := false }
noncomputable def ti282 : TI := { td := .func, size := 1, bytes := 8, zero := .nilFunc, eqok := false }
noncomputable def ti283 : TI := { td := .func, size := 1, bytes := 8, zero := .nilFunc, eqok := false }
noncomputable def ti284 : TI := { td := .map 9 4, size := 1, bytes := 8, zero := .map none, eqok := false }
noncomputable def ti285 : TI := { td := .func, size := 1, bytes := 8, zero := .nilFunc, eqok := false }
noncomputable def ti286 : TI := { td := .func, size := 1, bytes := 8, zero := .nilFunc, eqok := false }
noncomputable def ti287 : TI := { td := .func, size := 1, bytes := 8, zero := .nilFunc, eqok := false }
noncomputable def ti288 : TI := { td := .func, size := 1, bytes := 8, zero := .nilFunc, eqok := false }
noncomputable def ti289 : TI := { td := .func, size := 1, bytes := 8, zero := .nilFunc, eqok := false }
noncomputable def ti290 : TI := { td := .func, size := 1, bytes := 8, zero := .nilFunc, eqok := false }
noncomputable def ti291 : TI := { td := .arr 24 5, size := 24, bytes := 24, zero := .agg #[.int .u8 0, .int .u8 0, .int .u8 0, .int .u8 0, .int .u8 0, .int .u8 0, .int .u8 0, .int .u8 0, .int .u8 0, .int .u8 0, .int .u8 0, .int .u8 0, .int .u8 0, .int .u8 0, .int .u8 0, .int .u8 0, .int .u8 0, .int .u8 0, .int .u8 0, .int .u8 0, .int .u8 0, .int .u8 0, .int .u8 0, .int .u8 0], eqok := false }
noncomputable def ti292 : TI := { td := .func, size := 1, bytes := 8, zero := .nilFunc, eqok := false }
noncomputable def ti294 : TI := { td := .func, size := 1, bytes := 8, zero := .nilFunc, eqok := false }
noncomputable def ti295 : TI := { td := .func, size := 1, bytes := 8, zero := .nilFunc, eqok := false }
noncomputable def ti296 : TI := { td := .ptr 298, size := 1, bytes := 8, zero := .pointer none, eqok := false }
noncomputable def ti297 : TI := { td := .struct [(9, 0, true), (3, 1, true), (4, 2, true)], size := 3, bytes := 32, zero := .agg #[.string ⟨#[]⟩, .int .i64 0, .bool false], eqok := false }
noncomputable def ti298 : TI := { td := .struct [(9, 0, true), (3, 1, true), (4, 2, true)], size := 3, bytes := 32, zero := .agg #[.string ⟨#[]⟩, .int .i64 0, .bool false], eqok := false }
noncomputable def ti299 : TI := { td := .func, size := 1, bytes := 8, zero := .nilFunc, eqok := false }
noncomputable def ti301 : TI := { td := .func, size := 1, bytes := 8, zero := .nilFunc, eqok := false }
noncomputable def ti302 : TI := { td := .ptr 309, size := 1, bytes := 8, zero := .pointer none, eqok := false }
noncomputable def ti304 : TI := { td := .func, size := 1, bytes := 8, zero := .nilFunc, eqok := false }
noncomputable def ti305 : TI := { td := .slice 312, size := 1, bytes := 24, zero := .slice none 0 0, eqok := false }
noncomputable def ti306 : TI := { td := .slice 316, size := 1, bytes := 24, zero := .slice none 0 0, eqok := false }
noncomputable def ti307 : TI := { td := .map 404 312, size := 1, bytes := 8, zero := .map none, eqok := false }
noncomputable def ti308 : TI := { td := .struct [(306, 0, true), (179, 1, true), (307, 2, true)], size := 3, bytes := 40, zero := .agg #[.slice none 0 0, .map none, .map none], eqok := false }
noncomputable def ti309 : TI := { td := .struct [(306, 0, true), (179, 1, true), (307, 2, true)], size := 3, bytes := 40, zero := .agg #[.slice none 0 0, .map none, .map none], eqok := false }
noncomputable def ti310 : TI := { td := .slice 408, size := 1, bytes := 24, zero := .slice none 0 0, eqok := false }
noncomputable def ti311 : TI := { td := .struct [(4, 0, true), (310, 1, true)], size := 2, bytes := 32, zero := .agg #[.bool false, .slice none 0 0], eqok := false }
noncomputable def ti312 : TI := { td := .struct [(4, 0, true), (310, 1, true)], size := 2, bytes := 32, zero := .agg #[.bool false, .slice none 0 0], eqok := false }
noncomputable def ti313 : TI := { td := .func, size := 1, bytes := 8, zero := .nilFunc, eqok := false }
noncomputable def ti314 : TI := { td := .ptr 83, size := 1, bytes := 8, zero := .pointer none, eqok := false }
noncomputable def ti315 : TI := { td := .struct [(22, 0, true), (73, 1, true), (22, 6, true), (3, 7, true)], size := 8, bytes := 136, zero := .agg #[.slice none 0 0, .int .i64 0, .string ⟨#[]⟩, .string ⟨#[]⟩, .string ⟨#[]⟩, .slice none 0 0, .slice none 0 0, .int .i64 0], eqok := false }
noncomputable def ti316 : TI := { td := .struct [(22, 0, true), (73, 1, true), (22, 6, true), (3, 7, true)], size := 8, bytes := 136, zero := .agg #[.slice none 0 0, .int .i64 0, .string ⟨#[]⟩, .string ⟨#[]⟩, .string ⟨#[]⟩, .slice none 0 0, .slice none 0 0, .int .i64 0], eqok := false }
noncomputable def ti317 : TI := { td := .func, size := 1, bytes := 8, zero := .nilFunc, eqok := false }
noncomputable def ti318 : TI := { td := .func, size := 1, bytes := 8, zero := .nilFunc, eqok := false }
noncomputable def ti320 : TI := { td := .func, size := 1, bytes := 8, zero := .nilFunc, eqok := false }
noncomputable def ti322 : TI := { td := .func, size := 1, bytes := 8, zero := .nilFunc, eqok := false }
noncomputable def ti324 : TI := { td := .func, size := 1, bytes := 8, zero := .nilFunc, eqok := false }
noncomputable def ti325 : TI := { td := .func, size := 1, bytes := 8, zero := .nilFunc, eqok := false }
noncomputable def ti326 : TI := { td := .func, size := 1, bytes := 8, zero := .nilFunc, eqok := false }
noncomputable def ti327 : TI := { td := .func, size := 1, bytes := 8, zero := .nilFunc, eqok := false }
noncomputable def ti329 : TI := { td := .func, size := 1, bytes := 8, zero := .nilFunc, eqok := false }
noncomputable def ti330 : TI := { td := .func, size := 1, bytes := 8, zero := .nilFunc, eqok := false }
noncomputable def ti331 : TI := { td := .func, size := 1, bytes := 8, zero := .nilFunc, eqok := false }
noncomputable def ti332 : TI := { td := .func, size := 1, bytes := 8, zero := .nilFunc, eqok := false }
noncomputable def ti333 : TI := { td := .func, size := 1, bytes := 8, zero := .nilFunc, eqok := false }
noncomputable def ti334 : TI := { td := .func, size := 1, bytes := 8, zero := .nilFunc, eqok := false }
noncomputable def ti335 : TI := { td := .ptr 342, size := 1, bytes := 8, zero := .pointer none, eqok := false }
noncomputable def ti337 : TI := { td := .func, size := 1, bytes := 8, zero := .nilFunc, eqok := false }
noncomputable def ti339 : TI := { td := .func, size := 1, bytes := 8, zero := .nilFunc, eqok := false }
noncomputable def ti340 : TI := { td := .map 3 3, size := 1, bytes := 8, zero := .map none, eqok := false }
noncomputable def ti341 : TI := { td := .struct [(159, 0, true), (22, 1, true), (340, 2, true), (44, 3, true), (58, 4, true), (22, 5, true), (75, 6, true)], size := 7, bytes := 152, zero := .agg #[.slice none 0 0, .slice none 0 0, .map none, .slice none 0 0, .slice none 0 0, .slice none 0 0, .slice none 0 0], eqok := false }
noncomputable def ti342 : TI := { td := .struct [(159, 0, true), (22, 1, true), (340, 2, true), (44, 3, true), (58, 4, true), (22, 5, true), (75, 6, true)], size := 7, bytes := 152, zero := .agg #[.slice none 0 0, .slice none 0 0, .map none, .slice none 0 0, .slice none 0 0, .slice none 0 0, .slice none 0 0], eqok := false }
noncomputable def ti343 : TI := { td := .ptr 438, size := 1, bytes := 8, zero := .pointer none, eqok := false }
noncomputable def ti344 : TI := { td := .struct [(22, 0, true), (269, 1, true), (3, 4, true)], size := 5, bytes := 56, zero := .agg #[.slice none 0 0, .int .i64 0, .int .i64 0, .int .i64 0, .int .i64 0], eqok := false }
noncomputable def ti345 : TI := { td := .struct [(22, 0, true), (269, 1, true), (3, 4, true)], size := 5, bytes := 56, zero := .agg #[.slice none 0 0, .int .i64 0, .int .i64 0, .int .i64 0, .int .i64 0], eqok := false }
noncomputable def ti347 : TI := { td := .func, size := 1, bytes := 8, zero := .nilFunc, eqok := false }
noncomputable def ti348 : TI := { td := .struct [(3, 0, true), (3, 1, true)], size := 2, bytes := 16, zero := .agg #[.int .i64 0, .int .i64 0], eqok := false }
noncomputable def ti349 : TI := { td := .struct [(3, 0, true), (3, 1, true)], size := 2, bytes := 16, zero := .agg #[.int .i64 0, .int .i64 0], eqok := false }
noncomputable def ti350 : TI := { td := .func, size := 1, bytes := 8, zero := .nilFunc, eqok := false }
noncomputable def ti351 : TI := { td := .struct [(3, 0, true), (3, 1, true), (3, 2, true), (3, 3, true), (3, 4, true)], size := 5, bytes := 40, zero := .agg #[.int .i64 0, .int .i64 0, .int .i64 0, .int .i64 0, .int .i64 0], eqok := false }
noncomputable def ti352 : TI := { td := .struct [(3, 0, true), (3, 1, true), (3, 2, true), (3, 3, true), (3, 4, true)], size := 5, bytes := 40, zero := .agg #[.int .i64 0, .int .i64 0, .int .i64 0, .int .i64 0, .int .i64 0], eqok := false }
noncomputable def ti353 : TI := { td := .func, size := 1, bytes := 8, zero := .nilFunc, eqok := false }
noncomputable def ti354 : TI := { td := .ptr 445, size := 1, bytes := 8, zero := .pointer none, eqok := false }
noncomputable def ti355 : TI := { td := .func, size := 1, bytes := 8, zero := .nilFunc, eqok := false }
noncomputable def ti356 : TI := { td := .func, size := 1, bytes := 8, zero := .nilFunc, eqok := false }
noncomputable def ti357 : TI := { td := .func, size := 1, bytes := 8, zero := .nilFunc, eqok := false }
noncomputable def ti358 : TI := { td := .struct [(3, 0, true), (3, 1, true), (9, 2, true)], size := 3, bytes := 32, zero := .agg #[.int .i64 0, .int .i64 0, .string ⟨#[]⟩], eqok := false }
noncomputable def ti359 : TI := { td := .struct [(3, 0, true), (3, 1, true), (9, 2, true)], size := 3, bytes := 32, zero := .agg #[.int .i64 0, .int .i64 0, .string ⟨#[]⟩], eqok := false }
noncomputable def ti360 : TI := { td := .func, size := 1, bytes := 8, zero := .nilFunc, eqok := false }
noncomputable def ti361 : TI := { td := .func, size := 1, bytes := 8, zero := .nilFunc, eqok := false }
noncomputable def ti362 : TI := { td := .func, size := 1, bytes := 8, zero := .nilFunc, eqok := false }
noncomputable def ti363 : TI := { td := .int .u64, size := 1, bytes := 8, zero := .int .u64 0, eqok := false }
noncomputable def ti364 : TI := { td := .func, size := 1, bytes := 8, zero := .nilFunc, eqok := false }
noncomputable def ti365 : TI := { td := .func, size := 1, bytes := 8, zero := .nilFunc, eqok := false }
noncomputable def ti366 : TI := { td := .func, size := 1, bytes := 8, zero := .nilFunc, eqok := false }
noncomputable def ti367 : TI := { td := .func, size := 1, bytes := 8, zero := .nilFunc, eqok := false }
noncomputable def ti368 : TI := { td := .arr 64 5, size := 64, bytes := 64, zero := .agg #[.int .u8 0, .int .u8 0, .int .u8 0, .int .u8 0, .int .u8 0, .int .u8 0, .int .u8 0, .int .u8 0, .int .u8 0, .int .u8 0, .int .u8 0, .int .u8 0, .int .u8 0, .int .u8 0, .int .u8 0, .int .u8 0, .int .u8 0, .int .u8 0, .int .u8 0, .int .u8 0, .int .u8 0, .int .u8 0, .int .u8 0, .int .u8 0, .int .u8 0, .int .u8 0, .int .u8 0, .int .u8 0, .int .u8 0, .int .u8 0, .int .u8 0, .int .u8 0, .int .u8 0, .int .u8 0, .int .u8 0, .int .u8 0, .int .u8 0, .int .u8 0, .int .u8 0, .int .u8 0, .int .u8 0, .int .u8 0, .int .u8 0, .int .u8 0, .int .u8 0, .int .u8 0, .int .u8 0, .int .u8 0, .int .u8 0, .int .u8 0, .int .u8 0, .int .u8 0, .int .u8 0, .int .u8 0, .int .u8 0, .int .u8 0, .int .u8 0, .int .u8 0, .int .u8 0, .int .u8 0, .int .u8 0, .int .u8 0, .int .u8 0, .int .u8 0], eqok := false }
noncomputable def ti369 : TI := { td := .func, size := 1, bytes := 8, zero := .nilFunc, eqok := false }
noncomputable def ti370 : TI := { td := .func, size := 1, bytes := 8, zero := .nilFunc, eqok := false }
noncomputable def ti371 : TI := { td := .func, size := 1, bytes := 8, zero := .nilFunc, eqok := false }
noncomputable def ti372 : TI := { td := .func, size := 1, bytes := 8, zero := .nilFunc, eqok := false }
noncomputable def ti373 : TI := { td := .func, size := 1, bytes := 8, zero := .nilFunc, eqok := false }
noncomputable def ti374 : TI := { td := .func, size := 1, bytes := 8, zero := .nilFunc, eqok := false }
noncomputable def ti375 : TI := { td := .arr 256 5, size := 256, bytes := 256, zero := .agg #[.int .u8 0, .int .u8 0, .int .u8 0, .int .u8 0, .int .u8 0, .int .u8 0, .int .u8 0, .int .u8 0, .int .u8 0, .int .u8 0, .int .u8 0, .int .u8 0, .int .u8 0, .int .u8 0, .int .u8 0, .int .u8 0, .int .u8 0, .int .u8 0, .int .u8 0, .int .u8 0, .int .u8 0, .int .u8 0, .int .u8 0, .int .u8 0, .int .u8 0, .int .u8 0, .int .u8 0, .int .u8 0, .int .u8 0, .int .u8 0, .int .u8 0, .int .u8 0, .int .u8 0, .int .u8 0, .int .u8 0, .int .u8 0, .int .u8 0, .int .u8 0, .int .u8 0, .int .u8 0, .int .u8 0, .int .u8 0, .int .u8 0, .int .u8 0, .int .u8 0, .int .u8 0, .int .u8 0, .int .u8 0, .int .u8 0, .int .u8 0, .int .u8 0, .int .u8 0, .int .u8 0, .int .u8 0, .int .u8 0, .int .u8 0, .int .u8 0, .int .u8 0, .int .u8 0, .int .u8 0, .int .u8 0, .int .u8 0, .int .u8 0, .int .u8 0, .int .u8 0, .int .u8 0, .int .u8 0, .int .u8 0, .int .u8 0, .int .u8 0, .int .u8 0, .int .u8 0, .int .u8 0, .int .u8 0, .int .u8 0, .int .u8 0, .int .u8 0, .int .u8 0, .int .u8 0, .int .u8 0, .int .u8 0, .int .u8 0, .int .u8 0, .int .u8 0, .int .u8 0, .int .u8 0, .int .u8 0, .int .u8 0, .int .u8 0, .int .u8 0, .int .u8 0, .int .u8 0, .int .u8 0, .int .u8 0, .int .u8 0, .int .u8 0, .int .u8 0, .int .u8 0, .int .u8 0, .int .u8 0, .int .u8 0, .int .u8 0, .int .u8 0, .int .u8 0, .int .u8 0, .int .u8 0, .int .u8 0, .int .u8 0, .int .u8 0, .int .u8 0, .int .u8 0, .int .u8 0, .int .u8 0, .int .u8 0, .int .u8 0, .int .u8 0, .int .u8 0, .int .u8 0, .int .u8 0, .int .u8 0, .int .u8 0, .int .u8 0, .int .u8 0, .int .u8 0, .int .u8 0, .int .u8 0, .int .u8 0, .int .u8 0, .int .u8 0, .int .u8 0, .int .u8 0, .int .u8 0, .int .u8 0, .int .u8 0, .int .u8 0, .int .u8 0, .int .u8 0, .int .u8 0, .int .u8 0, .int .u8 0, .int .u8 0, .int .u8 0, .int .u8 0, .int .u8 0, .int .u8 0, .int .u8 0, .int .u8 0, .int .u8 0, .int .u8 0, .int .u8 0, .int .u8 0, .int .u8 0, .int .u8 0, .int .u8 0, .int .u8 0, .int .u8 0, .int .u8 0, .int .u8 0, .int .u8 0, .int .u8 0, .int .u8 0, .int .u8 0, .int .u8 0, .int .u8 0, .int .u8 0, .int .u8 0, .int .u8 0, .int .u8 0, .int .u8 0, .int .u8 0, .int .u8 0, .int .u8 0, .int .u8 0, .int .u8 0, .int .u8 0, .int .u8 0, .int .u8 0, .int .u8 0, .int .u8 0, .int .u8 0, .int .u8 0, .int .u8 0, .int .u8 0, .int .u8 0, .int .u8 0, .int .u8 0, .int .u8 0, .int .u8 0, .int .u8 0, .int .u8 0, .int .u8 0, .int .u8 0, .int .u8 0, .int .u8 0, .int .u8 0, .int .u8 0, .int .u8 0, .int .u8 0, .int .u8 0, .int .u8 0, .int .u8 0, .int .u8 0, .int .u8 0, .int .u8 0, .int .u8 0, .int .u8 0, .int .u8 0, .int .u8 0, .int .u8 0, .int .u8 0, .int .u8 0, .int .u8 0, .int .u8 0, .int .u8 0, .int .u8 0, .int .u8 0, .int .u8 0, .int .u8 0, .int .u8 0, .int .u8 0, .int .u8 0, .int .u8 0, .int .u8 0, .int .u8 0, .int .u8 0, .int .u8 0, .int .u8 0, .int .u8 0, .int .u8 0, .int .u8 0, .int .u8 0, .int .u8 0, .int .u8 0, .int .u8 0, .int .u8 0, .int .u8 0, .int .u8 0, .int .u8 0, .int .u8 0, .int .u8 0, .int .u8 0, .int .u8 0, .int .u8 0, .int .u8 0, .int .u8 0, .int .u8 0, .int .u8 0, .int .u8 0, .int .u8 0, .int .u8 0, .int .u8 0, .int .u8 0, .int .u8 0, .int .u8 0, .int .u8 0, .int .u8 0], eqok := false }
noncomputable def ti376 : TI := { td := .struct [(5, 0, true), (5, 1, true)], size := 2, bytes := 2, zero := .agg #[.int .u8 0, .int .u8 0], eqok := false }
noncomputable def ti377 : TI := { td := .struct [(5, 0, true), (5, 1, true)], size := 2, bytes := 2, zero := .agg #[.int .u8 0, .int .u8 0], eqok := false }
noncomputable def ti378 : TI := { td := .arr 16 377, size := 32, bytes := 32, zero := .agg #[.int .u8 0, .int .u8 0, .int .u8 0, .int .u8 0, .int .u8 0, .int .u8 0, .int .u8 0, .int .u8 0, .int .u8 0, .int .u8 0, .int .u8 0, .int .u8 0, .int .u8 0, .int .u8 0, .int .u8 0, .int .u8 0, .int .u8 0, .int .u8 0, .int .u8 0, .int .u8 0, .int .u8 0, .int .u8 0, .int .u8 0, .int .u8 0, .int .u8 0, .int .u8 0, .int .u8 0, .int .u8 0, .int .u8 0, .int .u8 0, .int .u8 0, .int .u8 0], eqok := false }
noncomputable def ti380 : TI := { td := .func, size := 1, bytes := 8, zero := .nilFunc, eqok := false }
noncomputable def ti381 : TI := { td := .func, size := 1, bytes := 8, zero := .nilFunc, eqok := false }
noncomputable def ti382 : TI := { td := .arr 20 221, size := 20, bytes := 160, zero := .agg #[.int .u64 0, .int .u64 0, .int .u64 0, .int .u64 0, .int .u64 0, .int .u64 0, .int .u64 0, .int .u64 0, .int .u64 0, .int .u64 0, .int .u64 0, .int .u64 0, .int .u64 0, .int .u64 0, .int .u64 0, .int .u64 0, .int .u64 0, .int .u64 0, .int .u64 0, .int .u64 0], eqok := false }
noncomputable def ti383 : TI := { td := .arr 65 5, size := 65, bytes := 65, zero := .agg #[.int .u8 0, .int .u8 0, .int .u8 0, .int .u8 0, .int .u8 0, .int .u8 0, .int .u8 0, .int .u8 0, .int .u8 0, .int .u8 0, .int .u8 0, .int .u8 0, .int .u8 0, .int .u8 0, .int .u8 0, .int .u8 0, .int .u8 0, .int .u8 0, .int .u8 0, .int .u8 0, .int .u8 0, .int .u8 0, .int .u8 0, .int .u8 0, .int .u8 0, .int .u8 0, .int .u8 0, .int .u8 0, .int .u8 0, .int .u8 0, .int .u8 0, .int .u8 0, .int .u8 0, .int .u8 0, .int .u8 0, .int .u8 0, .int .u8 0, .int .u8 0, .int .u8 0, .int .u8 0, .int .u8 0, .int .u8 0, .int .u8 0, .int .u8 0, .int .u8 0, .int .u8 0, .int .u8 0, .int .u8 0, .int .u8 0, .int .u8 0, .int .u8 0, .int .u8 0, .int .u8 0, .int .u8 0, .int .u8 0, .int .u8 0, .int .u8 0, .int .u8 0, .int .u8 0, .int .u8 0, .int .u8 0, .int .u8 0, .int .u8 0, .int .u8 0, .int .u8 0], eqok := false }
noncomputable def ti384 : TI := { td := .func, size := 1, bytes := 8, zero := .nilFunc, eqok := false }
noncomputable def ti385 : TI := { td := .func, size := 1, bytes := 8, zero := .nilFunc, eqok := false }
noncomputable def ti386 : TI := { td := .ptr 497, size := 1, bytes := 8, zero := .pointer none, eqok := false }
noncomputable def ti388 : TI := { td := .func, size := 1, bytes := 8, zero := .nilFunc, eqok := false }
noncomputable def ti389 : TI := { td := .ptr 396, size := 1, bytes := 8, zero := .pointer none, eqok := false }
noncomputable def ti390 : TI := { td := .func, size := 1, bytes := 8, zero := .nilFunc, eqok := false }
noncomputable def ti391 : TI := { td := .ptr 393, size := 1, bytes := 8, zero := .pointer none, eqok := false }
noncomputable def ti392 : TI := { td := .struct [(80, 0, true), (59, 3, true), (3, 4, true), (71, 5, true)], size := 6, bytes := 120, zero := .agg #[.slice none 0 0, .string ⟨#[]⟩, .slice none 0 0, .slice none 0 0, .int .i64 0, .slice none 0 0], eqok := false }
noncomputable def ti393 : TI := { td := .struct [(80, 0, true), (59, 3, true), (3, 4, true), (71, 5, true)], size := 6, bytes := 120, zero := .agg #[.slice none 0 0, .string ⟨#[]⟩, .slice none 0 0, .slice none 0 0, .int .i64 0, .slice none 0 0], eqok := false }
noncomputable def ti394 : TI := { td := .func, size := 1, bytes := 8, zero := .nilFunc, eqok := false }
noncomputable def ti395 : TI := { td := .struct [(386, 0, true), (22, 1, true), (75, 2, true), (3, 3, true), (394, 4, true)], size := 5, bytes := 72, zero := .agg #[.pointer none, .slice none 0 0, .slice none 0 0, .int .i64 0, .nilFunc], eqok := false }
noncomputable def ti396 : TI := { td := .struct [(386, 0, true), (22, 1, true), (75, 2, true), (3, 3, true), (394, 4, true)], size := 5, bytes := 72, zero := .agg #[.pointer none, .slice none 0 0, .slice none 0 0, .int .i64 0, .nilFunc], eqok := false }
noncomputable def ti397 : TI := { td := .func, size := 1, bytes := 8, zero := .nilFunc, eqok := false }
noncomputable def ti398 : TI := { td := .func, size := 1, bytes := 8, zero := .nilFunc, eqok := false }
noncomputable def ti400 : TI := { td := .func, size := 1, bytes := 8, zero := .nilFunc, eqok := false }
noncomputable def ti401 : TI := { td := .func, size := 1, bytes := 8, zero := .nilFunc, eqok := false }
noncomputable def ti402 : TI := { td := .func, size := 1, bytes := 8, zero := .nilFunc, eqok := false }
noncomputable def ti403 : TI := { td := .struct [(314, 0, true), (3, 1, true)], size := 2, bytes := 16, zero := .agg #[.pointer none, .int .i64 0], eqok := false }
noncomputable def ti404 : TI := { td := .struct [(314, 0, true), (3, 1, true)], size := 2, bytes := 16, zero := .agg #[.pointer none, .int .i64 0], eqok := false }
noncomputable def ti406 : TI := { td := .func, size := 1, bytes := 8, zero := .nilFunc, eqok := false }
noncomputable def ti407 : TI := { td := .struct [(9, 0, true), (3, 1, true)], size := 2, bytes := 24, zero := .agg #[.string ⟨#[]⟩, .int .i64 0], eqok := false }
noncomputable def ti408 : TI := { td := .struct [(9, 0, true), (3, 1, true)], size := 2, bytes := 24, zero := .agg #[.string ⟨#[]⟩, .int .i64 0], eqok := false }
noncomputable def ti409 : TI := { td := .func, size := 1, bytes := 8, zero := .nilFunc, eqok := false }
noncomputable def ti410 : TI := { td := .func, size := 1, bytes := 8, zero := .nilFunc, eqok := false }
noncomputable def ti411 : TI := { td := .func, size := 1, bytes := 8, zero := .nilFunc, eqok := false }
noncomputable def ti412 : TI := { td := .struct [(9, 0, true), (73, 1, true)], size := 6, bytes := 96, zero := .agg #[.string ⟨#[]⟩, .int .i64 0, .string ⟨#[]⟩, .string ⟨#[]⟩, .string ⟨#[]⟩, .slice none 0 0], eqok := false }
noncomputable def ti413 : TI := { td := .struct [(9, 0, true), (73, 1, true)], size := 6, bytes := 96, zero := .agg #[.string ⟨#[]⟩, .int .i64 0, .string ⟨#[]⟩, .string ⟨#[]⟩, .string ⟨#[]⟩, .slice none 0 0], eqok := false }
noncomputable def ti414 : TI := { td := .func, size := 1, bytes := 8, zero := .nilFunc, eqok := false }
noncomputable def ti415 : TI := { td := .func, size := 1, bytes := 8, zero := .nilFunc, eqok := false }
noncomputable def ti416 : TI := { td := .func, size := 1, bytes := 8, zero := .nilFunc, eqok := false }
noncomputable def ti417 : TI := { td := .func, size := 1, bytes := 8, zero := .nilFunc, eqok := false }
noncomputable def ti418 : TI := { td := .func, size := 1, bytes := 8, zero := .nilFunc, eqok := false }
noncomputable def ti419 : TI := { td := .func, size := 1, bytes := 8, zero := .nilFunc, eqok := false }
noncomputable def ti420 : TI := { td := .ptr 422, size := 1, bytes := 8, zero := .pointer none, eqok := false }
noncomputable def ti421 : TI := { td := .struct [(9, 0, true), (3, 1, true), (4, 2, true)], size := 3, bytes := 32, zero := .agg #[.string ⟨#[]⟩, .int .i64 0, .bool false], eqok := false }
noncomputable def ti422 : TI := { td := .struct [(9, 0, true), (3, 1, true), (4, 2, true)], size := 3, bytes := 32, zero := .agg #[.string ⟨#[]⟩, .int .i64 0, .bool false], eqok := false }
noncomputable def ti423 : TI := { td := .func, size := 1, bytes := 8, zero := .nilFunc, eqok := false }
noncomputable def ti424 : TI := { td := .func, size := 1, bytes := 8, zero := .nilFunc, eqok := false }
noncomputable def ti425 : TI := { td := .func, size := 1, bytes := 8, zero := .nilFunc, eqok := false }
noncomputable def ti426 : TI := { td := .ptr 441, size := 1, bytes := 8, zero := .pointer none, eqok := false }
noncomputable def ti428 : TI := { td := .func, size := 1, bytes := 8, zero := .nilFunc, eqok := false }
noncomputable def ti429 : TI := { td := .func, size := 1, bytes := 8, zero := .nilFunc, eqok := false }
noncomputable def ti430 : TI := { td := .func, size := 1, bytes := 8, zero := .nilFunc, eqok := false }
noncomputable def ti431 : TI := { td := .func, size := 1, bytes := 8, zero := .nilFunc, eqok := false }
noncomputable def ti432 : TI := { td := .slice 349, size := 1, bytes := 24, zero := .slice none 0 0, eqok := false }
noncomputable def ti435 : TI := { td := .slice 432, size := 1, bytes := 24, zero := .slice none 0 0, eqok := false }
noncomputable def ti436 : TI := { td := .slice 435, size := 1, bytes := 24, zero := .slice none 0 0, eqok := false }
noncomputable def ti437 : TI := { td := .struct [(426, 0, true), (3, 1, true), (434, 2, true), (435, 3, true), (436, 4, true)], size := 5, bytes := 80, zero := .agg #[.pointer none, .int .i64 0, .nilIface, .slice none 0 0, .slice none 0 0], eqok := false }
noncomputable def ti438 : TI := { td := .struct [(426, 0, true), (3, 1, true), (434, 2, true), (435, 3, true), (436, 4, true)], size := 5, bytes := 80, zero := .agg #[.pointer none, .int .i64 0, .nilIface, .slice none 0 0, .slice none 0 0], eqok := false }
noncomputable def ti439 : TI := { td := .slice 487, size := 1, bytes := 24, zero := .slice none 0 0, eqok := false }
noncomputable def ti440 : TI := { td := .struct [(75, 0, true), (3, 1, true), (3, 2, true), (439, 3, true), (94, 4, true), (179, 5, true)], size := 6, bytes := 96, zero := .agg #[.slice none 0 0, .int .i64 0, .int .i64 0, .slice none 0 0, .slice none 0 0, .map none], eqok := false }
noncomputable def ti441 : TI := { td := .struct [(75, 0, true), (3, 1, true), (3, 2, true), (439, 3, true), (94, 4, true), (179, 5, true)], size := 6, bytes := 96, zero := .agg #[.slice none 0 0, .int .i64 0, .int .i64 0, .slice none 0 0, .slice none 0 0, .map none], eqok := false }
noncomputable def ti442 : TI := { td := .map 352 450, size := 1, bytes := 8, zero := .map none, eqok := false }
noncomputable def ti443 : TI := { td := .slice 352, size := 1, bytes := 24, zero := .slice none 0 0, eqok := false }
noncomputable def ti444 : TI := { td := .struct [(443, 0, true), (442, 1, true)], size := 2, bytes := 32, zero := .agg #[.slice none 0 0, .map none], eqok := false }
noncomputable def ti445 : TI := { td := .struct [(443, 0, true), (442, 1, true)], size := 2, bytes := 32, zero := .agg #[.slice none 0 0, .map none], eqok := false }
noncomputable def ti446 : TI := { td := .func, size := 1, bytes := 8, zero := .nilFunc, eqok := false }
noncomputable def ti447 : TI := { td := .map 352 265, size := 1, bytes := 8, zero := .map none, eqok := false }
noncomputable def ti448 : TI := { td := .func, size := 1, bytes := 8, zero := .nilFunc, eqok := false }
noncomputable def ti450 : TI := { td := .slice 443, size := 1, bytes := 24, zero := .slice none 0 0, eqok := false }
noncomputable def ti451 : TI := { td := .func, size := 1, bytes := 8, zero := .nilFunc, eqok := false }
noncomputable def ti452 : TI := { td := .func, size := 1, bytes := 8, zero := .nilFunc, eqok := false }
noncomputable def ti453 : TI := { td := .slice 265, size := 1, bytes := 24, zero := .slice none 0 0, eqok := false }
noncomputable def ti454 : TI := { td := .func, size := 1, bytes := 8, zero := .nilFunc, eqok := false }
noncomputable def ti455 : TI := { td := .func, size := 1, bytes := 8, zero := .nilFunc, eqok := false }
noncomputable def ti456 : TI := { td := .func, size := 1, bytes := 8, zero := .nilFunc, eqok := false }
noncomputable def ti457 : TI := { td := .func, size := 1, bytes := 8, zero := .nilFunc, eqok := false }
noncomputable def ti458 : TI := { td := .func, size := 1, bytes := 8, zero := .nilFunc, eqok := false }
noncomputable def ti459 : TI := { td := .func, size := 1, bytes := 8, zero := .nilFunc, eqok := false }
noncomputable def ti460 : TI := { td := .ptr 363, size := 1, bytes := 8, zero := .pointer none, eqok := false }
noncomputable def ti461 : TI := { td := .func, size := 1, bytes := 8, zero := .nilFunc, eqok := false }
noncomputable def ti462 : TI := { td := .func, size := 1, bytes := 8, zero := .nilFunc, eqok := false }
noncomputable def ti463 : TI := { td := .func, size := 1, bytes := 8, zero := .nilFunc, eqok := false }
noncomputable def ti464 : TI := { td := .func, size := 1, bytes := 8, zero := .nilFunc, eqok := false }
noncomputable def ti465 : TI := { td := .func, size := 1, bytes := 8, zero := .nilFunc, eqok := false }
noncomputable def ti466 : TI := { td := .func, size := 1, bytes := 8, zero := .nilFunc, eqok := false }
noncomputable def ti467 : TI := { td := .func, size := 1, bytes := 8, zero := .nilFunc, eqok := false }
noncomputable def ti468 : TI := { td := .func, size := 1, bytes := 8, zero := .nilFunc, eqok := false }
noncomputable def ti469 : TI := { td := .func, size := 1, bytes := 8, zero := .nilFunc, eqok := false }
noncomputable def ti470 : TI := { td := .func, size := 1, bytes := 8, zero := .nilFunc, eqok := false }
noncomputable def ti471 : TI := { td := .func, size := 1, bytes := 8, zero := .nilFunc, eqok := false }
noncomputable def ti473 : TI := { td := .func, size := 1, bytes := 8, zero := .nilFunc, eqok := false }
noncomputable def ti474 : TI := { td := .func, size := 1, bytes := 8, zero := .nilFunc, eqok := false }
noncomputable def ti475 : TI := { td := .func, size := 1, bytes := 8, zero := .nilFunc, eqok := false }
noncomputable def ti476 : TI := { td := .func, size := 1, bytes := 8, zero := .nilFunc, eqok := false }
noncomputable def ti477 : TI := { td := .func, size := 1, bytes := 8, zero := .nilFunc, eqok := false }
noncomputable def ti478 : TI := { td := .func, size := 1, bytes := 8, zero := .nilFunc, eqok := false }
noncomputable def ti479 : TI := { td := .func, size := 1, bytes := 8, zero := .nilFunc, eqok := false }
noncomputable def ti480 : TI := { td := .func, size := 1, bytes := 8, zero := .nilFunc, eqok := false }
noncomputable def ti481 : TI := { td := .func, size := 1, bytes := 8, zero := .nilFunc, eqok := false }
noncomputable def ti482 : TI := { td := .func, size := 1, bytes := 8, zero := .nilFunc, eqok := false }
noncomputable def ti483 : TI := { td := .func, size := 1, bytes := 8, zero := .nilFunc, eqok := false }
noncomputable def ti484 : TI := { td := .func, size := 1, bytes := 8, zero := .nilFunc, eqok := false }
noncomputable def ti485 : TI := { td := .func, size := 1, bytes := 8, zero := .nilFunc, eqok := false }
noncomputable def ti486 : TI := { td := .struct [(3, 0, true), (22, 1, true), (3, 2, true)], size := 3, bytes := 40, zero := .agg #[.int .i64 0, .slice none 0 0, .int .i64 0], eqok := false }
noncomputable def ti487 : TI := { td := .struct [(3, 0, true), (22, 1, true), (3, 2, true)], size := 3, bytes := 40, zero := .agg #[.int .i64 0, .slice none 0 0, .int .i64 0], eqok := false }
noncomputable def ti488 : TI := { td := .func, size := 1, bytes := 8, zero := .nilFunc, eqok := false }
noncomputable def ti490 : TI := { td := .func, size := 1, bytes := 8, zero := .nilFunc, eqok := false }
noncomputable def ti491 : TI := { td := .arr 32 5, size := 32, bytes := 32, zero := .agg #[.int .u8 0, .int .u8 0, .int .u8 0, .int .u8 0, .int .u8 0, .int .u8 0, .int .u8 0, .int .u8 0, .int .u8 0, .int .u8 0, .int .u8 0, .int .u8 0, .int .u8 0, .int .u8 0, .int .u8 0, .int .u8 0, .int .u8 0, .int .u8 0, .int .u8 0, .int .u8 0, .int .u8 0, .int .u8 0, .int .u8 0, .int .u8 0, .int .u8 0, .int .u8 0, .int .u8 0, .int .u8 0, .int .u8 0, .int .u8 0, .int .u8 0, .int .u8 0], eqok := false }
noncomputable def ti492 : TI := { td := .slice 501, size := 1, bytes := 24, zero := .slice none 0 0, eqok := false }
noncomputable def ti494 : TI := { td := .func, size := 1, bytes := 8, zero := .nilFunc, eqok := false }
noncomputable def ti495 : TI := { td := .slice 179, size := 1, bytes := 24, zero := .slice none 0 0, eqok := false }
noncomputable def ti496 : TI := { td := .struct [(80, 0, true), (495, 3, true), (495, 4, true)], size := 5, bytes := 112, zero := .agg #[.slice none 0 0, .string ⟨#[]⟩, .slice none 0 0, .slice none 0 0, .slice none 0 0], eqok := false }
noncomputable def ti497 : TI := { td := .struct [(80, 0, true), (495, 3, true), (495, 4, true)], size := 5, bytes := 112, zero := .agg #[.slice none 0 0, .string ⟨#[]⟩, .slice none 0 0, .slice none 0 0, .slice none 0 0], eqok := false }
noncomputable def ti498 : TI := { td := .slice 503, size := 1, bytes := 24, zero := .slice none 0 0, eqok := false }
noncomputable def ti499 : TI := { td := .slice 505, size := 1, bytes := 24, zero := .slice none 0 0, eqok := false }
noncomputable def ti500 : TI := { td := .struct [(498, 0, true), (499, 1, true)], size := 2, bytes := 48, zero := .agg #[.slice none 0 0, .slice none 0 0], eqok := false }
noncomputable def ti501 : TI := { td := .struct [(498, 0, true), (499, 1, true)], size := 2, bytes := 48, zero := .agg #[.slice none 0 0, .slice none 0 0], eqok := false }
noncomputable def ti502 : TI := { td := .struct [(9, 0, true), (3, 1, true)], size := 2, bytes := 24, zero := .agg #[.string ⟨#[]⟩, .int .i64 0], eqok := false }
noncomputable def ti503 : TI := { td := .struct [(9, 0, true), (3, 1, true)], size := 2, bytes := 24, zero := .agg #[.string ⟨#[]⟩, .int .i64 0], eqok := false }
noncomputable def ti504 : TI := { td := .struct [(9, 0, true), (3, 1, true)], size := 2, bytes := 24, zero := .agg #[.string ⟨#[]⟩, .int .i64 0], eqok := false }
noncomputable def ti505 : TI := { td := .struct [(9, 0, true), (3, 1, true)], size := 2, bytes := 24, zero := .agg #[.string ⟨#[]⟩, .int .i64 0], eqok := false }
noncomputable def ti506 : TI := { td := .func, size := 1, bytes := 8, zero := .nilFunc, eqok := false }
noncomputable def ti507 : TI := { td := .func, size := 1, bytes := 8, zero := .nilFunc, eqok := false }
noncomputable def ti508 : TI := { td := .func, size := 1, bytes := 8, zero := .nilFunc, eqok := false }
noncomputable def ti509 : TI := { td := .func, size := 1, bytes := 8, zero := .nilFunc, eqok := false }
noncomputable def ti510 : TI := { td := .func, size := 1, bytes := 8, zero := .nilFunc, eqok := false }
noncomputable def ti511 : TI := { td := .func, size := 1, bytes := 8, zero := .nilFunc, eqok := false }
noncomputable def ti512 : TI := { td := .func, size := 1, bytes := 8, zero := .nilFunc, eqok := false }
noncomputable def ti513 : TI := { td := .func, size := 1, bytes := 8, zero := .nilFunc, eqok := false }
noncomputable def ti514 : TI := { td := .func, size := 1, bytes := 8, zero := .nilFunc, eqok := false }
noncomputable def ti515 : TI := { td := .func, size := 1, bytes := 8, zero := .nilFunc, eqok := false }
noncomputable def ti516 : TI := { td := .func, size := 1, bytes := 8, zero := .nilFunc, eqok := false }
noncomputable def ti517 : TI := { td := .func, size := 1, bytes := 8, zero := .nilFunc, eqok := false }
noncomputable def ti518 : TI := { td := .slice 4, size := 1, bytes := 24, zero := .slice none 0 0, eqok := false }
noncomputable def ti519 : TI := { td := .func, size := 1, bytes := 8, zero := .nilFunc, eqok := false }
noncomputable def ti520 : TI := { td := .func, size := 1, bytes := 8, zero := .nilFunc, eqok := false }
noncomputable def ti521 : TI := { td := .func, size := 1, bytes := 8, zero := .nilFunc, eqok := false }
noncomputable def ti522 : TI := { td := .func, size := 1, bytes := 8, zero := .nilFunc, eqok := false }
noncomputable def ti523 : TI := { td := .func, size := 1, bytes := 8, zero := .nilFunc, eqok := false }
noncomputable def ti524 : TI := { td := .func, size := 1, bytes := 8, zero := .nilFunc, eqok := false }
noncomputable def ti525 : TI := { td := .func, size := 1, bytes := 8, zero := .nilFunc, eqok := false }
noncomputable def ti526 : TI := { td := .func, size := 1, bytes := 8, zero := .nilFunc, eqok := false }
noncomputable def ti527 : TI := { td := .func, size := 1, bytes := 8, zero := .nilFunc, eqok := false }
noncomputable def ti528 : TI := { td := .func, size := 1, bytes := 8, zero := .nilFunc, eqok := false }
noncomputable def ti529 : TI := { td := .ptr 545, size := 1, bytes := 8, zero := .pointer none, eqok := false }
noncomputable def ti531 : TI := { td := .func, size := 1, bytes := 8, zero := .nilFunc, eqok := false }
noncomputable def ti533 : TI := { td := .func, size := 1, bytes := 8, zero := .nilFunc, eqok := false }
noncomputable def ti534 : TI := { td := .func, size := 1, bytes := 8, zero := .nilFunc, eqok := false }
noncomputable def ti535 : TI := { td := .func, size := 1, bytes := 8, zero := .nilFunc, eqok := false }
noncomputable def ti536 : TI := { td := .func, size := 1, bytes := 8, zero := .nilFunc, eqok := false }
noncomputable def ti537 : TI := { td := .func, size := 1, bytes := 8, zero := .nilFunc, eqok := false }
noncomputable def ti538 : TI := { td := .func, size := 1, bytes := 8, zero := .nilFunc, eqok := false }
noncomputable def ti540 : TI := { td := .func, size := 1, bytes := 8, zero := .nilFunc, eqok := false }
noncomputable def ti542 : TI := { td := .func, size := 1, bytes := 8, zero := .nilFunc, eqok := false }
noncomputable def ti543 : TI := { td := .slice 548, size := 1, bytes := 24, zero := .slice none 0 0, eqok := false }
noncomputable def ti544 : TI := { td := .struct [(426, 0, true), (518, 1, true), (181, 2, true), (22, 3, true), (22, 4, true), (543, 5, true)], size := 6, bytes := 128, zero := .agg #[.pointer none, .slice none 0 0, .slice none 0 0, .slice none 0 0, .slice none 0 0, .slice none 0 0], eqok := false }
noncomputable def ti545 : TI := { td := .struct [(426, 0, true), (518, 1, true), (181, 2, true), (22, 3, true), (22, 4, true), (543, 5, true)], size := 6, bytes := 128, zero := .agg #[.pointer none, .slice none 0 0, .slice none 0 0, .slice none 0 0, .slice none 0 0, .slice none 0 0], eqok := false }
noncomputable def ti546 : TI := { td := .slice 564, size := 1, bytes := 24, zero := .slice none 0 0, eqok := false }
noncomputable def ti547 : TI := { td := .struct [(546, 0, true), (181, 1, true), (22, 2, true)], size := 3, bytes := 72, zero := .agg #[.slice none 0 0, .slice none 0 0, .slice none 0 0], eqok := false }
noncomputable def ti548 : TI := { td := .struct [(546, 0, true), (181, 1, true), (22, 2, true)], size := 3, bytes := 72, zero := .agg #[.slice none 0 0, .slice none 0 0, .slice none 0 0], eqok := false }
noncomputable def ti549 : TI := { td := .struct [(22, 0, true), (4, 1, true), (4, 2, true), (3, 3, true), (4, 4, true), (4, 5, true)], size := 6, bytes := 48, zero := .agg #[.slice none 0 0, .bool false, .bool false, .int .i64 0, .bool false, .bool false], eqok := false }
noncomputable def ti550 : TI := { td := .struct [(22, 0, true), (4, 1, true), (4, 2, true), (3, 3, true), (4, 4, true), (4, 5, true)], size := 6, bytes := 48, zero := .agg #[.slice none 0 0, .bool false, .bool false, .int .i64 0, .bool false, .bool false], eqok := false }
noncomputable def ti551 : TI := { td := .func, size := 1, bytes := 8, zero := .nilFunc, eqok := false }
noncomputable def ti552 : TI := { td := .func, size := 1, bytes := 8, zero := .nilFunc, eqok := false }
noncomputable def ti553 : TI := { td := .func, size := 1, bytes := 8, zero := .nilFunc, eqok := false }
noncomputable def ti554 : TI := { td := .func, size := 1, bytes := 8, zero := .nilFunc, eqok := false }
noncomputable def ti555 : TI := { td := .func, size := 1, bytes := 8, zero := .nilFunc, eqok := false }
noncomputable def ti556 : TI := { td := .func, size := 1, bytes := 8, zero := .nilFunc, eqok := false }
noncomputable def ti557 : TI := { td := .func, size := 1, bytes := 8, zero := .nilFunc, eqok := false }
noncomputable def ti558 : TI := { td := .func, size := 1, bytes := 8, zero := .nilFunc, eqok := false }
noncomputable def ti559 : TI := { td := .func, size := 1, bytes := 8, zero := .nilFunc, eqok := false }
noncomputable def ti561 : TI := { td := .func, size := 1, bytes := 8, zero := .nilFunc, eqok := false }
noncomputable def ti562 : TI := { td := .func, size := 1, bytes := 8, zero := .nilFunc, eqok := false }
noncomputable def ti563 : TI := { td := .struct [(3, 0, true), (3, 1, true)], size := 2, bytes := 16, zero := .agg #[.int .i64 0, .int .i64 0], eqok := false }
noncomputable def ti564 : TI := { td := .struct [(3, 0, true), (3, 1, true)], size := 2, bytes := 16, zero := .agg #[.int .i64 0, .int .i64 0], eqok := false }
noncomputable def ti565 : TI := { td := .func, size := 1, bytes := 8, zero := .nilFunc, eqok := false }
noncomputable def ti566 : TI := { td := .func, size := 1, bytes := 8, zero := .nilFunc, eqok := false }
noncomputable def ti567 : TI := { td := .func, size := 1, bytes := 8, zero := .nilFunc, eqok := false }
noncomputable def ti568 : TI := { td := .func, size := 1, bytes := 8, zero := .nilFunc, eqok := false }
noncomputable def ti569 : TI := { td := .func, size := 1, bytes := 8, zero := .nilFunc, eqok := false }
noncomputable def ti570 : TI := { td := .func, size := 1, bytes := 8, zero := .nilFunc, eqok := false }
noncomputable def ti571 : TI := { td := .func, size := 1, bytes := 8, zero := .nilFunc, eqok := false }
noncomputable def ti572 : TI := { td := .func, size := 1, bytes := 8, zero := .nilFunc, eqok := false }
noncomputable def ti573 : TI := { td := .func, size := 1, bytes := 8, zero := .nilFunc, eqok := false }
noncomputable def ti574 : TI := { td := .func, size := 1, bytes := 8, zero := .nilFunc, eqok := false }
noncomputable def ti576 : TI := { td := .func, size := 1, bytes := 8, zero := .nilFunc, eqok := false }
noncomputable def ti577 : TI := { td := .func, size := 1, bytes := 8, zero := .nilFunc, eqok := false }
noncomputable def ti578 : TI := { td := .map 564 221, size := 1, bytes := 8, zero := .map none, eqok := false }
noncomputable def ti579 : TI := { td := .func, size := 1, bytes := 8, zero := .nilFunc, eqok := false }
noncomputable def ti581 : TI := { td := .func, size := 1, bytes := 8, zero := .nilFunc, eqok := false }
noncomputable def ti583 : TI := { td := .func, size := 1, bytes := 8, zero := .nilFunc, eqok := false }
noncomputable def ti584 : TI := { td := .ptr 548, size := 1, bytes := 8, zero := .pointer none, eqok := false }
noncomputable def ti585 : TI := { td := .func, size := 1, bytes := 8, zero := .nilFunc, eqok := false }
noncomputable def ti586 : TI := { td := .func, size := 1, bytes := 8, zero := .nilFunc, eqok := false }
noncomputable def ti587 : TI := { td := .func, size := 1, bytes := 8, zero := .nilFunc, eqok := false }
noncomputable def ti588 : TI := { td := .func, size := 1, bytes := 8, zero := .nilFunc, eqok := false }
noncomputable def ti589 : TI := { td := .func, size := 1, bytes := 8, zero := .nilFunc, eqok := false }
noncomputable def ti590 : TI := { td := .func, size := 1, bytes := 8, zero := .nilFunc, eqok := false }
noncomputable def ti591 : TI := { td := .func, size := 1, bytes := 8, zero := .nilFunc, eqok := false }
noncomputable def ti592 : TI := { td := .func, size := 1, bytes := 8, zero := .nilFunc, eqok := false }
noncomputable def ti593 : TI := { td := .func, size := 1, bytes := 8, zero := .nilFunc, eqok := false }
noncomputable def ti594 : TI := { td := .func, size := 1, bytes := 8, zero := .nilFunc, eqok := false }
noncomputable def ti595 : TI := { td := .func, size := 1, bytes := 8, zero := .nilFunc, eqok := false }
noncomputable def ti596 : TI := { td := .func, size := 1, bytes := 8, zero := .nilFunc, eqok := false }
noncomputable def ti597 : TI := { td := .func, size := 1, bytes := 8, zero := .nilFunc, eqok := false }
noncomputable def ti598 : TI := { td := .func, size := 1, bytes := 8, zero := .nilFunc, eqok := false }
noncomputable def ti599 : TI := { td := .func, size := 1, bytes := 8, zero := .nilFunc, eqok := false }
noncomputable def ti600 : TI := { td := .func, size := 1, bytes := 8, zero := .nilFunc, eqok := false }
noncomputable def ti601 : TI := { td := .func, size := 1, bytes := 8, zero := .nilFunc, eqok := false }
noncomputable def ti602 : TI := { td := .func, size := 1, bytes := 8, zero := .nilFunc, eqok := false }
noncomputable def ti603 : TI := { td := .func, size := 1, bytes := 8, zero := .nilFunc, eqok := false }
noncomputable def ti604 : TI := { td := .struct [(17, 0, true), (17, 1, true), (17, 2, true), (9, 3, true)], size := 4, bytes := 40, zero := .agg #[.pointer none, .pointer none, .pointer none, .string ⟨#[]⟩], eqok := false }
noncomputable def ti605 : TI := { td := .struct [(17, 0, true), (17, 1, true), (17, 2, true), (9, 3, true)], size := 4, bytes := 40, zero := .agg #[.pointer none, .pointer none, .pointer none, .string ⟨#[]⟩], eqok := false }
noncomputable def ti606 : TI := { td := .arr 0 16, size := 0, bytes := 0, zero := .agg #[], eqok := false }
noncomputable def ti607 : TI := { td := .struct [(606, 0, false)], size := 0, bytes := 0, zero := .agg #[], eqok := false }
noncomputable def ti608 : TI := { td := .struct [(606, 0, false)], size := 0, bytes := 0, zero := .agg #[], eqok := false }
noncomputable def ti609 : TI := { td := .int .u8, size := 1, bytes := 1, zero := .int .u8 0, eqok := false }
noncomputable def ti610 : TI := { td := .int .u8, size := 1, bytes := 1, zero := .int .u8 0, eqok := false }
noncomputable def ti611 : TI := { td := .func, size := 1, bytes := 8, zero := .nilFunc, eqok := false }
noncomputable def ti612 : TI := { td := .int .i32, size := 1, bytes := 4, zero := .int .i32 0, eqok := false }
noncomputable def ti613 : TI := { td := .int .i32, size := 1, bytes := 4, zero := .int .i32 0, eqok := false }
noncomputable def ti614 : TI := { td := .struct [(12, 0, true), (12, 1, true), (280, 2, true), (609, 3, true), (5, 4, true), (5, 5, true), (610, 6, true), (611, 7, true), (142, 8, true), (612, 9, true), (613, 10, true)], size := 11, bytes := 48, zero := .agg #[.int .u64 0, .int .u64 0, .int .u32 0, .int .u8 0, .int .u8 0, .int .u8 0, .int .u8 0, .nilFunc, .pointer none, .int .i32 0, .int .i32 0], eqok := false }
noncomputable def ti615 : TI := { td := .struct [(12, 0, true), (12, 1, true), (280, 2, true), (609, 3, true), (5, 4, true), (5, 5, true), (610, 6, true), (611, 7, true), (142, 8, true), (612, 9, true), (613, 10, true)], size := 11, bytes := 48, zero := .agg #[.int .u64 0, .int .u64 0, .int .u32 0, .int .u8 0, .int .u8 0, .int .u8 0, .int .u8 0, .nilFunc, .pointer none, .int .i32 0, .int .i32 0], eqok := false }
noncomputable def tys : BT TI := (.node 312 ti312 (.node 153 ti153 (.node 77 ti77 (.node 38 ti38 (.node 18 ti18 (.node 9 ti9 (.node 5 ti5 (.node 3 ti3 (.node 2 ti2 (.node 1 ti1 .nil .nil) .nil) (.node 4 ti4 .nil .nil)) (.node 7 ti7 (.node 6 ti6 .nil .nil) (.node 8 ti8 .nil .nil))) (.node 14 ti14 (.node 12 ti12 (.node 11 ti11 (.node 10 ti10 .nil .nil) .nil) (.node 13 ti13 .nil .nil)) (.node 16 ti16 (.node 15 ti15 .nil .nil) (.node 17 ti17 .nil .nil)))) (.node 28 ti28 (.node 24 ti24 (.node 22 ti22 (.node 21 ti21 (.node 19 ti19 .nil .nil) .nil) (.node 23 ti23 .nil .nil)) (.node 26 ti26 (.node 25 ti25 .nil .nil) (.node 27 ti27 .nil .nil))) (.node 34 ti34 (.node 31 ti31 (.node 29 ti29 .nil .nil) (.node 33 ti33 .nil .nil)) (.node 36 ti36 (.node 35 ti35 .nil .nil) (.node 37 ti37 .nil .nil))))) (.node 59 ti59 (.node 49 ti49 (.node 44 ti44 (.node 42 ti42 (.node 41 ti41 (.node 39 ti39 .nil .nil) .nil) (.node 43 ti43 .nil .nil)) (.node 46 ti46 (.node 45 ti45 .nil .nil) (.node 48 ti48 .nil .nil))) (.node 55 ti55 (.node 53 ti53 (.node 52 ti52 (.node 51 ti51 .nil .nil) .nil) (.node 54 ti54 .nil .nil)) (.node 57 ti57 (.node 56 ti56 .nil .nil) (.node 58 ti58 .nil .nil)))) (.node 69 ti69 (.node 65 ti65 (.node 63 ti63 (.node 62 ti62 (.node 61 ti61 .nil .nil) .nil) (.node 64 ti64 .nil .nil)) (.node 67 ti67 (.node 66 ti66 .nil .nil) (.node 68 ti68 .nil .nil))) (.node 73 ti73 (.node 71 ti71 (.node 70 ti70 .nil .nil) (.node 72 ti72 .nil .nil)) (.node 75 ti75 (.node 74 ti74 .nil .nil) (.node 76 ti76 .nil .nil)))))) (.node 116 ti116 (.node 95 ti95 (.node 86 ti86 (.node 82 ti82 (.node 80 ti80 (.node 79 ti79 (.node 78 ti78 .nil .nil) .nil) (.node 81 ti81 .nil .nil)) (.node 84 ti84 (.node 83 ti83 .nil .nil) (.node 85 ti85 .nil .nil))) (.node 91 ti91 (.node 89 ti89 (.node 88 ti88 (.node 87 ti87 .nil .nil) .nil) (.node 90 ti90 .nil .nil)) (.node 93 ti93 (.node 92 ti92 .nil .nil) (.node 94 ti94 .nil .nil)))) (.node 104 ti104 (.node 100 ti100 (.node 98 ti98 (.node 97 ti97 (.node 96 ti96 .nil .nil) .nil) (.node 99 ti99 .nil .nil)) (.node 102 ti102 (.node 101 ti101 .nil .nil) (.node 103 ti103 .nil .nil))) (.node 111 ti111 (.node 106 ti106 (.node 105 ti105 .nil .nil) (.node 107 ti107 .nil .nil)) (.node 113 ti113 (.node 112 ti112 .nil .nil) (.node 115 ti115 .nil .nil))))) (.node 134 ti134 (.node 126 ti126 (.node 122 ti122 (.node 120 ti120 (.node 118 ti118 (.node 117 ti117 .nil .nil) .nil) (.node 121 ti121 .nil .nil)) (.node 124 ti124 (.node 123 ti123 .nil .nil) (.node 125 ti125 .nil .nil))) (.node 130 ti130 (.node 128 ti128 (.node 127 ti127 .nil .nil) (.node 129 ti129 .nil .nil)) (.node 132 ti132 (.node 131 ti131 .nil .nil) (.node 133 ti133 .nil .nil)))) (.node 144 ti144 (.node 140 ti140 (.node 137 ti137 (.node 136 ti136 (.node 135 ti135 .nil .nil) .nil) (.node 139 ti139 .nil .nil)) (.node 142 ti142 (.node 141 ti141 .nil .nil) (.node 143 ti143 .nil .nil))) (.node 149 ti149 (.node 146 ti146 (.node 145 ti145 .nil .nil) (.node 148 ti148 .nil .nil)) (.node 151 ti151 (.node 150 ti150 .nil .nil) (.node 152 ti152 .nil .nil))))))) (.node 227 ti227 (.node 190 ti190 (.node 173 ti173 (.node 162 ti162 (.node 158 ti158 (.node 156 ti156 (.node 155 ti155 (.node 154 ti154 .nil .nil) .nil) (.node 157 ti157 .nil .nil)) (.node 160 ti160 (.node 159 ti159 .nil .nil) (.node 161 ti161 .nil .nil))) (.node 167 ti167 (.node 165 ti165 (.node 164 ti164 (.node 163 ti163 .nil .nil) .nil) (.node 166 ti166 .nil .nil)) (.node 170 ti170 (.node 168 ti168 .nil .nil) (.node 171 ti171 .nil .nil)))) (.node 182 ti182 (.node 178 ti178 (.node 176 ti176 (.node 175 ti175 (.node 174 ti174 .nil .nil) .nil) (.node 177 ti177 .nil .nil)) (.node 180 ti180 (.node 179 ti179 .nil .nil) (.node 181 ti181 .nil .nil))) (.node 186 ti186 (.node 184 ti184 (.node 183 ti183 .nil .nil) (.node 185 ti185 .nil .nil)) (.node 188 ti188 (.node 187 ti187 .nil .nil) (.node 189 ti189 .nil .nil))))) (.node 210 ti210 (.node 199 ti199 (.node 195 ti195 (.node 193 ti193 (.node 192 ti192 (.node 191 ti191 .nil .nil) .nil) (.node 194 ti194 .nil .nil)) (.node 197 ti197 (.node 196 ti196 .nil .nil) (.node 198 ti198 .nil .nil))) (.node 205 ti205 (.node 203 ti203 (.node 202 ti202 (.node 201 ti201 .nil .nil) .nil) (.node 204 ti204 .nil .nil)) (.node 207 ti207 (.node 206 ti206 .nil .nil) (.node 209 ti209 .nil .nil)))) (.node 219 ti219 (.node 215 ti215 (.node 213 ti213 (.node 212 ti212 (.node 211 ti211 .nil .nil) .nil) (.node 214 ti214 .nil .nil)) (.node 217 ti217 (.node 216 ti216 .nil .nil) (.node 218 ti218 .nil .nil))) (.node 223 ti223 (.node 221 ti221 (.node 220 ti220 .nil .nil) (.node 222 ti222 .nil .nil)) (.node 225 ti225 (.node 224 ti224 .nil .nil) (.node 226 ti226 .nil .nil)))))) (.node 275 ti275 (.node 252 ti252 (.node 240 ti240 (.node 234 ti234 (.node 231 ti231 (.node 229 ti229 (.node 228 ti228 .nil .nil) .nil) (.node 232 ti232 .nil .nil)) (.node 237 ti237 (.node 236 ti236 .nil .nil) (.node 239 ti239 .nil .nil))) (.node 246 ti246 (.node 243 ti243 (.node 242 ti242 (.node 241 ti241 .nil .nil) .nil) (.node 245 ti245 .nil .nil)) (.node 248 ti248 (.node 247 ti247 .nil .nil) (.node 250 ti250 .nil .nil)))) (.node 265 ti265 (.node 259 ti259 (.node 256 ti256 (.node 255 ti255 (.node 254 ti254 .nil .nil) .nil) (.node 258 ti258 .nil .nil)) (.node 262 ti262 (.node 260 ti260 .nil .nil) (.node 264 ti264 .nil .nil))) (.node 270 ti270 (.node 268 ti268 (.node 267 ti267 .nil .nil) (.node 269 ti269 .nil .nil)) (.node 272 ti272 (.node 271 ti271 .nil .nil) (.node 274 ti274 .nil .nil))))) (.node 292 ti292 (.node 284 ti284 (.node 280 ti280 (.node 278 ti278 (.node 277 ti277 (.node 276 ti276 .nil .nil) .nil) (.node 279 ti279 .nil .nil)) (.node 282 ti282 (.node 281 ti281 .nil .nil) (.node 283 ti283 .nil .nil))) (.node 288 ti288 (.node 286 ti286 (.node 285 ti285 .nil .nil) (.node 287 ti287 .nil .nil)) (.node 290 ti290 (.node 289 ti289 .nil .nil) (.node 291 ti291 .nil .nil)))) (.node 304 ti304 (.node 298 ti298 (.node 296 ti296 (.node 295 ti295 (.node 294 ti294 .nil .nil) .nil) (.node 297 ti297 .nil .nil)) (.node 301 ti301 (.node 299 ti299 .nil .nil) (.node 302 ti302 .nil .nil))) (.node 308 ti308 (.node 306 ti306 (.node 305 ti305 .nil .nil) (.node 307 ti307 .nil .nil)) (.node 310 ti310 (.node 309 ti309 .nil .nil) (.node 311 ti311 .nil .nil)))))))) (.node 466 ti466 (.node 391 ti391 (.node 354 ti354 (.node 334 ti334 (.node 324 ti324 (.node 317 ti317 (.node 315 ti315 (.node 314 ti314 (.node 313 ti313 .nil .nil) .nil) (.node 316 ti316 .nil .nil)) (.node 320 ti320 (.node 318 ti318 .nil .nil) (.node 322 ti322 .nil .nil))) (.node 330 ti330 (.node 327 ti327 (.node 326 ti326 (.node 325 ti325 .nil .nil) .nil) (.node 329 ti329 .nil .nil)) (.node 332 ti332 (.node 331 ti331 .nil .nil) (.node 333 ti333 .nil .nil)))) (.node 345 ti345 (.node 341 ti341 (.node 339 ti339 (.node 337 ti337 (.node 335 ti335 .nil .nil) .nil) (.node 340 ti340 .nil .nil)) (.node 343 ti343 (.node 342 ti342 .nil .nil) (.node 344 ti344 .nil .nil))) (.node 350 ti350 (.node 348 ti348 (.node 347 ti347 .nil .nil) (.node 349 ti349 .nil .nil)) (.node 352 ti352 (.node 351 ti351 .nil .nil) (.node 353 ti353 .nil .nil))))) (.node 372 ti372 (.node 363 ti363 (.node 359 ti359 (.node 357 ti357 (.node 356 ti356 (.node 355 ti355 .nil .nil) .nil) (.node 358 ti358 .nil .nil)) (.node 361 ti361 (.node 360 ti360 .nil .nil) (.node 362 ti362 .nil .nil))) (.node 368 ti368 (.node 366 ti366 (.node 365 ti365 (.node 364 ti364 .nil .nil) .nil) (.node 367 ti367 .nil .nil)) (.node 370 ti370 (.node 369 ti369 .nil .nil) (.node 371 ti371 .nil .nil)))) (.node 382 ti382 (.node 377 ti377 (.node 375 ti375 (.node 374 ti374 (.node 373 ti373 .nil .nil) .nil) (.node 376 ti376 .nil .nil)) (.node 380 ti380 (.node 378 ti378 .nil .nil) (.node 381 ti381 .nil .nil))) (.node 386 ti386 (.node 384 ti384 (.node 383 ti383 .nil .nil) (.node 385 ti385 .nil .nil)) (.node 389 ti389 (.node 388 ti388 .nil .nil) (.node 390 ti390 .nil .nil)))))) (.node 429 ti429 (.node 411 ti411 (.node 401 ti401 (.node 396 ti396 (.node 394 ti394 (.node 393 ti393 (.node 392 ti392 .nil .nil) .nil) (.node 395 ti395 .nil .nil)) (.node 398 ti398 (.node 397 ti397 .nil .nil) (.node 400 ti400 .nil .nil))) (.node 407 ti407 (.node 404 ti404 (.node 403 ti403 (.node 402 ti402 .nil .nil) .nil) (.node 406 ti406 .nil .nil)) (.node 409 ti409 (.node 408 ti408 .nil .nil) (.node 410 ti410 .nil .nil)))) (.node 420 ti420 (.node 416 ti416 (.node 414 ti414 (.node 413 ti413 (.node 412 ti412 .nil .nil) .nil) (.node 415 ti415 .nil .nil)) (.node 418 ti418 (.node 417 ti417 .nil .nil) (.node 419 ti419 .nil .nil))) (.node 424 ti424 (.node 422 ti422 (.node 421 ti421 .nil .nil) (.node 423 ti423 .nil .nil)) (.node 426 ti426 (.node 425 ti425 .nil .nil) (.node 428 ti428 .nil .nil))))) (.node 448 ti448 (.node 440 ti440 (.node 436 ti436 (.node 432 ti432 (.node 431 ti431 (.node 430 ti430 .nil .nil) .nil) (.node 435 ti435 .nil .nil)) (.node 438 ti438 (.node 437 ti437 .nil .nil) (.node 439 ti439 .nil .nil))) (.node 444 ti444 (.node 442 ti442 (.node 441 ti441 .nil .nil) (.node 443 ti443 .nil .nil)) (.node 446 ti446 (.node 445 ti445 .nil .nil) (.node 447 ti447 .nil .nil)))) (.node 458 ti458 (.node 454 ti454 (.node 452 ti452 (.node 451 ti451 (.node 450 ti450 .nil .nil) .nil) (.node 453 ti453 .nil .nil)) (.node 456 ti456 (.node 455 ti455 .nil .nil) (.node 457 ti457 .nil .nil))) (.node 462 ti462 (.node 460 ti460 (.node 459 ti459 .nil .nil) (.node 461 ti461 .nil .nil)) (.node 464 ti464 (.node 463 ti463 .nil .nil) (.node 465 ti465 .nil .nil))))))) (.node 543 ti543 (.node 504 ti504 (.node 485 ti485 (.node 476 ti476 (.node 471 ti471 (.node 469 ti469 (.node 468 ti468 (.node 467 ti467 .nil .nil) .nil) (.node 470 ti470 .nil .nil)) (.node 474 ti474 (.node 473 ti473 .nil .nil) (.node 475 ti475 .nil .nil))) (.node 481 ti481 (.node 479 ti479 (.node 478 ti478 (.node 477 ti477 .nil .nil) .nil) (.node 480 ti480 .nil .nil)) (.node 483 ti483 (.node 482 ti482 .nil .nil) (.node 484 ti484 .nil .nil)))) (.node 496 ti496 (.node 491 ti491 (.node 488 ti488 (.node 487 ti487 (.node 486 ti486 .nil .nil) .nil) (.node 490 ti490 .nil .nil)) (.node 494 ti494 (.node 492 ti492 .nil .nil) (.node 495 ti495 .nil .nil))) (.node 500 ti500 (.node 498 ti498 (.node 497 ti497 .nil .nil) (.node 499 ti499 .nil .nil)) (.node 502 ti502 (.node 501 ti501 .nil .nil) (.node 503 ti503 .nil .nil))))) (.node 522 ti522 (.node 513 ti513 (.node 509 ti509 (.node 507 ti507 (.node 506 ti506 (.node 505 ti505 .nil .nil) .nil) (.node 508 ti508 .nil .nil)) (.node 511 ti511 (.node 510 ti510 .nil .nil) (.node 512 ti512 .nil .nil))) (.node 518 ti518 (.node 516 ti516 (.node 515 ti515 (.node 514 ti514 .nil .nil) .nil) (.node 517 ti517 .nil .nil)) (.node 520 ti520 (.node 519 ti519 .nil .nil) (.node 521 ti521 .nil .nil)))) (.node 533 ti533 (.node 527 ti527 (.node 525 ti525 (.node 524 ti524 (.node 523 ti523 .nil .nil) .nil) (.node 526 ti526 .nil .nil)) (.node 529 ti529 (.node 528 ti528 .nil .nil) (.node 531 ti531 .nil .nil))) (.node 537 ti537 (.node 535 ti535 (.node 534 ti534 .nil .nil) (.node 536 ti536 .nil .nil)) (.node 540 ti540 (.node 538 ti538 .nil .nil) (.node 542 ti542 .nil .nil)))))) (.node 581 ti581 (.node 562 ti562 (.node 552 ti552 (.node 548 ti548 (.node 546 ti546 (.node 545 ti545 (.node 544 ti544 .nil .nil) .nil) (.node 547 ti547 .nil .nil)) (.node 550 ti550 (.node 549 ti549 .nil .nil) (.node 551 ti551 .nil .nil))) (.node 557 ti557 (.node 555 ti555 (.node 554 ti554 (.node 553 ti553 .nil .nil) .nil) (.node 556 ti556 .nil .nil)) (.node 559 ti559 (.node 558 ti558 .nil .nil) (.node 561 ti561 .nil .nil)))) (.node 571 ti571 (.node 567 ti567 (.node 565 ti565 (.node 564 ti564 (.node 563 ti563 .nil .nil) .nil) (.node 566 ti566 .nil .nil)) (.node 569 ti569 (.node 568 ti568 .nil .nil) (.node 570 ti570 .nil .nil))) (.node 576 ti576 (.node 573 ti573 (.node 572 ti572 .nil .nil) (.node 574 ti574 .nil .nil)) (.node 578 ti578 (.node 577 ti577 .nil .nil) (.node 579 ti579 .nil .nil))))) (.node 599 ti599 (.node 591 ti591 (.node 587 ti587 (.node 585 ti585 (.node 584 ti584 (.node 583 ti583 .nil .nil) .nil) (.node 586 ti586 .nil .nil)) (.node 589 ti589 (.node 588 ti588 .nil .nil) (.node 590 ti590 .nil .nil))) (.node 595 ti595 (.node 593 ti593 (.node 592 ti592 .nil .nil) (.node 594 ti594 .nil .nil)) (.node 597 ti597 (.node 596 ti596 .nil .nil) (.node 598 ti598 .nil .nil)))) (.node 608 ti608 (.node 604 ti604 (.node 602 ti602 (.node 601 ti601 (.node 600 ti600 .nil .nil) .nil) (.node 603 ti603 .nil .nil)) (.node 606 ti606 (.node 605 ti605 .nil .nil) (.node 607 ti607 .nil .nil))) (.node 612 ti612 (.node 610 ti610 (.node 609 ti609 .nil .nil) (.node 611 ti611 .nil .nil)) (.node 614 ti614 (.node 613 ti613 .nil .nil) (.node 615 ti615 .nil .nil)))))))))
noncomputable def fns : BT Func := (.node 256 Tryz.f256 (.node 129 Tryz.f129 (.node 66 Tryz.f66 (.node 34 Tryz.f34 (.node 18 Tryz.f18 (.node 10 Tryz.f10 (.node 6 Tryz.f6 (.node 4 Tryz.f4 (.node 3 Tryz.f3 .nil .nil) (.node 5 Tryz.f5 .nil .nil)) (.node 8 Tryz.f8 (.node 7 Tryz.f7 .nil .nil) (.node 9 Tryz.f9 .nil .nil))) (.node 14 Tryz.f14 (.node 12 Tryz.f12 (.node 11 Tryz.f11 .nil .nil) (.node 13 Tryz.f13 .nil .nil)) (.node 16 Tryz.f16 (.node 15 Tryz.f15 .nil .nil) (.node 17 Tryz.f17 .nil .nil)))) (.node 26 Tryz.f26 (.node 22 Tryz.f22 (.node 20 Tryz.f20 (.node 19 Tryz.f19 .nil .nil) (.node 21 Tryz.f21 .nil .nil)) (.node 24 Tryz.f24 (.node 23 Tryz.f23 .nil .nil) (.node 25 Tryz.f25 .nil .nil))) (.node 30 Tryz.f30 (.node 28 Tryz.f28 (.node 27 Tryz.f27 .nil .nil) (.node 29 Tryz.f29 .nil .nil)) (.node 32 Tryz.f32 (.node 31 Tryz.f31 .nil .nil) (.node 33 Tryz.f33 .nil .nil))))) (.node 50 Tryz.f50 (.node 42 Tryz.f42 (.node 38 Tryz.f38 (.node 36 Tryz.f36 (.node 35 Tryz.f35 .nil .nil) (.node 37 Tryz.f37 .nil .nil)) (.node 40 Tryz.f40 (.node 39 Tryz.f39 .nil .nil) (.node 41 Tryz.f41 .nil .nil))) (.node 46 Tryz.f46 (.node 44 Tryz.f44 (.node 43 Tryz.f43 .nil .nil) (.node 45 Tryz.f45 .nil .nil)) (.node 48 Tryz.f48 (.node 47 Tryz.f47 .nil .nil) (.node 49 Tryz.f49 .nil .nil)))) (.node 58 Tryz.f58 (.node 54 Tryz.f54 (.node 52 Tryz.f52 (.node 51 Tryz.f51 .nil .nil) (.node 53 Tryz.f53 .nil .nil)) (.node 56 Tryz.f56 (.node 55 Tryz.f55 .nil .nil) (.node 57 Tryz.f57 .nil .nil))) (.node 62 Tryz.f62 (.node 60 Tryz.f60 (.node 59 Tryz.f59 .nil .nil) (.node 61 Tryz.f61 .nil .nil)) (.node 64 Tryz.f64 (.node 63 Tryz.f63 .nil .nil) (.node 65 Tryz.f65 .nil .nil)))))) (.node 98 Tryz.f98 (.node 82 Tryz.f82 (.node 74 Tryz.f74 (.node 70 Tryz.f70 (.node 68 Tryz.f68 (.node 67 Tryz.f67 .nil .nil) (.node 69 Tryz.f69 .nil .nil)) (.node 72 Tryz.f72 (.node 71 Tryz.f71 .nil .nil) (.node 73 Tryz.f73 .nil .nil))) (.node 78 Tryz.f78 (.node 76 Tryz.f76 (.node 75 Tryz.f75 .nil .nil) (.node 77 Tryz.f77 .nil .nil)) (.node 80 Tryz.f80 (.node 79 Tryz.f79 .nil .nil) (.node 81 Tryz.f81 .nil .nil)))) (.node 90 Tryz.f90 (.node 86 Tryz.f86 (.node 84 Tryz.f84 (.node 83 Tryz.f83 .nil .nil) (.node 85 Tryz.f85 .nil .nil)) (.node 88 Tryz.f88 (.node 87 Tryz.f87 .nil .nil) (.node 89 Tryz.f89 .nil .nil))) (.node 94 Tryz.f94 (.node 92 Tryz.f92 (.node 91 Tryz.f91 .nil .nil) (.node 93 Tryz.f93 .nil .nil)) (.node 96 Tryz.f96 (.node 95 Tryz.f95 .nil .nil) (.node 97 Tryz.f97 .nil .nil))))) (.node 114 Tryz.f114 (.node 106 Tryz.f106 (.node 102 Tryz.f102 (.node 100 Tryz.f100 (.node 99 Tryz.f99 .nil .nil) (.node 101 Tryz.f101 .nil .nil)) (.node 104 Tryz.f104 (.node 103 Tryz.f103 .nil .nil) (.node 105 Tryz.f105 .nil .nil))) (.node 110 Tryz.f110 (.node 108 Tryz.f108 (.node 107 Tryz.f107 .nil .nil) (.node 109 Tryz.f109 .nil .nil)) (.node 112 Tryz.f112 (.node 111 Tryz.f111 .nil .nil) (.node 113 Tryz.f113 .nil .nil)))) (.node 122 Tryz.f122 (.node 118 Tryz.f118 (.node 116 Tryz.f116 (.node 115 Tryz.f115 .nil .nil) (.node 117 Tryz.f117 .nil .nil)) (.node 120 Tryz.f120 (.node 119 Tryz.f119 .nil .nil) (.node 121 Tryz.f121 .nil .nil))) (.node 126 Tryz.f126 (.node 124 Tryz.f124 (.node 123 Tryz.f123 .nil .nil) (.node 125 Tryz.f125 .nil .nil)) (.node 128 Tryz.f128 (.node 127 Tryz.f127 .nil .nil) .nil)))))) (.node 193 Tryz.f193 (.node 161 Tryz.f161 (.node 145 Tryz.f145 (.node 137 Tryz.f137 (.node 133 Tryz.f133 (.node 131 Tryz.f131 (.node 130 Tryz.f130 .nil .nil) (.node 132 Tryz.f132 .nil .nil)) (.node 135 Tryz.f135 (.node 134 Tryz.f134 .nil .nil) (.node 136 Tryz.f136 .nil .nil))) (.node 141 Tryz.f141 (.node 139 Tryz.f139 (.node 138 Tryz.f138 .nil .nil) (.node 140 Tryz.f140 .nil .nil)) (.node 143 Tryz.f143 (.node 142 Tryz.f142 .nil .nil) (.node 144 Tryz.f144 .nil .nil)))) (.node 153 Tryz.f153 (.node 149 Tryz.f149 (.node 147 Tryz.f147 (.node 146 Tryz.f146 .nil .nil) (.node 148 Tryz.f148 .nil .nil)) (.node 151 Tryz.f151 (.node 150 Tryz.f150 .nil .nil) (.node 152 Tryz.f152 .nil .nil))) (.node 157 Tryz.f157 (.node 155 Tryz.f155 (.node 154 Tryz.f154 .nil .nil) (.node 156 Tryz.f156 .nil .nil)) (.node 159 Tryz.f159 (.node 158 Tryz.f158 .nil .nil) (.node 160 Tryz.f160 .nil .nil))))) (.node 177 Tryz.f177 (.node 169 Tryz.f169 (.node 165 Tryz.f165 (.node 163 Tryz.f163 (.node 162 Tryz.f162 .nil .nil) (.node 164 Tryz.f164 .nil .nil)) (.node 167 Tryz.f167 (.node 166 Tryz.f166 .nil .nil) (.node 168 Tryz.f168 .nil .nil))) (.node 173 Tryz.f173 (.node 171 Tryz.f171 (.node 170 Tryz.f170 .nil .nil) (.node 172 Tryz.f172 .nil .nil)) (.node 175 Tryz.f175 (.node 174 Tryz.f174 .nil .nil) (.node 176 Tryz.f176 .nil .nil)))) (.node 185 Tryz.f185 (.node 181 Tryz.f181 (.node 179 Tryz.f179 (.node 178 Tryz.f178 .nil .nil) (.node 180 Tryz.f180 .nil .nil)) (.node 183 Tryz.f183 (.node 182 Tryz.f182 .nil .nil) (.node 184 Tryz.f184 .nil .nil))) (.node 189 Tryz.f189 (.node 187 Tryz.f187 (.node 186 Tryz.f186 .nil .nil) (.node 188 Tryz.f188 .nil .nil)) (.node 191 Tryz.f191 (.node 190 Tryz.f190 .nil .nil) (.node 192 Tryz.f192 .nil .nil)))))) (.node 225 Tryz.f225 (.node 209 Tryz.f209 (.node 201 Tryz.f201 (.node 197 Tryz.f197 (.node 195 Tryz.f195 (.node 194 Tryz.f194 .nil .nil) (.node 196 Tryz.f196 .nil .nil)) (.node 199 Tryz.f199 (.node 198 Tryz.f198 .nil .nil) (.node 200 Tryz.f200 .nil .nil))) (.node 205 Tryz.f205 (.node 203 Tryz.f203 (.node 202 Tryz.f202 .nil .nil) (.node 204 Tryz.f204 .nil .nil)) (.node 207 Tryz.f207 (.node 206 Tryz.f206 .nil .nil) (.node 208 Tryz.f208 .nil .nil)))) (.node 217 Tryz.f217 (.node 213 Tryz.f213 (.node 211 Tryz.f211 (.node 210 Tryz.f210 .nil .nil) (.node 212 Tryz.f212 .nil .nil)) (.node 215 Tryz.f215 (.node 214 Tryz.f214 .nil .nil) (.node 216 Tryz.f216 .nil .nil))) (.node 221 Tryz.f221 (.node 219 Tryz.f219 (.node 218 Tryz.f218 .nil .nil) (.node 220 Tryz.f220 .nil .nil)) (.node 223 Tryz.f223 (.node 222 Tryz.f222 .nil .nil) (.node 224 Tryz.f224 .nil .nil))))) (.node 241 Tryz.f241 (.node 233 Tryz.f233 (.node 229 Tryz.f229 (.node 227 Tryz.f227 (.node 226 Tryz.f226 .nil .nil) (.node 228 Tryz.f228 .nil .nil)) (.node 231 Tryz.f231 (.node 230 Tryz.f230 .nil .nil) (.node 232 Tryz.f232 .nil .nil))) (.node 237 Tryz.f237 (.node 235 Tryz.f235 (.node 234 Tryz.f234 .nil .nil) (.node 236 Tryz.f236 .nil .nil)) (.node 239 Tryz.f239 (.node 238 Tryz.f238 .nil .nil) (.node 240 Tryz.f240 .nil .nil)))) (.node 249 Tryz.f249 (.node 245 Tryz.f245 (.node 243 Tryz.f243 (.node 242 Tryz.f242 .nil .nil) (.node 244 Tryz.f244 .nil .nil)) (.node 247 Tryz.f247 (.node 246 Tryz.f246 .nil .nil) (.node 248 Tryz.f248 .nil .nil))) (.node 253 Tryz.f253 (.node 251 Tryz.f251 (.node 250 Tryz.f250 .nil .nil) (.node 252 Tryz.f252 .nil .nil)) (.node 255 Tryz.f255 (.node 254 Tryz.f254 .nil .nil) .nil))))))) (.node 383 Tryz.f383 (.node 320 Tryz.f320 (.node 288 Tryz.f288 (.node 272 Tryz.f272 (.node 264 Tryz.f264 (.node 260 Tryz.f260 (.node 258 Tryz.f258 (.node 257 Tryz.f257 .nil .nil) (.node 259 Tryz.f259 .nil .nil)) (.node 262 Tryz.f262 (.node 261 Tryz.f261 .nil .nil) (.node 263 Tryz.f263 .nil .nil))) (.node 268 Tryz.f268 (.node 266 Tryz.f266 (.node 265 Tryz.f265 .nil .nil) (.node 267 Tryz.f267 .nil .nil)) (.node 270 Tryz.f270 (.node 269 Tryz.f269 .nil .nil) (.node 271 Tryz.f271 .nil .nil)))) (.node 280 Tryz.f280 (.node 276 Tryz.f276 (.node 274 Tryz.f274 (.node 273 Tryz.f273 .nil .nil) (.node 275 Tryz.f275 .nil .nil)) (.node 278 Tryz.f278 (.node 277 Tryz.f277 .nil .nil) (.node 279 Tryz.f279 .nil .nil))) (.node 284 Tryz.f284 (.node 282 Tryz.f282 (.node 281 Tryz.f281 .nil .nil) (.node 283 Tryz.f283 .nil .nil)) (.node 286 Tryz.f286 (.node 285 Tryz.f285 .nil .nil) (.node 287 Tryz.f287 .nil .nil))))) (.node 304 Tryz.f304 (.node 296 Tryz.f296 (.node 292 Tryz.f292 (.node 290 Tryz.f290 (.node 289 Tryz.f289 .nil .nil) (.node 291 Tryz.f291 .nil .nil)) (.node 294 Tryz.f294 (.node 293 Tryz.f293 .nil .nil) (.node 295 Tryz.f295 .nil .nil))) (.node 300 Tryz.f300 (.node 298 Tryz.f298 (.node 297 Tryz.f297 .nil .nil) (.node 299 Tryz.f299 .nil .nil)) (.node 302 Tryz.f302 (.node 301 Tryz.f301 .nil .nil) (.node 303 Tryz.f303 .nil .nil)))) (.node 312 Tryz.f312 (.node 308 Tryz.f308 (.node 306 Tryz.f306 (.node 305 Tryz.f305 .nil .nil) (.node 307 Tryz.f307 .nil .nil)) (.node 310 Tryz.f310 (.node 309 Tryz.f309 .nil .nil) (.node 311 Tryz.f311 .nil .nil))) (.node 316 Tryz.f316 (.node 314 Tryz.f314 (.node 313 Tryz.f313 .nil .nil) (.node 315 Tryz.f315 .nil .nil)) (.node 318 Tryz.f318 (.node 317 Tryz.f317 .nil .nil) (.node 319 Tryz.f319 .nil .nil)))))) (.node 352 Tryz.f352 (.node 336 Tryz.f336 (.node 328 Tryz.f328 (.node 324 Tryz.f324 (.node 322 Tryz.f322 (.node 321 Tryz.f321 .nil .nil) (.node 323 Tryz.f323 .nil .nil)) (.node 326 Tryz.f326 (.node 325 Tryz.f325 .nil .nil) (.node 327 Tryz.f327 .nil .nil))) (.node 332 Tryz.f332 (.node 330 Tryz.f330 (.node 329 Tryz.f329 .nil .nil) (.node 331 Tryz.f331 .nil .nil)) (.node 334 Tryz.f334 (.node 333 Tryz.f333 .nil .nil) (.node 335 Tryz.f335 .nil .nil)))) (.node 344 Tryz.f344 (.node 340 Tryz.f340 (.node 338 Tryz.f338 (.node 337 Tryz.f337 .nil .nil) (.node 339 Tryz.f339 .nil .nil)) (.node 342 Tryz.f342 (.node 341 Tryz.f341 .nil .nil) (.node 343 Tryz.f343 .nil .nil))) (.node 348 Tryz.f348 (.node 346 Tryz.f346 (.node 345 Tryz.f345 .nil .nil) (.node 347 Tryz.f347 .nil .nil)) (.node 350 Tryz.f350 (.node 349 Tryz.f349 .nil .nil) (.node 351 Tryz.f351 .nil .nil))))) (.node 368 Tryz.f368 (.node 360 Tryz.f360 (.node 356 Tryz.f356 (.node 354 Tryz.f354 (.node 353 Tryz.f353 .nil .nil) (.node 355 Tryz.f355 .nil .nil)) (.node 358 Tryz.f358 (.node 357 Tryz.f357 .nil .nil) (.node 359 Tryz.f359 .nil .nil))) (.node 364 Tryz.f364 (.node 362 Tryz.f362 (.node 361 Tryz.f361 .nil .nil) (.node 363 Tryz.f363 .nil .nil)) (.node 366 Tryz.f366 (.node 365 Tryz.f365 .nil .nil) (.node 367 Tryz.f367 .nil .nil)))) (.node 376 Tryz.f376 (.node 372 Tryz.f372 (.node 370 Tryz.f370 (.node 369 Tryz.f369 .nil .nil) (.node 371 Tryz.f371 .nil .nil)) (.node 374 Tryz.f374 (.node 373 Tryz.f373 .nil .nil) (.node 375 Tryz.f375 .nil .nil))) (.node 380 Tryz.f380 (.node 378 Tryz.f378 (.node 377 Tryz.f377 .nil .nil) (.node 379 Tryz.f379 .nil .nil)) (.node 382 Tryz.f382 (.node 381 Tryz.f381 .nil .nil) .nil)))))) (.node 447 Tryz.f447 (.node 415 Tryz.f415 (.node 399 Tryz.f399 (.node 391 Tryz.f391 (.node 387 Tryz.f387 (.node 385 Tryz.f385 (.node 384 Tryz.f384 .nil .nil) (.node 386 Tryz.f386 .nil .nil)) (.node 389 Tryz.f389 (.node 388 Tryz.f388 .nil .nil) (.node 390 Tryz.f390 .nil .nil))) (.node 395 Tryz.f395 (.node 393 Tryz.f393 (.node 392 Tryz.f392 .nil .nil) (.node 394 Tryz.f394 .nil .nil)) (.node 397 Tryz.f397 (.node 396 Tryz.f396 .nil .nil) (.node 398 Tryz.f398 .nil .nil)))) (.node 407 Tryz.f407 (.node 403 Tryz.f403 (.node 401 Tryz.f401 (.node 400 Tryz.f400 .nil .nil) (.node 402 Tryz.f402 .nil .nil)) (.node 405 Tryz.f405 (.node 404 Tryz.f404 .nil .nil) (.node 406 Tryz.f406 .nil .nil))) (.node 411 Tryz.f411 (.node 409 Tryz.f409 (.node 408 Tryz.f408 .nil .nil) (.node 410 Tryz.f410 .nil .nil)) (.node 413 Tryz.f413 (.node 412 Tryz.f412 .nil .nil) (.node 414 Tryz.f414 .nil .nil))))) (.node 431 Tryz.f431 (.node 423 Tryz.f423 (.node 419 Tryz.f419 (.node 417 Tryz.f417 (.node 416 Tryz.f416 .nil .nil) (.node 418 Tryz.f418 .nil .nil)) (.node 421 Tryz.f421 (.node 420 Tryz.f420 .nil .nil) (.node 422 Tryz.f422 .nil .nil))) (.node 427 Tryz.f427 (.node 425 Tryz.f425 (.node 424 Tryz.f424 .nil .nil) (.node 426 Tryz.f426 .nil .nil)) (.node 429 Tryz.f429 (.node 428 Tryz.f428 .nil .nil) (.node 430 Tryz.f430 .nil .nil)))) (.node 439 Tryz.f439 (.node 435 Tryz.f435 (.node 433 Tryz.f433 (.node 432 Tryz.f432 .nil .nil) (.node 434 Tryz.f434 .nil .nil)) (.node 437 Tryz.f437 (.node 436 Tryz.f436 .nil .nil) (.node 438 Tryz.f438 .nil .nil))) (.node 443 Tryz.f443 (.node 441 Tryz.f441 (.node 440 Tryz.f440 .nil .nil) (.node 442 Tryz.f442 .nil .nil)) (.node 445 Tryz.f445 (.node 444 Tryz.f444 .nil .nil) (.node 446 Tryz.f446 .nil .nil)))))) (.node 479 Tryz.f479 (.node 463 Tryz.f463 (.node 455 Tryz.f455 (.node 451 Tryz.f451 (.node 449 Tryz.f449 (.node 448 Tryz.f448 .nil .nil) (.node 450 Tryz.f450 .nil .nil)) (.node 453 Tryz.f453 (.node 452 Tryz.f452 .nil .nil) (.node 454 Tryz.f454 .nil .nil))) (.node 459 Tryz.f459 (.node 457 Tryz.f457 (.node 456 Tryz.f456 .nil .nil) (.node 458 Tryz.f458 .nil .nil)) (.node 461 Tryz.f461 (.node 460 Tryz.f460 .nil .nil) (.node 462 Tryz.f462 .nil .nil)))) (.node 471 Tryz.f471 (.node 467 Tryz.f467 (.node 465 Tryz.f465 (.node 464 Tryz.f464 .nil .nil) (.node 466 Tryz.f466 .nil .nil)) (.node 469 Tryz.f469 (.node 468 Tryz.f468 .nil .nil) (.node 470 Tryz.f470 .nil .nil))) (.node 475 Tryz.f475 (.node 473 Tryz.f473 (.node 472 Tryz.f472 .nil .nil) (.node 474 Tryz.f474 .nil .nil)) (.node 477 Tryz.f477 (.node 476 Tryz.f476 .nil .nil) (.node 478 Tryz.f478 .nil .nil))))) (.node 495 Tryz.f495 (.node 487 Tryz.f487 (.node 483 Tryz.f483 (.node 481 Tryz.f481 (.node 480 Tryz.f480 .nil .nil) (.node 482 Tryz.f482 .nil .nil)) (.node 485 Tryz.f485 (.node 484 Tryz.f484 .nil .nil) (.node 486 Tryz.f486 .nil .nil))) (.node 491 Tryz.f491 (.node 489 Tryz.f489 (.node 488 Tryz.f488 .nil .nil) (.node 490 Tryz.f490 .nil .nil)) (.node 493 Tryz.f493 (.node 492 Tryz.f492 .nil .nil) (.node 494 Tryz.f494 .nil .nil)))) (.node 503 Tryz.f503 (.node 499 Tryz.f499 (.node 497 Tryz.f497 (.node 496 Tryz.f496 .nil .nil) (.node 498 Tryz.f498 .nil .nil)) (.node 501 Tryz.f501 (.node 500 Tryz.f500 .nil .nil) (.node 502 Tryz.f502 .nil .nil))) (.node 507 Tryz.f507 (.node 505 Tryz.f505 (.node 504 Tryz.f504 .nil .nil) (.node 506 Tryz.f506 .nil .nil)) (.node 509 Tryz.f509 (.node 508 Tryz.f508 .nil .nil) .nil))))))))
noncomputable def tab : Tab := Tab.ofTrees tys fns
theorem tys_ok : tys.all (checkTy Tryz.prog) = true := by kernel_rfl
theorem nm3 : (Tryz.f3.name == "runtime.NumGoroutine") = false := by kernel_rfl
theorem nm4 : (Tryz.f4.name == "runtime.NumGoroutine") = false := by kernel_rfl
theorem nm5 : (Tryz.f5.name == "runtime.NumGoroutine") = false := by kernel_rfl
theorem nm6 : (Tryz.f6.name == "runtime.NumGoroutine") = false := by kernel_rfl
theorem nm7 : (Tryz.f7.name == "runtime.NumGoroutine") = false := by kernel_rfl
theorem nm8 : (Tryz.f8.name == "runtime.NumGoroutine") = false := by kernel_rfl
theorem nm9 : (Tryz.f9.name == "runtime.NumGoroutine") = false := by kernel_rfl
theorem nm10 : (Tryz.f10.name == "runtime.NumGoroutine") = false := by kernel_rfl
theorem nm11 : (Tryz.f11.name == "runtime.NumGoroutine") = false := by kernel_rfl
theorem nm12 : (Tryz.f12.name == "runtime.NumGoroutine") = false := by kernel_rfl
theorem nm13 : (Tryz.f13.name == "runtime.NumGoroutine") = false := by kernel_rfl
theorem nm14 : (Tryz.f14.name == "runtime.NumGoroutine") = false := by kernel_rfl
theorem nm15 : (Tryz.f15.name == "runtime.NumGoroutine") = false := by kernel_rfl
theorem nm16 : (Tryz.f16.name == "runtime.NumGoroutine") = false := by kernel_rfl
theorem nm17 : (Tryz.f17.name == "runtime.NumGoroutine") = false := by kernel_rfl
theorem nm18 : (Tryz.f18.name == "runtime.NumGoroutine") = false := by kernel_rfl
theorem nm19 : (Tryz.f19.name == "runtime.NumGoroutine") = false := by kernel_rfl
theorem nm20 : (Tryz.f20.name == "runtime.NumGoroutine") = false := by kernel_rfl
theorem nm21 : (Tryz.f21.name == "runtime.NumGoroutine") = false := by kernel_rfl
theorem nm22 : (Tryz.f22.name == "runtime.NumGoroutine") = false := by kernel_rfl
theorem nm23 : (Tryz.f23.name == "runtime.NumGoroutine") = false := by kernel_rfl
theorem nm24 : (Tryz.f24.name == "runtime.NumGoroutine") = false := by kernel_rfl
theorem nm25 : (Tryz.f25.name == "runtime.NumGoroutine") = false := by kernel_rfl
theorem nm26 : (Tryz.f26.name == "runtime.NumGoroutine") = false := by kernel_rfl
theorem nm27 : (Tryz.f27.name == "runtime.NumGoroutine") = false := by kernel_rfl
theorem nm28 : (Tryz.f28.name == "runtime.NumGoroutine") = false := by kernel_rfl
theorem nm29 : (Tryz.f29.name == "runtime.NumGoroutine") = false := by kernel_rfl
theorem nm30 : (Tryz.f30.name == "runtime.NumGoroutine") = false := by kernel_rfl
theorem nm31 : (Tryz.f31.name == "runtime.NumGoroutine") = false := by kernel_rfl
theorem nm32 : (Tryz.f32.name == "runtime.NumGoroutine") = false := by kernel_rfl
theorem nm33 : (Tryz.f33.name == "runtime.NumGoroutine") = false := by kernel_rfl
theorem nm34 : (Tryz.f34.name == "runtime.NumGoroutine") = false := by kernel_rfl
theorem nm35 : (Tryz.f35.name == "runtime.NumGoroutine") = false := by kernel_rfl
theorem nm36 : (Tryz.f36.name == "runtime.NumGoroutine") = false := by kernel_rfl
theorem nm37 : (Tryz.f37.name == "runtime.NumGoroutine") = false := by kernel_rfl
theorem nm38 : (Tryz.f38.name == "runtime.NumGoroutine") = false := by kernel_rfl
theorem nm39 : (Tryz.f39.name == "runtime.NumGoroutine") = false := by kernel_rfl
theorem nm40 : (Tryz.f40.name == "runtime.NumGoroutine") = false := by kernel_rfl
theorem nm41 : (Tryz.f41.name == "runtime.NumGoroutine") = false := by kernel_rfl
theorem nm42 : (Tryz.f42.name == "runtime.NumGoroutine") = false := by kernel_rfl
theorem nm43 : (Tryz.f43.name == "runtime.NumGoroutine") = false := by kernel_rfl
theorem nm44 : (Tryz.f44.name == "runtime.NumGoroutine") = false := by kernel_rfl
theorem nm45 : (Tryz.f45.name == "runtime.NumGoroutine") = false := by kernel_rfl
theorem nm46 : (Tryz.f46.name == "runtime.NumGoroutine") = false := by kernel_rfl
theorem nm47 : (Tryz.f47.name == "runtime.NumGoroutine") = false := by kernel_rfl
theorem nm48 : (Tryz.f48.name == "runtime.NumGoroutine") = false := by kernel_rfl
theorem nm49 : (Tryz.f49.name == "runtime.NumGoroutine") = false := by kernel_rfl
theorem nm50 : (Tryz.f50.name == "runtime.NumGoroutine") = false := by kernel_rfl
theorem nm51 : (Tryz.f51.name == "runtime.NumGoroutine") = false := by kernel_rfl
theorem nm52 : (Tryz.f52.name == "runtime.NumGoroutine") = false := by kernel_rfl
theorem nm53 : (Tryz.f53.name == "runtime.NumGoroutine") = false := by kernel_rfl
theorem nm54 : (Tryz.f54.name == "runtime.NumGoroutine") = false := by kernel_rfl
theorem nm55 : (Tryz.f55.name == "runtime.NumGoroutine") = false := by kernel_rfl
theorem nm56 : (Tryz.f56.name == "runtime.NumGoroutine") = false := by kernel_rfl
theorem nm57 : (Tryz.f57.name == "runtime.NumGoroutine") = false := by kernel_rfl
theorem nm58 : (Tryz.f58.name == "runtime.NumGoroutine") = false := by kernel_rfl
theorem nm59 : (Tryz.f59.name == "runtime.NumGoroutine") = false := by kernel_rfl
theorem nm60 : (Tryz.f60.name == "runtime.NumGoroutine") = false := by kernel_rfl
theorem nm61 : (Tryz.f61.name == "runtime.NumGoroutine") = false := by kernel_rfl
theorem nm62 : (Tryz.f62.name == "runtime.NumGoroutine") = false := by kernel_rfl
theorem nm63 : (Tryz.f63.name == "runtime.NumGoroutine") = false := by kernel_rfl
theorem nm64 : (Tryz.f64.name == "runtime.NumGoroutine") = false := by kernel_rfl
theorem nm65 : (Tryz.f65.name == "runtime.NumGoroutine") = false := by kernel_rfl
theorem nm66 : (Tryz.f66.name == "runtime.NumGoroutine") = false := by kernel_rfl
theorem nm67 : (Tryz.f67.name == "runtime.NumGoroutine") = false := by kernel_rfl
theorem nm68 : (Tryz.f68.name == "runtime.NumGoroutine") = false := by kernel_rfl
theorem nm69 : (Tryz.f69.name == "runtime.NumGoroutine") = false := by kernel_rfl
theorem nm70 : (Tryz.f70.name == "runtime.NumGoroutine") = false := by kernel_rfl
theorem nm71 : (Tryz.f71.name == "runtime.NumGoroutine") = false := by kernel_rfl
theorem nm72 : (Tryz.f72.name == "runtime.NumGoroutine") = false := by kernel_rfl
theorem nm73 : (Tryz.f73.name == "runtime.NumGoroutine") = false := by kernel_rfl
theorem nm74 : (Tryz.f74.name == "runtime.NumGoroutine") = false := by kernel_rfl
theorem nm75 : (Tryz.f75.name == "runtime.NumGoroutine") = false := by kernel_rfl
theorem nm76 : (Tryz.f76.name == "runtime.NumGoroutine") = false := by kernel_rfl
theorem nm77 : (Tryz.f77.name == "runtime.NumGoroutine") = false := by kernel_rfl
theorem nm78 : (Tryz.f78.name == "runtime.NumGoroutine") = false := by kernel_rfl
theorem nm79 : (Tryz.f79.name == "runtime.NumGoroutine") = false := by kernel_rfl
theorem nm80 : (Tryz.f80.name == "runtime.NumGoroutine") = false := by kernel_rfl
theorem nm81 : (Tryz.f81.name == "runtime.NumGoroutine") = false := by kernel_rfl
theorem nm82 : (Tryz.f82.name == "runtime.NumGoroutine") = false := by kernel_rfl
theorem nm83 : (Tryz.f83.name == "runtime.NumGoroutine") = false := by kernel_rfl
theorem nm84 : (Tryz.f84.name == "runtime.NumGoroutine") = false := by kernel_rfl
theorem nm85 : (Tryz.f85.name == "runtime.NumGoroutine") = false := by kernel_rfl
theorem nm86 : (Tryz.f86.name == "runtime.NumGoroutine") = false := by kernel_rfl
theorem nm87 : (Tryz.f87.name == "runtime.NumGoroutine") = false := by kernel_rfl
theorem nm88 : (Tryz.f88.name == "runtime.NumGoroutine") = false := by kernel_rfl
theorem nm89 : (Tryz.f89.name == "runtime.NumGoroutine") = false := by kernel_rfl
theorem nm90 : (Tryz.f90.name == "runtime.NumGoroutine") = false := by kernel_rfl
theorem nm91 : (Tryz.f91.name == "runtime.NumGoroutine") = false := by kernel_rfl
theorem nm92 : (Tryz.f92.name == "runtime.NumGoroutine") = false := by kernel_rfl
theorem nm93 : (Tryz.f93.name == "runtime.NumGoroutine") = false := by kernel_rfl
theorem nm94 : (Tryz.f94.name == "runtime.NumGoroutine") = false := by kernel_rfl
theorem nm95 : (Tryz.f95.name == "runtime.NumGoroutine") = false := by kernel_rfl
theorem nm96 : (Tryz.f96.name == "runtime.NumGoroutine") = false := by kernel_rfl
theorem nm97 : (Tryz.f97.name == "runtime.NumGoroutine") = false := by kernel_rfl
theorem nm98 : (Tryz.f98.name == "runtime.NumGoroutine") = false := by kernel_rfl
theorem nm99 : (Tryz.f99.name == "runtime.NumGoroutine") = false := by kernel_rfl
theorem nm100 : (Tryz.f100.name == "runtime.NumGoroutine") = false := by kernel_rfl
theorem nm101 : (Tryz.f101.name == "runtime.NumGoroutine") = false := by kernel_rfl
theorem nm102 : (Tryz.f102.name == "runtime.NumGoroutine") = false := by kernel_rfl
theorem nm103 : (Tryz.f103.name == "runtime.NumGoroutine") = false := by kernel_rfl
theorem nm104 : (Tryz.f104.name == "runtime.NumGoroutine") = false := by kernel_rfl
theorem nm105 : (Tryz.f105.name == "runtime.NumGoroutine") = false := by kernel_rfl
theorem nm106 : (Tryz.f106.name == "runtime.NumGoroutine") = false := by kernel_rfl
theorem nm107 : (Tryz.f107.name == "runtime.NumGoroutine") = false := by kernel_rfl
theorem nm108 : (Tryz.f108.name == "runtime.NumGoroutine") = false := by kernel_rfl
theorem nm109 : (Tryz.f109.name == "runtime.NumGoroutine") = false := by kernel_rfl
theorem nm110 : (Tryz.f110.name == "runtime.NumGoroutine") = false := by kernel_rfl
theorem nm111 : (Tryz.f111.name == "runtime.NumGoroutine") = false := by kernel_rfl
theorem nm112 : (Tryz.f112.name == "runtime.NumGoroutine") = false := by kernel_rfl
theorem nm113 : (Tryz.f113.name == "runtime.NumGoroutine") = false := by kernel_rfl
theorem nm114 : (Tryz.f114.name == "runtime.NumGoroutine") = false := by kernel_rfl
theorem nm115 : (Tryz.f115.name == "runtime.NumGoroutine") = false := by kernel_rfl
theorem nm116 : (Tryz.f116.name == "runtime.NumGoroutine") = false := by kernel_rfl
theorem nm117 : (Tryz.f117.name == "runtime.NumGoroutine") = false := by kernel_rfl
theorem nm118 : (Tryz.f118.name == "runtime.NumGoroutine") = false := by kernel_rfl
theorem nm119 : (Tryz.f119.name == "runtime.NumGoroutine") = false := by kernel_rfl
theorem nm120 : (Tryz.f120.name == "runtime.NumGoroutine") = false := by kernel_rfl
theorem nm121 : (Tryz.f121.name == "runtime.NumGoroutine") = false := by kernel_rfl
theorem nm122 : (Tryz.f122.name == "runtime.NumGoroutine") = false := by kernel_rfl
theorem nm123 : (Tryz.f123.name == "runtime.NumGoroutine") = false := by kernel_rfl
theorem nm124 : (Tryz.f124.name == "runtime.NumGoroutine") = false := by kernel_rfl
theorem nm125 : (Tryz.f125.name == "runtime.NumGoroutine") = false := by kernel_rfl
theorem nm126 : (Tryz.f126.name == "runtime.NumGoroutine") = false := by kernel_rfl
theorem nm127 : (Tryz.f127.name == "runtime.NumGoroutine") = false := by kernel_rfl
theorem nm128 : (Tryz.f128.name == "runtime.NumGoroutine") = false := by kernel_rfl
theorem nm129 : (Tryz.f129.name == "runtime.NumGoroutine") = false := by kernel_rfl
theorem nm130 : (Tryz.f130.name == "runtime.NumGoroutine") = false := by kernel_rfl
theorem nm131 : (Tryz.f131.name == "runtime.NumGoroutine") = false := by kernel_rfl
theorem nm132 : (Tryz.f132.name == "runtime.NumGoroutine") = false := by kernel_rfl
theorem nm133 : (Tryz.f133.name == "runtime.NumGoroutine") = false := by kernel_rfl
theorem nm134 : (Tryz.f134.name == "runtime.NumGoroutine") = false := by kernel_rfl
theorem nm135 : (Tryz.f135.name == "runtime.NumGoroutine") = false := by kernel_rfl
theorem nm136 : (Tryz.f136.name == "runtime.NumGoroutine") = false := by kernel_rfl
theorem nm137 : (Tryz.f137.name == "runtime.NumGoroutine") = false := by kernel_rfl
theorem nm138 : (Tryz.f138.name == "runtime.NumGoroutine") = false := by kernel_rfl
theorem nm139 : (Tryz.f139.name == "runtime.NumGoroutine") = false := by kernel_rfl
theorem nm140 : (Tryz.f140.name == "runtime.NumGoroutine") = false := by kernel_rfl
theorem nm141 : (Tryz.f141.name == "runtime.NumGoroutine") = false := by kernel_rfl
theorem nm142 : (Tryz.f142.name == "runtime.NumGoroutine") = false := by kernel_rfl
theorem nm143 : (Tryz.f143.name == "runtime.NumGoroutine") = false := by kernel_rfl
theorem nm144 : (Tryz.f144.name == "runtime.NumGoroutine") = false := by kernel_rfl
theorem nm145 : (Tryz.f145.name == "runtime.NumGoroutine") = false := by kernel_rfl
theorem nm146 : (Tryz.f146.name == "runtime.NumGoroutine") = false := by kernel_rfl
theorem nm147 : (Tryz.f147.name == "runtime.NumGoroutine") = false := by kernel_rfl
theorem nm148 : (Tryz.f148.name == "runtime.NumGoroutine") = false := by kernel_rfl
theorem nm149 : (Tryz.f149.name == "runtime.NumGoroutine") = false := by kernel_rfl
theorem nm150 : (Tryz.f150.name == "runtime.NumGoroutine") = false := by kernel_rfl
theorem nm151 : (Tryz.f151.name == "runtime.NumGoroutine") = false := by kernel_rfl
theorem nm152 : (Tryz.f152.name == "runtime.NumGoroutine") = false := by kernel_rfl
theorem nm153 : (Tryz.f153.name == "runtime.NumGoroutine") = false := by kernel_rfl
theorem nm154 : (Tryz.f154.name == "runtime.NumGoroutine") = false := by kernel_rfl
theorem nm155 : (Tryz.f155.name == "runtime.NumGoroutine") = false := by kernel_rfl
theorem nm156 : (Tryz.f156.name == "runtime.NumGoroutine") = false := by kernel_rfl
theorem nm157 : (Tryz.f157.name == "runtime.NumGoroutine") = false := by kernel_rfl
theorem nm158 : (Tryz.f158.name == "runtime.NumGoroutine") = false := by kernel_rfl
theorem nm159 : (Tryz.f159.name == "runtime.NumGoroutine") = false := by kernel_rfl
theorem nm160 : (Tryz.f160.name == "runtime.NumGoroutine") = false := by kernel_rfl
theorem nm161 : (Tryz.f161.name == "runtime.NumGoroutine") = false := by kernel_rfl
theorem nm162 : (Tryz.f162.name == "runtime.NumGoroutine") = false := by kernel_rfl
theorem nm163 : (Tryz.f163.name == "runtime.NumGoroutine") = false := by kernel_rfl
theorem nm164 : (Tryz.f164.name == "runtime.NumGoroutine") = false := by kernel_rfl
theorem nm165 : (Tryz.f165.name == "runtime.NumGoroutine") = false := by kernel_rfl
theorem nm166 : (Tryz.f166.name == "runtime.NumGoroutine") = false := by kernel_rfl
theorem nm167 : (Tryz.f167.name == "runtime.NumGoroutine") = false := by kernel_rfl
theorem nm168 : (Tryz.f168.name == "runtime.NumGoroutine") = false := by kernel_rfl
theorem nm169 : (Tryz.f169.name == "runtime.NumGoroutine") = false := by kernel_rfl
theorem nm170 : (Tryz.f170.name == "runtime.NumGoroutine") = false := by kernel_rfl
theorem nm171 : (Tryz.f171.name == "runtime.NumGoroutine") = false := by kernel_rfl
theorem nm172 : (Tryz.f172.name == "runtime.NumGoroutine") = false := by kernel_rfl
theorem nm173 : (Tryz.f173.name == "runtime.NumGoroutine") = false := by kernel_rfl
theorem nm174 : (Tryz.f174.name == "runtime.NumGoroutine") = false := by kernel_rfl
theorem nm175 : (Tryz.f175.name == "runtime.NumGoroutine") = false := by kernel_rfl
theorem nm176 : (Tryz.f176.name == "runtime.NumGoroutine") = false := by kernel_rfl
theorem nm177 : (Tryz.f177.name == "runtime.NumGoroutine") = false := by kernel_rfl
theorem nm178 : (Tryz.f178.name == "runtime.NumGoroutine") = false := by kernel_rfl
theorem nm179 : (Tryz.f179.name == "runtime.NumGoroutine") = false := by kernel_rfl
theorem nm180 : (Tryz.f180.name == "runtime.NumGoroutine") = false := by kernel_rfl
theorem nm181 : (Tryz.f181.name == "runtime.NumGoroutine") = false := by kernel_rfl
theorem nm182 : (Tryz.f182.name == "runtime.NumGoroutine") = false := by kernel_rfl
theorem nm183 : (Tryz.f183.name == "runtime.NumGoroutine") = false := by kernel_rfl
theorem nm184 : (Tryz.f184.name == "runtime.NumGoroutine") = false := by kernel_rfl
theorem nm185 : (Tryz.f185.name == "runtime.NumGoroutine") = false := by kernel_rfl
theorem nm186 : (Tryz.f186.name == "runtime.NumGoroutine") = false := by kernel_rfl
theorem nm187 : (Tryz.f187.name == "runtime.NumGoroutine") = false := by kernel_rfl
theorem nm188 : (Tryz.f188.name == "runtime.NumGoroutine") = false := by kernel_rfl
theorem nm189 : (Tryz.f189.name == "runtime.NumGoroutine") = false := by kernel_rfl
theorem nm190 : (Tryz.f190.name == "runtime.NumGoroutine") = false := by kernel_rfl
theorem nm191 : (Tryz.f191.name == "runtime.NumGoroutine") = false := by kernel_rfl
theorem nm192 : (Tryz.f192.name == "runtime.NumGoroutine") = false := by kernel_rfl
theorem nm193 : (Tryz.f193.name == "runtime.NumGoroutine") = false := by kernel_rfl
theorem nm194 : (Tryz.f194.name == "runtime.NumGoroutine") = false := by kernel_rfl
theorem nm195 : (Tryz.f195.name == "runtime.NumGoroutine") = false := by kernel_rfl
theorem nm196 : (Tryz.f196.name == "runtime.NumGoroutine") = false := by kernel_rfl
theorem nm197 : (Tryz.f197.name == "runtime.NumGoroutine") = false := by kernel_rfl
theorem nm198 : (Tryz.f198.name == "runtime.NumGoroutine") = false := by kernel_rfl
theorem nm199 : (Tryz.f199.name == "runtime.NumGoroutine") = false := by kernel_rfl
theorem nm200 : (Tryz.f200.name == "runtime.NumGoroutine") = false := by kernel_rfl
theorem nm201 : (Tryz.f201.name == "runtime.NumGoroutine") = false := by kernel_rfl
theorem nm202 : (Tryz.f202.name == "runtime.NumGoroutine") = false := by kernel_rfl
theorem nm203 : (Tryz.f203.name == "runtime.NumGoroutine") = false := by kernel_rfl
theorem nm204 : (Tryz.f204.name == "runtime.NumGoroutine") = false := by kernel_rfl
theorem nm205 : (Tryz.f205.name == "runtime.NumGoroutine") = false := by kernel_rfl
theorem nm206 : (Tryz.f206.name == "runtime.NumGoroutine") = false := by kernel_rfl
theorem nm207 : (Tryz.f207.name == "runtime.NumGoroutine") = false := by kernel_rfl
theorem nm208 : (Tryz.f208.name == "runtime.NumGoroutine") = false := by kernel_rfl
theorem nm209 : (Tryz.f209.name == "runtime.NumGoroutine") = false := by kernel_rfl
theorem nm210 : (Tryz.f210.name == "runtime.NumGoroutine") = false := by kernel_rfl
theorem nm211 : (Tryz.f211.name == "runtime.NumGoroutine") = false := by kernel_rfl
theorem nm212 : (Tryz.f212.name == "runtime.NumGoroutine") = false := by kernel_rfl
theorem nm213 : (Tryz.f213.name == "runtime.NumGoroutine") = false := by kernel_rfl
theorem nm214 : (Tryz.f214.name == "runtime.NumGoroutine") = false := by kernel_rfl
theorem nm215 : (Tryz.f215.name == "runtime.NumGoroutine") = false := by kernel_rfl
theorem nm216 : (Tryz.f216.name == "runtime.NumGoroutine") = false := by kernel_rfl
theorem nm217 : (Tryz.f217.name == "runtime.NumGoroutine") = false := by kernel_rfl
theorem nm218 : (Tryz.f218.name == "runtime.NumGoroutine") = false := by kernel_rfl
theorem nm219 : (Tryz.f219.name == "runtime.NumGoroutine") = false := by kernel_rfl
theorem nm220 : (Tryz.f220.name == "runtime.NumGoroutine") = false := by kernel_rfl
theorem nm221 : (Tryz.f221.name == "runtime.NumGoroutine") = false := by kernel_rfl
theorem nm222 : (Tryz.f222.name == "runtime.NumGoroutine") = false := by kernel_rfl
theorem nm223 : (Tryz.f223.name == "runtime.NumGoroutine") = false := by kernel_rfl
theorem nm224 : (Tryz.f224.name == "runtime.NumGoroutine") = false := by kernel_rfl
theorem nm225 : (Tryz.f225.name == "runtime.NumGoroutine") = false := by kernel_rfl
theorem nm226 : (Tryz.f226.name == "runtime.NumGoroutine") = false := by kernel_rfl
theorem nm227 : (Tryz.f227.name == "runtime.NumGoroutine") = false := by kernel_rfl
theorem nm228 : (Tryz.f228.name == "runtime.NumGoroutine") = false := by kernel_rfl
theorem nm229 : (Tryz.f229.name == "runtime.NumGoroutine") = false := by kernel_rfl
theorem nm230 : (Tryz.f230.name == "runtime.NumGoroutine") = false := by kernel_rfl
theorem nm231 : (Tryz.f231.name == "runtime.NumGoroutine") = false := by kernel_rfl
theorem nm232 : (Tryz.f232.name == "runtime.NumGoroutine") = false := by kernel_rfl
theorem nm233 : (Tryz.f233.name == "runtime.NumGoroutine") = false := by kernel_rfl
theorem nm234 : (Tryz.f234.name == "runtime.NumGoroutine") = false := by kernel_rfl
theorem nm235 : (Tryz.f235.name == "runtime.NumGoroutine") = false := by kernel_rfl
theorem nm236 : (Tryz.f236.name == "runtime.NumGoroutine") = false := by kernel_rfl
theorem nm237 : (Tryz.f237.name == "runtime.NumGoroutine") = false := by kernel_rfl
theorem nm238 : (Tryz.f238.name == "runtime.NumGoroutine") = false := by kernel_rfl
theorem nm239 : (Tryz.f239.name == "runtime.NumGoroutine") = false := by kernel_rfl
theorem nm240 : (Tryz.f240.name == "runtime.NumGoroutine") = false := by kernel_rfl
theorem nm241 : (Tryz.f241.name == "runtime.NumGoroutine") = false := by kernel_rfl
theorem nm242 : (Tryz.f242.name == "runtime.NumGoroutine") = false := by kernel_rfl
theorem nm243 : (Tryz.f243.name == "runtime.NumGoroutine") = false := by kernel_rfl
theorem nm244 : (Tryz.f244.name == "runtime.NumGoroutine") = false := by kernel_rfl
theorem nm245 : (Tryz.f245.name == "runtime.NumGoroutine") = false := by kernel_rfl
theorem nm246 : (Tryz.f246.name == "runtime.NumGoroutine") = false := by kernel_rfl
theorem nm247 : (Tryz.f247.name == "runtime.NumGoroutine") = false := by kernel_rfl
theorem nm248 : (Tryz.f248.name == "runtime.NumGoroutine") = false := by kernel_rfl
theorem nm249 : (Tryz.f249.name == "runtime.NumGoroutine") = false := by kernel_rfl
theorem nm250 : (Tryz.f250.name == "runtime.NumGoroutine") = false := by kernel_rfl
theorem nm251 : (Tryz.f251.name == "runtime.NumGoroutine") = false := by kernel_rfl
theorem nm252 : (Tryz.f252.name == "runtime.NumGoroutine") = false := by kernel_rfl
theorem nm253 : (Tryz.f253.name == "runtime.NumGoroutine") = false := by kernel_rfl
theorem nm254 : (Tryz.f254.name == "runtime.NumGoroutine") = false := by kernel_rfl
theorem nm255 : (Tryz.f255.name == "runtime.NumGoroutine") = false := by kernel_rfl
theorem nm256 : (Tryz.f256.name == "runtime.NumGoroutine") = false := by kernel_rfl
theorem nm257 : (Tryz.f257.name == "runtime.NumGoroutine") = false := by kernel_rfl
theorem nm258 : (Tryz.f258.name == "runtime.NumGoroutine") = false := by kernel_rfl
theorem nm259 : (Tryz.f259.name == "runtime.NumGoroutine") = false := by kernel_rfl
theorem nm260 : (Tryz.f260.name == "runtime.NumGoroutine") = false := by kernel_rfl
theorem nm261 : (Tryz.f261.name == "runtime.NumGoroutine") = false := by kernel_rfl
theorem nm262 : (Tryz.f262.name == "runtime.NumGoroutine") = false := by kernel_rfl
theorem nm263 : (Tryz.f263.name == "runtime.NumGoroutine") = false := by kernel_rfl
theorem nm264 : (Tryz.f264.name == "runtime.NumGoroutine") = false := by kernel_rfl
theorem nm265 : (Tryz.f265.name == "runtime.NumGoroutine") = false := by kernel_rfl
theorem nm266 : (Tryz.f266.name == "runtime.NumGoroutine") = false := by kernel_rfl
theorem nm267 : (Tryz.f267.name == "runtime.NumGoroutine") = false := by kernel_rfl
theorem nm268 : (Tryz.f268.name == "runtime.NumGoroutine") = false := by kernel_rfl
theorem nm269 : (Tryz.f269.name == "runtime.NumGoroutine") = false := by kernel_rfl
theorem nm270 : (Tryz.f270.name == "runtime.NumGoroutine") = false := by kernel_rfl
theorem nm271 : (Tryz.f271.name == "runtime.NumGoroutine") = false := by kernel_rfl
theorem nm272 : (Tryz.f272.name == "runtime.NumGoroutine") = false := by kernel_rfl
theorem nm273 : (Tryz.f273.name == "runtime.NumGoroutine") = false := by kernel_rfl
theorem nm274 : (Tryz.f274.name == "runtime.NumGoroutine") = false := by kernel_rfl
theorem nm275 : (Tryz.f275.name == "runtime.NumGoroutine") = false := by kernel_rfl
theorem nm276 : (Tryz.f276.name == "runtime.NumGoroutine") = false := by kernel_rfl
theorem nm277 : (Tryz.f277.name == "runtime.NumGoroutine") = false := by kernel_rfl
theorem nm278 : (Tryz.f278.name == "runtime.NumGoroutine") = false := by kernel_rfl
theorem nm279 : (Tryz.f279.name == "runtime.NumGoroutine") = false := by kernel_rfl
theorem nm280 : (Tryz.f280.name == "runtime.NumGoroutine") = false := by kernel_rfl
theorem nm281 : (Tryz.f281.name == "runtime.NumGoroutine") = false := by kernel_rfl
theorem nm282 : (Tryz.f282.name == "runtime.NumGoroutine") = false := by kernel_rfl
theorem nm283 : (Tryz.f283.name == "runtime.NumGoroutine") = false := by kernel_rfl
theorem nm284 : (Tryz.f284.name == "runtime.NumGoroutine") = false := by kernel_rfl
theorem nm285 : (Tryz.f285.name == "runtime.NumGoroutine") = false := by kernel_rfl
theorem nm286 : (Tryz.f286.name == "runtime.NumGoroutine") = false := by kernel_rfl
theorem nm287 : (Tryz.f287.name == "runtime.NumGoroutine") = false := by kernel_rfl
theorem nm288 : (Tryz.f288.name == "runtime.NumGoroutine") = false := by kernel_rfl
theorem nm289 : (Tryz.f289.name == "runtime.NumGoroutine") = false := by kernel_rfl
theorem nm290 : (Tryz.f290.name == "runtime.NumGoroutine") = false := by kernel_rfl
theorem nm291 : (Tryz.f291.name == "runtime.NumGoroutine") = false := by kernel_rfl
theorem nm292 : (Tryz.f292.name == "runtime.NumGoroutine") = false := by kernel_rfl
theorem nm293 : (Tryz.f293.name == "runtime.NumGoroutine") = false := by kernel_rfl
theorem nm294 : (Tryz.f294.name == "runtime.NumGoroutine") = false := by kernel_rfl
theorem nm295 : (Tryz.f295.name == "runtime.NumGoroutine") = false := by kernel_rfl
theorem nm296 : (Tryz.f296.name == "runtime.NumGoroutine") = false := by kernel_rfl
theorem nm297 : (Tryz.f297.name == "runtime.NumGoroutine") = false := by kernel_rfl
theorem nm298 : (Tryz.f298.name == "runtime.NumGoroutine") = false := by kernel_rfl
theorem nm299 : (Tryz.f299.name == "runtime.NumGoroutine") = false := by kernel_rfl
theorem nm300 : (Tryz.f300.name == "runtime.NumGoroutine") = false := by kernel_rfl
theorem nm301 : (Tryz.f301.name == "runtime.NumGoroutine") = false := by kernel_rfl
theorem nm302 : (Tryz.f302.name == "runtime.NumGoroutine") = false := by kernel_rfl
theorem nm303 : (Tryz.f303.name == "runtime.NumGoroutine") = false := by kernel_rfl
theorem nm304 : (Tryz.f304.name == "runtime.NumGoroutine") = false := by kernel_rfl
theorem nm305 : (Tryz.f305.name == "runtime.NumGoroutine") = false := by kernel_rfl
theorem nm306 : (Tryz.f306.name == "runtime.NumGoroutine") = false := by kernel_rfl
theorem nm307 : (Tryz.f307.name == "runtime.NumGoroutine") = false := by kernel_rfl
theorem nm308 : (Tryz.f308.name == "runtime.NumGoroutine") = false := by kernel_rfl
theorem nm309 : (Tryz.f309.name == "runtime.NumGoroutine") = false := by kernel_rfl
theorem nm310 : (Tryz.f310.name == "runtime.NumGoroutine") = false := by kernel_rfl
theorem nm311 : (Tryz.f311.name == "runtime.NumGoroutine") = false := by kernel_rfl
theorem nm312 : (Tryz.f312.name == "runtime.NumGoroutine") = false := by kernel_rfl
theorem nm313 : (Tryz.f313.name == "runtime.NumGoroutine") = false := by kernel_rfl
theorem nm314 : (Tryz.f314.name == "runtime.NumGoroutine") = false := by kernel_rfl
theorem nm315 : (Tryz.f315.name == "runtime.NumGoroutine") = false := by kernel_rfl
theorem nm316 : (Tryz.f316.name == "runtime.NumGoroutine") = false := by kernel_rfl
theorem nm317 : (Tryz.f317.name == "runtime.NumGoroutine") = false := by kernel_rfl
theorem nm318 : (Tryz.f318.name == "runtime.NumGoroutine") = false := by kernel_rfl
theorem nm319 : (Tryz.f319.name == "runtime.NumGoroutine") = false := by kernel_rfl
theorem nm320 : (Tryz.f320.name == "runtime.NumGoroutine") = false := by kernel_rfl
theorem nm321 : (Tryz.f321.name == "runtime.NumGoroutine") = false := by kernel_rfl
theorem nm322 : (Tryz.f322.name == "runtime.NumGoroutine") = false := by kernel_rfl
theorem nm323 : (Tryz.f323.name == "runtime.NumGoroutine") = false := by kernel_rfl
theorem nm324 : (Tryz.f324.name == "runtime.NumGoroutine") = false := by kernel_rfl
theorem nm325 : (Tryz.f325.name == "runtime.NumGoroutine") = false := by kernel_rfl
theorem nm326 : (Tryz.f326.name == "runtime.NumGoroutine") = false := by kernel_rfl
theorem nm327 : (Tryz.f327.name == "runtime.NumGoroutine") = false := by kernel_rfl
theorem nm328 : (Tryz.f328.name == "runtime.NumGoroutine") = false := by kernel_rfl
theorem nm329 : (Tryz.f329.name == "runtime.NumGoroutine") = false := by kernel_rfl
theorem nm330 : (Tryz.f330.name == "runtime.NumGoroutine") = false := by kernel_rfl
theorem nm331 : (Tryz.f331.name == "runtime.NumGoroutine") = false := by kernel_rfl
theorem nm332 : (Tryz.f332.name == "runtime.NumGoroutine") = false := by kernel_rfl
theorem nm333 : (Tryz.f333.name == "runtime.NumGoroutine") = false := by kernel_rfl
theorem nm334 : (Tryz.f334.name == "runtime.NumGoroutine") = false := by kernel_rfl
theorem nm335 : (Tryz.f335.name == "runtime.NumGoroutine") = false := by kernel_rfl
theorem nm336 : (Tryz.f336.name == "runtime.NumGoroutine") = false := by kernel_rfl
theorem nm337 : (Tryz.f337.name == "runtime.NumGoroutine") = false := by kernel_rfl
theorem nm338 : (Tryz.f338.name == "runtime.NumGoroutine") = false := by kernel_rfl
theorem nm339 : (Tryz.f339.name == "runtime.NumGoroutine") = false := by kernel_rfl
theorem nm340 : (Tryz.f340.name == "runtime.NumGoroutine") = false := by kernel_rfl
theorem nm341 : (Tryz.f341.name == "runtime.NumGoroutine") = false := by kernel_rfl
theorem nm342 : (Tryz.f342.name == "runtime.NumGoroutine") = false := by kernel_rfl
theorem nm343 : (Tryz.f343.name == "runtime.NumGoroutine") = false := by kernel_rfl
theorem nm344 : (Tryz.f344.name == "runtime.NumGoroutine") = false := by kernel_rfl
theorem nm345 : (Tryz.f345.name == "runtime.NumGoroutine") = false := by kernel_rfl
theorem nm346 : (Tryz.f346.name == "runtime.NumGoroutine") = false := by kernel_rfl
theorem nm347 : (Tryz.f347.name == "runtime.NumGoroutine") = false := by kernel_rfl
theorem nm348 : (Tryz.f348.name == "runtime.NumGoroutine") = false := by kernel_rfl
theorem nm349 : (Tryz.f349.name == "runtime.NumGoroutine") = false := by kernel_rfl
theorem nm350 : (Tryz.f350.name == "runtime.NumGoroutine") = false := by kernel_rfl
theorem nm351 : (Tryz.f351.name == "runtime.NumGoroutine") = false := by kernel_rfl
theorem nm352 : (Tryz.f352.name == "runtime.NumGoroutine") = false := by kernel_rfl
theorem nm353 : (Tryz.f353.name == "runtime.NumGoroutine") = false := by kernel_rfl
theorem nm354 : (Tryz.f354.name == "runtime.NumGoroutine") = false := by kernel_rfl
theorem nm355 : (Tryz.f355.name == "runtime.NumGoroutine") = false := by kernel_rfl
theorem nm356 : (Tryz.f356.name == "runtime.NumGoroutine") = false := by kernel_rfl
theorem nm357 : (Tryz.f357.name == "runtime.NumGoroutine") = false := by kernel_rfl
theorem nm358 : (Tryz.f358.name == "runtime.NumGoroutine") = false := by kernel_rfl
theorem nm359 : (Tryz.f359.name == "runtime.NumGoroutine") = false := by kernel_rfl
theorem nm360 : (Tryz.f360.name == "runtime.NumGoroutine") = false := by kernel_rfl
theorem nm361 : (Tryz.f361.name == "runtime.NumGoroutine") = false := by kernel_rfl
theorem nm362 : (Tryz.f362.name == "runtime.NumGoroutine") = false := by kernel_rfl
theorem nm363 : (Tryz.f363.name == "runtime.NumGoroutine") = false := by kernel_rfl
theorem nm364 : (Tryz.f364.name == "runtime.NumGoroutine") = false := by kernel_rfl
theorem nm365 : (Tryz.f365.name == "runtime.NumGoroutine") = false := by kernel_rfl
theorem nm366 : (Tryz.f366.name == "runtime.NumGoroutine") = false := by kernel_rfl
theorem nm367 : (Tryz.f367.name == "runtime.NumGoroutine") = false := by kernel_rfl
theorem nm368 : (Tryz.f368.name == "runtime.NumGoroutine") = false := by kernel_rfl
theorem nm369 : (Tryz.f369.name == "runtime.NumGoroutine") = false := by kernel_rfl
theorem nm370 : (Tryz.f370.name == "runtime.NumGoroutine") = false := by kernel_rfl
theorem nm371 : (Tryz.f371.name == "runtime.NumGoroutine") = false := by kernel_rfl
theorem nm372 : (Tryz.f372.name == "runtime.NumGoroutine") = false := by kernel_rfl
theorem nm373 : (Tryz.f373.name == "runtime.NumGoroutine") = false := by kernel_rfl
theorem nm374 : (Tryz.f374.name == "runtime.NumGoroutine") = false := by kernel_rfl
theorem nm375 : (Tryz.f375.name == "runtime.NumGoroutine") = false := by kernel_rfl
theorem nm376 : (Tryz.f376.name == "runtime.NumGoroutine") = false := by kernel_rfl
theorem nm377 : (Tryz.f377.name == "runtime.NumGoroutine") = false := by kernel_rfl
theorem nm378 : (Tryz.f378.name == "runtime.NumGoroutine") = false := by kernel_rfl
theorem nm379 : (Tryz.f379.name == "runtime.NumGoroutine") = false := by kernel_rfl
theorem nm380 : (Tryz.f380.name == "runtime.NumGoroutine") = false := by kernel_rfl
theorem nm381 : (Tryz.f381.name == "runtime.NumGoroutine") = false := by kernel_rfl
theorem nm382 : (Tryz.f382.name == "runtime.NumGoroutine") = false := by kernel_rfl
theorem nm383 : (Tryz.f383.name == "runtime.NumGoroutine") = false := by kernel_rfl
theorem nm384 : (Tryz.f384.name == "runtime.NumGoroutine") = false := by kernel_rfl
theorem nm385 : (Tryz.f385.name == "runtime.NumGoroutine") = false := by kernel_rfl
theorem nm386 : (Tryz.f386.name == "runtime.NumGoroutine") = false := by kernel_rfl
theorem nm387 : (Tryz.f387.name == "runtime.NumGoroutine") = false := by kernel_rfl
theorem nm388 : (Tryz.f388.name == "runtime.NumGoroutine") = false := by kernel_rfl
theorem nm389 : (Tryz.f389.name == "runtime.NumGoroutine") = false := by kernel_rfl
theorem nm390 : (Tryz.f390.name == "runtime.NumGoroutine") = false := by kernel_rfl
theorem nm391 : (Tryz.f391.name == "runtime.NumGoroutine") = false := by kernel_rfl
theorem nm392 : (Tryz.f392.name == "runtime.NumGoroutine") = false := by kernel_rfl
theorem nm393 : (Tryz.f393.name == "runtime.NumGoroutine") = false := by kernel_rfl
theorem nm394 : (Tryz.f394.name == "runtime.NumGoroutine") = false := by kernel_rfl
theorem nm395 : (Tryz.f395.name == "runtime.NumGoroutine") = false := by kernel_rfl
theorem nm396 : (Tryz.f396.name == "runtime.NumGoroutine") = false := by kernel_rfl
theorem nm397 : (Tryz.f397.name == "runtime.NumGoroutine") = false := by kernel_rfl
theorem nm398 : (Tryz.f398.name == "runtime.NumGoroutine") = false := by kernel_rfl
theorem nm399 : (Tryz.f399.name == "runtime.NumGoroutine") = false := by kernel_rfl
theorem nm400 : (Tryz.f400.name == "runtime.NumGoroutine") = false := by kernel_rfl
theorem nm401 : (Tryz.f401.name == "runtime.NumGoroutine") = false := by kernel_rfl
theorem nm402 : (Tryz.f402.name == "runtime.NumGoroutine") = false := by kernel_rfl
theorem nm403 : (Tryz.f403.name == "runtime.NumGoroutine") = false := by kernel_rfl
theorem nm404 : (Tryz.f404.name == "runtime.NumGoroutine") = false := by kernel_rfl
theorem nm405 : (Tryz.f405.name == "runtime.NumGoroutine") = false := by kernel_rfl
theorem nm406 : (Tryz.f406.name == "runtime.NumGoroutine") = false := by kernel_rfl
theorem nm407 : (Tryz.f407.name == "runtime.NumGoroutine") = false := by kernel_rfl
theorem nm408 : (Tryz.f408.name == "runtime.NumGoroutine") = false := by kernel_rfl
theorem nm409 : (Tryz.f409.name == "runtime.NumGoroutine") = false := by kernel_rfl
theorem nm410 : (Tryz.f410.name == "runtime.NumGoroutine") = false := by kernel_rfl
theorem nm411 : (Tryz.f411.name == "runtime.NumGoroutine") = false := by kernel_rfl
theorem nm412 : (Tryz.f412.name == "runtime.NumGoroutine") = false := by kernel_rfl
theorem nm413 : (Tryz.f413.name == "runtime.NumGoroutine") = false := by kernel_rfl
theorem nm414 : (Tryz.f414.name == "runtime.NumGoroutine") = false := by kernel_rfl
theorem nm415 : (Tryz.f415.name == "runtime.NumGoroutine") = false := by kernel_rfl
theorem nm416 : (Tryz.f416.name == "runtime.NumGoroutine") = false := by kernel_rfl
theorem nm417 : (Tryz.f417.name == "runtime.NumGoroutine") = false := by kernel_rfl
theorem nm418 : (Tryz.f418.name == "runtime.NumGoroutine") = false := by kernel_rfl
theorem nm419 : (Tryz.f419.name == "runtime.NumGoroutine") = false := by kernel_rfl
theorem nm420 : (Tryz.f420.name == "runtime.NumGoroutine") = false := by kernel_rfl
theorem nm421 : (Tryz.f421.name == "runtime.NumGoroutine") = false := by kernel_rfl
theorem nm422 : (Tryz.f422.name == "runtime.NumGoroutine") = false := by kernel_rfl
theorem nm423 : (Tryz.f423.name == "runtime.NumGoroutine") = false := by kernel_rfl
theorem nm424 : (Tryz.f424.name == "runtime.NumGoroutine") = false := by kernel_rfl
theorem nm425 : (Tryz.f425.name == "runtime.NumGoroutine") = false := by kernel_rfl
theorem nm426 : (Tryz.f426.name == "runtime.NumGoroutine") = false := by kernel_rfl
theorem nm427 : (Tryz.f427.name == "runtime.NumGoroutine") = false := by kernel_rfl
theorem nm428 : (Tryz.f428.name == "runtime.NumGoroutine") = false := by kernel_rfl
theorem nm429 : (Tryz.f429.name == "runtime.NumGoroutine") = false := by kernel_rfl
theorem nm430 : (Tryz.f430.name == "runtime.NumGoroutine") = false := by kernel_rfl
theorem nm431 : (Tryz.f431.name == "runtime.NumGoroutine") = false := by kernel_rfl
theorem nm432 : (Tryz.f432.name == "runtime.NumGoroutine") = false := by kernel_rfl
theorem nm433 : (Tryz.f433.name == "runtime.NumGoroutine") = false := by kernel_rfl
theorem nm434 : (Tryz.f434.name == "runtime.NumGoroutine") = false := by kernel_rfl
theorem nm435 : (Tryz.f435.name == "runtime.NumGoroutine") = false := by kernel_rfl
theorem nm436 : (Tryz.f436.name == "runtime.NumGoroutine") = false := by kernel_rfl
theorem nm437 : (Tryz.f437.name == "runtime.NumGoroutine") = false := by kernel_rfl
theorem nm438 : (Tryz.f438.name == "runtime.NumGoroutine") = false := by kernel_rfl
theorem nm439 : (Tryz.f439.name == "runtime.NumGoroutine") = false := by kernel_rfl
theorem nm440 : (Tryz.f440.name == "runtime.NumGoroutine") = false := by kernel_rfl
theorem nm441 : (Tryz.f441.name == "runtime.NumGoroutine") = false := by kernel_rfl
theorem nm442 : (Tryz.f442.name == "runtime.NumGoroutine") = false := by kernel_rfl
theorem nm443 : (Tryz.f443.name == "runtime.NumGoroutine") = false := by kernel_rfl
theorem nm444 : (Tryz.f444.name == "runtime.NumGoroutine") = false := by kernel_rfl
theorem nm445 : (Tryz.f445.name == "runtime.NumGoroutine") = false := by kernel_rfl
theorem nm446 : (Tryz.f446.name == "runtime.NumGoroutine") = false := by kernel_rfl
theorem nm447 : (Tryz.f447.name == "runtime.NumGoroutine") = false := by kernel_rfl
theorem nm448 : (Tryz.f448.name == "runtime.NumGoroutine") = false := by kernel_rfl
theorem nm449 : (Tryz.f449.name == "runtime.NumGoroutine") = false := by kernel_rfl
theorem nm450 : (Tryz.f450.name == "runtime.NumGoroutine") = false := by kernel_rfl
theorem nm451 : (Tryz.f451.name == "runtime.NumGoroutine") = false := by kernel_rfl
theorem nm452 : (Tryz.f452.name == "runtime.NumGoroutine") = false := by kernel_rfl
theorem nm453 : (Tryz.f453.name == "runtime.NumGoroutine") = false := by kernel_rfl
theorem nm454 : (Tryz.f454.name == "runtime.NumGoroutine") = false := by kernel_rfl
theorem nm455 : (Tryz.f455.name == "runtime.NumGoroutine") = false := by kernel_rfl
theorem nm456 : (Tryz.f456.name == "runtime.NumGoroutine") = false := by kernel_rfl
theorem nm457 : (Tryz.f457.name == "runtime.NumGoroutine") = false := by kernel_rfl
theorem nm458 : (Tryz.f458.name == "runtime.NumGoroutine") = false := by kernel_rfl
theorem nm459 : (Tryz.f459.name == "runtime.NumGoroutine") = false := by kernel_rfl
theorem nm460 : (Tryz.f460.name == "runtime.NumGoroutine") = false := by kernel_rfl
theorem nm461 : (Tryz.f461.name == "runtime.NumGoroutine") = false := by kernel_rfl
theorem nm462 : (Tryz.f462.name == "runtime.NumGoroutine") = false := by kernel_rfl
theorem nm463 : (Tryz.f463.name == "runtime.NumGoroutine") = false := by kernel_rfl
theorem nm464 : (Tryz.f464.name == "runtime.NumGoroutine") = false := by kernel_rfl
theorem nm465 : (Tryz.f465.name == "runtime.NumGoroutine") = false := by kernel_rfl
theorem nm466 : (Tryz.f466.name == "runtime.NumGoroutine") = false := by kernel_rfl
theorem nm467 : (Tryz.f467.name == "runtime.NumGoroutine") = false := by kernel_rfl
theorem nm468 : (Tryz.f468.name == "runtime.NumGoroutine") = false := by kernel_rfl
theorem nm469 : (Tryz.f469.name == "runtime.NumGoroutine") = false := by kernel_rfl
theorem nm470 : (Tryz.f470.name == "runtime.NumGoroutine") = false := by kernel_rfl
theorem nm471 : (Tryz.f471.name == "runtime.NumGoroutine") = false := by kernel_rfl
theorem nm472 : (Tryz.f472.name == "runtime.NumGoroutine") = false := by kernel_rfl
theorem nm473 : (Tryz.f473.name == "runtime.NumGoroutine") = false := by kernel_rfl
theorem nm474 : (Tryz.f474.name == "runtime.NumGoroutine") = false := by kernel_rfl
theorem nm475 : (Tryz.f475.name == "runtime.NumGoroutine") = false := by kernel_rfl
theorem nm476 : (Tryz.f476.name == "runtime.NumGoroutine") = false := by kernel_rfl
theorem nm477 : (Tryz.f477.name == "runtime.NumGoroutine") = false := by kernel_rfl
theorem nm478 : (Tryz.f478.name == "runtime.NumGoroutine") = false := by kernel_rfl
theorem nm479 : (Tryz.f479.name == "runtime.NumGoroutine") = false := by kernel_rfl
theorem nm480 : (Tryz.f480.name == "runtime.NumGoroutine") = false := by kernel_rfl
theorem nm481 : (Tryz.f481.name == "runtime.NumGoroutine") = false := by kernel_rfl
theorem nm482 : (Tryz.f482.name == "runtime.NumGoroutine") = false := by kernel_rfl
theorem nm483 : (Tryz.f483.name == "runtime.NumGoroutine") = false := by kernel_rfl
theorem nm484 : (Tryz.f484.name == "runtime.NumGoroutine") = false := by kernel_rfl
theorem nm485 : (Tryz.f485.name == "runtime.NumGoroutine") = false := by kernel_rfl
theorem nm486 : (Tryz.f486.name == "runtime.NumGoroutine") = false := by kernel_rfl
theorem nm487 : (Tryz.f487.name == "runtime.NumGoroutine") = false := by kernel_rfl
theorem nm488 : (Tryz.f488.name == "runtime.NumGoroutine") = false := by kernel_rfl
theorem nm489 : (Tryz.f489.name == "runtime.NumGoroutine") = false := by kernel_rfl
theorem nm490 : (Tryz.f490.name == "runtime.NumGoroutine") = false := by kernel_rfl
theorem nm491 : (Tryz.f491.name == "runtime.NumGoroutine") = false := by kernel_rfl
theorem nm492 : (Tryz.f492.name == "runtime.NumGoroutine") = false := by kernel_rfl
theorem nm493 : (Tryz.f493.name == "runtime.NumGoroutine") = false := by kernel_rfl
theorem nm494 : (Tryz.f494.name == "runtime.NumGoroutine") = false := by kernel_rfl
theorem nm495 : (Tryz.f495.name == "runtime.NumGoroutine") = false := by kernel_rfl
theorem nm496 : (Tryz.f496.name == "runtime.NumGoroutine") = false := by kernel_rfl
theorem nm497 : (Tryz.f497.name == "runtime.NumGoroutine") = false := by kernel_rfl
theorem nm498 : (Tryz.f498.name == "runtime.NumGoroutine") = false := by kernel_rfl
theorem nm499 : (Tryz.f499.name == "runtime.NumGoroutine") = false := by kernel_rfl
theorem nm500 : (Tryz.f500.name == "runtime.NumGoroutine") = false := by kernel_rfl
theorem nm501 : (Tryz.f501.name == "runtime.NumGoroutine") = false := by kernel_rfl
theorem nm502 : (Tryz.f502.name == "runtime.NumGoroutine") = false := by kernel_rfl
theorem nm503 : (Tryz.f503.name == "runtime.NumGoroutine") = false := by kernel_rfl
theorem nm504 : (Tryz.f504.name == "runtime.NumGoroutine") = false := by kernel_rfl
theorem nm505 : (Tryz.f505.name == "runtime.NumGoroutine") = false := by kernel_rfl
theorem nm506 : (Tryz.f506.name == "runtime.NumGoroutine") = false := by kernel_rfl
theorem nm507 : (Tryz.f507.name == "runtime.NumGoroutine") = false := by kernel_rfl
theorem nm508 : (Tryz.f508.name == "runtime.NumGoroutine") = false := by kernel_rfl
theorem nm509 : (Tryz.f509.name == "runtime.NumGoroutine") = false := by kernel_rfl
theorem fns_ok : fns.All fun f fn => FnOk Tryz.prog (f, fn) := ⟨⟨Tryz.func256, nm256⟩, ⟨⟨Tryz.func129, nm129⟩, ⟨⟨Tryz.func66, nm66⟩, ⟨⟨Tryz.func34, nm34⟩, ⟨⟨Tryz.func18, nm18⟩, ⟨⟨Tryz.func10, nm10⟩, ⟨⟨Tryz.func6, nm6⟩, ⟨⟨Tryz.func4, nm4⟩, ⟨⟨Tryz.func3, nm3⟩, trivial, trivial⟩, ⟨⟨Tryz.func5, nm5⟩, trivial, trivial⟩⟩, ⟨⟨Tryz.func8, nm8⟩, ⟨⟨Tryz.func7, nm7⟩, trivial, trivial⟩, ⟨⟨Tryz.func9, nm9⟩, trivial, trivial⟩⟩⟩, ⟨⟨Tryz.func14, nm14⟩, ⟨⟨Tryz.func12, nm12⟩, ⟨⟨Tryz.func11, nm11⟩, trivial, trivial⟩, ⟨⟨Tryz.func13, nm13⟩, trivial, trivial⟩⟩, ⟨⟨Tryz.func16, nm16⟩, ⟨⟨Tryz.func15, nm15⟩, trivial, trivial⟩, ⟨⟨Tryz.func17, nm17⟩, trivial, trivial⟩⟩⟩⟩, ⟨⟨Tryz.func26, nm26⟩, ⟨⟨Tryz.func22, nm22⟩, ⟨⟨Tryz.func20, nm20⟩, ⟨⟨Tryz.func19, nm19⟩, trivial, trivial⟩, ⟨⟨Tryz.func21, nm21⟩, trivial, trivial⟩⟩, ⟨⟨Tryz.func24, nm24⟩, ⟨⟨Tryz.func23, nm23⟩, trivial, trivial⟩, ⟨⟨Tryz.func25, nm25⟩, trivial, trivial⟩⟩⟩, ⟨⟨Tryz.func30, nm30⟩, ⟨⟨Tryz.func28, nm28⟩, ⟨⟨Tryz.func27, nm27⟩, trivial, trivial⟩, ⟨⟨Tryz.func29, nm29⟩, trivial, trivial⟩⟩, ⟨⟨Tryz.func32, nm32⟩, ⟨⟨Tryz.func31, nm31⟩, trivial, trivial⟩, ⟨⟨Tryz.func33, nm33⟩, trivial, trivial⟩⟩⟩⟩⟩, ⟨⟨Tryz.func50, nm50⟩, ⟨⟨Tryz.func42, nm42⟩, ⟨⟨Tryz.func38, nm38⟩, ⟨⟨Tryz.func36, nm36⟩, ⟨⟨Tryz.func35, nm35⟩, trivial, trivial⟩, ⟨⟨Tryz.func37, nm37⟩, trivial, trivial⟩⟩, ⟨⟨Tryz.func40, nm40⟩, ⟨⟨Tryz.func39, nm39⟩, trivial, trivial⟩, ⟨⟨Tryz.func41, nm41⟩, trivial, trivial⟩⟩⟩, ⟨⟨Tryz.func46, nm46⟩, ⟨⟨Tryz.func44, nm44⟩, ⟨⟨Tryz.func43, nm43⟩, trivial, trivial⟩, ⟨⟨Tryz.func45, nm45⟩, trivial, trivial⟩⟩, ⟨⟨Tryz.func48, nm48⟩, ⟨⟨Tryz.func47, nm47⟩, trivial, trivial⟩, ⟨⟨Tryz.func49, nm49⟩, trivial, trivial⟩⟩⟩⟩, ⟨⟨Tryz.func58, nm58⟩, ⟨⟨Tryz.func54, nm54⟩, ⟨⟨Tryz.func52, nm52⟩, ⟨⟨Tryz.func51, nm51⟩, trivial, trivial⟩, ⟨⟨Tryz.func53, nm53⟩, trivial, trivial⟩⟩, ⟨⟨Tryz.func56, nm56⟩, ⟨⟨Tryz.func55, nm55⟩, trivial, trivial⟩, ⟨⟨Tryz.func57, nm57⟩, trivial, trivial⟩⟩⟩, ⟨⟨Tryz.func62, nm62⟩, ⟨⟨Tryz.func60, nm60⟩, ⟨⟨Tryz.func59, nm59⟩, trivial, trivial⟩, ⟨⟨Tryz.func61, nm61⟩, trivial, trivial⟩⟩, ⟨⟨Tryz.func64, nm64⟩, ⟨⟨Tryz.func63, nm63⟩, trivial, trivial⟩, ⟨⟨Tryz.func65, nm65⟩, trivial, trivial⟩⟩⟩⟩⟩⟩, ⟨⟨Tryz.func98, nm98⟩, ⟨⟨Tryz.func82, nm82⟩, ⟨⟨Tryz.func74, nm74⟩, ⟨⟨Tryz.func70, nm70⟩, ⟨⟨Tryz.func68, nm68⟩, ⟨⟨Tryz.func67, nm67⟩, trivial, trivial⟩, ⟨⟨Tryz.func69, nm69⟩, trivial, trivial⟩⟩, ⟨⟨Tryz.func72, nm72⟩, ⟨⟨Tryz.func71, nm71⟩, trivial, trivial⟩, ⟨⟨Tryz.func73, nm73⟩, trivial, trivial⟩⟩⟩, ⟨⟨Tryz.func78, nm78⟩, ⟨⟨Tryz.func76, nm76⟩, ⟨⟨Tryz.func75, nm75⟩, trivial, trivial⟩, ⟨⟨Tryz.func77, nm77⟩, trivial, trivial⟩⟩, ⟨⟨Tryz.func80, nm80⟩, ⟨⟨Tryz.func79, nm79⟩, trivial, trivial⟩, ⟨⟨Tryz.func81, nm81⟩, trivial, trivial⟩⟩⟩⟩, ⟨⟨Tryz.func90, nm90⟩, ⟨⟨Tryz.func86, nm86⟩, ⟨⟨Tryz.func84, nm84⟩, ⟨⟨Tryz.func83, nm83⟩, trivial, trivial⟩, ⟨⟨Tryz.func85, nm85⟩, trivial, trivial⟩⟩, ⟨⟨Tryz.func88, nm88⟩, ⟨⟨Tryz.func87, nm87⟩, trivial, trivial⟩, ⟨⟨Tryz.func89, nm89⟩, trivial, trivial⟩⟩⟩, ⟨⟨Tryz.func94, nm94⟩, ⟨⟨Tryz.func92, nm92⟩, ⟨⟨Tryz.func91, nm91⟩, trivial, trivial⟩, ⟨⟨Tryz.func93, nm93⟩, trivial, trivial⟩⟩, ⟨⟨Tryz.func96, nm96⟩, ⟨⟨Tryz.func95, nm95⟩, trivial, trivial⟩, ⟨⟨Tryz.func97, nm97⟩, trivial, trivial⟩⟩⟩⟩⟩, ⟨⟨Tryz.func114, nm114⟩, ⟨⟨Tryz.func106, nm106⟩, ⟨⟨Tryz.func102, nm102⟩, ⟨⟨Tryz.func100, nm100⟩, ⟨⟨Tryz.func99, nm99⟩, trivial, trivial⟩, ⟨⟨Tryz.func101, nm101⟩, trivial, trivial⟩⟩, ⟨⟨Tryz.func104, nm104⟩, ⟨⟨Tryz.func103, nm103⟩, trivial, trivial⟩, ⟨⟨Tryz.func105, nm105⟩, trivial, trivial⟩⟩⟩, ⟨⟨Tryz.func110, nm110⟩, ⟨⟨Tryz.func108, nm108⟩, ⟨⟨Tryz.func107, nm107⟩, trivial, trivial⟩, ⟨⟨Tryz.func109, nm109⟩, trivial, trivial⟩⟩, ⟨⟨Tryz.func112, nm112⟩, ⟨⟨Tryz.func111, nm111⟩, trivial, trivial⟩, ⟨⟨Tryz.func113, nm113⟩, trivial, trivial⟩⟩⟩⟩, ⟨⟨Tryz.func122, nm122⟩, ⟨⟨Tryz.func118, nm118⟩, ⟨⟨Tryz.func116, nm116⟩, ⟨⟨Tryz.func115, nm115⟩, trivial, trivial⟩, ⟨⟨Tryz.func117, nm117⟩, trivial, trivial⟩⟩, ⟨⟨Tryz.func120, nm120⟩, ⟨⟨Tryz.func119, nm119⟩, trivial, trivial⟩, ⟨⟨Tryz.func121, nm121⟩, trivial, trivial⟩⟩⟩, ⟨⟨Tryz.func126, nm126⟩, ⟨⟨Tryz.func124, nm124⟩, ⟨⟨Tryz.func123, nm123⟩, trivial, trivial⟩, ⟨⟨Tryz.func125, nm125⟩, trivial, trivial⟩⟩, ⟨⟨Tryz.func128, nm128⟩, ⟨⟨Tryz.func127, nm127⟩, trivial, trivial⟩, trivial⟩⟩⟩⟩⟩⟩, ⟨⟨Tryz.func193, nm193⟩, ⟨⟨Tryz.func161, nm161⟩, ⟨⟨Tryz.func145, nm145⟩, ⟨⟨Tryz.func137, nm137⟩, ⟨⟨Tryz.func133, nm133⟩, ⟨⟨Tryz.func131, nm131⟩, ⟨⟨Tryz.func130, nm130⟩, trivial, trivial⟩, ⟨⟨Tryz.func132, nm132⟩, trivial, trivial⟩⟩, ⟨⟨Tryz.func135, nm135⟩, ⟨⟨Tryz.func134, nm134⟩, trivial, trivial⟩, ⟨⟨Tryz.func136, nm136⟩, trivial, trivial⟩⟩⟩, ⟨⟨Tryz.func141, nm141⟩, ⟨⟨Tryz.func139, nm139⟩, ⟨⟨Tryz.func138, nm138⟩, trivial, trivial⟩, ⟨⟨Tryz.func140, nm140⟩, trivial, trivial⟩⟩, ⟨⟨Tryz.func143, nm143⟩, ⟨⟨Tryz.func142, nm142⟩, trivial, trivial⟩, ⟨⟨Tryz.func144, nm144⟩, trivial, trivial⟩⟩⟩⟩, ⟨⟨Tryz.func153, nm153⟩, ⟨⟨Tryz.func149, nm149⟩, ⟨⟨Tryz.func147, nm147⟩, ⟨⟨Tryz.func146, nm146⟩, trivial, trivial⟩, ⟨⟨Tryz.func148, nm148⟩, trivial, trivial⟩⟩, ⟨⟨Tryz.func151, nm151⟩, ⟨⟨Tryz.func150, nm150⟩, trivial, trivial⟩, ⟨⟨Tryz.func152, nm152⟩, trivial, trivial⟩⟩⟩, ⟨⟨Tryz.func157, nm157⟩, ⟨⟨Tryz.func155, nm155⟩, ⟨⟨Tryz.func154, nm154⟩, trivial, trivial⟩, ⟨⟨Tryz.func156, nm156⟩, trivial, trivial⟩⟩, ⟨⟨Tryz.func159, nm159⟩, ⟨⟨Tryz.func158, nm158⟩, trivial, trivial⟩, ⟨⟨Tryz.func160, nm160⟩, trivial, trivial⟩⟩⟩⟩⟩, ⟨⟨Tryz.func177, nm177⟩, ⟨⟨Tryz.func169, nm169⟩, ⟨⟨Tryz.func165, nm165⟩, ⟨⟨Tryz.func163, nm163⟩, ⟨⟨Tryz.func162, nm162⟩, trivial, trivial⟩, ⟨⟨Tryz.func164, nm164⟩, trivial, trivial⟩⟩, ⟨⟨Tryz.func167, nm167⟩, ⟨⟨Tryz.func166, nm166⟩, trivial, trivial⟩, ⟨⟨Tryz.func168, nm168⟩, trivial, trivial⟩⟩⟩, ⟨⟨Tryz.func173, nm173⟩, ⟨⟨Tryz.func171, nm171⟩, ⟨⟨Tryz.func170, nm170⟩, trivial, trivial⟩, ⟨⟨Tryz.func172, nm172⟩, trivial, trivial⟩⟩, ⟨⟨Tryz.func175, nm175⟩, ⟨⟨Tryz.func174, nm174⟩, trivial, trivial⟩, ⟨⟨Tryz.func176, nm176⟩, trivial, trivial⟩⟩⟩⟩, ⟨⟨Tryz.func185, nm185⟩, ⟨⟨Tryz.func181, nm181⟩, ⟨⟨Tryz.func179, nm179⟩, ⟨⟨Tryz.func178, nm178⟩, trivial, trivial⟩, ⟨⟨Tryz.func180, nm180⟩, trivial, trivial⟩⟩, ⟨⟨Tryz.func183, nm183⟩, ⟨⟨Tryz.func182, nm182⟩, trivial, trivial⟩, ⟨⟨Tryz.func184, nm184⟩, trivial, trivial⟩⟩⟩, ⟨⟨Tryz.func189, nm189⟩, ⟨⟨Tryz.func187, nm187⟩, ⟨⟨Tryz.func186, nm186⟩, trivial, trivial⟩, ⟨⟨Tryz.func188, nm188⟩, trivial, trivial⟩⟩, ⟨⟨Tryz.func191, nm191⟩, ⟨⟨Tryz.func190, nm190⟩, trivial, trivial⟩, ⟨⟨Tryz.func192, nm192⟩, trivial, trivial⟩⟩⟩⟩⟩⟩, ⟨⟨Tryz.func225, nm225⟩, ⟨⟨Tryz.func209, nm209⟩, ⟨⟨Tryz.func201, nm201⟩, ⟨⟨Tryz.func197, nm197⟩, ⟨⟨Tryz.func195, nm195⟩, ⟨⟨Tryz.func194, nm194⟩, trivial, trivial⟩, ⟨⟨Tryz.func196, nm196⟩, trivial, trivial⟩⟩, ⟨⟨Tryz.func199, nm199⟩, ⟨⟨Tryz.func198, nm198⟩, trivial, trivial⟩, ⟨⟨Tryz.func200, nm200⟩, trivial, trivial⟩⟩⟩, ⟨⟨Tryz.func205, nm205⟩, ⟨⟨Tryz.func203, nm203⟩, ⟨⟨Tryz.func202, nm202⟩, trivial, trivial⟩, ⟨⟨Tryz.func204, nm204⟩, trivial, trivial⟩⟩, ⟨⟨Tryz.func207, nm207⟩, ⟨⟨Tryz.func206, nm206⟩, trivial, trivial⟩, ⟨⟨Tryz.func208, nm208⟩, trivial, trivial⟩⟩⟩⟩, ⟨⟨Tryz.func217, nm217⟩, ⟨⟨Tryz.func213, nm213⟩, ⟨⟨Tryz.func211, nm211⟩, ⟨⟨Tryz.func210, nm210⟩, trivial, trivial⟩, ⟨⟨Tryz.func212, nm212⟩, trivial, trivial⟩⟩, ⟨⟨Tryz.func215, nm215⟩, ⟨⟨Tryz.func214, nm214⟩, trivial, trivial⟩, ⟨⟨Tryz.func216, nm216⟩, trivial, trivial⟩⟩⟩, ⟨⟨Tryz.func221, nm221⟩, ⟨⟨Tryz.func219, nm219⟩, ⟨⟨Tryz.func218, nm218⟩, trivial, trivial⟩, ⟨⟨Tryz.func220, nm220⟩, trivial, trivial⟩⟩, ⟨⟨Tryz.func223, nm223⟩, ⟨⟨Tryz.func222, nm222⟩, trivial, trivial⟩, ⟨⟨Tryz.func224, nm224⟩, trivial, trivial⟩⟩⟩⟩⟩, ⟨⟨Tryz.func241, nm241⟩, ⟨⟨Tryz.func233, nm233⟩, ⟨⟨Tryz.func229, nm229⟩, ⟨⟨Tryz.func227, nm227⟩, ⟨⟨Tryz.func226, nm226⟩, trivial, trivial⟩, ⟨⟨Tryz.func228, nm228⟩, trivial, trivial⟩⟩, ⟨⟨Tryz.func231, nm231⟩, ⟨⟨Tryz.func230, nm230⟩, trivial, trivial⟩, ⟨⟨Tryz.func232, nm232⟩, trivial, trivial⟩⟩⟩, ⟨⟨Tryz.func237, nm237⟩, ⟨⟨Tryz.func235, nm235⟩, ⟨⟨Tryz.func234, nm234⟩, trivial, trivial⟩, ⟨⟨Tryz.func236, nm236⟩, trivial, trivial⟩⟩, ⟨⟨Tryz.func239, nm239⟩, ⟨⟨Tryz.func238, nm238⟩, trivial, trivial⟩, ⟨⟨Tryz.func240, nm240⟩, trivial, trivial⟩⟩⟩⟩, ⟨⟨Tryz.func249, nm249⟩, ⟨⟨Tryz.func245, nm245⟩, ⟨⟨Tryz.func243, nm243⟩, ⟨⟨Tryz.func242, nm242⟩, trivial, trivial⟩, ⟨⟨Tryz.func244, nm244⟩, trivial, trivial⟩⟩, ⟨⟨Tryz.func247, nm247⟩, ⟨⟨Tryz.func246, nm246⟩, trivial, trivial⟩, ⟨⟨Tryz.func248, nm248⟩, trivial, trivial⟩⟩⟩, ⟨⟨Tryz.func253, nm253⟩, ⟨⟨Tryz.func251, nm251⟩, ⟨⟨Tryz.func250, nm250⟩, trivial, trivial⟩, ⟨⟨Tryz.func252, nm252⟩, trivial, trivial⟩⟩, ⟨⟨Tryz.func255, nm255⟩, ⟨⟨Tryz.func254, nm254⟩, trivial, trivial⟩, trivial⟩⟩⟩⟩⟩⟩⟩, ⟨⟨Tryz.func383, nm383⟩, ⟨⟨Tryz.func320, nm320⟩, ⟨⟨Tryz.func288, nm288⟩, ⟨⟨Tryz.func272, nm272⟩, ⟨⟨Tryz.func264, nm264⟩, ⟨⟨Tryz.func260, nm260⟩, ⟨⟨Tryz.func258, nm258⟩, ⟨⟨Tryz.func257, nm257⟩, trivial, trivial⟩, ⟨⟨Tryz.func259, nm259⟩, trivial, trivial⟩⟩, ⟨⟨Tryz.func262, nm262⟩, ⟨⟨Tryz.func261, nm261⟩, trivial, trivial⟩, ⟨⟨Tryz.func263, nm263⟩, trivial, trivial⟩⟩⟩, ⟨⟨Tryz.func268, nm268⟩, ⟨⟨Tryz.func266, nm266⟩, ⟨⟨Tryz.func265, nm265⟩, trivial, trivial⟩, ⟨⟨Tryz.func267, nm267⟩, trivial, trivial⟩⟩, ⟨⟨Tryz.func270, nm270⟩, ⟨⟨Tryz.func269, nm269⟩, trivial, trivial⟩, ⟨⟨Tryz.func271, nm271⟩, trivial, trivial⟩⟩⟩⟩, ⟨⟨Tryz.func280, nm280⟩, ⟨⟨Tryz.func276, nm276⟩, ⟨⟨Tryz.func274, nm274⟩, ⟨⟨Tryz.func273, nm273⟩, trivial, trivial⟩, ⟨⟨Tryz.func275, nm275⟩, trivial, trivial⟩⟩, ⟨⟨Tryz.func278, nm278⟩, ⟨⟨Tryz.func277, nm277⟩, trivial, trivial⟩, ⟨⟨Tryz.func279, nm279⟩, trivial, trivial⟩⟩⟩, ⟨⟨Tryz.func284, nm284⟩, ⟨⟨Tryz.func282, nm282⟩, ⟨⟨Tryz.func281, nm281⟩, trivial, trivial⟩, ⟨⟨Tryz.func283, nm283⟩, trivial, trivial⟩⟩, ⟨⟨Tryz.func286, nm286⟩, ⟨⟨Tryz.func285, nm285⟩, trivial, trivial⟩, ⟨⟨Tryz.func287, nm287⟩, trivial, trivial⟩⟩⟩⟩⟩, ⟨⟨Tryz.func304, nm304⟩, ⟨⟨Tryz.func296, nm296⟩, ⟨⟨Tryz.func292, nm292⟩, ⟨⟨Tryz.func290, nm290⟩, ⟨⟨Tryz.func289, nm289⟩, trivial, trivial⟩, ⟨⟨Tryz.func291, nm291⟩, trivial, trivial⟩⟩, ⟨⟨Tryz.func294, nm294⟩, ⟨⟨Tryz.func293, nm293⟩, trivial, trivial⟩, ⟨⟨Tryz.func295, nm295⟩, trivial, trivial⟩⟩⟩, ⟨⟨Tryz.func300, nm300⟩, ⟨⟨Tryz.func298, nm298⟩, ⟨⟨Tryz.func297, nm297⟩, trivial, trivial⟩, ⟨⟨Tryz.func299, nm299⟩, trivial, trivial⟩⟩, ⟨⟨Tryz.func302, nm302⟩, ⟨⟨Tryz.func301, nm301⟩, trivial, trivial⟩, ⟨⟨Tryz.func303, nm303⟩, trivial, trivial⟩⟩⟩⟩, ⟨⟨Tryz.func312, nm312⟩, ⟨⟨Tryz.func308, nm308⟩, ⟨⟨Tryz.func306, nm306⟩, ⟨⟨Tryz.func305, nm305⟩, trivial, trivial⟩, ⟨⟨Tryz.func307, nm307⟩, trivial, trivial⟩⟩, ⟨⟨Tryz.func310, nm310⟩, ⟨⟨Tryz.func309, nm309⟩, trivial, trivial⟩, ⟨⟨Tryz.func311, nm311⟩, trivial, trivial⟩⟩⟩, ⟨⟨Tryz.func316, nm316⟩, ⟨⟨Tryz.func314, nm314⟩, ⟨⟨Tryz.func313, nm313⟩, trivial, trivial⟩, ⟨⟨Tryz.func315, nm315⟩, trivial, trivial⟩⟩, ⟨⟨Tryz.func318, nm318⟩, ⟨⟨Tryz.func317, nm317⟩, trivial, trivial⟩, ⟨⟨Tryz.func319, nm319⟩, trivial, trivial⟩⟩⟩⟩⟩⟩, ⟨⟨Tryz.func352, nm352⟩, ⟨⟨Tryz.func336, nm336⟩, ⟨⟨Tryz.func328, nm328⟩, ⟨⟨Tryz.func324, nm324⟩, ⟨⟨Tryz.func322, nm322⟩, ⟨⟨Tryz.func321, nm321⟩, trivial, trivial⟩, ⟨⟨Tryz.func323, nm323⟩, trivial, trivial⟩⟩, ⟨⟨Tryz.func326, nm326⟩, ⟨⟨Tryz.func325, nm325⟩, trivial, trivial⟩, ⟨⟨Tryz.func327, nm327⟩, trivial, trivial⟩⟩⟩, ⟨⟨Tryz.func332, nm332⟩, ⟨⟨Tryz.func330, nm330⟩, ⟨⟨Tryz.func329, nm329⟩, trivial, trivial⟩, ⟨⟨Tryz.func331, nm331⟩, trivial, trivial⟩⟩, ⟨⟨Tryz.func334, nm334⟩, ⟨⟨Tryz.func333, nm333⟩, trivial, trivial⟩, ⟨⟨Tryz.func335, nm335⟩, trivial, trivial⟩⟩⟩⟩, ⟨⟨Tryz.func344, nm344⟩, ⟨⟨Tryz.func340, nm340⟩, ⟨⟨Tryz.func338, nm338⟩, ⟨⟨Tryz.func337, nm337⟩, trivial, trivial⟩, ⟨⟨Tryz.func339, nm339⟩, trivial, trivial⟩⟩, ⟨⟨Tryz.func342, nm342⟩, ⟨⟨Tryz.func341, nm341⟩, trivial, trivial⟩, ⟨⟨Tryz.func343, nm343⟩, trivial, trivial⟩⟩⟩, ⟨⟨Tryz.func348, nm348⟩, ⟨⟨Tryz.func346, nm346⟩, ⟨⟨Tryz.func345, nm345⟩, trivial, trivial⟩, ⟨⟨Tryz.func347, nm347⟩, trivial, trivial⟩⟩, ⟨⟨Tryz.func350, nm350⟩, ⟨⟨Tryz.func349, nm349⟩, trivial, trivial⟩, ⟨⟨Tryz.func351, nm351⟩, trivial, trivial⟩⟩⟩⟩⟩, ⟨⟨Tryz.func368, nm368⟩, ⟨⟨Tryz.func360, nm360⟩, ⟨⟨Tryz.func356, nm356⟩, ⟨⟨Tryz.func354, nm354⟩, ⟨⟨Tryz.func353, nm353⟩, trivial, trivial⟩, ⟨⟨Tryz.func355, nm355⟩, trivial, trivial⟩⟩, ⟨⟨Tryz.func358, nm358⟩, ⟨⟨Tryz.func357, nm357⟩, trivial, trivial⟩, ⟨⟨Tryz.func359, nm359⟩, trivial, trivial⟩⟩⟩, ⟨⟨Tryz.func364, nm364⟩, ⟨⟨Tryz.func362, nm362⟩, ⟨⟨Tryz.func361, nm361⟩, trivial, trivial⟩, ⟨⟨Tryz.func363, nm363⟩, trivial, trivial⟩⟩, ⟨⟨Tryz.func366, nm366⟩, ⟨⟨Tryz.func365, nm365⟩, trivial, trivial⟩, ⟨⟨Tryz.func367, nm367⟩, trivial, trivial⟩⟩⟩⟩, ⟨⟨Tryz.func376, nm376⟩, ⟨⟨Tryz.func372, nm372⟩, ⟨⟨Tryz.func370, nm370⟩, ⟨⟨Tryz.func369, nm369⟩, trivial, trivial⟩, ⟨⟨Tryz.func371, nm371⟩, trivial, trivial⟩⟩, ⟨⟨Tryz.func374, nm374⟩, ⟨⟨Tryz.func373, nm373⟩, trivial, trivial⟩, ⟨⟨Tryz.func375, nm375⟩, trivial, trivial⟩⟩⟩, ⟨⟨Tryz.func380, nm380⟩, ⟨⟨Tryz.func378, nm378⟩, ⟨⟨Tryz.func377, nm377⟩, trivial, trivial⟩, ⟨⟨Tryz.func379, nm379⟩, trivial, trivial⟩⟩, ⟨⟨Tryz.func382, nm382⟩, ⟨⟨Tryz.func381, nm381⟩, trivial, trivial⟩, trivial⟩⟩⟩⟩⟩⟩, ⟨⟨Tryz.func447, nm447⟩, ⟨⟨Tryz.func415, nm415⟩, ⟨⟨Tryz.func399, nm399⟩, ⟨⟨Tryz.func391, nm391⟩, ⟨⟨Tryz.func387, nm387⟩, ⟨⟨Tryz.func385, nm385⟩, ⟨⟨Tryz.func384, nm384⟩, trivial, trivial⟩, ⟨⟨Tryz.func386, nm386⟩, trivial, trivial⟩⟩, ⟨⟨Tryz.func389, nm389⟩, ⟨⟨Tryz.func388, nm388⟩, trivial, trivial⟩, ⟨⟨Tryz.func390, nm390⟩, trivial, trivial⟩⟩⟩, ⟨⟨Tryz.func395, nm395⟩, ⟨⟨Tryz.func393, nm393⟩, ⟨⟨Tryz.func392, nm392⟩, trivial, trivial⟩, ⟨⟨Tryz.func394, nm394⟩, trivial, trivial⟩⟩, ⟨⟨Tryz.func397, nm397⟩, ⟨⟨Tryz.func396, nm396⟩, trivial, trivial⟩, ⟨⟨Tryz.func398, nm398⟩, trivial, trivial⟩⟩⟩⟩, ⟨⟨Tryz.func407, nm407⟩, ⟨⟨Tryz.func403, nm403⟩, ⟨⟨Tryz.func401, nm401⟩, ⟨⟨Tryz.func400, nm400⟩, trivial, trivial⟩, ⟨⟨Tryz.func402, nm402⟩, trivial, trivial⟩⟩, ⟨⟨Tryz.func405, nm405⟩, ⟨⟨Tryz.func404, nm404⟩, trivial, trivial⟩, ⟨⟨Tryz.func406, nm406⟩, trivial, trivial⟩⟩⟩, ⟨⟨Tryz.func411, nm411⟩, ⟨⟨Tryz.func409, nm409⟩, ⟨⟨Tryz.func408, nm408⟩, trivial, trivial⟩, ⟨⟨Tryz.func410, nm410⟩, trivial, trivial⟩⟩, ⟨⟨Tryz.func413, nm413⟩, ⟨⟨Tryz.func412, nm412⟩, trivial, trivial⟩, ⟨⟨Tryz.func414, nm414⟩, trivial, trivial⟩⟩⟩⟩⟩, ⟨⟨Tryz.func431, nm431⟩, ⟨⟨Tryz.func423, nm423⟩, ⟨⟨Tryz.func419, nm419⟩, ⟨⟨Tryz.func417, nm417⟩, ⟨⟨Tryz.func416, nm416⟩, trivial, trivial⟩, ⟨⟨Tryz.func418, nm418⟩, trivial, trivial⟩⟩, ⟨⟨Tryz.func421, nm421⟩, ⟨⟨Tryz.func420, nm420⟩, trivial, trivial⟩, ⟨⟨Tryz.func422, nm422⟩, trivial, trivial⟩⟩⟩, ⟨⟨Tryz.func427, nm427⟩, ⟨⟨Tryz.func425, nm425⟩, ⟨⟨Tryz.func424, nm424⟩, trivial, trivial⟩, ⟨⟨Tryz.func426, nm426⟩, trivial, trivial⟩⟩, ⟨⟨Tryz.func429, nm429⟩, ⟨⟨Tryz.func428, nm428⟩, trivial, trivial⟩, ⟨⟨Tryz.func430, nm430⟩, trivial, trivial⟩⟩⟩⟩, ⟨⟨Tryz.func439, nm439⟩, ⟨⟨Tryz.func435, nm435⟩, ⟨⟨Tryz.func433, nm433⟩, ⟨⟨Tryz.func432, nm432⟩, trivial, trivial⟩, ⟨⟨Tryz.func434, nm434⟩, trivial, trivial⟩⟩, ⟨⟨Tryz.func437, nm437⟩, ⟨⟨Tryz.func436, nm436⟩, trivial, trivial⟩, ⟨⟨Tryz.func438, nm438⟩, trivial, trivial⟩⟩⟩, ⟨⟨Tryz.func443, nm443⟩, ⟨⟨Tryz.func441, nm441⟩, ⟨⟨Tryz.func440, nm440⟩, trivial, trivial⟩, ⟨⟨Tryz.func442, nm442⟩, trivial, trivial⟩⟩, ⟨⟨Tryz.func445, nm445⟩, ⟨⟨Tryz.func444, nm444⟩, trivial, trivial⟩, ⟨⟨Tryz.func446, nm446⟩, trivial, trivial⟩⟩⟩⟩⟩⟩, ⟨⟨Tryz.func479, nm479⟩, ⟨⟨Tryz.func463, nm463⟩, ⟨⟨Tryz.func455, nm455⟩, ⟨⟨Tryz.func451, nm451⟩, ⟨⟨Tryz.func449, nm449⟩, ⟨⟨Tryz.func448, nm448⟩, trivial, trivial⟩, ⟨⟨Tryz.func450, nm450⟩, trivial, trivial⟩⟩, ⟨⟨Tryz.func453, nm453⟩, ⟨⟨Tryz.func452, nm452⟩, trivial, trivial⟩, ⟨⟨Tryz.func454, nm454⟩, trivial, trivial⟩⟩⟩, ⟨⟨Tryz.func459, nm459⟩, ⟨⟨Tryz.func457, nm457⟩, ⟨⟨Tryz.func456, nm456⟩, trivial, trivial⟩, ⟨⟨Tryz.func458, nm458⟩, trivial, trivial⟩⟩, ⟨⟨Tryz.func461, nm461⟩, ⟨⟨Tryz.func460, nm460⟩, trivial, trivial⟩, ⟨⟨Tryz.func462, nm462⟩, trivial, trivial⟩⟩⟩⟩, ⟨⟨Tryz.func471, nm471⟩, ⟨⟨Tryz.func467, nm467⟩, ⟨⟨Tryz.func465, nm465⟩, ⟨⟨Tryz.func464, nm464⟩, trivial, trivial⟩, ⟨⟨Tryz.func466, nm466⟩, trivial, trivial⟩⟩, ⟨⟨Tryz.func469, nm469⟩, ⟨⟨Tryz.func468, nm468⟩, trivial, trivial⟩, ⟨⟨Tryz.func470, nm470⟩, trivial, trivial⟩⟩⟩, ⟨⟨Tryz.func475, nm475⟩, ⟨⟨Tryz.func473, nm473⟩, ⟨⟨Tryz.func472, nm472⟩, trivial, trivial⟩, ⟨⟨Tryz.func474, nm474⟩, trivial, trivial⟩⟩, ⟨⟨Tryz.func477, nm477⟩, ⟨⟨Tryz.func476, nm476⟩, trivial, trivial⟩, ⟨⟨Tryz.func478, nm478⟩, trivial, trivial⟩⟩⟩⟩⟩, ⟨⟨Tryz.func495, nm495⟩, ⟨⟨Tryz.func487, nm487⟩, ⟨⟨Tryz.func483, nm483⟩, ⟨⟨Tryz.func481, nm481⟩, ⟨⟨Tryz.func480, nm480⟩, trivial, trivial⟩, ⟨⟨Tryz.func482, nm482⟩, trivial, trivial⟩⟩, ⟨⟨Tryz.func485, nm485⟩, ⟨⟨Tryz.func484, nm484⟩, trivial, trivial⟩, ⟨⟨Tryz.func486, nm486⟩, trivial, trivial⟩⟩⟩, ⟨⟨Tryz.func491, nm491⟩, ⟨⟨Tryz.func489, nm489⟩, ⟨⟨Tryz.func488, nm488⟩, trivial, trivial⟩, ⟨⟨Tryz.func490, nm490⟩, trivial, trivial⟩⟩, ⟨⟨Tryz.func493, nm493⟩, ⟨⟨Tryz.func492, nm492⟩, trivial, trivial⟩, ⟨⟨Tryz.func494, nm494⟩, trivial, trivial⟩⟩⟩⟩, ⟨⟨Tryz.func503, nm503⟩, ⟨⟨Tryz.func499, nm499⟩, ⟨⟨Tryz.func497, nm497⟩, ⟨⟨Tryz.func496, nm496⟩, trivial, trivial⟩, ⟨⟨Tryz.func498, nm498⟩, trivial, trivial⟩⟩, ⟨⟨Tryz.func501, nm501⟩, ⟨⟨Tryz.func500, nm500⟩, trivial, trivial⟩, ⟨⟨Tryz.func502, nm502⟩, trivial, trivial⟩⟩⟩, ⟨⟨Tryz.func507, nm507⟩, ⟨⟨Tryz.func505, nm505⟩, ⟨⟨Tryz.func504, nm504⟩, trivial, trivial⟩, ⟨⟨Tryz.func506, nm506⟩, trivial, trivial⟩⟩, ⟨⟨Tryz.func509, nm509⟩, ⟨⟨Tryz.func508, nm508⟩, trivial, trivial⟩, trivial⟩⟩⟩⟩⟩⟩⟩⟩
theorem tab_ok : tab.Ok Tryz.prog := Tab.ofTrees_ok tys_ok fns_ok
theorem mixed : Tryz.prog.follows .mixedOrders = true := by kernel_rfl
end Go.S1
end
section
set_option linter.unusedVariables false
set_option linter.unusedSimpArgs false
namespace Go.S1
open Go Go.Am Go.Proofs
set_option maxRecDepth 100000
set_option linter.unusedSimpArgs false
theorem ty3 : tab.ty 3 = some { td := .int .i64, size := 1, bytes := 8, zero := .int .i64 0, eqok := false } := by kernel_rfl
theorem ty9 : tab.ty 9 = some { td := .str, size := 1, bytes := 16, zero := .string ⟨#[]⟩, eqok := false } := by kernel_rfl
theorem ty22 : tab.ty 22 = some { td := .slice 3, size := 1, bytes := 24, zero := .slice none 0 0, eqok := false } := by kernel_rfl
theorem ty25 : tab.ty 25 = some { td := .struct [(22, 0, true), (3, 1, true)], size := 2, bytes := 32, zero := .agg #[.slice none 0 0, .int .i64 0], eqok := false } := by kernel_rfl
theorem ty27 : tab.ty 27 = some { td := .slice 37, size := 1, bytes := 24, zero := .slice none 0 0, eqok := false } := by kernel_rfl
theorem ty29 : tab.ty 29 = some { td := .int .i64, size := 1, bytes := 8, zero := .int .i64 0, eqok := false } := by kernel_rfl
theorem ty37 : tab.ty 37 = some { td := .struct [(3, 0, true), (3, 1, true), (9, 2, true)], size := 3, bytes := 32, zero := .agg #[.int .i64 0, .int .i64 0, .string ⟨#[]⟩], eqok := true } := by kernel_rfl
theorem ty58 : tab.ty 58 = some { td := .slice 29, size := 1, bytes := 24, zero := .slice none 0 0, eqok := false } := by kernel_rfl
theorem ty75 : tab.ty 75 = some { td := .slice 9, size := 1, bytes := 24, zero := .slice none 0 0, eqok := false } := by kernel_rfl
theorem al37 {N : List AV → AHeap → Prop} {d : Option Nat} {tm : List AV} {s : AHeap} : lstep Tryz.prog tab N (.alloc 37) d tm s = N (aput tm d (.ptr s.nx 0)) (s.new (.cells [.int .i64 0, .int .i64 0, .str []] (some 37))) := by rw [lstep_alloc, ty37]; rfl
theorem ld3 {x : AV} {s : AHeap} : aload tab 3 x s = (acellsAt s x).bind fun cs => cs[0]? := by rw [aload_one ty3 rfl]
theorem st3 {b o : Nat} {v : AV} {s : AHeap} : astore tab 3 (.ptr b o) v s = astoreAt s b o 1 v := by rw [astore_ptr ty3]
theorem ld9 {x : AV} {s : AHeap} : aload tab 9 x s = (acellsAt s x).bind fun cs => cs[0]? := by rw [aload_one ty9 rfl]
theorem st9 {b o : Nat} {v : AV} {s : AHeap} : astore tab 9 (.ptr b o) v s = astoreAt s b o 1 v := by rw [astore_ptr ty9]
theorem len9 {l : List UInt8} : alen tab 9 (.str l) = some (.int .i64 l.length) := by simp [alen, ty9]
theorem ld22 {x : AV} {s : AHeap} : aload tab 22 x s = (acellsAt s x).bind fun cs => cs[0]? := by rw [aload_one ty22 rfl]
theorem len22r {z b o n : Nat} : alen tab 22 (.rs z b o n) = some (.int .i64 n) := by simp [alen, ty22]
theorem fa25_0p {b o : Nat} : afieldAddr tab 25 (.ptr b o) 0 = some (.ptr b (o + 0)) := by simp [afieldAddr, ty25, Tab.size, ty22]
theorem fa25_1p {b o : Nat} : afieldAddr tab 25 (.ptr b o) 1 = some (.ptr b (o + 1)) := by simp [afieldAddr, ty25, Tab.size, ty3]
theorem ld29 {x : AV} {s : AHeap} : aload tab 29 x s = (acellsAt s x).bind fun cs => cs[0]? := by rw [aload_one ty29 rfl]
theorem fa37_0p {b o : Nat} : afieldAddr tab 37 (.ptr b o) 0 = some (.ptr b (o + 0)) := by simp [afieldAddr, ty37, Tab.size, ty3]
theorem fa37_1p {b o : Nat} : afieldAddr tab 37 (.ptr b o) 1 = some (.ptr b (o + 1)) := by simp [afieldAddr, ty37, Tab.size, ty3]
theorem fa37_2p {b o : Nat} : afieldAddr tab 37 (.ptr b o) 2 = some (.ptr b (o + 2)) := by simp [afieldAddr, ty37, Tab.size, ty9]
theorem ld37 {x : AV} {s : AHeap} : aload tab 37 x s = (acellsAt s x).bind fun cs => if 3 ≤ cs.length then some (.agg (cs.take 3)) else none := by rw [aload_agg ty37 rfl]
theorem st37 {b o : Nat} {v : AV} {s : AHeap} : astore tab 37 (.ptr b o) v s = astoreAt s b o 3 v := by rw [astore_ptr ty37]
theorem len58r {z b o n : Nat} : alen tab 58 (.rs z b o n) = some (.int .i64 n) := by simp [alen, ty58]
theorem len75r {z b o n : Nat} : alen tab 75 (.rs z b o n) = some (.int .i64 n) := by simp [alen, ty75]
end Go.S1
end
section
set_option linter.unusedVariables false
set_option linter.unusedSimpArgs false
namespace Go.S1
open Go Go.Am Go.Proofs
set_option maxRecDepth 100000
noncomputable def L29 : LCode := LCode.seq (LCode.ops [⟨Op.assign (Operand.const (Value.slice none 0 0)), some 4, none⟩]) (LCode.seq (LCode.ops [⟨Op.assign (Operand.const (Value.slice none 0 0)), some 5, none⟩]) (LCode.seq (LCode.ops [⟨Op.move (Operand.tmp 0), some 8, none⟩, ⟨Op.call { callee := Callee.value (Operand.func 19), args := { toList := [Operand.tmp 8, Operand.const (Value.int IntKind.i64 0), Operand.const (Value.int IntKind.i64 3)] }, argTypes := { toList := [23, 3, 3] } }, some 9, none⟩, ⟨Op.assign (Operand.tmp 9), some 6, none⟩]) (LCode.seq (LCode.seq (LCode.ops [⟨Op.move (Operand.tmp 0), some 10, none⟩, ⟨Op.buildSlice 22 5 { toList := [(0, Operand.const (Value.int IntKind.i64 0)), (1, Operand.const (Value.int IntKind.i64 1)), (2, Operand.const (Value.int IntKind.i64 1)), (3, Operand.const (Value.int IntKind.i64 2)), (4, Operand.const (Value.int IntKind.i64 3))] }, some 11, none⟩, ⟨Op.call { callee := Callee.value (Operand.func 49), args := { toList := [Operand.tmp 10, Operand.tmp 11] }, argTypes := { toList := [23, 22] } }, some 12, none⟩, ⟨Op.move (Operand.const (Value.int IntKind.i64 0)), some 13, none⟩]) (LCode.block 0 (LCode.loop (LCode.seq (LCode.ops [⟨Op.binOp BinOp.lss 3 (Operand.tmp 13) (Operand.tmp 12) 3, some 14, none⟩]) (LCode.seq (LCode.cond (Operand.tmp 14) LCode.skip (LCode.exit 0)) (LCode.seq (LCode.block 1 (LCode.seq (LCode.seq (LCode.ops [⟨Op.move (Operand.tmp 6), some 15, none⟩, ⟨Op.move (Operand.tmp 1), some 16, none⟩, ⟨Op.binOp BinOp.gtr 3 (Operand.tmp 15) (Operand.tmp 16) 3, some 17, none⟩]) (LCode.cond (Operand.tmp 17) (LCode.exit 0) LCode.skip)) (LCode.seq (LCode.ops [⟨Op.move (Operand.tmp 6), some 18, none⟩, ⟨Op.move (Operand.tmp 0), some 19, none⟩, ⟨Op.buildSlice 22 5 { toList := [(0, Operand.const (Value.int IntKind.i64 0)), (1, Operand.const (Value.int IntKind.i64 1)), (2, Operand.const (Value.int IntKind.i64 1)), (3, Operand.const (Value.int IntKind.i64 2)), (4, Operand.const (Value.int IntKind.i64 4))] }, some 20, none⟩, ⟨Op.call { callee := Callee.value (Operand.func 49), args := { toList := [Operand.tmp 19, Operand.tmp 20] }, argTypes := { toList := [23, 22] } }, some 21, none⟩, ⟨Op.move (Operand.tmp 1), some 22, none⟩, ⟨Op.move (Operand.tmp 6), some 23, none⟩, ⟨Op.binOp BinOp.sub 3 (Operand.tmp 22) (Operand.tmp 23) 3, some 24, none⟩, ⟨Op.call { callee := Callee.builtin Builtin.min, args := { toList := [Operand.tmp 21, Operand.tmp 24] }, argTypes := { toList := [3, 3] } }, some 25, none⟩, ⟨Op.move (Operand.tmp 0), some 26, none⟩, ⟨Op.buildSlice 75 5 { toList := [(0, Operand.const (Value.string { data := { toList := [] } })), (1, Operand.const (Value.string { data := { toList := [120] } })), (2, Operand.const (Value.string { data := { toList := [121, 122] } })), (3, Operand.const (Value.string { data := { toList := [120] } })), (4, Operand.const (Value.string { data := { toList := [195, 169] } }))] }, some 27, none⟩, ⟨Op.call { callee := Callee.value (Operand.func 28), args := { toList := [Operand.tmp 26, Operand.tmp 27] }, argTypes := { toList := [23, 75] } }, some 28, none⟩, ⟨Op.build 37 { toList := [(0, Operand.tmp 18), (1, Operand.tmp 25), (2, Operand.tmp 28)] }, some 29, none⟩, ⟨Op.alloc 37, some 7, none⟩, ⟨Op.store 37 (Operand.tmp 7) (Operand.tmp 29), none, none⟩]) (LCode.seq (LCode.seq (LCode.ops [⟨Op.fieldAddr 37 (Operand.tmp 7) 1, some 30, none⟩, ⟨Op.load 3 (Operand.tmp 30), some 31, none⟩, ⟨Op.binOp BinOp.eql 3 (Operand.tmp 31) (Operand.const (Value.int IntKind.i64 0)) 3, some 32, none⟩, ⟨Op.move (Operand.tmp 32), some 33, none⟩, ⟨Op.fieldAddr 37 (Operand.tmp 7) 2, some 34, some (33, true)⟩, ⟨Op.load 9 (Operand.tmp 34), some 35, some (33, true)⟩, ⟨Op.binOp BinOp.eql 9 (Operand.tmp 35) (Operand.const (Value.string { data := { toList := [] } })) 9, some 36, some (33, true)⟩, ⟨Op.pick (Operand.tmp 33) (Operand.tmp 36) (Operand.const (Value.bool false)), some 37, none⟩]) (LCode.cond (Operand.tmp 37) (LCode.ops [⟨Op.fieldAddr 37 (Operand.tmp 7) 2, some 38, none⟩, ⟨Op.store 9 (Operand.tmp 38) (Operand.const (Value.string { data := { toList := [119] } })), none, none⟩]) LCode.skip)) (LCode.seq (LCode.ops [⟨Op.move (Operand.tmp 5), some 39, none⟩, ⟨Op.load 37 (Operand.tmp 7), some 40, none⟩, ⟨Op.buildSlice 27 1 { toList := [(0, Operand.tmp 40)] }, some 41, none⟩, ⟨Op.call { callee := Callee.builtin Builtin.append, args := { toList := [Operand.tmp 39, Operand.tmp 41] }, argTypes := { toList := [27, 27] } }, some 42, none⟩, ⟨Op.assign (Operand.tmp 42), some 5, none⟩]) (LCode.draw [0, 0, 2, 0, 0, 24, 62, 127, 255] [⟨Op.move (Operand.tmp 6), some 43, none⟩, ⟨Op.fieldAddr 37 (Operand.tmp 7) 1, some 44, none⟩, ⟨Op.load 3 (Operand.tmp 44), some 45, none⟩, ⟨Op.move (Operand.tmp 0), some 46, none⟩, ⟨Op.buildSlice 22 4 { toList := [(0, Operand.const (Value.int IntKind.i64 1)), (1, Operand.const (Value.int IntKind.i64 1)), (2, Operand.const (Value.int IntKind.i64 2)), (3, Operand.const (Value.int IntKind.i64 5))] }, some 47, none⟩, ⟨Op.call { callee := Callee.value (Operand.func 49), args := { toList := [Operand.tmp 46, Operand.tmp 47] }, argTypes := { toList := [23, 22] } }, some 48, none⟩, ⟨Op.binOp BinOp.add 3 (Operand.tmp 45) (Operand.tmp 48) 3, some 49, none⟩, ⟨Op.binOp BinOp.add 3 (Operand.tmp 43) (Operand.tmp 49) 3, some 50, none⟩, ⟨Op.assign (Operand.tmp 50), some 6, none⟩])))))) (LCode.ops [⟨Op.binOp BinOp.add 3 (Operand.tmp 13) (Operand.const (Value.int IntKind.i64 1)) 3, some 51, none⟩, ⟨Op.move (Operand.tmp 51), some 13, none⟩]))))))) (LCode.seq (LCode.seq (LCode.ops [⟨Op.move (Operand.tmp 0), some 52, none⟩, ⟨Op.call { callee := Callee.value (Operand.func 50), args := { toList := [Operand.tmp 52, Operand.const (Value.int IntKind.i64 15)] }, argTypes := { toList := [23, 3] } }, some 53, none⟩]) (LCode.cond (Operand.tmp 53) (LCode.ops [⟨Op.move (Operand.tmp 5), some 54, none⟩, ⟨Op.move (Operand.tmp 0), some 55, none⟩, ⟨Op.move (Operand.tmp 1), some 56, none⟩, ⟨Op.call { callee := Callee.value (Operand.func 51), args := { toList := [Operand.tmp 55, Operand.tmp 56] }, argTypes := { toList := [23, 3] } }, some 57, none⟩, ⟨Op.buildSlice 27 1 { toList := [(0, Operand.tmp 57)] }, some 58, none⟩, ⟨Op.call { callee := Callee.builtin Builtin.append, args := { toList := [Operand.tmp 54, Operand.tmp 58] }, argTypes := { toList := [27, 27] } }, some 59, none⟩, ⟨Op.assign (Operand.tmp 59), some 5, none⟩]) LCode.skip)) (LCode.seq (LCode.ops [⟨Op.move (Operand.tmp 5), some 60, none⟩, ⟨Op.assign (Operand.tmp 60), some 4, none⟩]) LCode.ret)))))
theorem l29 : Tryz.f29.body.map lighten = some L29 := by kernel_rfl
theorem rs29 : Tryz.f29.results.toList = [ResultVar.tmp 4] := by kernel_rfl
theorem nt29 : Tryz.f29.ntmps = 61 := by kernel_rfl
noncomputable def L19 : LCode := LCode.seq (LCode.ops [⟨Op.assign (Operand.const (Value.int IntKind.i64 0)), some 6, none⟩]) (LCode.seq (LCode.seq (LCode.ops [⟨Op.move (Operand.tmp 2), some 7, none⟩, ⟨Op.move (Operand.tmp 1), some 8, none⟩, ⟨Op.binOp BinOp.lss 3 (Operand.tmp 7) (Operand.tmp 8) 3, some 9, none⟩]) (LCode.cond (Operand.tmp 9) (LCode.seq (LCode.ops [⟨Op.move (Operand.tmp 1), some 10, none⟩, ⟨Op.assign (Operand.tmp 10), some 6, none⟩]) LCode.ret) LCode.skip)) (LCode.seq (LCode.ops [⟨Op.move (Operand.tmp 1), some 11, none⟩, ⟨Op.move (Operand.tmp 0), some 12, none⟩, ⟨Op.move (Operand.tmp 2), some 13, none⟩, ⟨Op.move (Operand.tmp 1), some 14, none⟩, ⟨Op.binOp BinOp.sub 3 (Operand.tmp 13) (Operand.tmp 14) 3, some 15, none⟩, ⟨Op.binOp BinOp.add 3 (Operand.tmp 15) (Operand.const (Value.int IntKind.i64 1)) 3, some 16, none⟩, ⟨Op.call { callee := Callee.value (Operand.func 41), args := { toList := [Operand.tmp 12, Operand.tmp 16] }, argTypes := { toList := [23, 3] } }, some 17, none⟩, ⟨Op.binOp BinOp.add 3 (Operand.tmp 11) (Operand.tmp 17) 3, some 18, none⟩, ⟨Op.assign (Operand.tmp 18), some 6, none⟩]) LCode.ret))
theorem l19 : Tryz.f19.body.map lighten = some L19 := by kernel_rfl
theorem rs19 : Tryz.f19.results.toList = [ResultVar.tmp 6] := by kernel_rfl
theorem nt19 : Tryz.f19.ntmps = 19 := by kernel_rfl
noncomputable def L50 : LCode := LCode.seq (LCode.ops [⟨Op.assign (Operand.const (Value.bool false)), some 4, none⟩]) (LCode.seq (LCode.ops [⟨Op.move (Operand.tmp 0), some 5, none⟩, ⟨Op.move (Operand.tmp 1), some 6, none⟩, ⟨Op.call { callee := Callee.value (Operand.func 41), args := { toList := [Operand.tmp 5, Operand.tmp 6] }, argTypes := { toList := [23, 3] } }, some 7, none⟩, ⟨Op.binOp BinOp.eql 3 (Operand.tmp 7) (Operand.const (Value.int IntKind.i64 0)) 3, some 8, none⟩, ⟨Op.assign (Operand.tmp 8), some 4, none⟩]) LCode.ret)
theorem l50 : Tryz.f50.body.map lighten = some L50 := by kernel_rfl
theorem rs50 : Tryz.f50.results.toList = [ResultVar.tmp 4] := by kernel_rfl
theorem nt50 : Tryz.f50.ntmps = 9 := by kernel_rfl
noncomputable def L23 : LCode := LCode.seq (LCode.ops [⟨Op.assign (Operand.const (Value.int IntKind.i64 0)), some 8, none⟩, ⟨Op.assign (Operand.const (Value.int IntKind.i64 0)), some 9, none⟩]) (LCode.seq (LCode.seq (LCode.ops [⟨Op.move (Operand.tmp 0), some 14, none⟩, ⟨Op.move (Operand.tmp 1), some 15, none⟩, ⟨Op.call { callee := Callee.value (Operand.func 37), args := { toList := [Operand.tmp 14, Operand.tmp 15] }, argTypes := { toList := [3, 27] } }, some 16, none⟩, ⟨Op.assign (Operand.tmp 16), some 10, none⟩]) (LCode.seq (LCode.ops [⟨Op.move (Operand.tmp 10), some 17, none⟩, ⟨Op.binOp BinOp.neq 29 (Operand.tmp 17) (Operand.const (Value.int IntKind.i64 0)) 29, some 18, none⟩]) (LCode.cond (Operand.tmp 18) (LCode.seq (LCode.ops [⟨Op.move (Operand.tmp 10), some 19, none⟩, ⟨Op.assign (Operand.const (Value.int IntKind.i64 0)), some 8, none⟩, ⟨Op.assign (Operand.tmp 19), some 9, none⟩]) LCode.ret) LCode.skip))) (LCode.seq (LCode.seq (LCode.ops [⟨Op.move (Operand.tmp 2), some 20, none⟩, ⟨Op.binOp BinOp.lss 3 (Operand.tmp 20) (Operand.const (Value.int IntKind.i64 0)) 3, some 21, none⟩, ⟨Op.move (Operand.tmp 21), some 22, none⟩, ⟨Op.move (Operand.tmp 2), some 23, some (22, false)⟩, ⟨Op.move (Operand.tmp 0), some 24, some (22, false)⟩, ⟨Op.binOp BinOp.gtr 3 (Operand.tmp 23) (Operand.tmp 24) 3, some 25, some (22, false)⟩, ⟨Op.pick (Operand.tmp 22) (Operand.const (Value.bool true)) (Operand.tmp 25), some 26, none⟩]) (LCode.cond (Operand.tmp 26) (LCode.seq (LCode.ops [⟨Op.assign (Operand.const (Value.int IntKind.i64 0)), some 8, none⟩, ⟨Op.assign (Operand.const (Value.int IntKind.i64 1)), some 9, none⟩]) LCode.ret) LCode.skip)) (LCode.seq (LCode.ops [⟨Op.assign (Operand.const (Value.int IntKind.i64 0)), some 11, none⟩]) (LCode.seq (LCode.seq (LCode.ops [⟨Op.move (Operand.tmp 1), some 27, none⟩, ⟨Op.call { callee := Callee.builtin Builtin.len, args := { toList := [Operand.tmp 27] }, argTypes := { toList := [27] } }, some 28, none⟩, ⟨Op.move (Operand.const (Value.int IntKind.i64 0)), some 29, none⟩]) (LCode.block 0 (LCode.loop (LCode.seq (LCode.ops [⟨Op.binOp BinOp.lss 3 (Operand.tmp 29) (Operand.tmp 28) 3, some 30, none⟩]) (LCode.seq (LCode.cond (Operand.tmp 30) LCode.skip (LCode.exit 0)) (LCode.seq (LCode.block 1 (LCode.seq (LCode.ops [⟨Op.indexAddr 27 (Operand.tmp 27) (Operand.tmp 29), some 31, none⟩, ⟨Op.load 37 (Operand.tmp 31), some 32, none⟩, ⟨Op.alloc 37, some 13, none⟩, ⟨Op.store 37 (Operand.tmp 13) (Operand.tmp 32), none, none⟩]) (LCode.seq (LCode.seq (LCode.ops [⟨Op.fieldAddr 37 (Operand.tmp 13) 0, some 33, none⟩, ⟨Op.load 3 (Operand.tmp 33), some 34, none⟩, ⟨Op.move (Operand.tmp 2), some 35, none⟩, ⟨Op.binOp BinOp.gtr 3 (Operand.tmp 34) (Operand.tmp 35) 3, some 36, none⟩]) (LCode.cond (Operand.tmp 36) (LCode.exit 0) LCode.skip)) (LCode.seq (LCode.seq (LCode.ops [⟨Op.fieldAddr 37 (Operand.tmp 13) 0, some 37, none⟩, ⟨Op.load 3 (Operand.tmp 37), some 38, none⟩, ⟨Op.fieldAddr 37 (Operand.tmp 13) 1, some 39, none⟩, ⟨Op.load 3 (Operand.tmp 39), some 40, none⟩, ⟨Op.binOp BinOp.add 3 (Operand.tmp 38) (Operand.tmp 40) 3, some 41, none⟩, ⟨Op.move (Operand.tmp 2), some 42, none⟩, ⟨Op.binOp BinOp.geq 3 (Operand.tmp 41) (Operand.tmp 42) 3, some 43, none⟩]) (LCode.cond (Operand.tmp 43) (LCode.seq (LCode.seq (LCode.ops [⟨Op.move (Operand.tmp 3), some 44, none⟩]) (LCode.cond (Operand.tmp 44) (LCode.seq (LCode.ops [⟨Op.fieldAddr 37 (Operand.tmp 13) 0, some 45, none⟩, ⟨Op.load 3 (Operand.tmp 45), some 46, none⟩, ⟨Op.move (Operand.tmp 11), some 47, none⟩, ⟨Op.binOp BinOp.add 3 (Operand.tmp 46) (Operand.tmp 47) 3, some 48, none⟩, ⟨Op.fieldAddr 37 (Operand.tmp 13) 2, some 49, none⟩, ⟨Op.load 9 (Operand.tmp 49), some 50, none⟩, ⟨Op.call { callee := Callee.builtin Builtin.len, args := { toList := [Operand.tmp 50] }, argTypes := { toList := [9] } }, some 51, none⟩, ⟨Op.binOp BinOp.add 3 (Operand.tmp 48) (Operand.tmp 51) 3, some 52, none⟩, ⟨Op.assign (Operand.tmp 52), some 8, none⟩, ⟨Op.assign (Operand.const (Value.int IntKind.i64 0)), some 9, none⟩]) LCode.ret) LCode.skip)) (LCode.seq (LCode.ops [⟨Op.fieldAddr 37 (Operand.tmp 13) 0, some 53, none⟩, ⟨Op.load 3 (Operand.tmp 53), some 54, none⟩, ⟨Op.move (Operand.tmp 11), some 55, none⟩, ⟨Op.binOp BinOp.add 3 (Operand.tmp 54) (Operand.tmp 55) 3, some 56, none⟩, ⟨Op.assign (Operand.tmp 56), some 8, none⟩, ⟨Op.assign (Operand.const (Value.int IntKind.i64 0)), some 9, none⟩]) LCode.ret)) LCode.skip)) (LCode.ops [⟨Op.move (Operand.tmp 11), some 57, none⟩, ⟨Op.fieldAddr 37 (Operand.tmp 13) 2, some 58, none⟩, ⟨Op.load 9 (Operand.tmp 58), some 59, none⟩, ⟨Op.call { callee := Callee.builtin Builtin.len, args := { toList := [Operand.tmp 59] }, argTypes := { toList := [9] } }, some 60, none⟩, ⟨Op.fieldAddr 37 (Operand.tmp 13) 1, some 61, none⟩, ⟨Op.load 3 (Operand.tmp 61), some 62, none⟩, ⟨Op.binOp BinOp.sub 3 (Operand.tmp 60) (Operand.tmp 62) 3, some 63, none⟩, ⟨Op.binOp BinOp.add 3 (Operand.tmp 57) (Operand.tmp 63) 3, some 64, none⟩, ⟨Op.assign (Operand.tmp 64), some 11, none⟩]))))) (LCode.ops [⟨Op.binOp BinOp.add 3 (Operand.tmp 29) (Operand.const (Value.int IntKind.i64 1)) 3, some 65, none⟩, ⟨Op.move (Operand.tmp 65), some 29, none⟩]))))))) (LCode.seq (LCode.ops [⟨Op.move (Operand.tmp 2), some 66, none⟩, ⟨Op.move (Operand.tmp 11), some 67, none⟩, ⟨Op.binOp BinOp.add 3 (Operand.tmp 66) (Operand.tmp 67) 3, some 68, none⟩, ⟨Op.assign (Operand.tmp 68), some 8, none⟩, ⟨Op.assign (Operand.const (Value.int IntKind.i64 0)), some 9, none⟩]) LCode.ret)))))
theorem l23 : Tryz.f23.body.map lighten = some L23 := by kernel_rfl
theorem rs23 : Tryz.f23.results.toList = [ResultVar.tmp 8, ResultVar.tmp 9] := by kernel_rfl
theorem nt23 : Tryz.f23.ntmps = 69 := by kernel_rfl
theorem go23 {args : List AV} {s : AHeap} {R : AV → AHeap → Prop} (hl : args.length ≤ 69) (h : ∀ tm, tm.length = 69 → (∀ i, aev tm (.tmp i) = args.getD i aundef) → lvc Tryz.prog tab L23 (lpost tab [ResultVar.tmp 8, ResultVar.tmp 9] R) tm s) : ACall Tryz.prog 23 args s R := ACall.go tab_ok mixed Tryz.func23 l23 nm23 rs23 nt23 hl h
noncomputable def L30 : LCode := LCode.seq (LCode.ops [⟨Op.assign (Operand.const (Value.int IntKind.i64 0)), some 4, none⟩]) (LCode.seq (LCode.block 0 (LCode.seq (LCode.ops [⟨Op.move (Operand.tmp 0), some 10, none⟩, ⟨Op.call { callee := Callee.value (Operand.func 52), args := { toList := [Operand.tmp 10, Operand.const (Value.int IntKind.i64 0), Operand.const (Value.int IntKind.i64 20000)] }, argTypes := { toList := [3, 3, 3] } }, some 11, none⟩, ⟨Op.unOp UnOp.not 4 (Operand.tmp 11), some 12, none⟩, ⟨Op.assign (Operand.tmp 12), some 9, none⟩]) (LCode.cond (Operand.tmp 9) (LCode.seq (LCode.ops [⟨Op.assign (Operand.const (Value.int IntKind.i64 1)), some 4, none⟩]) LCode.ret) (LCode.seq (LCode.ops [⟨Op.move (Operand.tmp 1), some 14, none⟩, ⟨Op.call { callee := Callee.builtin Builtin.len, args := { toList := [Operand.tmp 14] }, argTypes := { toList := [27] } }, some 15, none⟩, ⟨Op.binOp BinOp.gtr 3 (Operand.tmp 15) (Operand.const (Value.int IntKind.i64 2000)) 3, some 16, none⟩, ⟨Op.assign (Operand.tmp 16), some 13, none⟩]) (LCode.cond (Operand.tmp 13) (LCode.seq (LCode.ops [⟨Op.assign (Operand.const (Value.int IntKind.i64 2)), some 4, none⟩]) LCode.ret) LCode.skip))))) (LCode.seq (LCode.ops [⟨Op.move (Operand.tmp 0), some 17, none⟩, ⟨Op.assign (Operand.const (Value.int IntKind.i64 (-1))), some 5, none⟩, ⟨Op.assign (Operand.tmp 17), some 6, none⟩]) (LCode.seq (LCode.seq (LCode.ops [⟨Op.move (Operand.tmp 1), some 18, none⟩, ⟨Op.call { callee := Callee.builtin Builtin.len, args := { toList := [Operand.tmp 18] }, argTypes := { toList := [27] } }, some 19, none⟩, ⟨Op.move (Operand.const (Value.int IntKind.i64 0)), some 20, none⟩]) (LCode.block 1 (LCode.loop (LCode.seq (LCode.ops [⟨Op.binOp BinOp.lss 3 (Operand.tmp 20) (Operand.tmp 19) 3, some 21, none⟩]) (LCode.seq (LCode.cond (Operand.tmp 21) LCode.skip (LCode.exit 1)) (LCode.seq (LCode.block 2 (LCode.seq (LCode.ops [⟨Op.indexAddr 27 (Operand.tmp 18) (Operand.tmp 20), some 22, none⟩, ⟨Op.load 37 (Operand.tmp 22), some 23, none⟩, ⟨Op.alloc 37, some 8, none⟩, ⟨Op.store 37 (Operand.tmp 8) (Operand.tmp 23), none, none⟩]) (LCode.seq (LCode.block 3 (LCode.seq (LCode.ops [⟨Op.fieldAddr 37 (Operand.tmp 8) 0, some 25, none⟩, ⟨Op.load 3 (Operand.tmp 25), some 26, none⟩, ⟨Op.move (Operand.tmp 0), some 27, none⟩, ⟨Op.call { callee := Callee.value (Operand.func 52), args := { toList := [Operand.tmp 26, Operand.const (Value.int IntKind.i64 0), Operand.tmp 27] }, argTypes := { toList := [3, 3, 3] } }, some 28, none⟩, ⟨Op.unOp UnOp.not 4 (Operand.tmp 28), some 29, none⟩, ⟨Op.move (Operand.tmp 29), some 30, none⟩, ⟨Op.fieldAddr 37 (Operand.tmp 8) 1, some 31, some (30, false)⟩, ⟨Op.load 3 (Operand.tmp 31), some 32, some (30, false)⟩, ⟨Op.move (Operand.tmp 0), some 33, some (30, false)⟩, ⟨Op.fieldAddr 37 (Operand.tmp 8) 0, some 34, some (30, false)⟩, ⟨Op.load 3 (Operand.tmp 34), some 35, some (30, false)⟩, ⟨Op.binOp BinOp.sub 3 (Operand.tmp 33) (Operand.tmp 35) 3, some 36, some (30, false)⟩, ⟨Op.call { callee := Callee.value (Operand.func 52), args := { toList := [Operand.tmp 32, Operand.const (Value.int IntKind.i64 0), Operand.tmp 36] }, argTypes := { toList := [3, 3, 3] } }, some 37, some (30, false)⟩, ⟨Op.unOp UnOp.not 4 (Operand.tmp 37), some 38, some (30, false)⟩, ⟨Op.pick (Operand.tmp 30) (Operand.const (Value.bool true)) (Operand.tmp 38), some 39, none⟩, ⟨Op.assign (Operand.tmp 39), some 24, none⟩]) (LCode.cond (Operand.tmp 24) (LCode.seq (LCode.ops [⟨Op.assign (Operand.const (Value.int IntKind.i64 1)), some 4, none⟩]) LCode.ret) (LCode.seq (LCode.ops [⟨Op.fieldAddr 37 (Operand.tmp 8) 1, some 41, none⟩, ⟨Op.load 3 (Operand.tmp 41), some 42, none⟩, ⟨Op.binOp BinOp.eql 3 (Operand.tmp 42) (Operand.const (Value.int IntKind.i64 0)) 3, some 43, none⟩, ⟨Op.move (Operand.tmp 43), some 44, none⟩, ⟨Op.fieldAddr 37 (Operand.tmp 8) 2, some 45, some (44, true)⟩, ⟨Op.load 9 (Operand.tmp 45), some 46, some (44, true)⟩, ⟨Op.binOp BinOp.eql 9 (Operand.tmp 46) (Operand.const (Value.string { data := { toList := [] } })) 9, some 47, some (44, true)⟩, ⟨Op.pick (Operand.tmp 44) (Operand.tmp 47) (Operand.const (Value.bool false)), some 48, none⟩, ⟨Op.assign (Operand.tmp 48), some 40, none⟩]) (LCode.cond (Operand.tmp 40) (LCode.seq (LCode.ops [⟨Op.assign (Operand.const (Value.int IntKind.i64 3)), some 4, none⟩]) LCode.ret) (LCode.seq (LCode.ops [⟨Op.fieldAddr 37 (Operand.tmp 8) 0, some 50, none⟩, ⟨Op.load 3 (Operand.tmp 50), some 51, none⟩, ⟨Op.move (Operand.tmp 5), some 52, none⟩, ⟨Op.binOp BinOp.leq 3 (Operand.tmp 51) (Operand.tmp 52) 3, some 53, none⟩, ⟨Op.assign (Operand.tmp 53), some 49, none⟩]) (LCode.cond (Operand.tmp 49) (LCode.seq (LCode.ops [⟨Op.assign (Operand.const (Value.int IntKind.i64 7)), some 4, none⟩]) LCode.ret) LCode.skip))))))) (LCode.seq (LCode.ops [⟨Op.fieldAddr 37 (Operand.tmp 8) 0, some 54, none⟩, ⟨Op.load 3 (Operand.tmp 54), some 55, none⟩, ⟨Op.fieldAddr 37 (Operand.tmp 8) 1, some 56, none⟩, ⟨Op.load 3 (Operand.tmp 56), some 57, none⟩, ⟨Op.binOp BinOp.add 3 (Operand.tmp 55) (Operand.tmp 57) 3, some 58, none⟩, ⟨Op.assign (Operand.tmp 58), some 5, none⟩]) (LCode.ops [⟨Op.move (Operand.tmp 6), some 59, none⟩, ⟨Op.fieldAddr 37 (Operand.tmp 8) 2, some 60, none⟩, ⟨Op.load 9 (Operand.tmp 60), some 61, none⟩, ⟨Op.call { callee := Callee.builtin Builtin.len, args := { toList := [Operand.tmp 61] }, argTypes := { toList := [9] } }, some 62, none⟩, ⟨Op.fieldAddr 37 (Operand.tmp 8) 1, some 63, none⟩, ⟨Op.load 3 (Operand.tmp 63), some 64, none⟩, ⟨Op.binOp BinOp.sub 3 (Operand.tmp 62) (Operand.tmp 64) 3, some 65, none⟩, ⟨Op.binOp BinOp.add 3 (Operand.tmp 59) (Operand.tmp 65) 3, some 66, none⟩, ⟨Op.assign (Operand.tmp 66), some 6, none⟩]))))) (LCode.ops [⟨Op.binOp BinOp.add 3 (Operand.tmp 20) (Operand.const (Value.int IntKind.i64 1)) 3, some 67, none⟩, ⟨Op.move (Operand.tmp 67), some 20, none⟩]))))))) (LCode.seq (LCode.seq (LCode.ops [⟨Op.move (Operand.tmp 6), some 68, none⟩, ⟨Op.binOp BinOp.gtr 3 (Operand.tmp 68) (Operand.const (Value.int IntKind.i64 20000)) 3, some 69, none⟩]) (LCode.cond (Operand.tmp 69) (LCode.seq (LCode.ops [⟨Op.assign (Operand.const (Value.int IntKind.i64 2)), some 4, none⟩]) LCode.ret) LCode.skip)) (LCode.seq (LCode.ops [⟨Op.assign (Operand.const (Value.int IntKind.i64 0)), some 4, none⟩]) LCode.ret)))))
theorem l30 : Tryz.f30.body.map lighten = some L30 := by kernel_rfl
theorem rs30 : Tryz.f30.results.toList = [ResultVar.tmp 4] := by kernel_rfl
theorem nt30 : Tryz.f30.ntmps = 70 := by kernel_rfl
theorem go30 {args : List AV} {s : AHeap} {R : AV → AHeap → Prop} (hl : args.length ≤ 70) (h : ∀ tm, tm.length = 70 → (∀ i, aev tm (.tmp i) = args.getD i aundef) → lvc Tryz.prog tab L30 (lpost tab [ResultVar.tmp 4] R) tm s) : ACall Tryz.prog 30 args s R := ACall.go tab_ok mixed Tryz.func30 l30 nm30 rs30 nt30 hl h
noncomputable def L13 : LCode := LCode.seq (LCode.ops [⟨Op.assign (Operand.const (Value.int IntKind.i64 0)), some 2, none⟩]) (LCode.seq (LCode.seq (LCode.ops [⟨Op.move (Operand.tmp 0), some 5, none⟩, ⟨Op.call { callee := Callee.builtin Builtin.len, args := { toList := [Operand.tmp 5] }, argTypes := { toList := [58] } }, some 6, none⟩, ⟨Op.move (Operand.const (Value.int IntKind.i64 0)), some 7, none⟩]) (LCode.block 0 (LCode.loop (LCode.seq (LCode.ops [⟨Op.binOp BinOp.lss 3 (Operand.tmp 7) (Operand.tmp 6) 3, some 8, none⟩]) (LCode.seq (LCode.cond (Operand.tmp 8) LCode.skip (LCode.exit 0)) (LCode.seq (LCode.block 1 (LCode.seq (LCode.ops [⟨Op.indexAddr 58 (Operand.tmp 5) (Operand.tmp 7), some 9, none⟩, ⟨Op.load 29 (Operand.tmp 9), some 10, none⟩, ⟨Op.assign (Operand.tmp 10), some 4, none⟩]) (LCode.seq (LCode.ops [⟨Op.move (Operand.tmp 4), some 11, none⟩, ⟨Op.binOp BinOp.neq 29 (Operand.tmp 11) (Operand.const (Value.int IntKind.i64 0)) 29, some 12, none⟩]) (LCode.cond (Operand.tmp 12) (LCode.seq (LCode.ops [⟨Op.move (Operand.tmp 4), some 13, none⟩, ⟨Op.assign (Operand.tmp 13), some 2, none⟩]) LCode.ret) LCode.skip)))) (LCode.ops [⟨Op.binOp BinOp.add 3 (Operand.tmp 7) (Operand.const (Value.int IntKind.i64 1)) 3, some 14, none⟩, ⟨Op.move (Operand.tmp 14), some 7, none⟩]))))))) (LCode.seq (LCode.ops [⟨Op.assign (Operand.const (Value.int IntKind.i64 0)), some 2, none⟩]) LCode.ret))
theorem l13 : Tryz.f13.body.map lighten = some L13 := by kernel_rfl
theorem rs13 : Tryz.f13.results.toList = [ResultVar.tmp 2] := by kernel_rfl
theorem nt13 : Tryz.f13.ntmps = 15 := by kernel_rfl
theorem go13 {args : List AV} {s : AHeap} {R : AV → AHeap → Prop} (hl : args.length ≤ 15) (h : ∀ tm, tm.length = 15 → (∀ i, aev tm (.tmp i) = args.getD i aundef) → lvc Tryz.prog tab L13 (lpost tab [ResultVar.tmp 2] R) tm s) : ACall Tryz.prog 13 args s R := ACall.go tab_ok mixed Tryz.func13 l13 nm13 rs13 nt13 hl h
noncomputable def L49 : LCode := LCode.seq (LCode.ops [⟨Op.assign (Operand.const (Value.int IntKind.i64 0)), some 4, none⟩]) (LCode.seq (LCode.ops [⟨Op.move (Operand.tmp 1), some 5, none⟩, ⟨Op.move (Operand.tmp 0), some 6, none⟩, ⟨Op.move (Operand.tmp 1), some 7, none⟩, ⟨Op.call { callee := Callee.builtin Builtin.len, args := { toList := [Operand.tmp 7] }, argTypes := { toList := [22] } }, some 8, none⟩, ⟨Op.call { callee := Callee.value (Operand.func 41), args := { toList := [Operand.tmp 6, Operand.tmp 8] }, argTypes := { toList := [23, 3] } }, some 9, none⟩, ⟨Op.indexAddr 22 (Operand.tmp 5) (Operand.tmp 9), some 10, none⟩, ⟨Op.load 3 (Operand.tmp 10), some 11, none⟩, ⟨Op.assign (Operand.tmp 11), some 4, none⟩]) LCode.ret)
theorem l49 : Tryz.f49.body.map lighten = some L49 := by kernel_rfl
theorem rs49 : Tryz.f49.results.toList = [ResultVar.tmp 4] := by kernel_rfl
theorem nt49 : Tryz.f49.ntmps = 12 := by kernel_rfl
noncomputable def L37 : LCode := LCode.seq (LCode.ops [⟨Op.assign (Operand.const (Value.int IntKind.i64 0)), some 4, none⟩]) (LCode.seq (LCode.block 0 (LCode.seq (LCode.ops [⟨Op.move (Operand.tmp 0), some 9, none⟩, ⟨Op.call { callee := Callee.value (Operand.func 40), args := { toList := [Operand.tmp 9, Operand.const (Value.int IntKind.i64 0), Operand.const (Value.int IntKind.i64 20000)] }, argTypes := { toList := [3, 3, 3] } }, some 10, none⟩, ⟨Op.unOp UnOp.not 4 (Operand.tmp 10), some 11, none⟩, ⟨Op.assign (Operand.tmp 11), some 8, none⟩]) (LCode.cond (Operand.tmp 8) (LCode.seq (LCode.ops [⟨Op.assign (Operand.const (Value.int IntKind.i64 1)), some 4, none⟩]) LCode.ret) (LCode.seq (LCode.ops [⟨Op.move (Operand.tmp 1), some 13, none⟩, ⟨Op.call { callee := Callee.builtin Builtin.len, args := { toList := [Operand.tmp 13] }, argTypes := { toList := [27] } }, some 14, none⟩, ⟨Op.binOp BinOp.gtr 3 (Operand.tmp 14) (Operand.const (Value.int IntKind.i64 2000)) 3, some 15, none⟩, ⟨Op.assign (Operand.tmp 15), some 12, none⟩]) (LCode.cond (Operand.tmp 12) (LCode.seq (LCode.ops [⟨Op.assign (Operand.const (Value.int IntKind.i64 2)), some 4, none⟩]) LCode.ret) LCode.skip))))) (LCode.seq (LCode.ops [⟨Op.assign (Operand.const (Value.int IntKind.i64 (-1))), some 5, none⟩]) (LCode.seq (LCode.seq (LCode.ops [⟨Op.move (Operand.tmp 1), some 16, none⟩, ⟨Op.call { callee := Callee.builtin Builtin.len, args := { toList := [Operand.tmp 16] }, argTypes := { toList := [27] } }, some 17, none⟩, ⟨Op.move (Operand.const (Value.int IntKind.i64 0)), some 18, none⟩]) (LCode.block 1 (LCode.loop (LCode.seq (LCode.ops [⟨Op.binOp BinOp.lss 3 (Operand.tmp 18) (Operand.tmp 17) 3, some 19, none⟩]) (LCode.seq (LCode.cond (Operand.tmp 19) LCode.skip (LCode.exit 1)) (LCode.seq (LCode.block 2 (LCode.seq (LCode.ops [⟨Op.indexAddr 27 (Operand.tmp 16) (Operand.tmp 18), some 20, none⟩, ⟨Op.load 37 (Operand.tmp 20), some 21, none⟩, ⟨Op.alloc 37, some 7, none⟩, ⟨Op.store 37 (Operand.tmp 7) (Operand.tmp 21), none, none⟩]) (LCode.seq (LCode.block 3 (LCode.seq (LCode.ops [⟨Op.fieldAddr 37 (Operand.tmp 7) 0, some 23, none⟩, ⟨Op.load 3 (Operand.tmp 23), some 24, none⟩, ⟨Op.move (Operand.tmp 0), some 25, none⟩, ⟨Op.call { callee := Callee.value (Operand.func 40), args := { toList := [Operand.tmp 24, Operand.const (Value.int IntKind.i64 0), Operand.tmp 25] }, argTypes := { toList := [3, 3, 3] } }, some 26, none⟩, ⟨Op.unOp UnOp.not 4 (Operand.tmp 26), some 27, none⟩, ⟨Op.move (Operand.tmp 27), some 28, none⟩, ⟨Op.fieldAddr 37 (Operand.tmp 7) 1, some 29, some (28, false)⟩, ⟨Op.load 3 (Operand.tmp 29), some 30, some (28, false)⟩, ⟨Op.move (Operand.tmp 0), some 31, some (28, false)⟩, ⟨Op.fieldAddr 37 (Operand.tmp 7) 0, some 32, some (28, false)⟩, ⟨Op.load 3 (Operand.tmp 32), some 33, some (28, false)⟩, ⟨Op.binOp BinOp.sub 3 (Operand.tmp 31) (Operand.tmp 33) 3, some 34, some (28, false)⟩, ⟨Op.call { callee := Callee.value (Operand.func 40), args := { toList := [Operand.tmp 30, Operand.const (Value.int IntKind.i64 0), Operand.tmp 34] }, argTypes := { toList := [3, 3, 3] } }, some 35, some (28, false)⟩, ⟨Op.unOp UnOp.not 4 (Operand.tmp 35), some 36, some (28, false)⟩, ⟨Op.pick (Operand.tmp 28) (Operand.const (Value.bool true)) (Operand.tmp 36), some 37, none⟩, ⟨Op.assign (Operand.tmp 37), some 22, none⟩]) (LCode.cond (Operand.tmp 22) (LCode.seq (LCode.ops [⟨Op.assign (Operand.const (Value.int IntKind.i64 1)), some 4, none⟩]) LCode.ret) (LCode.seq (LCode.ops [⟨Op.fieldAddr 37 (Operand.tmp 7) 1, some 39, none⟩, ⟨Op.load 3 (Operand.tmp 39), some 40, none⟩, ⟨Op.binOp BinOp.eql 3 (Operand.tmp 40) (Operand.const (Value.int IntKind.i64 0)) 3, some 41, none⟩, ⟨Op.move (Operand.tmp 41), some 42, none⟩, ⟨Op.fieldAddr 37 (Operand.tmp 7) 2, some 43, some (42, true)⟩, ⟨Op.load 9 (Operand.tmp 43), some 44, some (42, true)⟩, ⟨Op.binOp BinOp.eql 9 (Operand.tmp 44) (Operand.const (Value.string { data := { toList := [] } })) 9, some 45, some (42, true)⟩, ⟨Op.pick (Operand.tmp 42) (Operand.tmp 45) (Operand.const (Value.bool false)), some 46, none⟩, ⟨Op.assign (Operand.tmp 46), some 38, none⟩]) (LCode.cond (Operand.tmp 38) (LCode.seq (LCode.ops [⟨Op.assign (Operand.const (Value.int IntKind.i64 3)), some 4, none⟩]) LCode.ret) (LCode.seq (LCode.ops [⟨Op.fieldAddr 37 (Operand.tmp 7) 0, some 48, none⟩, ⟨Op.load 3 (Operand.tmp 48), some 49, none⟩, ⟨Op.move (Operand.tmp 5), some 50, none⟩, ⟨Op.binOp BinOp.leq 3 (Operand.tmp 49) (Operand.tmp 50) 3, some 51, none⟩, ⟨Op.assign (Operand.tmp 51), some 47, none⟩]) (LCode.cond (Operand.tmp 47) (LCode.seq (LCode.ops [⟨Op.assign (Operand.const (Value.int IntKind.i64 7)), some 4, none⟩]) LCode.ret) LCode.skip))))))) (LCode.ops [⟨Op.fieldAddr 37 (Operand.tmp 7) 0, some 52, none⟩, ⟨Op.load 3 (Operand.tmp 52), some 53, none⟩, ⟨Op.fieldAddr 37 (Operand.tmp 7) 1, some 54, none⟩, ⟨Op.load 3 (Operand.tmp 54), some 55, none⟩, ⟨Op.binOp BinOp.add 3 (Operand.tmp 53) (Operand.tmp 55) 3, some 56, none⟩, ⟨Op.assign (Operand.tmp 56), some 5, none⟩])))) (LCode.ops [⟨Op.binOp BinOp.add 3 (Operand.tmp 18) (Operand.const (Value.int IntKind.i64 1)) 3, some 57, none⟩, ⟨Op.move (Operand.tmp 57), some 18, none⟩]))))))) (LCode.seq (LCode.seq (LCode.ops [⟨Op.move (Operand.tmp 0), some 58, none⟩, ⟨Op.move (Operand.tmp 1), some 59, none⟩, ⟨Op.call { callee := Callee.value (Operand.func 38), args := { toList := [Operand.tmp 58, Operand.tmp 59] }, argTypes := { toList := [3, 27] } }, some 60, none⟩, ⟨Op.binOp BinOp.gtr 3 (Operand.tmp 60) (Operand.const (Value.int IntKind.i64 20000)) 3, some 61, none⟩]) (LCode.cond (Operand.tmp 61) (LCode.seq (LCode.ops [⟨Op.assign (Operand.const (Value.int IntKind.i64 2)), some 4, none⟩]) LCode.ret) LCode.skip)) (LCode.seq (LCode.ops [⟨Op.assign (Operand.const (Value.int IntKind.i64 0)), some 4, none⟩]) LCode.ret)))))
theorem l37 : Tryz.f37.body.map lighten = some L37 := by kernel_rfl
theorem rs37 : Tryz.f37.results.toList = [ResultVar.tmp 4] := by kernel_rfl
theorem nt37 : Tryz.f37.ntmps = 62 := by kernel_rfl
theorem go37 {args : List AV} {s : AHeap} {R : AV → AHeap → Prop} (hl : args.length ≤ 62) (h : ∀ tm, tm.length = 62 → (∀ i, aev tm (.tmp i) = args.getD i aundef) → lvc Tryz.prog tab L37 (lpost tab [ResultVar.tmp 4] R) tm s) : ACall Tryz.prog 37 args s R := ACall.go tab_ok mixed Tryz.func37 l37 nm37 rs37 nt37 hl h
noncomputable def L28 : LCode := LCode.seq (LCode.ops [⟨Op.assign (Operand.const (Value.string { data := { toList := [] } })), some 4, none⟩]) (LCode.seq (LCode.ops [⟨Op.move (Operand.tmp 1), some 5, none⟩, ⟨Op.move (Operand.tmp 0), some 6, none⟩, ⟨Op.move (Operand.tmp 1), some 7, none⟩, ⟨Op.call { callee := Callee.builtin Builtin.len, args := { toList := [Operand.tmp 7] }, argTypes := { toList := [75] } }, some 8, none⟩, ⟨Op.call { callee := Callee.value (Operand.func 41), args := { toList := [Operand.tmp 6, Operand.tmp 8] }, argTypes := { toList := [23, 3] } }, some 9, none⟩, ⟨Op.indexAddr 75 (Operand.tmp 5) (Operand.tmp 9), some 10, none⟩, ⟨Op.load 9 (Operand.tmp 10), some 11, none⟩, ⟨Op.assign (Operand.tmp 11), some 4, none⟩]) LCode.ret)
theorem l28 : Tryz.f28.body.map lighten = some L28 := by kernel_rfl
theorem rs28 : Tryz.f28.results.toList = [ResultVar.tmp 4] := by kernel_rfl
theorem nt28 : Tryz.f28.ntmps = 12 := by kernel_rfl
noncomputable def L51 : LCode := LCode.seq (LCode.ops [⟨Op.alloc 37, some 4, none⟩]) (LCode.seq (LCode.ops [⟨Op.move (Operand.tmp 0), some 7, none⟩, ⟨Op.move (Operand.tmp 1), some 8, none⟩, ⟨Op.binOp BinOp.add 3 (Operand.tmp 8) (Operand.const (Value.int IntKind.i64 1)) 3, some 9, none⟩, ⟨Op.call { callee := Callee.value (Operand.func 41), args := { toList := [Operand.tmp 7, Operand.tmp 9] }, argTypes := { toList := [23, 3] } }, some 10, none⟩, ⟨Op.assign (Operand.tmp 10), some 5, none⟩]) (LCode.seq (LCode.ops [⟨Op.move (Operand.tmp 5), some 11, none⟩, ⟨Op.move (Operand.tmp 0), some 12, none⟩, ⟨Op.buildSlice 22 5 { toList := [(0, Operand.const (Value.int IntKind.i64 0)), (1, Operand.const (Value.int IntKind.i64 0)), (2, Operand.const (Value.int IntKind.i64 1)), (3, Operand.const (Value.int IntKind.i64 2)), (4, Operand.const (Value.int IntKind.i64 5))] }, some 13, none⟩, ⟨Op.call { callee := Callee.value (Operand.func 49), args := { toList := [Operand.tmp 12, Operand.tmp 13] }, argTypes := { toList := [23, 22] } }, some 14, none⟩, ⟨Op.move (Operand.tmp 1), some 15, none⟩, ⟨Op.move (Operand.tmp 5), some 16, none⟩, ⟨Op.binOp BinOp.sub 3 (Operand.tmp 15) (Operand.tmp 16) 3, some 17, none⟩, ⟨Op.call { callee := Callee.builtin Builtin.min, args := { toList := [Operand.tmp 14, Operand.tmp 17] }, argTypes := { toList := [3, 3] } }, some 18, none⟩, ⟨Op.move (Operand.tmp 0), some 19, none⟩, ⟨Op.buildSlice 75 10 { toList := [(0, Operand.const (Value.string { data := { toList := [] } })), (1, Operand.const (Value.string { data := { toList := [97] } })), (2, Operand.const (Value.string { data := { toList := [32] } })), (3, Operand.const (Value.string { data := { toList := [49] } })), (4, Operand.const (Value.string { data := { toList := [43] } })), (5, Operand.const (Value.string { data := { toList := [41] } })), (6, Operand.const (Value.string { data := { toList := [35] } })), (7, Operand.const (Value.string { data := { toList := [34] } })), (8, Operand.const (Value.string { data := { toList := [97, 98, 32, 49] } })), (9, Operand.const (Value.string { data := { toList := [46] } }))] }, some 20, none⟩, ⟨Op.call { callee := Callee.value (Operand.func 28), args := { toList := [Operand.tmp 19, Operand.tmp 20] }, argTypes := { toList := [23, 75] } }, some 21, none⟩, ⟨Op.build 37 { toList := [(0, Operand.tmp 11), (1, Operand.tmp 18), (2, Operand.tmp 21)] }, some 22, none⟩, ⟨Op.alloc 37, some 6, none⟩, ⟨Op.store 37 (Operand.tmp 6) (Operand.tmp 22), none, none⟩]) (LCode.seq (LCode.seq (LCode.ops [⟨Op.move (Operand.tmp 0), some 23, none⟩, ⟨Op.call { callee := Callee.value (Operand.func 50), args := { toList := [Operand.tmp 23, Operand.const (Value.int IntKind.i64 25)] }, argTypes := { toList := [23, 3] } }, some 24, none⟩]) (LCode.cond (Operand.tmp 24) (LCode.ops [⟨Op.move (Operand.tmp 0), some 25, none⟩, ⟨Op.move (Operand.tmp 1), some 26, none⟩, ⟨Op.binOp BinOp.add 3 (Operand.tmp 26) (Operand.const (Value.int IntKind.i64 1)) 3, some 27, none⟩, ⟨Op.move (Operand.tmp 5), some 28, none⟩, ⟨Op.buildSlice 22 3 { toList := [(0, Operand.const (Value.int IntKind.i64 (-1))), (1, Operand.tmp 27), (2, Operand.tmp 28)] }, some 29, none⟩, ⟨Op.call { callee := Callee.value (Operand.func 49), args := { toList := [Operand.tmp 25, Operand.tmp 29] }, argTypes := { toList := [23, 22] } }, some 30, none⟩, ⟨Op.move (Operand.tmp 0), some 31, none⟩, ⟨Op.move (Operand.tmp 1), some 32, none⟩, ⟨Op.binOp BinOp.add 3 (Operand.tmp 32) (Operand.const (Value.int IntKind.i64 1)) 3, some 33, none⟩, ⟨Op.buildSlice 22 3 { toList := [(0, Operand.const (Value.int IntKind.i64 0)), (1, Operand.const (Value.int IntKind.i64 (-1))), (2, Operand.tmp 33)] }, some 34, none⟩, ⟨Op.call { callee := Callee.value (Operand.func 49), args := { toList := [Operand.tmp 31, Operand.tmp 34] }, argTypes := { toList := [23, 22] } }, some 35, none⟩, ⟨Op.fieldAddr 37 (Operand.tmp 6) 0, some 36, none⟩, ⟨Op.store 3 (Operand.tmp 36) (Operand.tmp 30), none, none⟩, ⟨Op.fieldAddr 37 (Operand.tmp 6) 1, some 37, none⟩, ⟨Op.store 3 (Operand.tmp 37) (Operand.tmp 35), none, none⟩]) LCode.skip)) (LCode.seq (LCode.ops [⟨Op.load 37 (Operand.tmp 6), some 38, none⟩, ⟨Op.store 37 (Operand.tmp 4) (Operand.tmp 38), none, none⟩]) LCode.ret))))
theorem l51 : Tryz.f51.body.map lighten = some L51 := by kernel_rfl
theorem rs51 : Tryz.f51.results.toList = [ResultVar.cell 4 37] := by kernel_rfl
theorem nt51 : Tryz.f51.ntmps = 39 := by kernel_rfl
noncomputable def L41 : LCode := LCode.seq (LCode.ops [⟨Op.assign (Operand.const (Value.int IntKind.i64 0)), some 4, none⟩]) (LCode.seq (LCode.ops [⟨Op.move (Operand.tmp 0), some 7, none⟩, ⟨Op.nilCheck (Operand.tmp 7), some 8, none⟩, ⟨Op.fieldAddr 25 (Operand.tmp 8) 1, some 9, none⟩, ⟨Op.load 3 (Operand.tmp 9), some 10, none⟩, ⟨Op.binOp BinOp.add 3 (Operand.tmp 10) (Operand.const (Value.int IntKind.i64 1)) 3, some 11, none⟩, ⟨Op.nilCheck (Operand.tmp 7), some 12, none⟩, ⟨Op.fieldAddr 25 (Operand.tmp 12) 1, some 13, none⟩, ⟨Op.store 3 (Operand.tmp 13) (Operand.tmp 11), none, none⟩]) (LCode.seq (LCode.seq (LCode.ops [⟨Op.move (Operand.tmp 0), some 14, none⟩, ⟨Op.nilCheck (Operand.tmp 14), some 15, none⟩, ⟨Op.fieldAddr 25 (Operand.tmp 15) 0, some 16, none⟩, ⟨Op.load 22 (Operand.tmp 16), some 17, none⟩, ⟨Op.call { callee := Callee.builtin Builtin.len, args := { toList := [Operand.tmp 17] }, argTypes := { toList := [22] } }, some 18, none⟩, ⟨Op.binOp BinOp.eql 3 (Operand.tmp 18) (Operand.const (Value.int IntKind.i64 0)) 3, some 19, none⟩]) (LCode.cond (Operand.tmp 19) (LCode.seq (LCode.ops [⟨Op.move (Operand.tmp 0), some 20, none⟩, ⟨Op.nilCheck (Operand.tmp 20), some 21, none⟩, ⟨Op.fieldAddr 25 (Operand.tmp 21) 1, some 22, none⟩, ⟨Op.load 3 (Operand.tmp 22), some 23, none⟩, ⟨Op.binOp BinOp.mul 3 (Operand.tmp 23) (Operand.const (Value.int IntKind.i64 7919)) 3, some 24, none⟩, ⟨Op.move (Operand.tmp 1), some 25, none⟩, ⟨Op.call { callee := Callee.value (Operand.func 71), args := { toList := [Operand.tmp 24, Operand.tmp 25] }, argTypes := { toList := [3, 3] } }, some 26, none⟩, ⟨Op.assign (Operand.tmp 26), some 4, none⟩]) LCode.ret) LCode.skip)) (LCode.seq (LCode.draw [0, 1, 3, 7, 15, 0, 32, 96, 224, 480, 1023, 2047] [⟨Op.move (Operand.tmp 0), some 27, none⟩, ⟨Op.nilCheck (Operand.tmp 27), some 28, none⟩, ⟨Op.fieldAddr 25 (Operand.tmp 28) 1, some 29, none⟩, ⟨Op.load 3 (Operand.tmp 29), some 30, none⟩, ⟨Op.binOp BinOp.sub 3 (Operand.tmp 30) (Operand.const (Value.int IntKind.i64 1)) 3, some 31, none⟩, ⟨Op.move (Operand.tmp 0), some 32, none⟩, ⟨Op.nilCheck (Operand.tmp 32), some 33, none⟩, ⟨Op.fieldAddr 25 (Operand.tmp 33) 0, some 34, none⟩, ⟨Op.load 22 (Operand.tmp 34), some 35, none⟩, ⟨Op.call { callee := Callee.builtin Builtin.len, args := { toList := [Operand.tmp 35] }, argTypes := { toList := [22] } }, some 36, none⟩, ⟨Op.binOp BinOp.rem 3 (Operand.tmp 31) (Operand.tmp 36) 3, some 37, none⟩, ⟨Op.assign (Operand.tmp 37), some 5, none⟩]) (LCode.seq (LCode.draw [0, 1, 3, 7, 15, 0, 32, 96, 224, 480, 1023, 2047] [⟨Op.move (Operand.tmp 0), some 38, none⟩, ⟨Op.nilCheck (Operand.tmp 38), some 39, none⟩, ⟨Op.fieldAddr 25 (Operand.tmp 39) 1, some 40, none⟩, ⟨Op.load 3 (Operand.tmp 40), some 41, none⟩, ⟨Op.binOp BinOp.sub 3 (Operand.tmp 41) (Operand.const (Value.int IntKind.i64 1)) 3, some 42, none⟩, ⟨Op.move (Operand.tmp 0), some 43, none⟩, ⟨Op.nilCheck (Operand.tmp 43), some 44, none⟩, ⟨Op.fieldAddr 25 (Operand.tmp 44) 0, some 45, none⟩, ⟨Op.load 22 (Operand.tmp 45), some 46, none⟩, ⟨Op.call { callee := Callee.builtin Builtin.len, args := { toList := [Operand.tmp 46] }, argTypes := { toList := [22] } }, some 47, none⟩, ⟨Op.binOp BinOp.quo 3 (Operand.tmp 42) (Operand.tmp 47) 3, some 48, none⟩, ⟨Op.assign (Operand.tmp 48), some 6, none⟩]) (LCode.seq (LCode.ops [⟨Op.move (Operand.tmp 0), some 49, none⟩, ⟨Op.nilCheck (Operand.tmp 49), some 50, none⟩, ⟨Op.fieldAddr 25 (Operand.tmp 50) 0, some 51, none⟩, ⟨Op.load 22 (Operand.tmp 51), some 52, none⟩, ⟨Op.move (Operand.tmp 5), some 53, none⟩, ⟨Op.indexAddr 22 (Operand.tmp 52) (Operand.tmp 53), some 54, none⟩, ⟨Op.load 3 (Operand.tmp 54), some 55, none⟩, ⟨Op.call { callee := Callee.value (Operand.func 71), args := { toList := [Operand.tmp 55, Operand.const (Value.int IntKind.i64 1073741824)] }, argTypes := { toList := [3, 3] } }, some 56, none⟩, ⟨Op.move (Operand.tmp 6), some 57, none⟩, ⟨Op.move (Operand.tmp 5), some 58, none⟩, ⟨Op.binOp BinOp.add 3 (Operand.const (Value.int IntKind.i64 7919)) (Operand.tmp 58) 3, some 59, none⟩, ⟨Op.binOp BinOp.mul 3 (Operand.tmp 57) (Operand.tmp 59) 3, some 60, none⟩, ⟨Op.binOp BinOp.add 3 (Operand.tmp 56) (Operand.tmp 60) 3, some 61, none⟩, ⟨Op.move (Operand.tmp 1), some 62, none⟩, ⟨Op.call { callee := Callee.value (Operand.func 71), args := { toList := [Operand.tmp 61, Operand.tmp 62] }, argTypes := { toList := [3, 3] } }, some 63, none⟩, ⟨Op.assign (Operand.tmp 63), some 4, none⟩]) LCode.ret)))))
theorem l41 : Tryz.f41.body.map lighten = some L41 := by kernel_rfl
theorem rs41 : Tryz.f41.results.toList = [ResultVar.tmp 4] := by kernel_rfl
theorem nt41 : Tryz.f41.ntmps = 64 := by kernel_rfl
noncomputable def L52 : LCode := LCode.seq (LCode.ops [⟨Op.assign (Operand.const (Value.bool false)), some 6, none⟩]) (LCode.seq (LCode.ops [⟨Op.move (Operand.tmp 1), some 7, none⟩, ⟨Op.move (Operand.tmp 0), some 8, none⟩, ⟨Op.binOp BinOp.leq 3 (Operand.tmp 7) (Operand.tmp 8) 3, some 9, none⟩, ⟨Op.move (Operand.tmp 9), some 10, none⟩, ⟨Op.move (Operand.tmp 0), some 11, some (10, true)⟩, ⟨Op.move (Operand.tmp 2), some 12, some (10, true)⟩, ⟨Op.binOp BinOp.leq 3 (Operand.tmp 11) (Operand.tmp 12) 3, some 13, some (10, true)⟩, ⟨Op.pick (Operand.tmp 10) (Operand.tmp 13) (Operand.const (Value.bool false)), some 14, none⟩, ⟨Op.assign (Operand.tmp 14), some 6, none⟩]) LCode.ret)
theorem l52 : Tryz.f52.body.map lighten = some L52 := by kernel_rfl
theorem rs52 : Tryz.f52.results.toList = [ResultVar.tmp 6] := by kernel_rfl
theorem nt52 : Tryz.f52.ntmps = 15 := by kernel_rfl
theorem go52 {args : List AV} {s : AHeap} {R : AV → AHeap → Prop} (hl : args.length ≤ 15) (h : ∀ tm, tm.length = 15 → (∀ i, aev tm (.tmp i) = args.getD i aundef) → lvc Tryz.prog tab L52 (lpost tab [ResultVar.tmp 6] R) tm s) : ACall Tryz.prog 52 args s R := ACall.go tab_ok mixed Tryz.func52 l52 nm52 rs52 nt52 hl h
noncomputable def L38 : LCode := LCode.seq (LCode.ops [⟨Op.assign (Operand.const (Value.int IntKind.i64 0)), some 4, none⟩]) (LCode.seq (LCode.seq (LCode.ops [⟨Op.move (Operand.tmp 1), some 7, none⟩, ⟨Op.call { callee := Callee.builtin Builtin.len, args := { toList := [Operand.tmp 7] }, argTypes := { toList := [27] } }, some 8, none⟩, ⟨Op.move (Operand.const (Value.int IntKind.i64 0)), some 9, none⟩]) (LCode.block 0 (LCode.loop (LCode.seq (LCode.ops [⟨Op.binOp BinOp.lss 3 (Operand.tmp 9) (Operand.tmp 8) 3, some 10, none⟩]) (LCode.seq (LCode.cond (Operand.tmp 10) LCode.skip (LCode.exit 0)) (LCode.seq (LCode.block 1 (LCode.seq (LCode.ops [⟨Op.indexAddr 27 (Operand.tmp 7) (Operand.tmp 9), some 11, none⟩, ⟨Op.load 37 (Operand.tmp 11), some 12, none⟩, ⟨Op.alloc 37, some 6, none⟩, ⟨Op.store 37 (Operand.tmp 6) (Operand.tmp 12), none, none⟩]) (LCode.ops [⟨Op.move (Operand.tmp 0), some 13, none⟩, ⟨Op.fieldAddr 37 (Operand.tmp 6) 2, some 14, none⟩, ⟨Op.load 9 (Operand.tmp 14), some 15, none⟩, ⟨Op.call { callee := Callee.builtin Builtin.len, args := { toList := [Operand.tmp 15] }, argTypes := { toList := [9] } }, some 16, none⟩, ⟨Op.fieldAddr 37 (Operand.tmp 6) 1, some 17, none⟩, ⟨Op.load 3 (Operand.tmp 17), some 18, none⟩, ⟨Op.binOp BinOp.sub 3 (Operand.tmp 16) (Operand.tmp 18) 3, some 19, none⟩, ⟨Op.binOp BinOp.add 3 (Operand.tmp 13) (Operand.tmp 19) 3, some 20, none⟩, ⟨Op.assign (Operand.tmp 20), some 0, none⟩]))) (LCode.ops [⟨Op.binOp BinOp.add 3 (Operand.tmp 9) (Operand.const (Value.int IntKind.i64 1)) 3, some 21, none⟩, ⟨Op.move (Operand.tmp 21), some 9, none⟩]))))))) (LCode.seq (LCode.ops [⟨Op.move (Operand.tmp 0), some 22, none⟩, ⟨Op.assign (Operand.tmp 22), some 4, none⟩]) LCode.ret))
theorem l38 : Tryz.f38.body.map lighten = some L38 := by kernel_rfl
theorem rs38 : Tryz.f38.results.toList = [ResultVar.tmp 4] := by kernel_rfl
theorem nt38 : Tryz.f38.ntmps = 23 := by kernel_rfl
theorem go38 {args : List AV} {s : AHeap} {R : AV → AHeap → Prop} (hl : args.length ≤ 23) (h : ∀ tm, tm.length = 23 → (∀ i, aev tm (.tmp i) = args.getD i aundef) → lvc Tryz.prog tab L38 (lpost tab [ResultVar.tmp 4] R) tm s) : ACall Tryz.prog 38 args s R := ACall.go tab_ok mixed Tryz.func38 l38 nm38 rs38 nt38 hl h
noncomputable def L40 : LCode := LCode.seq (LCode.ops [⟨Op.assign (Operand.const (Value.bool false)), some 6, none⟩]) (LCode.seq (LCode.ops [⟨Op.move (Operand.tmp 0), some 7, none⟩, ⟨Op.move (Operand.tmp 1), some 8, none⟩, ⟨Op.binOp BinOp.geq 3 (Operand.tmp 7) (Operand.tmp 8) 3, some 9, none⟩, ⟨Op.move (Operand.tmp 9), some 10, none⟩, ⟨Op.move (Operand.tmp 0), some 11, some (10, true)⟩, ⟨Op.move (Operand.tmp 2), some 12, some (10, true)⟩, ⟨Op.binOp BinOp.leq 3 (Operand.tmp 11) (Operand.tmp 12) 3, some 13, some (10, true)⟩, ⟨Op.pick (Operand.tmp 10) (Operand.tmp 13) (Operand.const (Value.bool false)), some 14, none⟩, ⟨Op.assign (Operand.tmp 14), some 6, none⟩]) LCode.ret)
theorem l40 : Tryz.f40.body.map lighten = some L40 := by kernel_rfl
theorem rs40 : Tryz.f40.results.toList = [ResultVar.tmp 6] := by kernel_rfl
theorem nt40 : Tryz.f40.ntmps = 15 := by kernel_rfl
theorem go40 {args : List AV} {s : AHeap} {R : AV → AHeap → Prop} (hl : args.length ≤ 15) (h : ∀ tm, tm.length = 15 → (∀ i, aev tm (.tmp i) = args.getD i aundef) → lvc Tryz.prog tab L40 (lpost tab [ResultVar.tmp 6] R) tm s) : ACall Tryz.prog 40 args s R := ACall.go tab_ok mixed Tryz.func40 l40 nm40 rs40 nt40 hl h
noncomputable def L71 : LCode := LCode.seq (LCode.ops [⟨Op.assign (Operand.const (Value.int IntKind.i64 0)), some 4, none⟩]) (LCode.seq (LCode.seq (LCode.ops [⟨Op.move (Operand.tmp 1), some 5, none⟩, ⟨Op.binOp BinOp.lss 3 (Operand.tmp 5) (Operand.const (Value.int IntKind.i64 1)) 3, some 6, none⟩]) (LCode.cond (Operand.tmp 6) (LCode.seq (LCode.ops [⟨Op.assign (Operand.const (Value.int IntKind.i64 0)), some 4, none⟩]) LCode.ret) LCode.skip)) (LCode.seq (LCode.ops [⟨Op.move (Operand.tmp 0), some 7, none⟩, ⟨Op.move (Operand.tmp 1), some 8, none⟩, ⟨Op.binOp BinOp.rem 3 (Operand.tmp 7) (Operand.tmp 8) 3, some 9, none⟩, ⟨Op.assign (Operand.tmp 9), some 0, none⟩]) (LCode.seq (LCode.seq (LCode.ops [⟨Op.move (Operand.tmp 0), some 10, none⟩, ⟨Op.binOp BinOp.lss 3 (Operand.tmp 10) (Operand.const (Value.int IntKind.i64 0)) 3, some 11, none⟩]) (LCode.cond (Operand.tmp 11) (LCode.ops [⟨Op.move (Operand.tmp 0), some 12, none⟩, ⟨Op.move (Operand.tmp 1), some 13, none⟩, ⟨Op.binOp BinOp.add 3 (Operand.tmp 12) (Operand.tmp 13) 3, some 14, none⟩, ⟨Op.assign (Operand.tmp 14), some 0, none⟩]) LCode.skip)) (LCode.seq (LCode.ops [⟨Op.move (Operand.tmp 0), some 15, none⟩, ⟨Op.assign (Operand.tmp 15), some 4, none⟩]) LCode.ret))))
theorem l71 : Tryz.f71.body.map lighten = some L71 := by kernel_rfl
theorem rs71 : Tryz.f71.results.toList = [ResultVar.tmp 4] := by kernel_rfl
theorem nt71 : Tryz.f71.ntmps = 16 := by kernel_rfl
theorem go71 {args : List AV} {s : AHeap} {R : AV → AHeap → Prop} (hl : args.length ≤ 16) (h : ∀ tm, tm.length = 16 → (∀ i, aev tm (.tmp i) = args.getD i aundef) → lvc Tryz.prog tab L71 (lpost tab [ResultVar.tmp 4] R) tm s) : ACall Tryz.prog 71 args s R := ACall.go tab_ok mixed Tryz.func71 l71 nm71 rs71 nt71 hl h
end Go.S1
end
