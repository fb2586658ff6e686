/- Part 1 of a proof: texts of this work, put together. -/
import Derived.Test.YtbbmffefhocmdaaAm5
import Derived.Test.YtbbmffefhocmdaaProg
import Derived.KernelRfl
section
set_option linter.unusedVariables false
set_option linter.unusedSimpArgs false
namespace Go.S1
open Go Go.Am Go.Proofs
set_option maxRecDepth 100000
noncomputable def tys : List (Nat × TI) := [
  (1, { td := .func, size := 1, bytes := 8, zero := .nilFunc, eqok := false }),
  (2, { td := .int .i64, size := 1, bytes := 8, zero := .int .i64 0, eqok := false }),
  (3, { td := .int .i64, size := 1, bytes := 8, zero := .int .i64 0, eqok := false }),
  (4, { td := .bool, size := 1, bytes := 1, zero := .bool false, eqok := false }),
  (5, { td := .int .u8, size := 1, bytes := 1, zero := .int .u8 0, eqok := false }),
  (6, { td := .int .u8, size := 1, bytes := 1, zero := .int .u8 0, eqok := false }),
  (7, { td := .struct [(2, 0, true), (3, 1, true), (4, 2, true), (6, 3, true)], size := 4, bytes := 24, zero := .agg #[.int .i64 0, .int .i64 0, .bool false, .int .u8 0], eqok := false }),
  (8, { td := .struct [(2, 0, true), (3, 1, true), (4, 2, true), (6, 3, true)], size := 4, bytes := 24, zero := .agg #[.int .i64 0, .int .i64 0, .bool false, .int .u8 0], eqok := false }),
  (9, { td := .str, size := 1, bytes := 16, zero := .string ⟨#[]⟩, eqok := false }),
  (10, { td := .str, size := 1, bytes := 16, zero := .string ⟨#[]⟩, eqok := false }),
  (11, { td := .str, size := 1, bytes := 16, zero := .string ⟨#[]⟩, eqok := false }),
  (12, { td := .int .u64, size := 1, bytes := 8, zero := .int .u64 0, eqok := false }),
  (13, { td := .struct [(9, 0, true), (12, 1, true)], size := 2, bytes := 24, zero := .agg #[.string ⟨#[]⟩, .int .u64 0], eqok := false }),
  (14, { td := .struct [(9, 0, true), (12, 1, true)], size := 2, bytes := 24, zero := .agg #[.string ⟨#[]⟩, .int .u64 0], eqok := false }),
  (15, { td := .ptr 251, size := 1, bytes := 8, zero := .pointer none, eqok := false }),
  (16, { td := .ptr 254, size := 1, bytes := 8, zero := .pointer none, eqok := false }),
  (17, { td := .ptr 262, size := 1, bytes := 8, zero := .pointer none, eqok := false }),
  (18, { td := .struct [(17, 0, true)], size := 1, bytes := 8, zero := .agg #[.pointer none], eqok := false }),
  (19, { td := .struct [(17, 0, true)], size := 1, bytes := 8, zero := .agg #[.pointer none], eqok := false }),
  (21, { td := .int .i32, size := 1, bytes := 4, zero := .int .i32 0, eqok := false }),
  (22, { td := .slice 3, size := 1, bytes := 24, zero := .slice none 0 0, eqok := false }),
  (23, { td := .ptr 25, size := 1, bytes := 8, zero := .pointer none, eqok := false }),
  (24, { td := .struct [(22, 0, true), (3, 1, true)], size := 2, bytes := 32, zero := .agg #[.slice none 0 0, .int .i64 0], eqok := false }),
  (25, { td := .struct [(22, 0, true), (3, 1, true)], size := 2, bytes := 32, zero := .agg #[.slice none 0 0, .int .i64 0], eqok := false }),
  (26, { td := .func, size := 1, bytes := 8, zero := .nilFunc, eqok := false }),
  (27, { td := .slice 35, size := 1, bytes := 24, zero := .slice none 0 0, eqok := false }),
  (28, { td := .func, size := 1, bytes := 8, zero := .nilFunc, eqok := false }),
  (29, { td := .func, size := 1, bytes := 8, zero := .nilFunc, eqok := false }),
  (30, { td := .func, size := 1, bytes := 8, zero := .nilFunc, eqok := false }),
  (31, { td := .int .i64, size := 1, bytes := 8, zero := .int .i64 0, eqok := false }),
  (33, { td := .func, size := 1, bytes := 8, zero := .nilFunc, eqok := false }),
  (34, { td := .struct [(3, 0, true), (3, 1, true), (9, 2, true)], size := 3, bytes := 32, zero := .agg #[.int .i64 0, .int .i64 0, .string ⟨#[]⟩], eqok := false }),
  (35, { td := .struct [(3, 0, true), (3, 1, true), (9, 2, true)], size := 3, bytes := 32, zero := .agg #[.int .i64 0, .int .i64 0, .string ⟨#[]⟩], eqok := true }),
  (37, { td := .func, size := 1, bytes := 8, zero := .nilFunc, eqok := false }),
  (38, { td := .func, size := 1, bytes := 8, zero := .nilFunc, eqok := false }),
  (39, { td := .func, size := 1, bytes := 8, zero := .nilFunc, eqok := false }),
  (40, { td := .func, size := 1, bytes := 8, zero := .nilFunc, eqok := false }),
  (41, { td := .func, size := 1, bytes := 8, zero := .nilFunc, eqok := false }),
  (43, { td := .func, size := 1, bytes := 8, zero := .nilFunc, eqok := false }),
  (44, { td := .func, size := 1, bytes := 8, zero := .nilFunc, eqok := false }),
  (45, { td := .func, size := 1, bytes := 8, zero := .nilFunc, eqok := false }),
  (46, { td := .func, size := 1, bytes := 8, zero := .nilFunc, eqok := false }),
  (48, { td := .func, size := 1, bytes := 8, zero := .nilFunc, eqok := false }),
  (49, { td := .func, size := 1, bytes := 8, zero := .nilFunc, eqok := false }),
  (51, { td := .func, size := 1, bytes := 8, zero := .nilFunc, eqok := false }),
  (53, { td := .func, size := 1, bytes := 8, zero := .nilFunc, eqok := false }),
  (54, { td := .func, size := 1, bytes := 8, zero := .nilFunc, eqok := false }),
  (55, { td := .func, size := 1, bytes := 8, zero := .nilFunc, eqok := false }),
  (56, { td := .func, size := 1, bytes := 8, zero := .nilFunc, eqok := false }),
  (57, { td := .func, size := 1, bytes := 8, zero := .nilFunc, eqok := false }),
  (58, { td := .func, size := 1, bytes := 8, zero := .nilFunc, eqok := false }),
  (59, { td := .func, size := 1, bytes := 8, zero := .nilFunc, eqok := false }),
  (60, { td := .slice 27, size := 1, bytes := 24, zero := .slice none 0 0, eqok := false }),
  (61, { td := .func, size := 1, bytes := 8, zero := .nilFunc, eqok := false }),
  (62, { td := .func, size := 1, bytes := 8, zero := .nilFunc, eqok := false }),
  (63, { td := .slice 9, size := 1, bytes := 24, zero := .slice none 0 0, eqok := false }),
  (64, { td := .slice 137, size := 1, bytes := 24, zero := .slice none 0 0, eqok := false }),
  (65, { td := .struct [(63, 0, true), (9, 1, true), (64, 2, true)], size := 3, bytes := 64, zero := .agg #[.slice none 0 0, .string ⟨#[]⟩, .slice none 0 0], eqok := false }),
  (66, { td := .struct [(63, 0, true), (9, 1, true), (64, 2, true)], size := 3, bytes := 64, zero := .agg #[.slice none 0 0, .string ⟨#[]⟩, .slice none 0 0], eqok := false }),
  (67, { td := .func, size := 1, bytes := 8, zero := .nilFunc, eqok := false }),
  (68, { td := .struct [(9, 0, true), (9, 1, true), (9, 2, true)], size := 3, bytes := 48, zero := .agg #[.string ⟨#[]⟩, .string ⟨#[]⟩, .string ⟨#[]⟩], eqok := false }),
  (69, { td := .struct [(9, 0, true), (9, 1, true), (9, 2, true)], size := 3, bytes := 48, zero := .agg #[.string ⟨#[]⟩, .string ⟨#[]⟩, .string ⟨#[]⟩], eqok := true }),
  (70, { td := .slice 72, size := 1, bytes := 24, zero := .slice none 0 0, eqok := false }),
  (71, { td := .struct [(3, 0, true), (69, 1, true), (70, 4, true)], size := 5, bytes := 80, zero := .agg #[.int .i64 0, .string ⟨#[]⟩, .string ⟨#[]⟩, .string ⟨#[]⟩, .slice none 0 0], eqok := false }),
  (72, { td := .struct [(3, 0, true), (69, 1, true), (70, 4, true)], size := 5, bytes := 80, zero := .agg #[.int .i64 0, .string ⟨#[]⟩, .string ⟨#[]⟩, .string ⟨#[]⟩, .slice none 0 0], eqok := false }),
  (73, { td := .func, size := 1, bytes := 8, zero := .nilFunc, eqok := false }),
  (74, { td := .func, size := 1, bytes := 8, zero := .nilFunc, eqok := false }),
  (75, { td := .slice 69, size := 1, bytes := 24, zero := .slice none 0 0, eqok := false }),
  (77, { td := .func, size := 1, bytes := 8, zero := .nilFunc, eqok := false }),
  (79, { td := .func, size := 1, bytes := 8, zero := .nilFunc, eqok := false }),
  (80, { td := .func, size := 1, bytes := 8, zero := .nilFunc, eqok := false }),
  (82, { td := .func, size := 1, bytes := 8, zero := .nilFunc, eqok := false }),
  (83, { td := .slice 22, size := 1, bytes := 24, zero := .slice none 0 0, eqok := false }),
  (85, { td := .func, size := 1, bytes := 8, zero := .nilFunc, eqok := false }),
  (86, { td := .func, size := 1, bytes := 8, zero := .nilFunc, eqok := false }),
  (87, { td := .func, size := 1, bytes := 8, zero := .nilFunc, eqok := false }),
  (88, { td := .func, size := 1, bytes := 8, zero := .nilFunc, eqok := false }),
  (89, { td := .func, size := 1, bytes := 8, zero := .nilFunc, eqok := false }),
  (90, { td := .func, size := 1, bytes := 8, zero := .nilFunc, eqok := false }),
  (91, { td := .func, size := 1, bytes := 8, zero := .nilFunc, eqok := false }),
  (92, { td := .func, size := 1, bytes := 8, zero := .nilFunc, eqok := false }),
  (94, { td := .func, size := 1, bytes := 8, zero := .nilFunc, eqok := false }),
  (95, { td := .func, size := 1, bytes := 8, zero := .nilFunc, eqok := false }),
  (96, { td := .func, size := 1, bytes := 8, zero := .nilFunc, eqok := false }),
  (97, { td := .func, size := 1, bytes := 8, zero := .nilFunc, eqok := false }),
  (99, { td := .func, size := 1, bytes := 8, zero := .nilFunc, eqok := false }),
  (101, { td := .func, size := 1, bytes := 8, zero := .nilFunc, eqok := false }),
  (102, { td := .func, size := 1, bytes := 8, zero := .nilFunc, eqok := false }),
  (103, { td := .func, size := 1, bytes := 8, zero := .nilFunc, eqok := false }),
  (104, { td := .func, size := 1, bytes := 8, zero := .nilFunc, eqok := false }),
  (105, { td := .func, size := 1, bytes := 8, zero := .nilFunc, eqok := false }),
  (106, { td := .func, size := 1, bytes := 8, zero := .nilFunc, eqok := false }),
  (107, { td := .slice 31, size := 1, bytes := 24, zero := .slice none 0 0, eqok := false }),
  (108, { td := .slice 111, size := 1, bytes := 24, zero := .slice none 0 0, eqok := false }),
  (109, { td := .func, size := 1, bytes := 8, zero := .nilFunc, eqok := false }),
  (110, { td := .struct [(3, 0, true), (3, 1, true), (9, 2, true)], size := 3, bytes := 32, zero := .agg #[.int .i64 0, .int .i64 0, .string ⟨#[]⟩], eqok := false }),
  (111, { td := .struct [(3, 0, true), (3, 1, true), (9, 2, true)], size := 3, bytes := 32, zero := .agg #[.int .i64 0, .int .i64 0, .string ⟨#[]⟩], eqok := false }),
  (112, { td := .ptr 115, size := 1, bytes := 8, zero := .pointer none, eqok := false }),
  (113, { td := .slice 5, size := 1, bytes := 24, zero := .slice none 0 0, eqok := false }),
  (114, { td := .struct [(112, 0, true), (113, 1, true)], size := 2, bytes := 32, zero := .agg #[.pointer none, .slice none 0 0], eqok := false }),
  (115, { td := .struct [(112, 0, true), (113, 1, true)], size := 2, bytes := 32, zero := .agg #[.pointer none, .slice none 0 0], eqok := false }),
  (116, { td := .slice 121, size := 1, bytes := 24, zero := .slice none 0 0, eqok := false }),
  (117, { td := .struct [(3, 0, true), (116, 1, true)], size := 2, bytes := 32, zero := .agg #[.int .i64 0, .slice none 0 0], eqok := false }),
  (118, { td := .struct [(3, 0, true), (116, 1, true)], size := 2, bytes := 32, zero := .agg #[.int .i64 0, .slice none 0 0], eqok := false }),
  (119, { td := .func, size := 1, bytes := 8, zero := .nilFunc, eqok := false }),
  (120, { td := .struct [(3, 0, true), (5, 1, true)], size := 2, bytes := 16, zero := .agg #[.int .i64 0, .int .u8 0], eqok := false }),
  (121, { td := .struct [(3, 0, true), (5, 1, true)], size := 2, bytes := 16, zero := .agg #[.int .i64 0, .int .u8 0], eqok := false }),
  (124, { td := .func, size := 1, bytes := 8, zero := .nilFunc, eqok := false }),
  (125, { td := .func, size := 1, bytes := 8, zero := .nilFunc, eqok := false }),
  (126, { td := .func, size := 1, bytes := 8, zero := .nilFunc, eqok := false }),
  (127, { td := .func, size := 1, bytes := 8, zero := .nilFunc, eqok := false }),
  (128, { td := .func, size := 1, bytes := 8, zero := .nilFunc, eqok := false }),
  (129, { td := .func, size := 1, bytes := 8, zero := .nilFunc, eqok := false }),
  (130, { td := .func, size := 1, bytes := 8, zero := .nilFunc, eqok := false }),
  (131, { td := .func, size := 1, bytes := 8, zero := .nilFunc, eqok := false }),
  (132, { td := .slice 66, size := 1, bytes := 24, zero := .slice none 0 0, eqok := false }),
  (133, { td := .func, size := 1, bytes := 8, zero := .nilFunc, eqok := false }),
  (134, { td := .slice 63, size := 1, bytes := 24, zero := .slice none 0 0, eqok := false }),
  (135, { td := .func, size := 1, bytes := 8, zero := .nilFunc, eqok := false }),
  (136, { td := .struct [(9, 0, true), (63, 1, true), (3, 2, true)], size := 3, bytes := 48, zero := .agg #[.string ⟨#[]⟩, .slice none 0 0, .int .i64 0], eqok := false }),
  (137, { td := .struct [(9, 0, true), (63, 1, true), (3, 2, true)], size := 3, bytes := 48, zero := .agg #[.string ⟨#[]⟩, .slice none 0 0, .int .i64 0], eqok := false }),
  (138, { td := .func, size := 1, bytes := 8, zero := .nilFunc, eqok := false }),
  (139, { td := .func, size := 1, bytes := 8, zero := .nilFunc, eqok := false }),
  (140, { td := .func, size := 1, bytes := 8, zero := .nilFunc, eqok := false }),
  (141, { td := .func, size := 1, bytes := 8, zero := .nilFunc, eqok := false }),
  (143, { td := .func, size := 1, bytes := 8, zero := .nilFunc, eqok := false }),
  (144, { td := .func, size := 1, bytes := 8, zero := .nilFunc, eqok := false }),
  (145, { td := .func, size := 1, bytes := 8, zero := .nilFunc, eqok := false }),
  (146, { td := .ptr 3, size := 1, bytes := 8, zero := .pointer none, eqok := false }),
  (147, { td := .slice 150, size := 1, bytes := 24, zero := .slice none 0 0, eqok := false }),
  (148, { td := .func, size := 1, bytes := 8, zero := .nilFunc, eqok := false }),
  (149, { td := .struct [(22, 0, true), (72, 1, true)], size := 6, bytes := 104, zero := .agg #[.slice none 0 0, .int .i64 0, .string ⟨#[]⟩, .string ⟨#[]⟩, .string ⟨#[]⟩, .slice none 0 0], eqok := false }),
  (150, { td := .struct [(22, 0, true), (72, 1, true)], size := 6, bytes := 104, zero := .agg #[.slice none 0 0, .int .i64 0, .string ⟨#[]⟩, .string ⟨#[]⟩, .string ⟨#[]⟩, .slice none 0 0], eqok := false }),
  (151, { td := .func, size := 1, bytes := 8, zero := .nilFunc, eqok := false }),
  (153, { td := .func, size := 1, bytes := 8, zero := .nilFunc, eqok := false }),
  (154, { td := .struct [(3, 0, true), (3, 1, true)], size := 2, bytes := 16, zero := .agg #[.int .i64 0, .int .i64 0], eqok := false }),
  (155, { td := .struct [(3, 0, true), (3, 1, true)], size := 2, bytes := 16, zero := .agg #[.int .i64 0, .int .i64 0], eqok := false }),
  (156, { td := .func, size := 1, bytes := 8, zero := .nilFunc, eqok := false }),
  (157, { td := .func, size := 1, bytes := 8, zero := .nilFunc, eqok := false }),
  (158, { td := .func, size := 1, bytes := 8, zero := .nilFunc, eqok := false }),
  (160, { td := .func, size := 1, bytes := 8, zero := .nilFunc, eqok := false }),
  (161, { td := .func, size := 1, bytes := 8, zero := .nilFunc, eqok := false }),
  (162, { td := .func, size := 1, bytes := 8, zero := .nilFunc, eqok := false }),
  (163, { td := .struct [(108, 0, true), (108, 1, true), (108, 2, true), (3, 3, true)], size := 4, bytes := 80, zero := .agg #[.slice none 0 0, .slice none 0 0, .slice none 0 0, .int .i64 0], eqok := false }),
  (164, { td := .struct [(108, 0, true), (108, 1, true), (108, 2, true), (3, 3, true)], size := 4, bytes := 80, zero := .agg #[.slice none 0 0, .slice none 0 0, .slice none 0 0, .int .i64 0], eqok := false }),
  (165, { td := .func, size := 1, bytes := 8, zero := .nilFunc, eqok := false }),
  (166, { td := .func, size := 1, bytes := 8, zero := .nilFunc, eqok := false }),
  (167, { td := .slice 4, size := 1, bytes := 24, zero := .slice none 0 0, eqok := false }),
  (169, { td := .func, size := 1, bytes := 8, zero := .nilFunc, eqok := false }),
  (170, { td := .func, size := 1, bytes := 8, zero := .nilFunc, eqok := false }),
  (171, { td := .func, size := 1, bytes := 8, zero := .nilFunc, eqok := false }),
  (172, { td := .func, size := 1, bytes := 8, zero := .nilFunc, eqok := false }),
  (173, { td := .func, size := 1, bytes := 8, zero := .nilFunc, eqok := false }),
  (174, { td := .ptr 5, size := 1, bytes := 8, zero := .pointer none, eqok := false }),
  (175, { td := .ptr 179, size := 1, bytes := 8, zero := .pointer none, eqok := false }),
  (176, { td := .func, size := 1, bytes := 8, zero := .nilFunc, eqok := false }),
  (177, { td := .func, size := 1, bytes := 8, zero := .nilFunc, eqok := false }),
  (178, { td := .struct [(108, 0, true), (108, 1, true)], size := 2, bytes := 48, zero := .agg #[.slice none 0 0, .slice none 0 0], eqok := false }),
  (179, { td := .struct [(108, 0, true), (108, 1, true)], size := 2, bytes := 48, zero := .agg #[.slice none 0 0, .slice none 0 0], eqok := false }),
  (180, { td := .func, size := 1, bytes := 8, zero := .nilFunc, eqok := false }),
  (181, { td := .func, size := 1, bytes := 8, zero := .nilFunc, eqok := false }),
  (182, { td := .func, size := 1, bytes := 8, zero := .nilFunc, eqok := false }),
  (183, { td := .map 9 4, size := 1, bytes := 8, zero := .map none, eqok := false }),
  (184, { td := .int .u64, size := 1, bytes := 8, zero := .int .u64 0, eqok := false }),
  (186, { td := .func, size := 1, bytes := 8, zero := .nilFunc, eqok := false }),
  (188, { td := .func, size := 1, bytes := 8, zero := .nilFunc, eqok := false }),
  (189, { td := .func, size := 1, bytes := 8, zero := .nilFunc, eqok := false }),
  (190, { td := .func, size := 1, bytes := 8, zero := .nilFunc, eqok := false }),
  (191, { td := .func, size := 1, bytes := 8, zero := .nilFunc, eqok := false }),
  (192, { td := .func, size := 1, bytes := 8, zero := .nilFunc, eqok := false }),
  (193, { td := .func, size := 1, bytes := 8, zero := .nilFunc, eqok := false }),
  (194, { td := .func, size := 1, bytes := 8, zero := .nilFunc, eqok := false }),
  (195, { td := .ptr 155, size := 1, bytes := 8, zero := .pointer none, eqok := false }),
  (196, { td := .func, size := 1, bytes := 8, zero := .nilFunc, eqok := false }),
  (197, { td := .func, size := 1, bytes := 8, zero := .nilFunc, eqok := false }),
  (198, { td := .func, size := 1, bytes := 8, zero := .nilFunc, eqok := false }),
  (199, { td := .func, size := 1, bytes := 8, zero := .nilFunc, eqok := false }),
  (200, { td := .func, size := 1, bytes := 8, zero := .nilFunc, eqok := false }),
  (202, { td := .func, size := 1, bytes := 8, zero := .nilFunc, eqok := false }),
  (203, { td := .func, size := 1, bytes := 8, zero := .nilFunc, eqok := false }),
  (204, { td := .func, size := 1, bytes := 8, zero := .nilFunc, eqok := false }),
  (205, { td := .func, size := 1, bytes := 8, zero := .nilFunc, eqok := false }),
  (206, { td := .func, size := 1, bytes := 8, zero := .nilFunc, eqok := false }),
  (207, { td := .func, size := 1, bytes := 8, zero := .nilFunc, eqok := false }),
  (209, { td := .func, size := 1, bytes := 8, zero := .nilFunc, eqok := false }),
  (210, { td := .func, size := 1, bytes := 8, zero := .nilFunc, eqok := false }),
  (211, { td := .func, size := 1, bytes := 8, zero := .nilFunc, eqok := false }),
  (212, { td := .int .u32, size := 1, bytes := 4, zero := .int .u32 0, eqok := false }),
  (214, { td := .func, size := 1, bytes := 8, zero := .nilFunc, eqok := false }),
  (215, { td := .int .u64, size := 1, bytes := 8, zero := .int .u64 0, eqok := false }),
  (217, { td := .func, size := 1, bytes := 8, zero := .nilFunc, eqok := false }),
  (218, { td := .func, size := 1, bytes := 8, zero := .nilFunc, eqok := false }),
  (219, { td := .func, size := 1, bytes := 8, zero := .nilFunc, eqok := false }),
  (220, { td := .func, size := 1, bytes := 8, zero := .nilFunc, eqok := false }),
  (221, { td := .func, size := 1, bytes := 8, zero := .nilFunc, eqok := false }),
  (222, { td := .func, size := 1, bytes := 8, zero := .nilFunc, eqok := false }),
  (223, { td := .func, size := 1, bytes := 8, zero := .nilFunc, eqok := false }),
  (224, { td := .func, size := 1, bytes := 8, zero := .nilFunc, eqok := false }),
  (225, { td := .func, size := 1, bytes := 8, zero := .nilFunc, eqok := false }),
  (226, { td := .func, size := 1, bytes := 8, zero := .nilFunc, eqok := false }),
  (227, { td := .func, size := 1, bytes := 8, zero := .nilFunc, eqok := false }),
  (228, { td := .func, size := 1, bytes := 8, zero := .nilFunc, eqok := false }),
  (229, { td := .func, size := 1, bytes := 8, zero := .nilFunc, eqok := false }),
  (230, { td := .func, size := 1, bytes := 8, zero := .nilFunc, eqok := false }),
  (231, { td := .func, size := 1, bytes := 8, zero := .nilFunc, eqok := false }),
  (232, { td := .func, size := 1, bytes := 8, zero := .nilFunc, eqok := false }),
  (233, { td := .func, size := 1, bytes := 8, zero := .nilFunc, eqok := false }),
  (234, { td := .int .i64, size := 1, bytes := 8, zero := .int .i64 0, eqok := false }),
  (236, { td := .func, size := 1, bytes := 8, zero := .nilFunc, eqok := false }),
  (237, { td := .func, size := 1, bytes := 8, zero := .nilFunc, eqok := false }),
  (238, { td := .func, size := 1, bytes := 8, zero := .nilFunc, eqok := false }),
  (239, { td := .func, size := 1, bytes := 8, zero := .nilFunc, eqok := false }),
  (240, { td := .func, size := 1, bytes := 8, zero := .nilFunc, eqok := false }),
  (241, { td := .func, size := 1, bytes := 8, zero := .nilFunc, eqok := false }),
  (242, { td := .func, size := 1, bytes := 8, zero := .nilFunc, eqok := false }),
  (243, { td := .int .u64, size := 1, bytes := 8, zero := .int .u64 0, eqok := false }),
  (244, { td := .func, size := 1, bytes := 8, zero := .nilFunc, eqok := false }),
  (245, { td := .func, size := 1, bytes := 8, zero := .nilFunc, eqok := false }),
  (246, { td := .func, size := 1, bytes := 8, zero := .nilFunc, eqok := false }),
  (247, { td := .func, size := 1, bytes := 8, zero := .nilFunc, eqok := false }),
  (248, { td := .ptr 243, size := 1, bytes := 8, zero := .pointer none, eqok := false }),
  (249, { td := .func, size := 1, bytes := 8, zero := .nilFunc, eqok := false }),
  (250, { td := .struct [(17, 0, true), (17, 1, true), (17, 2, true), (9, 3, true)], size := 4, bytes := 40, zero := .agg #[.pointer none, .pointer none, .pointer none, .string ⟨#[]⟩], eqok := false }),
  (251, { td := .struct [(17, 0, true), (17, 1, true), (17, 2, true), (9, 3, true)], size := 4, bytes := 40, zero := .agg #[.pointer none, .pointer none, .pointer none, .string ⟨#[]⟩], eqok := false }),
  (252, { td := .arr 0 16, size := 0, bytes := 0, zero := .agg #[], eqok := false }),
  (253, { td := .struct [(252, 0, false)], size := 0, bytes := 0, zero := .agg #[], eqok := false }),
  (254, { td := .struct [(252, 0, false)], size := 0, bytes := 0, zero := .agg #[], eqok := false }),
  (255, { td := .func, size := 1, bytes := 8, zero := .nilFunc, eqok := false }),
  (256, { td := .int .u8, size := 1, bytes := 1, zero := .int .u8 0, eqok := false }),
  (257, { td := .int .u8, size := 1, bytes := 1, zero := .int .u8 0, eqok := false }),
  (258, { td := .func, size := 1, bytes := 8, zero := .nilFunc, eqok := false }),
  (259, { td := .int .i32, size := 1, bytes := 4, zero := .int .i32 0, eqok := false }),
  (260, { td := .int .i32, size := 1, bytes := 4, zero := .int .i32 0, eqok := false }),
  (261, { td := .struct [(12, 0, true), (12, 1, true), (212, 2, true), (256, 3, true), (5, 4, true), (5, 5, true), (257, 6, true), (258, 7, true), (174, 8, true), (259, 9, true), (260, 10, true)], size := 11, bytes := 48, zero := .agg #[.int .u64 0, .int .u64 0, .int .u32 0, .int .u8 0, .int .u8 0, .int .u8 0, .int .u8 0, .nilFunc, .pointer none, .int .i32 0, .int .i32 0], eqok := false }),
  (262, { td := .struct [(12, 0, true), (12, 1, true), (212, 2, true), (256, 3, true), (5, 4, true), (5, 5, true), (257, 6, true), (258, 7, true), (174, 8, true), (259, 9, true), (260, 10, true)], size := 11, bytes := 48, zero := .agg #[.int .u64 0, .int .u64 0, .int .u32 0, .int .u8 0, .int .u8 0, .int .u8 0, .int .u8 0, .nilFunc, .pointer none, .int .i32 0, .int .i32 0], eqok := false })]
noncomputable def fns : List (Nat × Func) := [
  (3, Try.f3), (4, Try.f4), (5, Try.f5), (6, Try.f6), (7, Try.f7), (8, Try.f8), (9, Try.f9), (10, Try.f10), (11, Try.f11), (12, Try.f12), (13, Try.f13), (14, Try.f14), (15, Try.f15), (16, Try.f16), (17, Try.f17), (18, Try.f18), (19, Try.f19), (20, Try.f20), (21, Try.f21), (22, Try.f22), (23, Try.f23), (24, Try.f24), (25, Try.f25), (26, Try.f26), (27, Try.f27), (28, Try.f28), (29, Try.f29), (30, Try.f30), (31, Try.f31), (32, Try.f32), (33, Try.f33), (34, Try.f34), (35, Try.f35), (36, Try.f36), (37, Try.f37), (38, Try.f38), (39, Try.f39), (40, Try.f40), (41, Try.f41), (42, Try.f42), (43, Try.f43), (44, Try.f44), (45, Try.f45), (46, Try.f46), (47, Try.f47), (48, Try.f48), (49, Try.f49), (50, Try.f50), (51, Try.f51), (52, Try.f52), (53, Try.f53), (54, Try.f54), (55, Try.f55), (56, Try.f56), (57, Try.f57), (58, Try.f58), (59, Try.f59), (60, Try.f60), (61, Try.f61), (62, Try.f62), (63, Try.f63), (64, Try.f64), (65, Try.f65), (66, Try.f66), (67, Try.f67), (68, Try.f68), (69, Try.f69), (70, Try.f70), (71, Try.f71), (72, Try.f72), (73, Try.f73), (74, Try.f74), (75, Try.f75), (76, Try.f76), (77, Try.f77), (78, Try.f78), (79, Try.f79), (80, Try.f80), (81, Try.f81), (82, Try.f82), (83, Try.f83), (84, Try.f84), (85, Try.f85), (86, Try.f86), (87, Try.f87), (88, Try.f88), (89, Try.f89), (90, Try.f90), (91, Try.f91), (92, Try.f92), (93, Try.f93), (94, Try.f94), (95, Try.f95), (96, Try.f96), (97, Try.f97), (98, Try.f98), (99, Try.f99), (100, Try.f100), (101, Try.f101), (102, Try.f102), (103, Try.f103), (104, Try.f104), (105, Try.f105), (106, Try.f106), (107, Try.f107), (108, Try.f108), (109, Try.f109), (110, Try.f110), (111, Try.f111), (112, Try.f112), (113, Try.f113), (114, Try.f114), (115, Try.f115), (116, Try.f116), (117, Try.f117), (118, Try.f118), (119, Try.f119), (120, Try.f120), (121, Try.f121), (122, Try.f122), (123, Try.f123), (124, Try.f124), (125, Try.f125), (126, Try.f126), (127, Try.f127), (128, Try.f128), (129, Try.f129), (130, Try.f130), (131, Try.f131), (132, Try.f132), (133, Try.f133), (134, Try.f134), (135, Try.f135), (136, Try.f136), (137, Try.f137), (138, Try.f138), (139, Try.f139), (140, Try.f140), (141, Try.f141), (142, Try.f142), (143, Try.f143), (144, Try.f144), (145, Try.f145), (146, Try.f146), (147, Try.f147), (148, Try.f148), (149, Try.f149), (150, Try.f150), (151, Try.f151), (152, Try.f152), (153, Try.f153), (154, Try.f154), (155, Try.f155), (156, Try.f156), (157, Try.f157), (158, Try.f158), (159, Try.f159), (160, Try.f160), (161, Try.f161), (162, Try.f162), (163, Try.f163), (164, Try.f164), (165, Try.f165), (166, Try.f166), (167, Try.f167), (168, Try.f168), (169, Try.f169), (170, Try.f170), (171, Try.f171), (172, Try.f172), (173, Try.f173), (174, Try.f174), (175, Try.f175), (176, Try.f176), (177, Try.f177), (178, Try.f178), (179, Try.f179), (180, Try.f180), (181, Try.f181), (182, Try.f182), (183, Try.f183), (184, Try.f184), (185, Try.f185), (186, Try.f186), (187, Try.f187), (188, Try.f188), (189, Try.f189), (190, Try.f190), (191, Try.f191), (192, Try.f192), (193, Try.f193), (194, Try.f194)]
noncomputable def tab : Tab := Tab.ofLists tys fns
theorem tys_ok : checkTys Try.prog tys = true := by kernel_rfl
theorem nm3 : (Try.f3.name == "runtime.NumGoroutine") = false := by kernel_rfl
theorem nm4 : (Try.f4.name == "runtime.NumGoroutine") = false := by kernel_rfl
theorem nm5 : (Try.f5.name == "runtime.NumGoroutine") = false := by kernel_rfl
theorem nm6 : (Try.f6.name == "runtime.NumGoroutine") = false := by kernel_rfl
theorem nm7 : (Try.f7.name == "runtime.NumGoroutine") = false := by kernel_rfl
theorem nm8 : (Try.f8.name == "runtime.NumGoroutine") = false := by kernel_rfl
theorem nm9 : (Try.f9.name == "runtime.NumGoroutine") = false := by kernel_rfl
theorem nm10 : (Try.f10.name == "runtime.NumGoroutine") = false := by kernel_rfl
theorem nm11 : (Try.f11.name == "runtime.NumGoroutine") = false := by kernel_rfl
theorem nm12 : (Try.f12.name == "runtime.NumGoroutine") = false := by kernel_rfl
theorem nm13 : (Try.f13.name == "runtime.NumGoroutine") = false := by kernel_rfl
theorem nm14 : (Try.f14.name == "runtime.NumGoroutine") = false := by kernel_rfl
theorem nm15 : (Try.f15.name == "runtime.NumGoroutine") = false := by kernel_rfl
theorem nm16 : (Try.f16.name == "runtime.NumGoroutine") = false := by kernel_rfl
theorem nm17 : (Try.f17.name == "runtime.NumGoroutine") = false := by kernel_rfl
theorem nm18 : (Try.f18.name == "runtime.NumGoroutine") = false := by kernel_rfl
theorem nm19 : (Try.f19.name == "runtime.NumGoroutine") = false := by kernel_rfl
theorem nm20 : (Try.f20.name == "runtime.NumGoroutine") = false := by kernel_rfl
theorem nm21 : (Try.f21.name == "runtime.NumGoroutine") = false := by kernel_rfl
theorem nm22 : (Try.f22.name == "runtime.NumGoroutine") = false := by kernel_rfl
theorem nm23 : (Try.f23.name == "runtime.NumGoroutine") = false := by kernel_rfl
theorem nm24 : (Try.f24.name == "runtime.NumGoroutine") = false := by kernel_rfl
theorem nm25 : (Try.f25.name == "runtime.NumGoroutine") = false := by kernel_rfl
theorem nm26 : (Try.f26.name == "runtime.NumGoroutine") = false := by kernel_rfl
theorem nm27 : (Try.f27.name == "runtime.NumGoroutine") = false := by kernel_rfl
theorem nm28 : (Try.f28.name == "runtime.NumGoroutine") = false := by kernel_rfl
theorem nm29 : (Try.f29.name == "runtime.NumGoroutine") = false := by kernel_rfl
theorem nm30 : (Try.f30.name == "runtime.NumGoroutine") = false := by kernel_rfl
theorem nm31 : (Try.f31.name == "runtime.NumGoroutine") = false := by kernel_rfl
theorem nm32 : (Try.f32.name == "runtime.NumGoroutine") = false := by kernel_rfl
theorem nm33 : (Try.f33.name == "runtime.NumGoroutine") = false := by kernel_rfl
theorem nm34 : (Try.f34.name == "runtime.NumGoroutine") = false := by kernel_rfl
theorem nm35 : (Try.f35.name == "runtime.NumGoroutine") = false := by kernel_rfl
theorem nm36 : (Try.f36.name == "runtime.NumGoroutine") = false := by kernel_rfl
theorem nm37 : (Try.f37.name == "runtime.NumGoroutine") = false := by kernel_rfl
theorem nm38 : (Try.f38.name == "runtime.NumGoroutine") = false := by kernel_rfl
theorem nm39 : (Try.f39.name == "runtime.NumGoroutine") = false := by kernel_rfl
theorem nm40 : (Try.f40.name == "runtime.NumGoroutine") = false := by kernel_rfl
theorem nm41 : (Try.f41.name == "runtime.NumGoroutine") = false := by kernel_rfl
theorem nm42 : (Try.f42.name == "runtime.NumGoroutine") = false := by kernel_rfl
theorem nm43 : (Try.f43.name == "runtime.NumGoroutine") = false := by kernel_rfl
theorem nm44 : (Try.f44.name == "runtime.NumGoroutine") = false := by kernel_rfl
theorem nm45 : (Try.f45.name == "runtime.NumGoroutine") = false := by kernel_rfl
theorem nm46 : (Try.f46.name == "runtime.NumGoroutine") = false := by kernel_rfl
theorem nm47 : (Try.f47.name == "runtime.NumGoroutine") = false := by kernel_rfl
theorem nm48 : (Try.f48.name == "runtime.NumGoroutine") = false := by kernel_rfl
theorem nm49 : (Try.f49.name == "runtime.NumGoroutine") = false := by kernel_rfl
theorem nm50 : (Try.f50.name == "runtime.NumGoroutine") = false := by kernel_rfl
theorem nm51 : (Try.f51.name == "runtime.NumGoroutine") = false := by kernel_rfl
theorem nm52 : (Try.f52.name == "runtime.NumGoroutine") = false := by kernel_rfl
theorem nm53 : (Try.f53.name == "runtime.NumGoroutine") = false := by kernel_rfl
theorem nm54 : (Try.f54.name == "runtime.NumGoroutine") = false := by kernel_rfl
theorem nm55 : (Try.f55.name == "runtime.NumGoroutine") = false := by kernel_rfl
theorem nm56 : (Try.f56.name == "runtime.NumGoroutine") = false := by kernel_rfl
theorem nm57 : (Try.f57.name == "runtime.NumGoroutine") = false := by kernel_rfl
theorem nm58 : (Try.f58.name == "runtime.NumGoroutine") = false := by kernel_rfl
theorem nm59 : (Try.f59.name == "runtime.NumGoroutine") = false := by kernel_rfl
theorem nm60 : (Try.f60.name == "runtime.NumGoroutine") = false := by kernel_rfl
theorem nm61 : (Try.f61.name == "runtime.NumGoroutine") = false := by kernel_rfl
theorem nm62 : (Try.f62.name == "runtime.NumGoroutine") = false := by kernel_rfl
theorem nm63 : (Try.f63.name == "runtime.NumGoroutine") = false := by kernel_rfl
theorem nm64 : (Try.f64.name == "runtime.NumGoroutine") = false := by kernel_rfl
theorem nm65 : (Try.f65.name == "runtime.NumGoroutine") = false := by kernel_rfl
theorem nm66 : (Try.f66.name == "runtime.NumGoroutine") = false := by kernel_rfl
theorem nm67 : (Try.f67.name == "runtime.NumGoroutine") = false := by kernel_rfl
theorem nm68 : (Try.f68.name == "runtime.NumGoroutine") = false := by kernel_rfl
theorem nm69 : (Try.f69.name == "runtime.NumGoroutine") = false := by kernel_rfl
theorem nm70 : (Try.f70.name == "runtime.NumGoroutine") = false := by kernel_rfl
theorem nm71 : (Try.f71.name == "runtime.NumGoroutine") = false := by kernel_rfl
theorem nm72 : (Try.f72.name == "runtime.NumGoroutine") = false := by kernel_rfl
theorem nm73 : (Try.f73.name == "runtime.NumGoroutine") = false := by kernel_rfl
theorem nm74 : (Try.f74.name == "runtime.NumGoroutine") = false := by kernel_rfl
theorem nm75 : (Try.f75.name == "runtime.NumGoroutine") = false := by kernel_rfl
theorem nm76 : (Try.f76.name == "runtime.NumGoroutine") = false := by kernel_rfl
theorem nm77 : (Try.f77.name == "runtime.NumGoroutine") = false := by kernel_rfl
theorem nm78 : (Try.f78.name == "runtime.NumGoroutine") = false := by kernel_rfl
theorem nm79 : (Try.f79.name == "runtime.NumGoroutine") = false := by kernel_rfl
theorem nm80 : (Try.f80.name == "runtime.NumGoroutine") = false := by kernel_rfl
theorem nm81 : (Try.f81.name == "runtime.NumGoroutine") = false := by kernel_rfl
theorem nm82 : (Try.f82.name == "runtime.NumGoroutine") = false := by kernel_rfl
theorem nm83 : (Try.f83.name == "runtime.NumGoroutine") = false := by kernel_rfl
theorem nm84 : (Try.f84.name == "runtime.NumGoroutine") = false := by kernel_rfl
theorem nm85 : (Try.f85.name == "runtime.NumGoroutine") = false := by kernel_rfl
theorem nm86 : (Try.f86.name == "runtime.NumGoroutine") = false := by kernel_rfl
theorem nm87 : (Try.f87.name == "runtime.NumGoroutine") = false := by kernel_rfl
theorem nm88 : (Try.f88.name == "runtime.NumGoroutine") = false := by kernel_rfl
theorem nm89 : (Try.f89.name == "runtime.NumGoroutine") = false := by kernel_rfl
theorem nm90 : (Try.f90.name == "runtime.NumGoroutine") = false := by kernel_rfl
theorem nm91 : (Try.f91.name == "runtime.NumGoroutine") = false := by kernel_rfl
theorem nm92 : (Try.f92.name == "runtime.NumGoroutine") = false := by kernel_rfl
theorem nm93 : (Try.f93.name == "runtime.NumGoroutine") = false := by kernel_rfl
theorem nm94 : (Try.f94.name == "runtime.NumGoroutine") = false := by kernel_rfl
theorem nm95 : (Try.f95.name == "runtime.NumGoroutine") = false := by kernel_rfl
theorem nm96 : (Try.f96.name == "runtime.NumGoroutine") = false := by kernel_rfl
theorem nm97 : (Try.f97.name == "runtime.NumGoroutine") = false := by kernel_rfl
theorem nm98 : (Try.f98.name == "runtime.NumGoroutine") = false := by kernel_rfl
theorem nm99 : (Try.f99.name == "runtime.NumGoroutine") = false := by kernel_rfl
theorem nm100 : (Try.f100.name == "runtime.NumGoroutine") = false := by kernel_rfl
theorem nm101 : (Try.f101.name == "runtime.NumGoroutine") = false := by kernel_rfl
theorem nm102 : (Try.f102.name == "runtime.NumGoroutine") = false := by kernel_rfl
theorem nm103 : (Try.f103.name == "runtime.NumGoroutine") = false := by kernel_rfl
theorem nm104 : (Try.f104.name == "runtime.NumGoroutine") = false := by kernel_rfl
theorem nm105 : (Try.f105.name == "runtime.NumGoroutine") = false := by kernel_rfl
theorem nm106 : (Try.f106.name == "runtime.NumGoroutine") = false := by kernel_rfl
theorem nm107 : (Try.f107.name == "runtime.NumGoroutine") = false := by kernel_rfl
theorem nm108 : (Try.f108.name == "runtime.NumGoroutine") = false := by kernel_rfl
theorem nm109 : (Try.f109.name == "runtime.NumGoroutine") = false := by kernel_rfl
theorem nm110 : (Try.f110.name == "runtime.NumGoroutine") = false := by kernel_rfl
theorem nm111 : (Try.f111.name == "runtime.NumGoroutine") = false := by kernel_rfl
theorem nm112 : (Try.f112.name == "runtime.NumGoroutine") = false := by kernel_rfl
theorem nm113 : (Try.f113.name == "runtime.NumGoroutine") = false := by kernel_rfl
theorem nm114 : (Try.f114.name == "runtime.NumGoroutine") = false := by kernel_rfl
theorem nm115 : (Try.f115.name == "runtime.NumGoroutine") = false := by kernel_rfl
theorem nm116 : (Try.f116.name == "runtime.NumGoroutine") = false := by kernel_rfl
theorem nm117 : (Try.f117.name == "runtime.NumGoroutine") = false := by kernel_rfl
theorem nm118 : (Try.f118.name == "runtime.NumGoroutine") = false := by kernel_rfl
theorem nm119 : (Try.f119.name == "runtime.NumGoroutine") = false := by kernel_rfl
theorem nm120 : (Try.f120.name == "runtime.NumGoroutine") = false := by kernel_rfl
theorem nm121 : (Try.f121.name == "runtime.NumGoroutine") = false := by kernel_rfl
theorem nm122 : (Try.f122.name == "runtime.NumGoroutine") = false := by kernel_rfl
theorem nm123 : (Try.f123.name == "runtime.NumGoroutine") = false := by kernel_rfl
theorem nm124 : (Try.f124.name == "runtime.NumGoroutine") = false := by kernel_rfl
theorem nm125 : (Try.f125.name == "runtime.NumGoroutine") = false := by kernel_rfl
theorem nm126 : (Try.f126.name == "runtime.NumGoroutine") = false := by kernel_rfl
theorem nm127 : (Try.f127.name == "runtime.NumGoroutine") = false := by kernel_rfl
theorem nm128 : (Try.f128.name == "runtime.NumGoroutine") = false := by kernel_rfl
theorem nm129 : (Try.f129.name == "runtime.NumGoroutine") = false := by kernel_rfl
theorem nm130 : (Try.f130.name == "runtime.NumGoroutine") = false := by kernel_rfl
theorem nm131 : (Try.f131.name == "runtime.NumGoroutine") = false := by kernel_rfl
theorem nm132 : (Try.f132.name == "runtime.NumGoroutine") = false := by kernel_rfl
theorem nm133 : (Try.f133.name == "runtime.NumGoroutine") = false := by kernel_rfl
theorem nm134 : (Try.f134.name == "runtime.NumGoroutine") = false := by kernel_rfl
theorem nm135 : (Try.f135.name == "runtime.NumGoroutine") = false := by kernel_rfl
theorem nm136 : (Try.f136.name == "runtime.NumGoroutine") = false := by kernel_rfl
theorem nm137 : (Try.f137.name == "runtime.NumGoroutine") = false := by kernel_rfl
theorem nm138 : (Try.f138.name == "runtime.NumGoroutine") = false := by kernel_rfl
theorem nm139 : (Try.f139.name == "runtime.NumGoroutine") = false := by kernel_rfl
theorem nm140 : (Try.f140.name == "runtime.NumGoroutine") = false := by kernel_rfl
theorem nm141 : (Try.f141.name == "runtime.NumGoroutine") = false := by kernel_rfl
theorem nm142 : (Try.f142.name == "runtime.NumGoroutine") = false := by kernel_rfl
theorem nm143 : (Try.f143.name == "runtime.NumGoroutine") = false := by kernel_rfl
theorem nm144 : (Try.f144.name == "runtime.NumGoroutine") = false := by kernel_rfl
theorem nm145 : (Try.f145.name == "runtime.NumGoroutine") = false := by kernel_rfl
theorem nm146 : (Try.f146.name == "runtime.NumGoroutine") = false := by kernel_rfl
theorem nm147 : (Try.f147.name == "runtime.NumGoroutine") = false := by kernel_rfl
theorem nm148 : (Try.f148.name == "runtime.NumGoroutine") = false := by kernel_rfl
theorem nm149 : (Try.f149.name == "runtime.NumGoroutine") = false := by kernel_rfl
theorem nm150 : (Try.f150.name == "runtime.NumGoroutine") = false := by kernel_rfl
theorem nm151 : (Try.f151.name == "runtime.NumGoroutine") = false := by kernel_rfl
theorem nm152 : (Try.f152.name == "runtime.NumGoroutine") = false := by kernel_rfl
theorem nm153 : (Try.f153.name == "runtime.NumGoroutine") = false := by kernel_rfl
theorem nm154 : (Try.f154.name == "runtime.NumGoroutine") = false := by kernel_rfl
theorem nm155 : (Try.f155.name == "runtime.NumGoroutine") = false := by kernel_rfl
theorem nm156 : (Try.f156.name == "runtime.NumGoroutine") = false := by kernel_rfl
theorem nm157 : (Try.f157.name == "runtime.NumGoroutine") = false := by kernel_rfl
theorem nm158 : (Try.f158.name == "runtime.NumGoroutine") = false := by kernel_rfl
theorem nm159 : (Try.f159.name == "runtime.NumGoroutine") = false := by kernel_rfl
theorem nm160 : (Try.f160.name == "runtime.NumGoroutine") = false := by kernel_rfl
theorem nm161 : (Try.f161.name == "runtime.NumGoroutine") = false := by kernel_rfl
theorem nm162 : (Try.f162.name == "runtime.NumGoroutine") = false := by kernel_rfl
theorem nm163 : (Try.f163.name == "runtime.NumGoroutine") = false := by kernel_rfl
theorem nm164 : (Try.f164.name == "runtime.NumGoroutine") = false := by kernel_rfl
theorem nm165 : (Try.f165.name == "runtime.NumGoroutine") = false := by kernel_rfl
theorem nm166 : (Try.f166.name == "runtime.NumGoroutine") = false := by kernel_rfl
theorem nm167 : (Try.f167.name == "runtime.NumGoroutine") = false := by kernel_rfl
theorem nm168 : (Try.f168.name == "runtime.NumGoroutine") = false := by kernel_rfl
theorem nm169 : (Try.f169.name == "runtime.NumGoroutine") = false := by kernel_rfl
theorem nm170 : (Try.f170.name == "runtime.NumGoroutine") = false := by kernel_rfl
theorem nm171 : (Try.f171.name == "runtime.NumGoroutine") = false := by kernel_rfl
theorem nm172 : (Try.f172.name == "runtime.NumGoroutine") = false := by kernel_rfl
theorem nm173 : (Try.f173.name == "runtime.NumGoroutine") = false := by kernel_rfl
theorem nm174 : (Try.f174.name == "runtime.NumGoroutine") = false := by kernel_rfl
theorem nm175 : (Try.f175.name == "runtime.NumGoroutine") = false := by kernel_rfl
theorem nm176 : (Try.f176.name == "runtime.NumGoroutine") = false := by kernel_rfl
theorem nm177 : (Try.f177.name == "runtime.NumGoroutine") = false := by kernel_rfl
theorem nm178 : (Try.f178.name == "runtime.NumGoroutine") = false := by kernel_rfl
theorem nm179 : (Try.f179.name == "runtime.NumGoroutine") = false := by kernel_rfl
theorem nm180 : (Try.f180.name == "runtime.NumGoroutine") = false := by kernel_rfl
theorem nm181 : (Try.f181.name == "runtime.NumGoroutine") = false := by kernel_rfl
theorem nm182 : (Try.f182.name == "runtime.NumGoroutine") = false := by kernel_rfl
theorem nm183 : (Try.f183.name == "runtime.NumGoroutine") = false := by kernel_rfl
theorem nm184 : (Try.f184.name == "runtime.NumGoroutine") = false := by kernel_rfl
theorem nm185 : (Try.f185.name == "runtime.NumGoroutine") = false := by kernel_rfl
theorem nm186 : (Try.f186.name == "runtime.NumGoroutine") = false := by kernel_rfl
theorem nm187 : (Try.f187.name == "runtime.NumGoroutine") = false := by kernel_rfl
theorem nm188 : (Try.f188.name == "runtime.NumGoroutine") = false := by kernel_rfl
theorem nm189 : (Try.f189.name == "runtime.NumGoroutine") = false := by kernel_rfl
theorem nm190 : (Try.f190.name == "runtime.NumGoroutine") = false := by kernel_rfl
theorem nm191 : (Try.f191.name == "runtime.NumGoroutine") = false := by kernel_rfl
theorem nm192 : (Try.f192.name == "runtime.NumGoroutine") = false := by kernel_rfl
theorem nm193 : (Try.f193.name == "runtime.NumGoroutine") = false := by kernel_rfl
theorem nm194 : (Try.f194.name == "runtime.NumGoroutine") = false := by kernel_rfl
theorem fns_ok : ∀ p ∈ fns, FnOk Try.prog p := List.forall_mem_cons.2 ⟨⟨Try.func3, nm3⟩, List.forall_mem_cons.2 ⟨⟨Try.func4, nm4⟩, List.forall_mem_cons.2 ⟨⟨Try.func5, nm5⟩, List.forall_mem_cons.2 ⟨⟨Try.func6, nm6⟩, List.forall_mem_cons.2 ⟨⟨Try.func7, nm7⟩, List.forall_mem_cons.2 ⟨⟨Try.func8, nm8⟩, List.forall_mem_cons.2 ⟨⟨Try.func9, nm9⟩, List.forall_mem_cons.2 ⟨⟨Try.func10, nm10⟩, List.forall_mem_cons.2 ⟨⟨Try.func11, nm11⟩, List.forall_mem_cons.2 ⟨⟨Try.func12, nm12⟩, List.forall_mem_cons.2 ⟨⟨Try.func13, nm13⟩, List.forall_mem_cons.2 ⟨⟨Try.func14, nm14⟩, List.forall_mem_cons.2 ⟨⟨Try.func15, nm15⟩, List.forall_mem_cons.2 ⟨⟨Try.func16, nm16⟩, List.forall_mem_cons.2 ⟨⟨Try.func17, nm17⟩, List.forall_mem_cons.2 ⟨⟨Try.func18, nm18⟩, List.forall_mem_cons.2 ⟨⟨Try.func19, nm19⟩, List.forall_mem_cons.2 ⟨⟨Try.func20, nm20⟩, List.forall_mem_cons.2 ⟨⟨Try.func21, nm21⟩, List.forall_mem_cons.2 ⟨⟨Try.func22, nm22⟩, List.forall_mem_cons.2 ⟨⟨Try.func23, nm23⟩, List.forall_mem_cons.2 ⟨⟨Try.func24, nm24⟩, List.forall_mem_cons.2 ⟨⟨Try.func25, nm25⟩, List.forall_mem_cons.2 ⟨⟨Try.func26, nm26⟩, List.forall_mem_cons.2 ⟨⟨Try.func27, nm27⟩, List.forall_mem_cons.2 ⟨⟨Try.func28, nm28⟩, List.forall_mem_cons.2 ⟨⟨Try.func29, nm29⟩, List.forall_mem_cons.2 ⟨⟨Try.func30, nm30⟩, List.forall_mem_cons.2 ⟨⟨Try.func31, nm31⟩, List.forall_mem_cons.2 ⟨⟨Try.func32, nm32⟩, List.forall_mem_cons.2 ⟨⟨Try.func33, nm33⟩, List.forall_mem_cons.2 ⟨⟨Try.func34, nm34⟩, List.forall_mem_cons.2 ⟨⟨Try.func35, nm35⟩, List.forall_mem_cons.2 ⟨⟨Try.func36, nm36⟩, List.forall_mem_cons.2 ⟨⟨Try.func37, nm37⟩, List.forall_mem_cons.2 ⟨⟨Try.func38, nm38⟩, List.forall_mem_cons.2 ⟨⟨Try.func39, nm39⟩, List.forall_mem_cons.2 ⟨⟨Try.func40, nm40⟩, List.forall_mem_cons.2 ⟨⟨Try.func41, nm41⟩, List.forall_mem_cons.2 ⟨⟨Try.func42, nm42⟩, List.forall_mem_cons.2 ⟨⟨Try.func43, nm43⟩, List.forall_mem_cons.2 ⟨⟨Try.func44, nm44⟩, List.forall_mem_cons.2 ⟨⟨Try.func45, nm45⟩, List.forall_mem_cons.2 ⟨⟨Try.func46, nm46⟩, List.forall_mem_cons.2 ⟨⟨Try.func47, nm47⟩, List.forall_mem_cons.2 ⟨⟨Try.func48, nm48⟩, List.forall_mem_cons.2 ⟨⟨Try.func49, nm49⟩, List.forall_mem_cons.2 ⟨⟨Try.func50, nm50⟩, List.forall_mem_cons.2 ⟨⟨Try.func51, nm51⟩, List.forall_mem_cons.2 ⟨⟨Try.func52, nm52⟩, List.forall_mem_cons.2 ⟨⟨Try.func53, nm53⟩, List.forall_mem_cons.2 ⟨⟨Try.func54, nm54⟩, List.forall_mem_cons.2 ⟨⟨Try.func55, nm55⟩, List.forall_mem_cons.2 ⟨⟨Try.func56, nm56⟩, List.forall_mem_cons.2 ⟨⟨Try.func57, nm57⟩, List.forall_mem_cons.2 ⟨⟨Try.func58, nm58⟩, List.forall_mem_cons.2 ⟨⟨Try.func59, nm59⟩, List.forall_mem_cons.2 ⟨⟨Try.func60, nm60⟩, List.forall_mem_cons.2 ⟨⟨Try.func61, nm61⟩, List.forall_mem_cons.2 ⟨⟨Try.func62, nm62⟩, List.forall_mem_cons.2 ⟨⟨Try.func63, nm63⟩, List.forall_mem_cons.2 ⟨⟨Try.func64, nm64⟩, List.forall_mem_cons.2 ⟨⟨Try.func65, nm65⟩, List.forall_mem_cons.2 ⟨⟨Try.func66, nm66⟩, List.forall_mem_cons.2 ⟨⟨Try.func67, nm67⟩, List.forall_mem_cons.2 ⟨⟨Try.func68, nm68⟩, List.forall_mem_cons.2 ⟨⟨Try.func69, nm69⟩, List.forall_mem_cons.2 ⟨⟨Try.func70, nm70⟩, List.forall_mem_cons.2 ⟨⟨Try.func71, nm71⟩, List.forall_mem_cons.2 ⟨⟨Try.func72, nm72⟩, List.forall_mem_cons.2 ⟨⟨Try.func73, nm73⟩, List.forall_mem_cons.2 ⟨⟨Try.func74, nm74⟩, List.forall_mem_cons.2 ⟨⟨Try.func75, nm75⟩, List.forall_mem_cons.2 ⟨⟨Try.func76, nm76⟩, List.forall_mem_cons.2 ⟨⟨Try.func77, nm77⟩, List.forall_mem_cons.2 ⟨⟨Try.func78, nm78⟩, List.forall_mem_cons.2 ⟨⟨Try.func79, nm79⟩, List.forall_mem_cons.2 ⟨⟨Try.func80, nm80⟩, List.forall_mem_cons.2 ⟨⟨Try.func81, nm81⟩, List.forall_mem_cons.2 ⟨⟨Try.func82, nm82⟩, List.forall_mem_cons.2 ⟨⟨Try.func83, nm83⟩, List.forall_mem_cons.2 ⟨⟨Try.func84, nm84⟩, List.forall_mem_cons.2 ⟨⟨Try.func85, nm85⟩, List.forall_mem_cons.2 ⟨⟨Try.func86, nm86⟩, List.forall_mem_cons.2 ⟨⟨Try.func87, nm87⟩, List.forall_mem_cons.2 ⟨⟨Try.func88, nm88⟩, List.forall_mem_cons.2 ⟨⟨Try.func89, nm89⟩, List.forall_mem_cons.2 ⟨⟨Try.func90, nm90⟩, List.forall_mem_cons.2 ⟨⟨Try.func91, nm91⟩, List.forall_mem_cons.2 ⟨⟨Try.func92, nm92⟩, List.forall_mem_cons.2 ⟨⟨Try.func93, nm93⟩, List.forall_mem_cons.2 ⟨⟨Try.func94, nm94⟩, List.forall_mem_cons.2 ⟨⟨Try.func95, nm95⟩, List.forall_mem_cons.2 ⟨⟨Try.func96, nm96⟩, List.forall_mem_cons.2 ⟨⟨Try.func97, nm97⟩, List.forall_mem_cons.2 ⟨⟨Try.func98, nm98⟩, List.forall_mem_cons.2 ⟨⟨Try.func99, nm99⟩, List.forall_mem_cons.2 ⟨⟨Try.func100, nm100⟩, List.forall_mem_cons.2 ⟨⟨Try.func101, nm101⟩, List.forall_mem_cons.2 ⟨⟨Try.func102, nm102⟩, List.forall_mem_cons.2 ⟨⟨Try.func103, nm103⟩, List.forall_mem_cons.2 ⟨⟨Try.func104, nm104⟩, List.forall_mem_cons.2 ⟨⟨Try.func105, nm105⟩, List.forall_mem_cons.2 ⟨⟨Try.func106, nm106⟩, List.forall_mem_cons.2 ⟨⟨Try.func107, nm107⟩, List.forall_mem_cons.2 ⟨⟨Try.func108, nm108⟩, List.forall_mem_cons.2 ⟨⟨Try.func109, nm109⟩, List.forall_mem_cons.2 ⟨⟨Try.func110, nm110⟩, List.forall_mem_cons.2 ⟨⟨Try.func111, nm111⟩, List.forall_mem_cons.2 ⟨⟨Try.func112, nm112⟩, List.forall_mem_cons.2 ⟨⟨Try.func113, nm113⟩, List.forall_mem_cons.2 ⟨⟨Try.func114, nm114⟩, List.forall_mem_cons.2 ⟨⟨Try.func115, nm115⟩, List.forall_mem_cons.2 ⟨⟨Try.func116, nm116⟩, List.forall_mem_cons.2 ⟨⟨Try.func117, nm117⟩, List.forall_mem_cons.2 ⟨⟨Try.func118, nm118⟩, List.forall_mem_cons.2 ⟨⟨Try.func119, nm119⟩, List.forall_mem_cons.2 ⟨⟨Try.func120, nm120⟩, List.forall_mem_cons.2 ⟨⟨Try.func121, nm121⟩, List.forall_mem_cons.2 ⟨⟨Try.func122, nm122⟩, List.forall_mem_cons.2 ⟨⟨Try.func123, nm123⟩, List.forall_mem_cons.2 ⟨⟨Try.func124, nm124⟩, List.forall_mem_cons.2 ⟨⟨Try.func125, nm125⟩, List.forall_mem_cons.2 ⟨⟨Try.func126, nm126⟩, List.forall_mem_cons.2 ⟨⟨Try.func127, nm127⟩, List.forall_mem_cons.2 ⟨⟨Try.func128, nm128⟩, List.forall_mem_cons.2 ⟨⟨Try.func129, nm129⟩, List.forall_mem_cons.2 ⟨⟨Try.func130, nm130⟩, List.forall_mem_cons.2 ⟨⟨Try.func131, nm131⟩, List.forall_mem_cons.2 ⟨⟨Try.func132, nm132⟩, List.forall_mem_cons.2 ⟨⟨Try.func133, nm133⟩, List.forall_mem_cons.2 ⟨⟨Try.func134, nm134⟩, List.forall_mem_cons.2 ⟨⟨Try.func135, nm135⟩, List.forall_mem_cons.2 ⟨⟨Try.func136, nm136⟩, List.forall_mem_cons.2 ⟨⟨Try.func137, nm137⟩, List.forall_mem_cons.2 ⟨⟨Try.func138, nm138⟩, List.forall_mem_cons.2 ⟨⟨Try.func139, nm139⟩, List.forall_mem_cons.2 ⟨⟨Try.func140, nm140⟩, List.forall_mem_cons.2 ⟨⟨Try.func141, nm141⟩, List.forall_mem_cons.2 ⟨⟨Try.func142, nm142⟩, List.forall_mem_cons.2 ⟨⟨Try.func143, nm143⟩, List.forall_mem_cons.2 ⟨⟨Try.func144, nm144⟩, List.forall_mem_cons.2 ⟨⟨Try.func145, nm145⟩, List.forall_mem_cons.2 ⟨⟨Try.func146, nm146⟩, List.forall_mem_cons.2 ⟨⟨Try.func147, nm147⟩, List.forall_mem_cons.2 ⟨⟨Try.func148, nm148⟩, List.forall_mem_cons.2 ⟨⟨Try.func149, nm149⟩, List.forall_mem_cons.2 ⟨⟨Try.func150, nm150⟩, List.forall_mem_cons.2 ⟨⟨Try.func151, nm151⟩, List.forall_mem_cons.2 ⟨⟨Try.func152, nm152⟩, List.forall_mem_cons.2 ⟨⟨Try.func153, nm153⟩, List.forall_mem_cons.2 ⟨⟨Try.func154, nm154⟩, List.forall_mem_cons.2 ⟨⟨Try.func155, nm155⟩, List.forall_mem_cons.2 ⟨⟨Try.func156, nm156⟩, List.forall_mem_cons.2 ⟨⟨Try.func157, nm157⟩, List.forall_mem_cons.2 ⟨⟨Try.func158, nm158⟩, List.forall_mem_cons.2 ⟨⟨Try.func159, nm159⟩, List.forall_mem_cons.2 ⟨⟨Try.func160, nm160⟩, List.forall_mem_cons.2 ⟨⟨Try.func161, nm161⟩, List.forall_mem_cons.2 ⟨⟨Try.func162, nm162⟩, List.forall_mem_cons.2 ⟨⟨Try.func163, nm163⟩, List.forall_mem_cons.2 ⟨⟨Try.func164, nm164⟩, List.forall_mem_cons.2 ⟨⟨Try.func165, nm165⟩, List.forall_mem_cons.2 ⟨⟨Try.func166, nm166⟩, List.forall_mem_cons.2 ⟨⟨Try.func167, nm167⟩, List.forall_mem_cons.2 ⟨⟨Try.func168, nm168⟩, List.forall_mem_cons.2 ⟨⟨Try.func169, nm169⟩, List.forall_mem_cons.2 ⟨⟨Try.func170, nm170⟩, List.forall_mem_cons.2 ⟨⟨Try.func171, nm171⟩, List.forall_mem_cons.2 ⟨⟨Try.func172, nm172⟩, List.forall_mem_cons.2 ⟨⟨Try.func173, nm173⟩, List.forall_mem_cons.2 ⟨⟨Try.func174, nm174⟩, List.forall_mem_cons.2 ⟨⟨Try.func175, nm175⟩, List.forall_mem_cons.2 ⟨⟨Try.func176, nm176⟩, List.forall_mem_cons.2 ⟨⟨Try.func177, nm177⟩, List.forall_mem_cons.2 ⟨⟨Try.func178, nm178⟩, List.forall_mem_cons.2 ⟨⟨Try.func179, nm179⟩, List.forall_mem_cons.2 ⟨⟨Try.func180, nm180⟩, List.forall_mem_cons.2 ⟨⟨Try.func181, nm181⟩, List.forall_mem_cons.2 ⟨⟨Try.func182, nm182⟩, List.forall_mem_cons.2 ⟨⟨Try.func183, nm183⟩, List.forall_mem_cons.2 ⟨⟨Try.func184, nm184⟩, List.forall_mem_cons.2 ⟨⟨Try.func185, nm185⟩, List.forall_mem_cons.2 ⟨⟨Try.func186, nm186⟩, List.forall_mem_cons.2 ⟨⟨Try.func187, nm187⟩, List.forall_mem_cons.2 ⟨⟨Try.func188, nm188⟩, List.forall_mem_cons.2 ⟨⟨Try.func189, nm189⟩, List.forall_mem_cons.2 ⟨⟨Try.func190, nm190⟩, List.forall_mem_cons.2 ⟨⟨Try.func191, nm191⟩, List.forall_mem_cons.2 ⟨⟨Try.func192, nm192⟩, List.forall_mem_cons.2 ⟨⟨Try.func193, nm193⟩, List.forall_mem_cons.2 ⟨⟨Try.func194, nm194⟩, (fun _ h => absurd h (List.not_mem_nil))⟩⟩⟩⟩⟩⟩⟩⟩⟩⟩⟩⟩⟩⟩⟩⟩⟩⟩⟩⟩⟩⟩⟩⟩⟩⟩⟩⟩⟩⟩⟩⟩⟩⟩⟩⟩⟩⟩⟩⟩⟩⟩⟩⟩⟩⟩⟩⟩⟩⟩⟩⟩⟩⟩⟩⟩⟩⟩⟩⟩⟩⟩⟩⟩⟩⟩⟩⟩⟩⟩⟩⟩⟩⟩⟩⟩⟩⟩⟩⟩⟩⟩⟩⟩⟩⟩⟩⟩⟩⟩⟩⟩⟩⟩⟩⟩⟩⟩⟩⟩⟩⟩⟩⟩⟩⟩⟩⟩⟩⟩⟩⟩⟩⟩⟩⟩⟩⟩⟩⟩⟩⟩⟩⟩⟩⟩⟩⟩⟩⟩⟩⟩⟩⟩⟩⟩⟩⟩⟩⟩⟩⟩⟩⟩⟩⟩⟩⟩⟩⟩⟩⟩⟩⟩⟩⟩⟩⟩⟩⟩⟩⟩⟩⟩⟩⟩⟩⟩⟩⟩⟩⟩⟩⟩⟩⟩⟩⟩⟩⟩⟩⟩⟩⟩⟩⟩⟩⟩⟩⟩⟩⟩
theorem tab_ok : tab.Ok Try.prog := Tab.ofLists_ok tys_ok fns_ok
theorem mixed : Try.prog.follows .mixedOrders = true := by kernel_rfl
end Go.S1
end
section
set_option linter.unusedVariables false
set_option linter.unusedSimpArgs false
namespace Go.S1
open Go Go.Am Go.Proofs
set_option maxRecDepth 100000
set_option linter.unusedSimpArgs false
theorem ty3 : tab.ty 3 = some { td := .int .i64, size := 1, bytes := 8, zero := .int .i64 0, eqok := false } := by kernel_rfl
theorem ty4 : tab.ty 4 = some { td := .bool, size := 1, bytes := 1, zero := .bool false, eqok := false } := by kernel_rfl
theorem ty5 : tab.ty 5 = some { td := .int .u8, size := 1, bytes := 1, zero := .int .u8 0, eqok := false } := by kernel_rfl
theorem ty9 : tab.ty 9 = some { td := .str, size := 1, bytes := 16, zero := .string ⟨#[]⟩, eqok := false } := by kernel_rfl
theorem ty22 : tab.ty 22 = some { td := .slice 3, size := 1, bytes := 24, zero := .slice none 0 0, eqok := false } := by kernel_rfl
theorem ty25 : tab.ty 25 = some { td := .struct [(22, 0, true), (3, 1, true)], size := 2, bytes := 32, zero := .agg #[.slice none 0 0, .int .i64 0], eqok := false } := by kernel_rfl
theorem ty27 : tab.ty 27 = some { td := .slice 35, size := 1, bytes := 24, zero := .slice none 0 0, eqok := false } := by kernel_rfl
theorem ty31 : tab.ty 31 = some { td := .int .i64, size := 1, bytes := 8, zero := .int .i64 0, eqok := false } := by kernel_rfl
theorem ty35 : tab.ty 35 = some { td := .struct [(3, 0, true), (3, 1, true), (9, 2, true)], size := 3, bytes := 32, zero := .agg #[.int .i64 0, .int .i64 0, .string ⟨#[]⟩], eqok := true } := by kernel_rfl
theorem ty63 : tab.ty 63 = some { td := .slice 9, size := 1, bytes := 24, zero := .slice none 0 0, eqok := false } := by kernel_rfl
theorem ty107 : tab.ty 107 = some { td := .slice 31, size := 1, bytes := 24, zero := .slice none 0 0, eqok := false } := by kernel_rfl
theorem ty113 : tab.ty 113 = some { td := .slice 5, size := 1, bytes := 24, zero := .slice none 0 0, eqok := false } := by kernel_rfl
theorem ty116 : tab.ty 116 = some { td := .slice 121, size := 1, bytes := 24, zero := .slice none 0 0, eqok := false } := by kernel_rfl
theorem ty118 : tab.ty 118 = some { td := .struct [(3, 0, true), (116, 1, true)], size := 2, bytes := 32, zero := .agg #[.int .i64 0, .slice none 0 0], eqok := false } := by kernel_rfl
theorem ty121 : tab.ty 121 = some { td := .struct [(3, 0, true), (5, 1, true)], size := 2, bytes := 16, zero := .agg #[.int .i64 0, .int .u8 0], eqok := false } := by kernel_rfl
theorem al3 {N : List AV → AHeap → Prop} {d : Option Nat} {tm : List AV} {s : AHeap} : lstep Try.prog tab N (.alloc 3) d tm s = N (aput tm d (.ptr s.nx 0)) (s.new (.cells [.int .i64 0] (some 3))) := by rw [lstep_alloc, ty3]; rfl
theorem al9 {N : List AV → AHeap → Prop} {d : Option Nat} {tm : List AV} {s : AHeap} : lstep Try.prog tab N (.alloc 9) d tm s = N (aput tm d (.ptr s.nx 0)) (s.new (.cells [.str []] (some 9))) := by rw [lstep_alloc, ty9]; rfl
theorem al27 {N : List AV → AHeap → Prop} {d : Option Nat} {tm : List AV} {s : AHeap} : lstep Try.prog tab N (.alloc 27) d tm s = N (aput tm d (.ptr s.nx 0)) (s.new (.cells [.nils] (some 27))) := by rw [lstep_alloc, ty27]; rfl
theorem al35 {N : List AV → AHeap → Prop} {d : Option Nat} {tm : List AV} {s : AHeap} : lstep Try.prog tab N (.alloc 35) d tm s = N (aput tm d (.ptr s.nx 0)) (s.new (.cells [.int .i64 0, .int .i64 0, .str []] (some 35))) := by rw [lstep_alloc, ty35]; rfl
theorem al118 {N : List AV → AHeap → Prop} {d : Option Nat} {tm : List AV} {s : AHeap} : lstep Try.prog tab N (.alloc 118) d tm s = N (aput tm d (.ptr s.nx 0)) (s.new (.cells [.int .i64 0, .nils] (some 118))) := by rw [lstep_alloc, ty118]; rfl
theorem al121 {N : List AV → AHeap → Prop} {d : Option Nat} {tm : List AV} {s : AHeap} : lstep Try.prog tab N (.alloc 121) d tm s = N (aput tm d (.ptr s.nx 0)) (s.new (.cells [.int .i64 0, .int .u8 0] (some 121))) := by rw [lstep_alloc, ty121]; rfl
theorem ld3 {x : AV} {s : AHeap} : aload tab 3 x s = (acellsAt s x).bind fun cs => cs[0]? := by rw [aload_one ty3 rfl]
theorem st3 {b o : Nat} {v : AV} {s : AHeap} : astore tab 3 (.ptr b o) v s = astoreAt s b o 1 v := by rw [astore_ptr ty3]
theorem ld4 {x : AV} {s : AHeap} : aload tab 4 x s = (acellsAt s x).bind fun cs => cs[0]? := by rw [aload_one ty4 rfl]
theorem ld5 {x : AV} {s : AHeap} : aload tab 5 x s = (acellsAt s x).bind fun cs => cs[0]? := by rw [aload_one ty5 rfl]
theorem ld9 {x : AV} {s : AHeap} : aload tab 9 x s = (acellsAt s x).bind fun cs => cs[0]? := by rw [aload_one ty9 rfl]
theorem st9 {b o : Nat} {v : AV} {s : AHeap} : astore tab 9 (.ptr b o) v s = astoreAt s b o 1 v := by rw [astore_ptr ty9]
theorem len9 {l : List UInt8} : alen tab 9 (.str l) = some (.int .i64 l.length) := by simp [alen, ty9]
theorem ld22 {x : AV} {s : AHeap} : aload tab 22 x s = (acellsAt s x).bind fun cs => cs[0]? := by rw [aload_one ty22 rfl]
theorem len22r {z b o n : Nat} : alen tab 22 (.rs z b o n) = some (.int .i64 n) := by simp [alen, ty22]
theorem fa25_0p {b o : Nat} : afieldAddr tab 25 (.ptr b o) 0 = some (.ptr b (o + 0)) := by simp [afieldAddr, ty25, Tab.size, ty22]
theorem fa25_1p {b o : Nat} : afieldAddr tab 25 (.ptr b o) 1 = some (.ptr b (o + 1)) := by simp [afieldAddr, ty25, Tab.size, ty3]
theorem ld27 {x : AV} {s : AHeap} : aload tab 27 x s = (acellsAt s x).bind fun cs => cs[0]? := by rw [aload_one ty27 rfl]
theorem st27 {b o : Nat} {v : AV} {s : AHeap} : astore tab 27 (.ptr b o) v s = astoreAt s b o 1 v := by rw [astore_ptr ty27]
theorem len27n : alen tab 27 .nils = some (.int .i64 0) := by simp [alen, ty27]
theorem ld31 {x : AV} {s : AHeap} : aload tab 31 x s = (acellsAt s x).bind fun cs => cs[0]? := by rw [aload_one ty31 rfl]
theorem fa35_0p {b o : Nat} : afieldAddr tab 35 (.ptr b o) 0 = some (.ptr b (o + 0)) := by simp [afieldAddr, ty35, Tab.size, ty3]
theorem fa35_0r {l : List AV} : afieldAddr tab 35 (.rptr l) 0 = some (.rptr (l.drop 0)) := by simp [afieldAddr, ty35, Tab.size, ty3]
theorem fa35_1p {b o : Nat} : afieldAddr tab 35 (.ptr b o) 1 = some (.ptr b (o + 1)) := by simp [afieldAddr, ty35, Tab.size, ty3]
theorem fa35_1r {l : List AV} : afieldAddr tab 35 (.rptr l) 1 = some (.rptr (l.drop 1)) := by simp [afieldAddr, ty35, Tab.size, ty3]
theorem fa35_2p {b o : Nat} : afieldAddr tab 35 (.ptr b o) 2 = some (.ptr b (o + 2)) := by simp [afieldAddr, ty35, Tab.size, ty9]
theorem fa35_2r {l : List AV} : afieldAddr tab 35 (.rptr l) 2 = some (.rptr (l.drop 2)) := by simp [afieldAddr, ty35, Tab.size, ty9]
theorem ld35 {x : AV} {s : AHeap} : aload tab 35 x s = (acellsAt s x).bind fun cs => if 3 ≤ cs.length then some (.agg (cs.take 3)) else none := by rw [aload_agg ty35 rfl]
theorem st35 {b o : Nat} {v : AV} {s : AHeap} : astore tab 35 (.ptr b o) v s = astoreAt s b o 3 v := by rw [astore_ptr ty35]
theorem len63r {z b o n : Nat} : alen tab 63 (.rs z b o n) = some (.int .i64 n) := by simp [alen, ty63]
theorem len107r {z b o n : Nat} : alen tab 107 (.rs z b o n) = some (.int .i64 n) := by simp [alen, ty107]
theorem ld116 {x : AV} {s : AHeap} : aload tab 116 x s = (acellsAt s x).bind fun cs => cs[0]? := by rw [aload_one ty116 rfl]
theorem st116 {b o : Nat} {v : AV} {s : AHeap} : astore tab 116 (.ptr b o) v s = astoreAt s b o 1 v := by rw [astore_ptr ty116]
theorem fa118_0p {b o : Nat} : afieldAddr tab 118 (.ptr b o) 0 = some (.ptr b (o + 0)) := by simp [afieldAddr, ty118, Tab.size, ty3]
theorem fa118_1p {b o : Nat} : afieldAddr tab 118 (.ptr b o) 1 = some (.ptr b (o + 1)) := by simp [afieldAddr, ty118, Tab.size, ty116]
theorem ld118 {x : AV} {s : AHeap} : aload tab 118 x s = (acellsAt s x).bind fun cs => if 2 ≤ cs.length then some (.agg (cs.take 2)) else none := by rw [aload_agg ty118 rfl]
theorem st118 {b o : Nat} {v : AV} {s : AHeap} : astore tab 118 (.ptr b o) v s = astoreAt s b o 2 v := by rw [astore_ptr ty118]
theorem fa121_0p {b o : Nat} : afieldAddr tab 121 (.ptr b o) 0 = some (.ptr b (o + 0)) := by simp [afieldAddr, ty121, Tab.size, ty3]
theorem fa121_1p {b o : Nat} : afieldAddr tab 121 (.ptr b o) 1 = some (.ptr b (o + 1)) := by simp [afieldAddr, ty121, Tab.size, ty5]
theorem ld121 {x : AV} {s : AHeap} : aload tab 121 x s = (acellsAt s x).bind fun cs => if 2 ≤ cs.length then some (.agg (cs.take 2)) else none := by rw [aload_agg ty121 rfl]
theorem st121 {b o : Nat} {v : AV} {s : AHeap} : astore tab 121 (.ptr b o) v s = astoreAt s b o 2 v := by rw [astore_ptr ty121]
end Go.S1
end
section
set_option linter.unusedVariables false
set_option linter.unusedSimpArgs false
namespace Go.S1
open Go Go.Am Go.Proofs
set_option maxRecDepth 100000
noncomputable def L3 : LCode := LCode.seq (LCode.ops [⟨Op.assign (Operand.const (Value.bool false)), some 2, none⟩]) (LCode.seq (LCode.ops [⟨Op.move (Operand.tmp 0), some 19, none⟩, ⟨Op.build 25 { toList := [(0, Operand.tmp 19)] }, some 20, none⟩, ⟨Op.box 25 (Operand.tmp 20), some 21, none⟩, ⟨Op.assign (Operand.tmp 21), some 3, none⟩]) (LCode.seq (LCode.ops [⟨Op.move (Operand.tmp 3), some 22, none⟩, ⟨Op.call { callee := Callee.value (Operand.func 8), args := { toList := [Operand.tmp 22, Operand.const (Value.int IntKind.i64 10)] }, argTypes := { toList := [23, 3] } }, some 23, none⟩, ⟨Op.assign (Operand.tmp 23), some 4, none⟩]) (LCode.seq (LCode.ops [⟨Op.move (Operand.tmp 4), some 24, none⟩, ⟨Op.call { callee := Callee.builtin Builtin.len, args := { toList := [Operand.tmp 24] }, argTypes := { toList := [9] } }, some 25, none⟩, ⟨Op.assign (Operand.tmp 25), some 5, none⟩]) (LCode.seq (LCode.ops [⟨Op.move (Operand.tmp 3), some 26, none⟩, ⟨Op.move (Operand.tmp 5), some 27, none⟩, ⟨Op.call { callee := Callee.value (Operand.func 9), args := { toList := [Operand.tmp 26, Operand.tmp 27] }, argTypes := { toList := [23, 3] } }, some 28, none⟩, ⟨Op.move (Operand.tmp 3), some 29, none⟩, ⟨Op.move (Operand.tmp 5), some 30, none⟩, ⟨Op.binOp BinOp.add 3 (Operand.tmp 30) (Operand.const (Value.int IntKind.i64 1)) 3, some 31, none⟩, ⟨Op.call { callee := Callee.value (Operand.func 10), args := { toList := [Operand.tmp 29, Operand.const (Value.int IntKind.i64 (-1)), Operand.tmp 31] }, argTypes := { toList := [23, 3, 3] } }, some 32, none⟩, ⟨Op.move (Operand.tmp 3), some 33, none⟩, ⟨Op.call { callee := Callee.value (Operand.func 11), args := { toList := [Operand.tmp 33, Operand.const (Value.int IntKind.i64 2)] }, argTypes := { toList := [23, 3] } }, some 34, none⟩, ⟨Op.assign (Operand.tmp 28), some 6, none⟩, ⟨Op.assign (Operand.tmp 32), some 7, none⟩, ⟨Op.assign (Operand.tmp 34), some 8, none⟩]) (LCode.seq (LCode.ops [⟨Op.move (Operand.tmp 5), some 36, none⟩, ⟨Op.move (Operand.tmp 6), some 37, none⟩, ⟨Op.move (Operand.tmp 7), some 38, none⟩, ⟨Op.move (Operand.tmp 8), some 39, none⟩, ⟨Op.call { callee := Callee.value (Operand.func 12), args := { toList := [Operand.tmp 36, Operand.tmp 37, Operand.tmp 38, Operand.tmp 39] }, argTypes := { toList := [3, 27, 3, 4] } }, some 40, none⟩, ⟨Op.move (Operand.tmp 40), some 35, none⟩, ⟨Op.extract (Operand.tmp 35) 0, some 41, none⟩, ⟨Op.extract (Operand.tmp 35) 1, some 42, none⟩, ⟨Op.assign (Operand.tmp 41), some 9, none⟩, ⟨Op.assign (Operand.tmp 42), some 10, none⟩]) (LCode.seq (LCode.ops [⟨Op.move (Operand.tmp 4), some 44, none⟩, ⟨Op.move (Operand.tmp 6), some 45, none⟩, ⟨Op.call { callee := Callee.value (Operand.func 13), args := { toList := [Operand.tmp 44, Operand.tmp 45] }, argTypes := { toList := [9, 27] } }, some 46, none⟩, ⟨Op.move (Operand.tmp 46), some 43, none⟩, ⟨Op.extract (Operand.tmp 43) 0, some 47, none⟩, ⟨Op.extract (Operand.tmp 43) 1, some 48, none⟩, ⟨Op.extract (Operand.tmp 43) 2, some 49, none⟩, ⟨Op.alloc 35, some 11, none⟩, ⟨Op.store 35 (Operand.tmp 11) (Operand.tmp 47), none, none⟩, ⟨Op.assign (Operand.tmp 48), some 12, none⟩, ⟨Op.assign (Operand.tmp 49), some 13, none⟩]) (LCode.seq (LCode.ops [⟨Op.move (Operand.tmp 5), some 50, none⟩, ⟨Op.move (Operand.tmp 6), some 51, none⟩, ⟨Op.call { callee := Callee.value (Operand.func 14), args := { toList := [Operand.tmp 50, Operand.tmp 51] }, argTypes := { toList := [3, 27] } }, some 52, none⟩, ⟨Op.assign (Operand.tmp 52), some 14, none⟩]) (LCode.seq (LCode.ops [⟨Op.move (Operand.tmp 14), some 53, none⟩, ⟨Op.move (Operand.tmp 7), some 54, none⟩, ⟨Op.binOp BinOp.lss 3 (Operand.tmp 54) (Operand.const (Value.int IntKind.i64 0)) 3, some 55, none⟩, ⟨Op.move (Operand.tmp 55), some 56, none⟩, ⟨Op.move (Operand.tmp 7), some 57, some (56, false)⟩, ⟨Op.move (Operand.tmp 5), some 58, some (56, false)⟩, ⟨Op.binOp BinOp.gtr 3 (Operand.tmp 57) (Operand.tmp 58) 3, some 59, some (56, false)⟩, ⟨Op.pick (Operand.tmp 56) (Operand.const (Value.bool true)) (Operand.tmp 59), some 60, none⟩, ⟨Op.call { callee := Callee.value (Operand.func 16), args := { toList := [Operand.tmp 60, Operand.const (Value.int IntKind.i64 1)] }, argTypes := { toList := [4, 31] } }, some 61, none⟩, ⟨Op.buildSlice 107 2 { toList := [(0, Operand.tmp 53), (1, Operand.tmp 61)] }, some 62, none⟩, ⟨Op.call { callee := Callee.value (Operand.func 15), args := { toList := [Operand.tmp 62] }, argTypes := { toList := [107] } }, some 63, none⟩, ⟨Op.assign (Operand.tmp 63), some 15, none⟩]) (LCode.seq (LCode.ops [⟨Op.assign (Operand.const (Value.int IntKind.i64 0)), some 16, none⟩]) (LCode.seq (LCode.seq (LCode.ops [⟨Op.move (Operand.tmp 15), some 64, none⟩, ⟨Op.binOp BinOp.eql 31 (Operand.tmp 64) (Operand.const (Value.int IntKind.i64 0)) 31, some 65, none⟩]) (LCode.cond (Operand.tmp 65) (LCode.ops [⟨Op.move (Operand.tmp 5), some 66, none⟩, ⟨Op.move (Operand.tmp 6), some 67, none⟩, ⟨Op.move (Operand.tmp 7), some 68, none⟩, ⟨Op.move (Operand.tmp 8), some 69, none⟩, ⟨Op.call { callee := Callee.value (Operand.func 17), args := { toList := [Operand.tmp 66, Operand.tmp 67, Operand.tmp 68, Operand.tmp 69] }, argTypes := { toList := [3, 27, 3, 4] } }, some 70, none⟩, ⟨Op.assign (Operand.tmp 70), some 16, none⟩]) LCode.skip)) (LCode.seq (LCode.ops [⟨Op.alloc 35, some 17, none⟩]) (LCode.seq (LCode.ops [⟨Op.assign (Operand.const (Value.bool false)), some 18, none⟩]) (LCode.seq (LCode.seq (LCode.ops [⟨Op.move (Operand.tmp 14), some 71, none⟩, ⟨Op.binOp BinOp.eql 31 (Operand.tmp 71) (Operand.const (Value.int IntKind.i64 0)) 31, some 72, none⟩]) (LCode.cond (Operand.tmp 72) (LCode.ops [⟨Op.move (Operand.tmp 5), some 74, none⟩, ⟨Op.move (Operand.tmp 6), some 75, none⟩, ⟨Op.move (Operand.tmp 4), some 76, none⟩, ⟨Op.call { callee := Callee.value (Operand.func 18), args := { toList := [Operand.tmp 74, Operand.tmp 75, Operand.tmp 76] }, argTypes := { toList := [3, 27, 9] } }, some 77, none⟩, ⟨Op.move (Operand.tmp 77), some 73, none⟩, ⟨Op.extract (Operand.tmp 73) 0, some 78, none⟩, ⟨Op.extract (Operand.tmp 73) 1, some 79, none⟩, ⟨Op.store 35 (Operand.tmp 17) (Operand.tmp 78), none, none⟩, ⟨Op.assign (Operand.tmp 79), some 18, none⟩]) LCode.skip)) (LCode.seq (LCode.ops [⟨Op.move (Operand.tmp 10), some 80, none⟩, ⟨Op.move (Operand.tmp 15), some 81, none⟩, ⟨Op.binOp BinOp.eql 31 (Operand.tmp 80) (Operand.tmp 81) 31, some 82, none⟩, ⟨Op.move (Operand.tmp 82), some 83, none⟩, ⟨Op.move (Operand.tmp 9), some 84, some (83, true)⟩, ⟨Op.move (Operand.tmp 16), some 85, some (83, true)⟩, ⟨Op.binOp BinOp.eql 3 (Operand.tmp 84) (Operand.tmp 85) 3, some 86, some (83, true)⟩, ⟨Op.pick (Operand.tmp 83) (Operand.tmp 86) (Operand.const (Value.bool false)), some 87, none⟩, ⟨Op.move (Operand.tmp 87), some 88, none⟩, ⟨Op.move (Operand.tmp 13), some 89, some (88, true)⟩, ⟨Op.move (Operand.tmp 14), some 90, some (88, true)⟩, ⟨Op.binOp BinOp.eql 31 (Operand.tmp 89) (Operand.tmp 90) 31, some 91, some (88, true)⟩, ⟨Op.pick (Operand.tmp 88) (Operand.tmp 91) (Operand.const (Value.bool false)), some 92, none⟩, ⟨Op.move (Operand.tmp 92), some 93, none⟩, ⟨Op.load 35 (Operand.tmp 11), some 94, some (93, true)⟩, ⟨Op.load 35 (Operand.tmp 17), some 95, some (93, true)⟩, ⟨Op.binOp BinOp.eql 35 (Operand.tmp 94) (Operand.tmp 95) 35, some 96, some (93, true)⟩, ⟨Op.pick (Operand.tmp 93) (Operand.tmp 96) (Operand.const (Value.bool false)), some 97, none⟩, ⟨Op.move (Operand.tmp 97), some 98, none⟩, ⟨Op.move (Operand.tmp 12), some 99, some (98, true)⟩, ⟨Op.move (Operand.tmp 18), some 100, some (98, true)⟩, ⟨Op.binOp BinOp.eql 4 (Operand.tmp 99) (Operand.tmp 100) 4, some 101, some (98, true)⟩, ⟨Op.pick (Operand.tmp 98) (Operand.tmp 101) (Operand.const (Value.bool false)), some 102, none⟩, ⟨Op.move (Operand.tmp 102), some 103, none⟩, ⟨Op.call { callee := Callee.value (Operand.func 19), args := { toList := [] }, argTypes := { toList := [] } }, some 104, some (103, true)⟩, ⟨Op.pick (Operand.tmp 103) (Operand.tmp 104) (Operand.const (Value.bool false)), some 105, none⟩, ⟨Op.assign (Operand.tmp 105), some 2, none⟩]) LCode.ret))))))))))))))
theorem l3 : Try.f3.body.map lighten = some L3 := by kernel_rfl
noncomputable def L9 : LCode := LCode.seq (LCode.ops [⟨Op.assign (Operand.const (Value.slice none 0 0)), some 4, none⟩]) (LCode.seq (LCode.ops [⟨Op.assign (Operand.const (Value.slice none 0 0)), some 5, none⟩]) (LCode.seq (LCode.ops [⟨Op.move (Operand.tmp 0), some 8, none⟩, ⟨Op.call { callee := Callee.value (Operand.func 10), args := { toList := [Operand.tmp 8, Operand.const (Value.int IntKind.i64 0), Operand.const (Value.int IntKind.i64 3)] }, argTypes := { toList := [23, 3, 3] } }, some 9, none⟩, ⟨Op.assign (Operand.tmp 9), some 6, none⟩]) (LCode.seq (LCode.seq (LCode.ops [⟨Op.move (Operand.tmp 0), some 10, none⟩, ⟨Op.buildSlice 22 5 { toList := [(0, Operand.const (Value.int IntKind.i64 0)), (1, Operand.const (Value.int IntKind.i64 1)), (2, Operand.const (Value.int IntKind.i64 1)), (3, Operand.const (Value.int IntKind.i64 2)), (4, Operand.const (Value.int IntKind.i64 3))] }, some 11, none⟩, ⟨Op.call { callee := Callee.value (Operand.func 20), args := { toList := [Operand.tmp 10, Operand.tmp 11] }, argTypes := { toList := [23, 22] } }, some 12, none⟩, ⟨Op.move (Operand.const (Value.int IntKind.i64 0)), some 13, none⟩]) (LCode.block 0 (LCode.loop (LCode.seq (LCode.ops [⟨Op.binOp BinOp.lss 3 (Operand.tmp 13) (Operand.tmp 12) 3, some 14, none⟩]) (LCode.seq (LCode.cond (Operand.tmp 14) LCode.skip (LCode.exit 0)) (LCode.seq (LCode.block 1 (LCode.seq (LCode.seq (LCode.ops [⟨Op.move (Operand.tmp 6), some 15, none⟩, ⟨Op.move (Operand.tmp 1), some 16, none⟩, ⟨Op.binOp BinOp.gtr 3 (Operand.tmp 15) (Operand.tmp 16) 3, some 17, none⟩]) (LCode.cond (Operand.tmp 17) (LCode.exit 0) LCode.skip)) (LCode.seq (LCode.ops [⟨Op.move (Operand.tmp 6), some 18, none⟩, ⟨Op.move (Operand.tmp 0), some 19, none⟩, ⟨Op.buildSlice 22 5 { toList := [(0, Operand.const (Value.int IntKind.i64 0)), (1, Operand.const (Value.int IntKind.i64 1)), (2, Operand.const (Value.int IntKind.i64 1)), (3, Operand.const (Value.int IntKind.i64 2)), (4, Operand.const (Value.int IntKind.i64 4))] }, some 20, none⟩, ⟨Op.call { callee := Callee.value (Operand.func 20), args := { toList := [Operand.tmp 19, Operand.tmp 20] }, argTypes := { toList := [23, 22] } }, some 21, none⟩, ⟨Op.move (Operand.tmp 1), some 22, none⟩, ⟨Op.move (Operand.tmp 6), some 23, none⟩, ⟨Op.binOp BinOp.sub 3 (Operand.tmp 22) (Operand.tmp 23) 3, some 24, none⟩, ⟨Op.call { callee := Callee.builtin Builtin.min, args := { toList := [Operand.tmp 21, Operand.tmp 24] }, argTypes := { toList := [3, 3] } }, some 25, none⟩, ⟨Op.move (Operand.tmp 0), some 26, none⟩, ⟨Op.buildSlice 63 5 { toList := [(0, Operand.const (Value.string { data := { toList := [] } })), (1, Operand.const (Value.string { data := { toList := [120] } })), (2, Operand.const (Value.string { data := { toList := [121, 122] } })), (3, Operand.const (Value.string { data := { toList := [120] } })), (4, Operand.const (Value.string { data := { toList := [195, 169] } }))] }, some 27, none⟩, ⟨Op.call { callee := Callee.value (Operand.func 66), args := { toList := [Operand.tmp 26, Operand.tmp 27] }, argTypes := { toList := [23, 63] } }, some 28, none⟩, ⟨Op.build 35 { toList := [(0, Operand.tmp 18), (1, Operand.tmp 25), (2, Operand.tmp 28)] }, some 29, none⟩, ⟨Op.alloc 35, some 7, none⟩, ⟨Op.store 35 (Operand.tmp 7) (Operand.tmp 29), none, none⟩]) (LCode.seq (LCode.seq (LCode.ops [⟨Op.fieldAddr 35 (Operand.tmp 7) 1, some 30, none⟩, ⟨Op.load 3 (Operand.tmp 30), some 31, none⟩, ⟨Op.binOp BinOp.eql 3 (Operand.tmp 31) (Operand.const (Value.int IntKind.i64 0)) 3, some 32, none⟩, ⟨Op.move (Operand.tmp 32), some 33, none⟩, ⟨Op.fieldAddr 35 (Operand.tmp 7) 2, some 34, some (33, true)⟩, ⟨Op.load 9 (Operand.tmp 34), some 35, some (33, true)⟩, ⟨Op.binOp BinOp.eql 9 (Operand.tmp 35) (Operand.const (Value.string { data := { toList := [] } })) 9, some 36, some (33, true)⟩, ⟨Op.pick (Operand.tmp 33) (Operand.tmp 36) (Operand.const (Value.bool false)), some 37, none⟩]) (LCode.cond (Operand.tmp 37) (LCode.ops [⟨Op.fieldAddr 35 (Operand.tmp 7) 2, some 38, none⟩, ⟨Op.store 9 (Operand.tmp 38) (Operand.const (Value.string { data := { toList := [119] } })), none, none⟩]) LCode.skip)) (LCode.seq (LCode.ops [⟨Op.move (Operand.tmp 5), some 39, none⟩, ⟨Op.load 35 (Operand.tmp 7), some 40, none⟩, ⟨Op.buildSlice 27 1 { toList := [(0, Operand.tmp 40)] }, some 41, none⟩, ⟨Op.call { callee := Callee.builtin Builtin.append, args := { toList := [Operand.tmp 39, Operand.tmp 41] }, argTypes := { toList := [27, 27] } }, some 42, none⟩, ⟨Op.assign (Operand.tmp 42), some 5, none⟩]) (LCode.draw [0, 0, 2, 0, 0, 24, 62, 127, 255] [⟨Op.move (Operand.tmp 6), some 43, none⟩, ⟨Op.fieldAddr 35 (Operand.tmp 7) 1, some 44, none⟩, ⟨Op.load 3 (Operand.tmp 44), some 45, none⟩, ⟨Op.move (Operand.tmp 0), some 46, none⟩, ⟨Op.buildSlice 22 4 { toList := [(0, Operand.const (Value.int IntKind.i64 1)), (1, Operand.const (Value.int IntKind.i64 1)), (2, Operand.const (Value.int IntKind.i64 2)), (3, Operand.const (Value.int IntKind.i64 5))] }, some 47, none⟩, ⟨Op.call { callee := Callee.value (Operand.func 20), args := { toList := [Operand.tmp 46, Operand.tmp 47] }, argTypes := { toList := [23, 22] } }, some 48, none⟩, ⟨Op.binOp BinOp.add 3 (Operand.tmp 45) (Operand.tmp 48) 3, some 49, none⟩, ⟨Op.binOp BinOp.add 3 (Operand.tmp 43) (Operand.tmp 49) 3, some 50, none⟩, ⟨Op.assign (Operand.tmp 50), some 6, none⟩])))))) (LCode.ops [⟨Op.binOp BinOp.add 3 (Operand.tmp 13) (Operand.const (Value.int IntKind.i64 1)) 3, some 51, none⟩, ⟨Op.move (Operand.tmp 51), some 13, none⟩]))))))) (LCode.seq (LCode.seq (LCode.ops [⟨Op.move (Operand.tmp 0), some 52, none⟩, ⟨Op.call { callee := Callee.value (Operand.func 11), args := { toList := [Operand.tmp 52, Operand.const (Value.int IntKind.i64 15)] }, argTypes := { toList := [23, 3] } }, some 53, none⟩]) (LCode.cond (Operand.tmp 53) (LCode.ops [⟨Op.move (Operand.tmp 5), some 54, none⟩, ⟨Op.move (Operand.tmp 0), some 55, none⟩, ⟨Op.move (Operand.tmp 1), some 56, none⟩, ⟨Op.call { callee := Callee.value (Operand.func 67), args := { toList := [Operand.tmp 55, Operand.tmp 56] }, argTypes := { toList := [23, 3] } }, some 57, none⟩, ⟨Op.buildSlice 27 1 { toList := [(0, Operand.tmp 57)] }, some 58, none⟩, ⟨Op.call { callee := Callee.builtin Builtin.append, args := { toList := [Operand.tmp 54, Operand.tmp 58] }, argTypes := { toList := [27, 27] } }, some 59, none⟩, ⟨Op.assign (Operand.tmp 59), some 5, none⟩]) LCode.skip)) (LCode.seq (LCode.ops [⟨Op.move (Operand.tmp 5), some 60, none⟩, ⟨Op.assign (Operand.tmp 60), some 4, none⟩]) LCode.ret)))))
theorem l9 : Try.f9.body.map lighten = some L9 := by kernel_rfl
theorem rs9 : Try.f9.results.toList = [ResultVar.tmp 4] := by kernel_rfl
theorem nt9 : Try.f9.ntmps = 61 := by kernel_rfl
noncomputable def L10 : LCode := LCode.seq (LCode.ops [⟨Op.assign (Operand.const (Value.int IntKind.i64 0)), some 6, none⟩]) (LCode.seq (LCode.seq (LCode.ops [⟨Op.move (Operand.tmp 2), some 7, none⟩, ⟨Op.move (Operand.tmp 1), some 8, none⟩, ⟨Op.binOp BinOp.lss 3 (Operand.tmp 7) (Operand.tmp 8) 3, some 9, none⟩]) (LCode.cond (Operand.tmp 9) (LCode.seq (LCode.ops [⟨Op.move (Operand.tmp 1), some 10, none⟩, ⟨Op.assign (Operand.tmp 10), some 6, none⟩]) LCode.ret) LCode.skip)) (LCode.seq (LCode.ops [⟨Op.move (Operand.tmp 1), some 11, none⟩, ⟨Op.move (Operand.tmp 0), some 12, none⟩, ⟨Op.move (Operand.tmp 2), some 13, none⟩, ⟨Op.move (Operand.tmp 1), some 14, none⟩, ⟨Op.binOp BinOp.sub 3 (Operand.tmp 13) (Operand.tmp 14) 3, some 15, none⟩, ⟨Op.binOp BinOp.add 3 (Operand.tmp 15) (Operand.const (Value.int IntKind.i64 1)) 3, some 16, none⟩, ⟨Op.call { callee := Callee.value (Operand.func 68), args := { toList := [Operand.tmp 12, Operand.tmp 16] }, argTypes := { toList := [23, 3] } }, some 17, none⟩, ⟨Op.binOp BinOp.add 3 (Operand.tmp 11) (Operand.tmp 17) 3, some 18, none⟩, ⟨Op.assign (Operand.tmp 18), some 6, none⟩]) LCode.ret))
theorem l10 : Try.f10.body.map lighten = some L10 := by kernel_rfl
theorem rs10 : Try.f10.results.toList = [ResultVar.tmp 6] := by kernel_rfl
theorem nt10 : Try.f10.ntmps = 19 := by kernel_rfl
noncomputable def L11 : LCode := LCode.seq (LCode.ops [⟨Op.assign (Operand.const (Value.bool false)), some 4, none⟩]) (LCode.seq (LCode.ops [⟨Op.move (Operand.tmp 0), some 5, none⟩, ⟨Op.move (Operand.tmp 1), some 6, none⟩, ⟨Op.call { callee := Callee.value (Operand.func 68), args := { toList := [Operand.tmp 5, Operand.tmp 6] }, argTypes := { toList := [23, 3] } }, some 7, none⟩, ⟨Op.binOp BinOp.eql 3 (Operand.tmp 7) (Operand.const (Value.int IntKind.i64 0)) 3, some 8, none⟩, ⟨Op.assign (Operand.tmp 8), some 4, none⟩]) LCode.ret)
theorem l11 : Try.f11.body.map lighten = some L11 := by kernel_rfl
theorem rs11 : Try.f11.results.toList = [ResultVar.tmp 4] := by kernel_rfl
theorem nt11 : Try.f11.ntmps = 9 := by kernel_rfl
noncomputable def L14 : LCode := LCode.seq (LCode.ops [⟨Op.assign (Operand.const (Value.int IntKind.i64 0)), some 4, none⟩]) (LCode.seq (LCode.block 0 (LCode.seq (LCode.ops [⟨Op.move (Operand.tmp 0), some 10, none⟩, ⟨Op.call { callee := Callee.value (Operand.func 71), args := { toList := [Operand.tmp 10, Operand.const (Value.int IntKind.i64 0), Operand.const (Value.int IntKind.i64 20000)] }, argTypes := { toList := [3, 3, 3] } }, some 11, none⟩, ⟨Op.unOp UnOp.not 4 (Operand.tmp 11), some 12, none⟩, ⟨Op.assign (Operand.tmp 12), some 9, none⟩]) (LCode.cond (Operand.tmp 9) (LCode.seq (LCode.ops [⟨Op.assign (Operand.const (Value.int IntKind.i64 1)), some 4, none⟩]) LCode.ret) (LCode.seq (LCode.ops [⟨Op.move (Operand.tmp 1), some 14, none⟩, ⟨Op.call { callee := Callee.builtin Builtin.len, args := { toList := [Operand.tmp 14] }, argTypes := { toList := [27] } }, some 15, none⟩, ⟨Op.binOp BinOp.gtr 3 (Operand.tmp 15) (Operand.const (Value.int IntKind.i64 2000)) 3, some 16, none⟩, ⟨Op.assign (Operand.tmp 16), some 13, none⟩]) (LCode.cond (Operand.tmp 13) (LCode.seq (LCode.ops [⟨Op.assign (Operand.const (Value.int IntKind.i64 2)), some 4, none⟩]) LCode.ret) LCode.skip))))) (LCode.seq (LCode.ops [⟨Op.move (Operand.tmp 0), some 17, none⟩, ⟨Op.assign (Operand.const (Value.int IntKind.i64 (-1))), some 5, none⟩, ⟨Op.assign (Operand.tmp 17), some 6, none⟩]) (LCode.seq (LCode.seq (LCode.ops [⟨Op.move (Operand.tmp 1), some 18, none⟩, ⟨Op.call { callee := Callee.builtin Builtin.len, args := { toList := [Operand.tmp 18] }, argTypes := { toList := [27] } }, some 19, none⟩, ⟨Op.move (Operand.const (Value.int IntKind.i64 0)), some 20, none⟩]) (LCode.block 1 (LCode.loop (LCode.seq (LCode.ops [⟨Op.binOp BinOp.lss 3 (Operand.tmp 20) (Operand.tmp 19) 3, some 21, none⟩]) (LCode.seq (LCode.cond (Operand.tmp 21) LCode.skip (LCode.exit 1)) (LCode.seq (LCode.block 2 (LCode.seq (LCode.ops [⟨Op.indexAddr 27 (Operand.tmp 18) (Operand.tmp 20), some 22, none⟩, ⟨Op.load 35 (Operand.tmp 22), some 23, none⟩, ⟨Op.alloc 35, some 8, none⟩, ⟨Op.store 35 (Operand.tmp 8) (Operand.tmp 23), none, none⟩]) (LCode.seq (LCode.block 3 (LCode.seq (LCode.ops [⟨Op.fieldAddr 35 (Operand.tmp 8) 0, some 25, none⟩, ⟨Op.load 3 (Operand.tmp 25), some 26, none⟩, ⟨Op.move (Operand.tmp 0), some 27, none⟩, ⟨Op.call { callee := Callee.value (Operand.func 71), args := { toList := [Operand.tmp 26, Operand.const (Value.int IntKind.i64 0), Operand.tmp 27] }, argTypes := { toList := [3, 3, 3] } }, some 28, none⟩, ⟨Op.unOp UnOp.not 4 (Operand.tmp 28), some 29, none⟩, ⟨Op.move (Operand.tmp 29), some 30, none⟩, ⟨Op.fieldAddr 35 (Operand.tmp 8) 1, some 31, some (30, false)⟩, ⟨Op.load 3 (Operand.tmp 31), some 32, some (30, false)⟩, ⟨Op.move (Operand.tmp 0), some 33, some (30, false)⟩, ⟨Op.fieldAddr 35 (Operand.tmp 8) 0, some 34, some (30, false)⟩, ⟨Op.load 3 (Operand.tmp 34), some 35, some (30, false)⟩, ⟨Op.binOp BinOp.sub 3 (Operand.tmp 33) (Operand.tmp 35) 3, some 36, some (30, false)⟩, ⟨Op.call { callee := Callee.value (Operand.func 71), args := { toList := [Operand.tmp 32, Operand.const (Value.int IntKind.i64 0), Operand.tmp 36] }, argTypes := { toList := [3, 3, 3] } }, some 37, some (30, false)⟩, ⟨Op.unOp UnOp.not 4 (Operand.tmp 37), some 38, some (30, false)⟩, ⟨Op.pick (Operand.tmp 30) (Operand.const (Value.bool true)) (Operand.tmp 38), some 39, none⟩, ⟨Op.assign (Operand.tmp 39), some 24, none⟩]) (LCode.cond (Operand.tmp 24) (LCode.seq (LCode.ops [⟨Op.assign (Operand.const (Value.int IntKind.i64 1)), some 4, none⟩]) LCode.ret) (LCode.seq (LCode.ops [⟨Op.fieldAddr 35 (Operand.tmp 8) 1, some 41, none⟩, ⟨Op.load 3 (Operand.tmp 41), some 42, none⟩, ⟨Op.binOp BinOp.eql 3 (Operand.tmp 42) (Operand.const (Value.int IntKind.i64 0)) 3, some 43, none⟩, ⟨Op.move (Operand.tmp 43), some 44, none⟩, ⟨Op.fieldAddr 35 (Operand.tmp 8) 2, some 45, some (44, true)⟩, ⟨Op.load 9 (Operand.tmp 45), some 46, some (44, true)⟩, ⟨Op.binOp BinOp.eql 9 (Operand.tmp 46) (Operand.const (Value.string { data := { toList := [] } })) 9, some 47, some (44, true)⟩, ⟨Op.pick (Operand.tmp 44) (Operand.tmp 47) (Operand.const (Value.bool false)), some 48, none⟩, ⟨Op.assign (Operand.tmp 48), some 40, none⟩]) (LCode.cond (Operand.tmp 40) (LCode.seq (LCode.ops [⟨Op.assign (Operand.const (Value.int IntKind.i64 3)), some 4, none⟩]) LCode.ret) (LCode.seq (LCode.ops [⟨Op.fieldAddr 35 (Operand.tmp 8) 0, some 50, none⟩, ⟨Op.load 3 (Operand.tmp 50), some 51, none⟩, ⟨Op.move (Operand.tmp 5), some 52, none⟩, ⟨Op.binOp BinOp.leq 3 (Operand.tmp 51) (Operand.tmp 52) 3, some 53, none⟩, ⟨Op.assign (Operand.tmp 53), some 49, none⟩]) (LCode.cond (Operand.tmp 49) (LCode.seq (LCode.ops [⟨Op.assign (Operand.const (Value.int IntKind.i64 7)), some 4, none⟩]) LCode.ret) LCode.skip))))))) (LCode.seq (LCode.ops [⟨Op.fieldAddr 35 (Operand.tmp 8) 0, some 54, none⟩, ⟨Op.load 3 (Operand.tmp 54), some 55, none⟩, ⟨Op.fieldAddr 35 (Operand.tmp 8) 1, some 56, none⟩, ⟨Op.load 3 (Operand.tmp 56), some 57, none⟩, ⟨Op.binOp BinOp.add 3 (Operand.tmp 55) (Operand.tmp 57) 3, some 58, none⟩, ⟨Op.assign (Operand.tmp 58), some 5, none⟩]) (LCode.ops [⟨Op.move (Operand.tmp 6), some 59, none⟩, ⟨Op.fieldAddr 35 (Operand.tmp 8) 2, some 60, none⟩, ⟨Op.load 9 (Operand.tmp 60), some 61, none⟩, ⟨Op.call { callee := Callee.builtin Builtin.len, args := { toList := [Operand.tmp 61] }, argTypes := { toList := [9] } }, some 62, none⟩, ⟨Op.fieldAddr 35 (Operand.tmp 8) 1, some 63, none⟩, ⟨Op.load 3 (Operand.tmp 63), some 64, none⟩, ⟨Op.binOp BinOp.sub 3 (Operand.tmp 62) (Operand.tmp 64) 3, some 65, none⟩, ⟨Op.binOp BinOp.add 3 (Operand.tmp 59) (Operand.tmp 65) 3, some 66, none⟩, ⟨Op.assign (Operand.tmp 66), some 6, none⟩]))))) (LCode.ops [⟨Op.binOp BinOp.add 3 (Operand.tmp 20) (Operand.const (Value.int IntKind.i64 1)) 3, some 67, none⟩, ⟨Op.move (Operand.tmp 67), some 20, none⟩]))))))) (LCode.seq (LCode.seq (LCode.ops [⟨Op.move (Operand.tmp 6), some 68, none⟩, ⟨Op.binOp BinOp.gtr 3 (Operand.tmp 68) (Operand.const (Value.int IntKind.i64 20000)) 3, some 69, none⟩]) (LCode.cond (Operand.tmp 69) (LCode.seq (LCode.ops [⟨Op.assign (Operand.const (Value.int IntKind.i64 2)), some 4, none⟩]) LCode.ret) LCode.skip)) (LCode.seq (LCode.ops [⟨Op.assign (Operand.const (Value.int IntKind.i64 0)), some 4, none⟩]) LCode.ret)))))
theorem l14 : Try.f14.body.map lighten = some L14 := by kernel_rfl
theorem rs14 : Try.f14.results.toList = [ResultVar.tmp 4] := by kernel_rfl
theorem nt14 : Try.f14.ntmps = 70 := by kernel_rfl
theorem go14 {args : List AV} {s : AHeap} {R : AV → AHeap → Prop} (hl : args.length ≤ 70) (h : ∀ tm, tm.length = 70 → (∀ i, aev tm (.tmp i) = args.getD i aundef) → lvc Try.prog tab L14 (lpost tab [ResultVar.tmp 4] R) tm s) : ACall Try.prog 14 args s R := ACall.go tab_ok mixed Try.func14 l14 nm14 rs14 nt14 hl h
noncomputable def L15 : LCode := LCode.seq (LCode.ops [⟨Op.assign (Operand.const (Value.int IntKind.i64 0)), some 2, none⟩]) (LCode.seq (LCode.seq (LCode.ops [⟨Op.move (Operand.tmp 0), some 5, none⟩, ⟨Op.call { callee := Callee.builtin Builtin.len, args := { toList := [Operand.tmp 5] }, argTypes := { toList := [107] } }, some 6, none⟩, ⟨Op.move (Operand.const (Value.int IntKind.i64 0)), some 7, none⟩]) (LCode.block 0 (LCode.loop (LCode.seq (LCode.ops [⟨Op.binOp BinOp.lss 3 (Operand.tmp 7) (Operand.tmp 6) 3, some 8, none⟩]) (LCode.seq (LCode.cond (Operand.tmp 8) LCode.skip (LCode.exit 0)) (LCode.seq (LCode.block 1 (LCode.seq (LCode.ops [⟨Op.indexAddr 107 (Operand.tmp 5) (Operand.tmp 7), some 9, none⟩, ⟨Op.load 31 (Operand.tmp 9), some 10, none⟩, ⟨Op.assign (Operand.tmp 10), some 4, none⟩]) (LCode.seq (LCode.ops [⟨Op.move (Operand.tmp 4), some 11, none⟩, ⟨Op.binOp BinOp.neq 31 (Operand.tmp 11) (Operand.const (Value.int IntKind.i64 0)) 31, some 12, none⟩]) (LCode.cond (Operand.tmp 12) (LCode.seq (LCode.ops [⟨Op.move (Operand.tmp 4), some 13, none⟩, ⟨Op.assign (Operand.tmp 13), some 2, none⟩]) LCode.ret) LCode.skip)))) (LCode.ops [⟨Op.binOp BinOp.add 3 (Operand.tmp 7) (Operand.const (Value.int IntKind.i64 1)) 3, some 14, none⟩, ⟨Op.move (Operand.tmp 14), some 7, none⟩]))))))) (LCode.seq (LCode.ops [⟨Op.assign (Operand.const (Value.int IntKind.i64 0)), some 2, none⟩]) LCode.ret))
theorem l15 : Try.f15.body.map lighten = some L15 := by kernel_rfl
theorem rs15 : Try.f15.results.toList = [ResultVar.tmp 2] := by kernel_rfl
theorem nt15 : Try.f15.ntmps = 15 := by kernel_rfl
theorem go15 {args : List AV} {s : AHeap} {R : AV → AHeap → Prop} (hl : args.length ≤ 15) (h : ∀ tm, tm.length = 15 → (∀ i, aev tm (.tmp i) = args.getD i aundef) → lvc Try.prog tab L15 (lpost tab [ResultVar.tmp 2] R) tm s) : ACall Try.prog 15 args s R := ACall.go tab_ok mixed Try.func15 l15 nm15 rs15 nt15 hl h
noncomputable def L20 : LCode := LCode.seq (LCode.ops [⟨Op.assign (Operand.const (Value.int IntKind.i64 0)), some 4, none⟩]) (LCode.seq (LCode.ops [⟨Op.move (Operand.tmp 1), some 5, none⟩, ⟨Op.move (Operand.tmp 0), some 6, none⟩, ⟨Op.move (Operand.tmp 1), some 7, none⟩, ⟨Op.call { callee := Callee.builtin Builtin.len, args := { toList := [Operand.tmp 7] }, argTypes := { toList := [22] } }, some 8, none⟩, ⟨Op.call { callee := Callee.value (Operand.func 68), args := { toList := [Operand.tmp 6, Operand.tmp 8] }, argTypes := { toList := [23, 3] } }, some 9, none⟩, ⟨Op.indexAddr 22 (Operand.tmp 5) (Operand.tmp 9), some 10, none⟩, ⟨Op.load 3 (Operand.tmp 10), some 11, none⟩, ⟨Op.assign (Operand.tmp 11), some 4, none⟩]) LCode.ret)
theorem l20 : Try.f20.body.map lighten = some L20 := by kernel_rfl
theorem rs20 : Try.f20.results.toList = [ResultVar.tmp 4] := by kernel_rfl
theorem nt20 : Try.f20.ntmps = 12 := by kernel_rfl
noncomputable def L31 : LCode := LCode.seq (LCode.ops [⟨Op.assign (Operand.const (Value.int IntKind.i64 0)), some 4, none⟩]) (LCode.seq (LCode.block 0 (LCode.seq (LCode.ops [⟨Op.move (Operand.tmp 0), some 9, none⟩, ⟨Op.call { callee := Callee.value (Operand.func 80), args := { toList := [Operand.tmp 9, Operand.const (Value.int IntKind.i64 0), Operand.const (Value.int IntKind.i64 20000)] }, argTypes := { toList := [3, 3, 3] } }, some 10, none⟩, ⟨Op.unOp UnOp.not 4 (Operand.tmp 10), some 11, none⟩, ⟨Op.assign (Operand.tmp 11), some 8, none⟩]) (LCode.cond (Operand.tmp 8) (LCode.seq (LCode.ops [⟨Op.assign (Operand.const (Value.int IntKind.i64 1)), some 4, none⟩]) LCode.ret) (LCode.seq (LCode.ops [⟨Op.move (Operand.tmp 1), some 13, none⟩, ⟨Op.call { callee := Callee.builtin Builtin.len, args := { toList := [Operand.tmp 13] }, argTypes := { toList := [27] } }, some 14, none⟩, ⟨Op.binOp BinOp.gtr 3 (Operand.tmp 14) (Operand.const (Value.int IntKind.i64 2000)) 3, some 15, none⟩, ⟨Op.assign (Operand.tmp 15), some 12, none⟩]) (LCode.cond (Operand.tmp 12) (LCode.seq (LCode.ops [⟨Op.assign (Operand.const (Value.int IntKind.i64 2)), some 4, none⟩]) LCode.ret) LCode.skip))))) (LCode.seq (LCode.ops [⟨Op.assign (Operand.const (Value.int IntKind.i64 (-1))), some 5, none⟩]) (LCode.seq (LCode.seq (LCode.ops [⟨Op.move (Operand.tmp 1), some 16, none⟩, ⟨Op.call { callee := Callee.builtin Builtin.len, args := { toList := [Operand.tmp 16] }, argTypes := { toList := [27] } }, some 17, none⟩, ⟨Op.move (Operand.const (Value.int IntKind.i64 0)), some 18, none⟩]) (LCode.block 1 (LCode.loop (LCode.seq (LCode.ops [⟨Op.binOp BinOp.lss 3 (Operand.tmp 18) (Operand.tmp 17) 3, some 19, none⟩]) (LCode.seq (LCode.cond (Operand.tmp 19) LCode.skip (LCode.exit 1)) (LCode.seq (LCode.block 2 (LCode.seq (LCode.ops [⟨Op.indexAddr 27 (Operand.tmp 16) (Operand.tmp 18), some 20, none⟩, ⟨Op.load 35 (Operand.tmp 20), some 21, none⟩, ⟨Op.alloc 35, some 7, none⟩, ⟨Op.store 35 (Operand.tmp 7) (Operand.tmp 21), none, none⟩]) (LCode.seq (LCode.block 3 (LCode.seq (LCode.ops [⟨Op.fieldAddr 35 (Operand.tmp 7) 0, some 23, none⟩, ⟨Op.load 3 (Operand.tmp 23), some 24, none⟩, ⟨Op.move (Operand.tmp 0), some 25, none⟩, ⟨Op.call { callee := Callee.value (Operand.func 80), args := { toList := [Operand.tmp 24, Operand.const (Value.int IntKind.i64 0), Operand.tmp 25] }, argTypes := { toList := [3, 3, 3] } }, some 26, none⟩, ⟨Op.unOp UnOp.not 4 (Operand.tmp 26), some 27, none⟩, ⟨Op.move (Operand.tmp 27), some 28, none⟩, ⟨Op.fieldAddr 35 (Operand.tmp 7) 1, some 29, some (28, false)⟩, ⟨Op.load 3 (Operand.tmp 29), some 30, some (28, false)⟩, ⟨Op.move (Operand.tmp 0), some 31, some (28, false)⟩, ⟨Op.fieldAddr 35 (Operand.tmp 7) 0, some 32, some (28, false)⟩, ⟨Op.load 3 (Operand.tmp 32), some 33, some (28, false)⟩, ⟨Op.binOp BinOp.sub 3 (Operand.tmp 31) (Operand.tmp 33) 3, some 34, some (28, false)⟩, ⟨Op.call { callee := Callee.value (Operand.func 80), args := { toList := [Operand.tmp 30, Operand.const (Value.int IntKind.i64 0), Operand.tmp 34] }, argTypes := { toList := [3, 3, 3] } }, some 35, some (28, false)⟩, ⟨Op.unOp UnOp.not 4 (Operand.tmp 35), some 36, some (28, false)⟩, ⟨Op.pick (Operand.tmp 28) (Operand.const (Value.bool true)) (Operand.tmp 36), some 37, none⟩, ⟨Op.assign (Operand.tmp 37), some 22, none⟩]) (LCode.cond (Operand.tmp 22) (LCode.seq (LCode.ops [⟨Op.assign (Operand.const (Value.int IntKind.i64 1)), some 4, none⟩]) LCode.ret) (LCode.seq (LCode.ops [⟨Op.fieldAddr 35 (Operand.tmp 7) 1, some 39, none⟩, ⟨Op.load 3 (Operand.tmp 39), some 40, none⟩, ⟨Op.binOp BinOp.eql 3 (Operand.tmp 40) (Operand.const (Value.int IntKind.i64 0)) 3, some 41, none⟩, ⟨Op.move (Operand.tmp 41), some 42, none⟩, ⟨Op.fieldAddr 35 (Operand.tmp 7) 2, some 43, some (42, true)⟩, ⟨Op.load 9 (Operand.tmp 43), some 44, some (42, true)⟩, ⟨Op.binOp BinOp.eql 9 (Operand.tmp 44) (Operand.const (Value.string { data := { toList := [] } })) 9, some 45, some (42, true)⟩, ⟨Op.pick (Operand.tmp 42) (Operand.tmp 45) (Operand.const (Value.bool false)), some 46, none⟩, ⟨Op.assign (Operand.tmp 46), some 38, none⟩]) (LCode.cond (Operand.tmp 38) (LCode.seq (LCode.ops [⟨Op.assign (Operand.const (Value.int IntKind.i64 3)), some 4, none⟩]) LCode.ret) (LCode.seq (LCode.ops [⟨Op.fieldAddr 35 (Operand.tmp 7) 0, some 48, none⟩, ⟨Op.load 3 (Operand.tmp 48), some 49, none⟩, ⟨Op.move (Operand.tmp 5), some 50, none⟩, ⟨Op.binOp BinOp.leq 3 (Operand.tmp 49) (Operand.tmp 50) 3, some 51, none⟩, ⟨Op.assign (Operand.tmp 51), some 47, none⟩]) (LCode.cond (Operand.tmp 47) (LCode.seq (LCode.ops [⟨Op.assign (Operand.const (Value.int IntKind.i64 7)), some 4, none⟩]) LCode.ret) LCode.skip))))))) (LCode.ops [⟨Op.fieldAddr 35 (Operand.tmp 7) 0, some 52, none⟩, ⟨Op.load 3 (Operand.tmp 52), some 53, none⟩, ⟨Op.fieldAddr 35 (Operand.tmp 7) 1, some 54, none⟩, ⟨Op.load 3 (Operand.tmp 54), some 55, none⟩, ⟨Op.binOp BinOp.add 3 (Operand.tmp 53) (Operand.tmp 55) 3, some 56, none⟩, ⟨Op.assign (Operand.tmp 56), some 5, none⟩])))) (LCode.ops [⟨Op.binOp BinOp.add 3 (Operand.tmp 18) (Operand.const (Value.int IntKind.i64 1)) 3, some 57, none⟩, ⟨Op.move (Operand.tmp 57), some 18, none⟩]))))))) (LCode.seq (LCode.seq (LCode.ops [⟨Op.move (Operand.tmp 0), some 58, none⟩, ⟨Op.move (Operand.tmp 1), some 59, none⟩, ⟨Op.call { callee := Callee.value (Operand.func 72), args := { toList := [Operand.tmp 58, Operand.tmp 59] }, argTypes := { toList := [3, 27] } }, some 60, none⟩, ⟨Op.binOp BinOp.gtr 3 (Operand.tmp 60) (Operand.const (Value.int IntKind.i64 20000)) 3, some 61, none⟩]) (LCode.cond (Operand.tmp 61) (LCode.seq (LCode.ops [⟨Op.assign (Operand.const (Value.int IntKind.i64 2)), some 4, none⟩]) LCode.ret) LCode.skip)) (LCode.seq (LCode.ops [⟨Op.assign (Operand.const (Value.int IntKind.i64 0)), some 4, none⟩]) LCode.ret)))))
theorem l31 : Try.f31.body.map lighten = some L31 := by kernel_rfl
theorem rs31 : Try.f31.results.toList = [ResultVar.tmp 4] := by kernel_rfl
theorem nt31 : Try.f31.ntmps = 62 := by kernel_rfl
theorem go31 {args : List AV} {s : AHeap} {R : AV → AHeap → Prop} (hl : args.length ≤ 62) (h : ∀ tm, tm.length = 62 → (∀ i, aev tm (.tmp i) = args.getD i aundef) → lvc Try.prog tab L31 (lpost tab [ResultVar.tmp 4] R) tm s) : ACall Try.prog 31 args s R := ACall.go tab_ok mixed Try.func31 l31 nm31 rs31 nt31 hl h
noncomputable def L66 : LCode := LCode.seq (LCode.ops [⟨Op.assign (Operand.const (Value.string { data := { toList := [] } })), some 4, none⟩]) (LCode.seq (LCode.ops [⟨Op.move (Operand.tmp 1), some 5, none⟩, ⟨Op.move (Operand.tmp 0), some 6, none⟩, ⟨Op.move (Operand.tmp 1), some 7, none⟩, ⟨Op.call { callee := Callee.builtin Builtin.len, args := { toList := [Operand.tmp 7] }, argTypes := { toList := [63] } }, some 8, none⟩, ⟨Op.call { callee := Callee.value (Operand.func 68), args := { toList := [Operand.tmp 6, Operand.tmp 8] }, argTypes := { toList := [23, 3] } }, some 9, none⟩, ⟨Op.indexAddr 63 (Operand.tmp 5) (Operand.tmp 9), some 10, none⟩, ⟨Op.load 9 (Operand.tmp 10), some 11, none⟩, ⟨Op.assign (Operand.tmp 11), some 4, none⟩]) LCode.ret)
theorem l66 : Try.f66.body.map lighten = some L66 := by kernel_rfl
theorem rs66 : Try.f66.results.toList = [ResultVar.tmp 4] := by kernel_rfl
theorem nt66 : Try.f66.ntmps = 12 := by kernel_rfl
noncomputable def L67 : LCode := LCode.seq (LCode.ops [⟨Op.alloc 35, some 4, none⟩]) (LCode.seq (LCode.ops [⟨Op.move (Operand.tmp 0), some 7, none⟩, ⟨Op.move (Operand.tmp 1), some 8, none⟩, ⟨Op.binOp BinOp.add 3 (Operand.tmp 8) (Operand.const (Value.int IntKind.i64 1)) 3, some 9, none⟩, ⟨Op.call { callee := Callee.value (Operand.func 68), args := { toList := [Operand.tmp 7, Operand.tmp 9] }, argTypes := { toList := [23, 3] } }, some 10, none⟩, ⟨Op.assign (Operand.tmp 10), some 5, none⟩]) (LCode.seq (LCode.ops [⟨Op.move (Operand.tmp 5), some 11, none⟩, ⟨Op.move (Operand.tmp 0), some 12, none⟩, ⟨Op.buildSlice 22 5 { toList := [(0, Operand.const (Value.int IntKind.i64 0)), (1, Operand.const (Value.int IntKind.i64 0)), (2, Operand.const (Value.int IntKind.i64 1)), (3, Operand.const (Value.int IntKind.i64 2)), (4, Operand.const (Value.int IntKind.i64 5))] }, some 13, none⟩, ⟨Op.call { callee := Callee.value (Operand.func 20), args := { toList := [Operand.tmp 12, Operand.tmp 13] }, argTypes := { toList := [23, 22] } }, some 14, none⟩, ⟨Op.move (Operand.tmp 1), some 15, none⟩, ⟨Op.move (Operand.tmp 5), some 16, none⟩, ⟨Op.binOp BinOp.sub 3 (Operand.tmp 15) (Operand.tmp 16) 3, some 17, none⟩, ⟨Op.call { callee := Callee.builtin Builtin.min, args := { toList := [Operand.tmp 14, Operand.tmp 17] }, argTypes := { toList := [3, 3] } }, some 18, none⟩, ⟨Op.move (Operand.tmp 0), some 19, none⟩, ⟨Op.buildSlice 63 10 { toList := [(0, Operand.const (Value.string { data := { toList := [] } })), (1, Operand.const (Value.string { data := { toList := [97] } })), (2, Operand.const (Value.string { data := { toList := [32] } })), (3, Operand.const (Value.string { data := { toList := [49] } })), (4, Operand.const (Value.string { data := { toList := [43] } })), (5, Operand.const (Value.string { data := { toList := [41] } })), (6, Operand.const (Value.string { data := { toList := [35] } })), (7, Operand.const (Value.string { data := { toList := [34] } })), (8, Operand.const (Value.string { data := { toList := [97, 98, 32, 49] } })), (9, Operand.const (Value.string { data := { toList := [46] } }))] }, some 20, none⟩, ⟨Op.call { callee := Callee.value (Operand.func 66), args := { toList := [Operand.tmp 19, Operand.tmp 20] }, argTypes := { toList := [23, 63] } }, some 21, none⟩, ⟨Op.build 35 { toList := [(0, Operand.tmp 11), (1, Operand.tmp 18), (2, Operand.tmp 21)] }, some 22, none⟩, ⟨Op.alloc 35, some 6, none⟩, ⟨Op.store 35 (Operand.tmp 6) (Operand.tmp 22), none, none⟩]) (LCode.seq (LCode.seq (LCode.ops [⟨Op.move (Operand.tmp 0), some 23, none⟩, ⟨Op.call { callee := Callee.value (Operand.func 11), args := { toList := [Operand.tmp 23, Operand.const (Value.int IntKind.i64 25)] }, argTypes := { toList := [23, 3] } }, some 24, none⟩]) (LCode.cond (Operand.tmp 24) (LCode.ops [⟨Op.move (Operand.tmp 0), some 25, none⟩, ⟨Op.move (Operand.tmp 1), some 26, none⟩, ⟨Op.binOp BinOp.add 3 (Operand.tmp 26) (Operand.const (Value.int IntKind.i64 1)) 3, some 27, none⟩, ⟨Op.move (Operand.tmp 5), some 28, none⟩, ⟨Op.buildSlice 22 3 { toList := [(0, Operand.const (Value.int IntKind.i64 (-1))), (1, Operand.tmp 27), (2, Operand.tmp 28)] }, some 29, none⟩, ⟨Op.call { callee := Callee.value (Operand.func 20), args := { toList := [Operand.tmp 25, Operand.tmp 29] }, argTypes := { toList := [23, 22] } }, some 30, none⟩, ⟨Op.move (Operand.tmp 0), some 31, none⟩, ⟨Op.move (Operand.tmp 1), some 32, none⟩, ⟨Op.binOp BinOp.add 3 (Operand.tmp 32) (Operand.const (Value.int IntKind.i64 1)) 3, some 33, none⟩, ⟨Op.buildSlice 22 3 { toList := [(0, Operand.const (Value.int IntKind.i64 0)), (1, Operand.const (Value.int IntKind.i64 (-1))), (2, Operand.tmp 33)] }, some 34, none⟩, ⟨Op.call { callee := Callee.value (Operand.func 20), args := { toList := [Operand.tmp 31, Operand.tmp 34] }, argTypes := { toList := [23, 22] } }, some 35, none⟩, ⟨Op.fieldAddr 35 (Operand.tmp 6) 0, some 36, none⟩, ⟨Op.store 3 (Operand.tmp 36) (Operand.tmp 30), none, none⟩, ⟨Op.fieldAddr 35 (Operand.tmp 6) 1, some 37, none⟩, ⟨Op.store 3 (Operand.tmp 37) (Operand.tmp 35), none, none⟩]) LCode.skip)) (LCode.seq (LCode.ops [⟨Op.load 35 (Operand.tmp 6), some 38, none⟩, ⟨Op.store 35 (Operand.tmp 4) (Operand.tmp 38), none, none⟩]) LCode.ret))))
theorem l67 : Try.f67.body.map lighten = some L67 := by kernel_rfl
theorem rs67 : Try.f67.results.toList = [ResultVar.cell 4 35] := by kernel_rfl
theorem nt67 : Try.f67.ntmps = 39 := by kernel_rfl
noncomputable def L68 : LCode := LCode.seq (LCode.ops [⟨Op.assign (Operand.const (Value.int IntKind.i64 0)), some 4, none⟩]) (LCode.seq (LCode.ops [⟨Op.move (Operand.tmp 0), some 7, none⟩, ⟨Op.nilCheck (Operand.tmp 7), some 8, none⟩, ⟨Op.fieldAddr 25 (Operand.tmp 8) 1, some 9, none⟩, ⟨Op.load 3 (Operand.tmp 9), some 10, none⟩, ⟨Op.binOp BinOp.add 3 (Operand.tmp 10) (Operand.const (Value.int IntKind.i64 1)) 3, some 11, none⟩, ⟨Op.nilCheck (Operand.tmp 7), some 12, none⟩, ⟨Op.fieldAddr 25 (Operand.tmp 12) 1, some 13, none⟩, ⟨Op.store 3 (Operand.tmp 13) (Operand.tmp 11), none, none⟩]) (LCode.seq (LCode.seq (LCode.ops [⟨Op.move (Operand.tmp 0), some 14, none⟩, ⟨Op.nilCheck (Operand.tmp 14), some 15, none⟩, ⟨Op.fieldAddr 25 (Operand.tmp 15) 0, some 16, none⟩, ⟨Op.load 22 (Operand.tmp 16), some 17, none⟩, ⟨Op.call { callee := Callee.builtin Builtin.len, args := { toList := [Operand.tmp 17] }, argTypes := { toList := [22] } }, some 18, none⟩, ⟨Op.binOp BinOp.eql 3 (Operand.tmp 18) (Operand.const (Value.int IntKind.i64 0)) 3, some 19, none⟩]) (LCode.cond (Operand.tmp 19) (LCode.seq (LCode.ops [⟨Op.move (Operand.tmp 0), some 20, none⟩, ⟨Op.nilCheck (Operand.tmp 20), some 21, none⟩, ⟨Op.fieldAddr 25 (Operand.tmp 21) 1, some 22, none⟩, ⟨Op.load 3 (Operand.tmp 22), some 23, none⟩, ⟨Op.binOp BinOp.mul 3 (Operand.tmp 23) (Operand.const (Value.int IntKind.i64 7919)) 3, some 24, none⟩, ⟨Op.move (Operand.tmp 1), some 25, none⟩, ⟨Op.call { callee := Callee.value (Operand.func 116), args := { toList := [Operand.tmp 24, Operand.tmp 25] }, argTypes := { toList := [3, 3] } }, some 26, none⟩, ⟨Op.assign (Operand.tmp 26), some 4, none⟩]) LCode.ret) LCode.skip)) (LCode.seq (LCode.draw [0, 1, 3, 7, 15, 0, 32, 96, 224, 480, 1023, 2047] [⟨Op.move (Operand.tmp 0), some 27, none⟩, ⟨Op.nilCheck (Operand.tmp 27), some 28, none⟩, ⟨Op.fieldAddr 25 (Operand.tmp 28) 1, some 29, none⟩, ⟨Op.load 3 (Operand.tmp 29), some 30, none⟩, ⟨Op.binOp BinOp.sub 3 (Operand.tmp 30) (Operand.const (Value.int IntKind.i64 1)) 3, some 31, none⟩, ⟨Op.move (Operand.tmp 0), some 32, none⟩, ⟨Op.nilCheck (Operand.tmp 32), some 33, none⟩, ⟨Op.fieldAddr 25 (Operand.tmp 33) 0, some 34, none⟩, ⟨Op.load 22 (Operand.tmp 34), some 35, none⟩, ⟨Op.call { callee := Callee.builtin Builtin.len, args := { toList := [Operand.tmp 35] }, argTypes := { toList := [22] } }, some 36, none⟩, ⟨Op.binOp BinOp.rem 3 (Operand.tmp 31) (Operand.tmp 36) 3, some 37, none⟩, ⟨Op.assign (Operand.tmp 37), some 5, none⟩]) (LCode.seq (LCode.draw [0, 1, 3, 7, 15, 0, 32, 96, 224, 480, 1023, 2047] [⟨Op.move (Operand.tmp 0), some 38, none⟩, ⟨Op.nilCheck (Operand.tmp 38), some 39, none⟩, ⟨Op.fieldAddr 25 (Operand.tmp 39) 1, some 40, none⟩, ⟨Op.load 3 (Operand.tmp 40), some 41, none⟩, ⟨Op.binOp BinOp.sub 3 (Operand.tmp 41) (Operand.const (Value.int IntKind.i64 1)) 3, some 42, none⟩, ⟨Op.move (Operand.tmp 0), some 43, none⟩, ⟨Op.nilCheck (Operand.tmp 43), some 44, none⟩, ⟨Op.fieldAddr 25 (Operand.tmp 44) 0, some 45, none⟩, ⟨Op.load 22 (Operand.tmp 45), some 46, none⟩, ⟨Op.call { callee := Callee.builtin Builtin.len, args := { toList := [Operand.tmp 46] }, argTypes := { toList := [22] } }, some 47, none⟩, ⟨Op.binOp BinOp.quo 3 (Operand.tmp 42) (Operand.tmp 47) 3, some 48, none⟩, ⟨Op.assign (Operand.tmp 48), some 6, none⟩]) (LCode.seq (LCode.ops [⟨Op.move (Operand.tmp 0), some 49, none⟩, ⟨Op.nilCheck (Operand.tmp 49), some 50, none⟩, ⟨Op.fieldAddr 25 (Operand.tmp 50) 0, some 51, none⟩, ⟨Op.load 22 (Operand.tmp 51), some 52, none⟩, ⟨Op.move (Operand.tmp 5), some 53, none⟩, ⟨Op.indexAddr 22 (Operand.tmp 52) (Operand.tmp 53), some 54, none⟩, ⟨Op.load 3 (Operand.tmp 54), some 55, none⟩, ⟨Op.call { callee := Callee.value (Operand.func 116), args := { toList := [Operand.tmp 55, Operand.const (Value.int IntKind.i64 1073741824)] }, argTypes := { toList := [3, 3] } }, some 56, none⟩, ⟨Op.move (Operand.tmp 6), some 57, none⟩, ⟨Op.move (Operand.tmp 5), some 58, none⟩, ⟨Op.binOp BinOp.add 3 (Operand.const (Value.int IntKind.i64 7919)) (Operand.tmp 58) 3, some 59, none⟩, ⟨Op.binOp BinOp.mul 3 (Operand.tmp 57) (Operand.tmp 59) 3, some 60, none⟩, ⟨Op.binOp BinOp.add 3 (Operand.tmp 56) (Operand.tmp 60) 3, some 61, none⟩, ⟨Op.move (Operand.tmp 1), some 62, none⟩, ⟨Op.call { callee := Callee.value (Operand.func 116), args := { toList := [Operand.tmp 61, Operand.tmp 62] }, argTypes := { toList := [3, 3] } }, some 63, none⟩, ⟨Op.assign (Operand.tmp 63), some 4, none⟩]) LCode.ret)))))
theorem l68 : Try.f68.body.map lighten = some L68 := by kernel_rfl
theorem rs68 : Try.f68.results.toList = [ResultVar.tmp 4] := by kernel_rfl
theorem nt68 : Try.f68.ntmps = 64 := by kernel_rfl
noncomputable def L71 : LCode := LCode.seq (LCode.ops [⟨Op.assign (Operand.const (Value.bool false)), some 6, none⟩]) (LCode.seq (LCode.ops [⟨Op.move (Operand.tmp 1), some 7, none⟩, ⟨Op.move (Operand.tmp 0), some 8, none⟩, ⟨Op.binOp BinOp.leq 3 (Operand.tmp 7) (Operand.tmp 8) 3, some 9, none⟩, ⟨Op.move (Operand.tmp 9), some 10, none⟩, ⟨Op.move (Operand.tmp 0), some 11, some (10, true)⟩, ⟨Op.move (Operand.tmp 2), some 12, some (10, true)⟩, ⟨Op.binOp BinOp.leq 3 (Operand.tmp 11) (Operand.tmp 12) 3, some 13, some (10, true)⟩, ⟨Op.pick (Operand.tmp 10) (Operand.tmp 13) (Operand.const (Value.bool false)), some 14, none⟩, ⟨Op.assign (Operand.tmp 14), some 6, none⟩]) LCode.ret)
theorem l71 : Try.f71.body.map lighten = some L71 := by kernel_rfl
theorem rs71 : Try.f71.results.toList = [ResultVar.tmp 6] := by kernel_rfl
theorem nt71 : Try.f71.ntmps = 15 := by kernel_rfl
theorem go71 {args : List AV} {s : AHeap} {R : AV → AHeap → Prop} (hl : args.length ≤ 15) (h : ∀ tm, tm.length = 15 → (∀ i, aev tm (.tmp i) = args.getD i aundef) → lvc Try.prog tab L71 (lpost tab [ResultVar.tmp 6] R) tm s) : ACall Try.prog 71 args s R := ACall.go tab_ok mixed Try.func71 l71 nm71 rs71 nt71 hl h
noncomputable def L72 : LCode := LCode.seq (LCode.ops [⟨Op.assign (Operand.const (Value.int IntKind.i64 0)), some 4, none⟩]) (LCode.seq (LCode.seq (LCode.ops [⟨Op.move (Operand.tmp 1), some 7, none⟩, ⟨Op.call { callee := Callee.builtin Builtin.len, args := { toList := [Operand.tmp 7] }, argTypes := { toList := [27] } }, some 8, none⟩, ⟨Op.move (Operand.const (Value.int IntKind.i64 0)), some 9, none⟩]) (LCode.block 0 (LCode.loop (LCode.seq (LCode.ops [⟨Op.binOp BinOp.lss 3 (Operand.tmp 9) (Operand.tmp 8) 3, some 10, none⟩]) (LCode.seq (LCode.cond (Operand.tmp 10) LCode.skip (LCode.exit 0)) (LCode.seq (LCode.block 1 (LCode.seq (LCode.ops [⟨Op.indexAddr 27 (Operand.tmp 7) (Operand.tmp 9), some 11, none⟩, ⟨Op.load 35 (Operand.tmp 11), some 12, none⟩, ⟨Op.alloc 35, some 6, none⟩, ⟨Op.store 35 (Operand.tmp 6) (Operand.tmp 12), none, none⟩]) (LCode.ops [⟨Op.move (Operand.tmp 0), some 13, none⟩, ⟨Op.fieldAddr 35 (Operand.tmp 6) 2, some 14, none⟩, ⟨Op.load 9 (Operand.tmp 14), some 15, none⟩, ⟨Op.call { callee := Callee.builtin Builtin.len, args := { toList := [Operand.tmp 15] }, argTypes := { toList := [9] } }, some 16, none⟩, ⟨Op.fieldAddr 35 (Operand.tmp 6) 1, some 17, none⟩, ⟨Op.load 3 (Operand.tmp 17), some 18, none⟩, ⟨Op.binOp BinOp.sub 3 (Operand.tmp 16) (Operand.tmp 18) 3, some 19, none⟩, ⟨Op.binOp BinOp.add 3 (Operand.tmp 13) (Operand.tmp 19) 3, some 20, none⟩, ⟨Op.assign (Operand.tmp 20), some 0, none⟩]))) (LCode.ops [⟨Op.binOp BinOp.add 3 (Operand.tmp 9) (Operand.const (Value.int IntKind.i64 1)) 3, some 21, none⟩, ⟨Op.move (Operand.tmp 21), some 9, none⟩]))))))) (LCode.seq (LCode.ops [⟨Op.move (Operand.tmp 0), some 22, none⟩, ⟨Op.assign (Operand.tmp 22), some 4, none⟩]) LCode.ret))
theorem l72 : Try.f72.body.map lighten = some L72 := by kernel_rfl
theorem rs72 : Try.f72.results.toList = [ResultVar.tmp 4] := by kernel_rfl
theorem nt72 : Try.f72.ntmps = 23 := by kernel_rfl
theorem go72 {args : List AV} {s : AHeap} {R : AV → AHeap → Prop} (hl : args.length ≤ 23) (h : ∀ tm, tm.length = 23 → (∀ i, aev tm (.tmp i) = args.getD i aundef) → lvc Try.prog tab L72 (lpost tab [ResultVar.tmp 4] R) tm s) : ACall Try.prog 72 args s R := ACall.go tab_ok mixed Try.func72 l72 nm72 rs72 nt72 hl h
noncomputable def L74 : LCode := LCode.seq (LCode.ops [⟨Op.alloc 118, some 4, none⟩]) (LCode.seq (LCode.ops [⟨Op.move (Operand.tmp 0), some 11, none⟩, ⟨Op.build 118 { toList := [(0, Operand.tmp 11)] }, some 12, none⟩, ⟨Op.alloc 118, some 5, none⟩, ⟨Op.store 118 (Operand.tmp 5) (Operand.tmp 12), none, none⟩]) (LCode.seq (LCode.ops [⟨Op.alloc 3, some 6, none⟩, ⟨Op.store 3 (Operand.tmp 6) (Operand.const (Value.int IntKind.i64 0)), none, none⟩]) (LCode.seq (LCode.ops [⟨Op.makeFunc (Fn.func 119) { toList := [] } { toList := [Operand.tmp 6, Operand.tmp 5] }, some 13, none⟩, ⟨Op.assign (Operand.tmp 13), some 7, none⟩]) (LCode.seq (LCode.seq (LCode.ops [⟨Op.move (Operand.tmp 1), some 14, none⟩, ⟨Op.call { callee := Callee.builtin Builtin.len, args := { toList := [Operand.tmp 14] }, argTypes := { toList := [27] } }, some 15, none⟩, ⟨Op.move (Operand.const (Value.int IntKind.i64 0)), some 16, none⟩]) (LCode.block 0 (LCode.loop (LCode.seq (LCode.ops [⟨Op.binOp BinOp.lss 3 (Operand.tmp 16) (Operand.tmp 15) 3, some 17, none⟩]) (LCode.seq (LCode.cond (Operand.tmp 17) LCode.skip (LCode.exit 0)) (LCode.seq (LCode.block 1 (LCode.seq (LCode.ops [⟨Op.indexAddr 27 (Operand.tmp 14) (Operand.tmp 16), some 18, none⟩, ⟨Op.load 35 (Operand.tmp 18), some 19, none⟩, ⟨Op.alloc 35, some 9, none⟩, ⟨Op.store 35 (Operand.tmp 9) (Operand.tmp 19), none, none⟩]) (LCode.seq (LCode.ops [⟨Op.move (Operand.tmp 7), some 20, none⟩, ⟨Op.fieldAddr 35 (Operand.tmp 9) 0, some 21, none⟩, ⟨Op.load 3 (Operand.tmp 21), some 22, none⟩, ⟨Op.call { callee := Callee.value (Operand.tmp 20), args := { toList := [Operand.tmp 22] }, argTypes := { toList := [3] } }, some 23, none⟩]) (LCode.seq (LCode.seq (LCode.ops [⟨Op.fieldAddr 35 (Operand.tmp 9) 2, some 24, none⟩, ⟨Op.load 9 (Operand.tmp 24), some 25, none⟩, ⟨Op.call { callee := Callee.builtin Builtin.len, args := { toList := [Operand.tmp 25] }, argTypes := { toList := [9] } }, some 26, none⟩, ⟨Op.move (Operand.const (Value.int IntKind.i64 0)), some 27, none⟩]) (LCode.block 2 (LCode.loop (LCode.seq (LCode.ops [⟨Op.binOp BinOp.lss 3 (Operand.tmp 27) (Operand.tmp 26) 3, some 28, none⟩]) (LCode.seq (LCode.cond (Operand.tmp 28) LCode.skip (LCode.exit 2)) (LCode.seq (LCode.block 3 (LCode.seq (LCode.ops [⟨Op.move (Operand.tmp 27), some 29, none⟩, ⟨Op.assign (Operand.tmp 29), some 10, none⟩]) (LCode.draw [0, 1, 0, 4, 0, 28, 60, 124, 255, 511, 1023] [⟨Op.fieldAddr 118 (Operand.tmp 5) 1, some 30, none⟩, ⟨Op.load 116 (Operand.tmp 30), some 31, none⟩, ⟨Op.fieldAddr 35 (Operand.tmp 9) 2, some 32, none⟩, ⟨Op.load 9 (Operand.tmp 32), some 33, none⟩, ⟨Op.move (Operand.tmp 10), some 34, none⟩, ⟨Op.index 9 (Operand.tmp 33) (Operand.tmp 34), some 35, none⟩, ⟨Op.build 121 { toList := [(0, Operand.const (Value.int IntKind.i64 (-1))), (1, Operand.tmp 35)] }, some 36, none⟩, ⟨Op.buildSlice 116 1 { toList := [(0, Operand.tmp 36)] }, some 37, none⟩, ⟨Op.call { callee := Callee.builtin Builtin.append, args := { toList := [Operand.tmp 31, Operand.tmp 37] }, argTypes := { toList := [116, 116] } }, some 38, none⟩, ⟨Op.fieldAddr 118 (Operand.tmp 5) 1, some 39, none⟩, ⟨Op.store 116 (Operand.tmp 39) (Operand.tmp 38), none, none⟩]))) (LCode.ops [⟨Op.binOp BinOp.add 3 (Operand.tmp 27) (Operand.const (Value.int IntKind.i64 1)) 3, some 40, none⟩, ⟨Op.move (Operand.tmp 40), some 27, none⟩]))))))) (LCode.ops [⟨Op.fieldAddr 35 (Operand.tmp 9) 0, some 41, none⟩, ⟨Op.load 3 (Operand.tmp 41), some 42, none⟩, ⟨Op.fieldAddr 35 (Operand.tmp 9) 1, some 43, none⟩, ⟨Op.load 3 (Operand.tmp 43), some 44, none⟩, ⟨Op.binOp BinOp.add 3 (Operand.tmp 42) (Operand.tmp 44) 3, some 45, none⟩, ⟨Op.store 3 (Operand.tmp 6) (Operand.tmp 45), none, none⟩]))))) (LCode.ops [⟨Op.binOp BinOp.add 3 (Operand.tmp 16) (Operand.const (Value.int IntKind.i64 1)) 3, some 46, none⟩, ⟨Op.move (Operand.tmp 46), some 16, none⟩]))))))) (LCode.seq (LCode.ops [⟨Op.move (Operand.tmp 7), some 47, none⟩, ⟨Op.move (Operand.tmp 0), some 48, none⟩, ⟨Op.call { callee := Callee.value (Operand.tmp 47), args := { toList := [Operand.tmp 48] }, argTypes := { toList := [3] } }, some 49, none⟩]) (LCode.seq (LCode.ops [⟨Op.load 118 (Operand.tmp 5), some 50, none⟩, ⟨Op.store 118 (Operand.tmp 4) (Operand.tmp 50), none, none⟩]) LCode.ret))))))
theorem l74 : Try.f74.body.map lighten = some L74 := by kernel_rfl
theorem rs74 : Try.f74.results.toList = [ResultVar.cell 4 118] := by kernel_rfl
theorem nt74 : Try.f74.ntmps = 51 := by kernel_rfl
theorem go74 {args : List AV} {s : AHeap} {R : AV → AHeap → Prop} (hl : args.length ≤ 51) (h : ∀ tm, tm.length = 51 → (∀ i, aev tm (.tmp i) = args.getD i aundef) → lvc Try.prog tab L74 (lpost tab [ResultVar.cell 4 118] R) tm s) : ACall Try.prog 74 args s R := ACall.go tab_ok mixed Try.func74 l74 nm74 rs74 nt74 hl h
noncomputable def L80 : LCode := LCode.seq (LCode.ops [⟨Op.assign (Operand.const (Value.bool false)), some 6, none⟩]) (LCode.seq (LCode.ops [⟨Op.move (Operand.tmp 0), some 7, none⟩, ⟨Op.move (Operand.tmp 1), some 8, none⟩, ⟨Op.binOp BinOp.geq 3 (Operand.tmp 7) (Operand.tmp 8) 3, some 9, none⟩, ⟨Op.move (Operand.tmp 9), some 10, none⟩, ⟨Op.move (Operand.tmp 0), some 11, some (10, true)⟩, ⟨Op.move (Operand.tmp 2), some 12, some (10, true)⟩, ⟨Op.binOp BinOp.leq 3 (Operand.tmp 11) (Operand.tmp 12) 3, some 13, some (10, true)⟩, ⟨Op.pick (Operand.tmp 10) (Operand.tmp 13) (Operand.const (Value.bool false)), some 14, none⟩, ⟨Op.assign (Operand.tmp 14), some 6, none⟩]) LCode.ret)
theorem l80 : Try.f80.body.map lighten = some L80 := by kernel_rfl
theorem rs80 : Try.f80.results.toList = [ResultVar.tmp 6] := by kernel_rfl
theorem nt80 : Try.f80.ntmps = 15 := by kernel_rfl
theorem go80 {args : List AV} {s : AHeap} {R : AV → AHeap → Prop} (hl : args.length ≤ 15) (h : ∀ tm, tm.length = 15 → (∀ i, aev tm (.tmp i) = args.getD i aundef) → lvc Try.prog tab L80 (lpost tab [ResultVar.tmp 6] R) tm s) : ACall Try.prog 80 args s R := ACall.go tab_ok mixed Try.func80 l80 nm80 rs80 nt80 hl h
noncomputable def L116 : LCode := LCode.seq (LCode.ops [⟨Op.assign (Operand.const (Value.int IntKind.i64 0)), some 4, none⟩]) (LCode.seq (LCode.seq (LCode.ops [⟨Op.move (Operand.tmp 1), some 5, none⟩, ⟨Op.binOp BinOp.lss 3 (Operand.tmp 5) (Operand.const (Value.int IntKind.i64 1)) 3, some 6, none⟩]) (LCode.cond (Operand.tmp 6) (LCode.seq (LCode.ops [⟨Op.assign (Operand.const (Value.int IntKind.i64 0)), some 4, none⟩]) LCode.ret) LCode.skip)) (LCode.seq (LCode.ops [⟨Op.move (Operand.tmp 0), some 7, none⟩, ⟨Op.move (Operand.tmp 1), some 8, none⟩, ⟨Op.binOp BinOp.rem 3 (Operand.tmp 7) (Operand.tmp 8) 3, some 9, none⟩, ⟨Op.assign (Operand.tmp 9), some 0, none⟩]) (LCode.seq (LCode.seq (LCode.ops [⟨Op.move (Operand.tmp 0), some 10, none⟩, ⟨Op.binOp BinOp.lss 3 (Operand.tmp 10) (Operand.const (Value.int IntKind.i64 0)) 3, some 11, none⟩]) (LCode.cond (Operand.tmp 11) (LCode.ops [⟨Op.move (Operand.tmp 0), some 12, none⟩, ⟨Op.move (Operand.tmp 1), some 13, none⟩, ⟨Op.binOp BinOp.add 3 (Operand.tmp 12) (Operand.tmp 13) 3, some 14, none⟩, ⟨Op.assign (Operand.tmp 14), some 0, none⟩]) LCode.skip)) (LCode.seq (LCode.ops [⟨Op.move (Operand.tmp 0), some 15, none⟩, ⟨Op.assign (Operand.tmp 15), some 4, none⟩]) LCode.ret))))
theorem l116 : Try.f116.body.map lighten = some L116 := by kernel_rfl
theorem rs116 : Try.f116.results.toList = [ResultVar.tmp 4] := by kernel_rfl
theorem nt116 : Try.f116.ntmps = 16 := by kernel_rfl
theorem go116 {args : List AV} {s : AHeap} {R : AV → AHeap → Prop} (hl : args.length ≤ 16) (h : ∀ tm, tm.length = 16 → (∀ i, aev tm (.tmp i) = args.getD i aundef) → lvc Try.prog tab L116 (lpost tab [ResultVar.tmp 4] R) tm s) : ACall Try.prog 116 args s R := ACall.go tab_ok mixed Try.func116 l116 nm116 rs116 nt116 hl h
noncomputable def L119 : LCode := LCode.block 0 (LCode.loop (LCode.seq (LCode.seq (LCode.ops [⟨Op.load 3 (Operand.tmp 1), some 4, none⟩, ⟨Op.move (Operand.tmp 0), some 5, none⟩, ⟨Op.binOp BinOp.lss 3 (Operand.tmp 4) (Operand.tmp 5) 3, some 6, none⟩]) (LCode.cond (Operand.tmp 6) LCode.skip (LCode.exit 0))) (LCode.seq (LCode.block 1 (LCode.ops [⟨Op.fieldAddr 118 (Operand.tmp 2) 1, some 9, none⟩, ⟨Op.load 116 (Operand.tmp 9), some 10, none⟩, ⟨Op.load 3 (Operand.tmp 1), some 11, none⟩, ⟨Op.build 121 { toList := [(0, Operand.tmp 11)] }, some 12, none⟩, ⟨Op.buildSlice 116 1 { toList := [(0, Operand.tmp 12)] }, some 13, none⟩, ⟨Op.call { callee := Callee.builtin Builtin.append, args := { toList := [Operand.tmp 10, Operand.tmp 13] }, argTypes := { toList := [116, 116] } }, some 14, none⟩, ⟨Op.fieldAddr 118 (Operand.tmp 2) 1, some 15, none⟩, ⟨Op.store 116 (Operand.tmp 15) (Operand.tmp 14), none, none⟩])) (LCode.ops [⟨Op.load 3 (Operand.tmp 1), some 7, none⟩, ⟨Op.binOp BinOp.add 3 (Operand.tmp 7) (Operand.const (Value.int IntKind.i64 1)) 3, some 8, none⟩, ⟨Op.store 3 (Operand.tmp 1) (Operand.tmp 8), none, none⟩]))))
theorem l119 : Try.f119.body.map lighten = some L119 := by kernel_rfl
theorem rs119 : Try.f119.results.toList = [] := by kernel_rfl
theorem nt119 : Try.f119.ntmps = 16 := by kernel_rfl
theorem go119 {args : List AV} {s : AHeap} {R : AV → AHeap → Prop} (hl : args.length ≤ 16) (h : ∀ tm, tm.length = 16 → (∀ i, aev tm (.tmp i) = args.getD i aundef) → lvc Try.prog tab L119 (lpost tab [] R) tm s) : ACall Try.prog 119 args s R := ACall.go tab_ok mixed Try.func119 l119 nm119 rs119 nt119 hl h
end Go.S1
end
section
set_option linter.unusedVariables false
set_option linter.unusedSimpArgs false
namespace Go.Proofs
open Go.Shelf
def Try.lays169_ren : Go.Shelf.Ren := ⟨fun | 169 => 76 | n => n, fun | 70 => 112 | 9 => 9 | 0 => 0 | 72 => 115 | 37 => 113 | 127 => 174 | 3 => 3 | 5 => 5 | n => n, fun | n => n⟩
theorem Try.lays169 : Go.Proofs.Lays.n169 Try.prog Try.lays169_ren := {
  mixed := by kernel_rfl
  f169 := Try.func76.trans (congrArg some (by kernel_rfl))
  t0 := Try.underlying0
  a0 := Try.isAgg0
  z0 := Try.sizeOf0
  v0 := Try.zeroValue0
  t3 := Try.underlying3
  a3 := Try.isAgg3
  z3 := Try.sizeOf3
  v3 := Try.zeroValue3
  t9 := Try.underlying9
  a9 := Try.isAgg9
  z9 := Try.sizeOf9
  v9 := Try.zeroValue9
  t37 := Try.underlying113
  a37 := Try.isAgg113
  z37 := Try.sizeOf113
  v37 := Try.zeroValue113
  t70 := Try.underlying112
  a70 := Try.isAgg112
  z70 := Try.sizeOf112
  v70 := Try.zeroValue112
  t72 := Try.underlying115
  a72 := Try.isAgg115
  z72 := Try.sizeOf115
  v72 := Try.zeroValue115
  t127 := Try.underlying174
  a127 := Try.isAgg174
  z127 := Try.sizeOf174
  v127 := Try.zeroValue174 }
theorem Try.Builder_Extra_169 : Builder.Extra Try.prog Try.lays169_ren := {
  sizeBuilder := by kernel_rfl
  liesBuilder := by kernel_rfl
  t5 := Try.underlying5
  a5 := Try.isAgg5
  z5 := Try.sizeOf5
  v5 := Try.zeroValue5
  infoByte := by kernel_rfl
  cellsByte := by kernel_rfl
  sizeByte := by kernel_rfl
  neB5 := by decide }
end Go.Proofs
namespace Go.S1
open Go Go.Am Go.Proofs
set_option maxHeartbeats 1000000 in
set_option maxRecDepth 100000 in
theorem cc_used (b : Nat) (w : World) (h0 : w.cell? ⟨b, 0, none⟩ = some (.pointer (some ⟨b, 0, none⟩))) :
    Calls Try.prog 120 #[.pointer (some ⟨b, 0, none⟩)] w fun e w' => e = .returned (.tuple #[]) ∧ w' = w := by
  have hsz : (Try.prog.info? 115).map (·.size) = some 2 := by kernel_rfl
  obtain ⟨j, hj, hjs⟩ := Option.map_eq_some_iff.1 hsz
  have mixed : Try.prog.follows .mixedOrders = true := by kernel_rfl
  go_enter Try.func120, Try.ntmps120
  go_wp2
  rw [Lib.run_neq_ptr_same w _ Try.underlying112 hj]
  go_wp2
  go_end0
  exact ⟨rfl, rfl⟩
set_option maxHeartbeats 1000000 in
set_option maxRecDepth 100000 in
theorem cc_fresh (b n : Nat) (w : World) (h0 : w.cell? ⟨b, 0, none⟩ = some (.pointer none)) (hsh : w.shape? b = some (115, n)) (hn : 2 ≤ n) (hfz : w.frozen? ⟨b, 0, none⟩ = false) :
    Calls Try.prog 120 #[.pointer (some ⟨b, 0, none⟩)] w fun e w' => e = .returned (.tuple #[]) ∧ w' = w.setCell ⟨b, 0, none⟩ (.pointer (some ⟨b, 0, none⟩)) := by
  have hsz : (Try.prog.info? 115).map (·.size) = some 2 := by kernel_rfl
  obtain ⟨j, hj, hjs⟩ := Option.map_eq_some_iff.1 hsz
  have hc : Try.prog.cellsOf 115 = 2 := by kernel_rfl
  have hlies := lies_self (P := Try.prog) hc (n / Try.prog.cellsOf 115) (by rw [hc]; omega)
  have mixed : Try.prog.follows .mixedOrders = true := by kernel_rfl
  go_enter Try.func120, Try.ntmps120
  go_wp2
  rw [Lib.run_to_unsafe w ⟨b, 0, none⟩ Try.underlying112 Try.underlying208 hj (by rw [hjs]; decide) hsh (by show 0 < n; omega)]
  simp only [Result.andThen]
  rw [Oper.upon_value]
  go_wp2
  rw [run_callFunc_extern Try.func150 (by kernel_rfl) (by kernel_rfl) (by kernel_rfl) (e := Extern.AbiNoEscape.same) (by kernel_rfl)]
  rw [Lib.run_noEscape]
  simp only [Result.andThen]
  rw [Oper.upon_value]
  go_wp2
  rw [Lib.run_from_unsafe w ⟨b, 0, none⟩ Try.underlying208 Try.underlying112 hj hsh hlies]
  simp only [Result.andThen]
  rw [Oper.upon_value]
  go_wp2
  go_end0
  exact ⟨rfl, rfl⟩
theorem ccWalks : CopyCheckWalks Try.prog 120 115 := ⟨enters_of Try.func120 (by kernel_rfl) rfl, cc_fresh, cc_used⟩
noncomputable def ov : Over := fun f => match Nat.beq f 120 with
  | true => some (aCopyCheck 115)
  | false => match Nat.beq f 76 with
    | true => some (aBString 5)
    | false => none
set_option maxRecDepth 100000 in
theorem ov_ok : ov.Ok Try.prog := by
  intro f g args s v s' h1 h2
  unfold ov at h1
  split at h1
  · rename_i e
    cases h1
    have e := Nat.eq_of_beq_eq_true e
    rw [e]
    exact aCopyCheck_ok ccWalks h2
  · split at h1
    · rename_i e
      cases h1
      have e := Nat.eq_of_beq_eq_true e
      rw [e]
      exact aBString_ok (ρ := Try.lays169_ren) Try.lays169 Try.Builder_Extra_169 h2
    · cases h1
end Go.S1
end
section
set_option linter.unusedVariables false
set_option linter.unusedSimpArgs false
namespace Go.S1
open Go Go.Am Go.Proofs
set_option maxRecDepth 100000
set_option linter.unusedSimpArgs false
structure Ed where
  at_ : Int
  cut : Int
  new : List UInt8
def Ed.enc (e : Ed) : AV := .agg [.int .i64 e.at_, .int .i64 e.cut, .str e.new]
def SlE (v : AV) (l : List Ed) : Prop := (∃ f, v = .vs 3 f (l.map Ed.enc)) ∨ (v = .nils ∧ l = [])
theorem SlE.len {v : AV} {l : List Ed} (h : SlE v l) : alen tab 27 v = some (.int .i64 l.length) := by
  rcases h with ⟨f, rfl⟩ | ⟨rfl, rfl⟩ <;> simp [alen, ty27]
theorem SlE.at {v : AV} {l : List Ed} (h : SlE v l) {i : Nat} {e : Ed} (he : l[i]? = some e) : aindexAddr tab 27 v (.int .i64 i) = some (.rptr [.int .i64 e.at_, .int .i64 e.cut, .str e.new]) := by
  rcases h with ⟨f, rfl⟩ | ⟨rfl, rfl⟩
  · simp [aindexAddr, ty27, Tab.size, ty35, he, Ed.enc, AV.israw, AV.cells]
  · simp at he
def Sub (s t : AHeap) : Prop := s.nx ≤ t.nx ∧ ∀ b o, b < s.nx → s.get b = some o → t.get b = some o
theorem Sub.refl (s : AHeap) : Sub s s := ⟨Nat.le_refl _, fun _ _ _ h => h⟩
theorem Sub.trans {s t u : AHeap} (h : Sub s t) (h' : Sub t u) : Sub s u := ⟨Nat.le_trans h.1 h'.1, fun b o hb e => h'.2 b o (Nat.lt_of_lt_of_le hb h.1) (h.2 b o hb e)⟩
theorem Sub.new {s t : AHeap} (h : Sub s t) (o : AObj) : Sub s (t.new o) := ⟨by rw [AHeap.nx_new]; have := h.1; omega, fun b o' hb e => by
  rw [AHeap.get_new, if_neg (by have := h.1; omega)]; exact h.2 b o' hb e⟩
theorem Sub.upd {s t : AHeap} (h : Sub s t) {b : Nat} (hb : s.nx ≤ b) (o : AObj) : Sub s (t.upd b o) := ⟨by rw [AHeap.nx_upd]; exact h.1, fun b' o' hb' e => by
  rw [AHeap.get_upd, if_neg (by omega)]; exact h.2 b' o' hb' e⟩
theorem Sub.del {s t : AHeap} (h : Sub s t) {b : Nat} (hb : s.nx ≤ b) : Sub s (t.del b) := ⟨by rw [AHeap.nx_del]; exact h.1, fun b' o' hb' e => by
  rw [AHeap.get_del, if_neg (by omega)]; exact h.2 b' o' hb' e⟩
end Go.S1
end
section
set_option linter.unusedVariables false
set_option linter.unusedSimpArgs false
namespace Go.S1
open Go Go.Am Go.Proofs
set_option maxRecDepth 100000
set_option linter.unusedSimpArgs false
attribute [local go_sem] lvc_seq lvc_draw lvc_ops lvc_skip lvc_block lvc_exit lops_nil lops_cons lops_guard lstep_move lstep_assign lstep_binOp lstep_unOp lstep_pick lstep_nilCheck lstep_build lstep_slice lstep_fieldAddr lstep_indexAddr lstep_index lstep_extract lstep_makeFunc lstep_load lstep_store lstep_makeSlice lstep_buildSlice lstep_len lstep_append lstep_call lfun_func athen_normal athen_ret athen_exit ablock_normal ablock_ret ablock_exit ablock_exit_ne lvc_ret lvc_cond lvc_loop length_aput aput_none aev_same aev_ne aev_bool aev_int aev_str aev_nilIface aev_nilp aev_nils aev_nilm aev_func List.getD_cons_zero List.getD_cons_succ List.map_cons List.map_nil Option.map_some Option.map_none List.nil_append List.append_nil abin_add abin_sub abin_mul abin_eql abin_neq abin_lss abin_leq abin_gtr abin_geq abin_seql abin_sneq lval_some lmem_some bool?_bool ne_eq not_false_eq_true lpost_normal0 lpost_ret1 lpost_cell1 lcond_true lcond_false lcond_decide lcond_not lguard_decide_true lguard_decide_false lguard_true_true lguard_true_false lguard_false_false lguard_false_true apick_true apick_false decide_true decide_false lstep_min amin2_int amax2_int aun_not_decide aun_not_true aun_not_false aun_neg not_true_eq_false Classical.not_not al3 al9 al27 al35 al118 al121 ld3 st3 ld4 ld5 ld9 st9 len9 ld22 len22r fa25_0p fa25_1p ld27 st27 len27n ld31 fa35_0p fa35_0r fa35_1p fa35_1r fa35_2p fa35_2r ld35 st35 len63r len107r ld116 st116 fa118_0p fa118_1p ld118 st118 fa121_0p fa121_1p ld121 st121 acellsAt_r acellsAt_p astoreAt_p cells?_some Option.bind_some AV.ofV AV.ofOne AV.israw AV.cells splice AHeap.get_new AHeap.get_upd AHeap.nx_new AHeap.nx_upd List.drop_zero List.drop_succ_cons List.take_succ_cons List.take_zero List.length_cons List.length_nil List.all_cons List.all_nil AV.one List.set_cons_zero List.set_cons_succ List.getElem?_cons_zero List.getElem?_cons_succ Nat.zero_add Nat.add_zero Bool.and_true and_self and_true true_and if_true if_false ite_true ite_false Bool.false_eq_true Bool.true_eq_false List.toList_toArray Nat.le_refl List.drop_nil List.take_nil get_bump nx_bump
def longOf (n : Int) (l : List Ed) : Int := l.foldl (fun n e => IntKind.i64.wrap (n + IntKind.i64.wrap (e.new.length - e.cut))) n
theorem long_ok (n : Int) (v : AV) (l : List Ed) (hv : SlE v l) (hl : l.length < 4611686018427387904) (s : AHeap) : ACall Try.prog 72 [.int .i64 n, v] s fun r t => r = .int .i64 (longOf n l) ∧ Sub s t := by
  refine go72 (by simp) ?_
  intro tm hlen harg
  simp +contextual only [L72, hlen, harg, hv.len, go_sem, Nat.reduceLT, Nat.reduceEqDiff, Nat.reduceAdd, Nat.reduceLeDiff, reduceIte, reduceCtorEq]
  refine ⟨fun k tm' s' => ∃ i : Nat, k + i = l.length ∧ tm'.length = 23 ∧ aev tm' (.tmp 0) = .int .i64 (longOf n (l.take i)) ∧ aev tm' (.tmp 7) = v ∧ aev tm' (.tmp 8) = .int .i64 l.length ∧ aev tm' (.tmp 9) = .int .i64 i ∧ Sub s s', l.length, ⟨0, by simp, ?_⟩, ?_⟩
  · simp [length_aput, hlen, aev_same, aev_ne, harg, longOf, Sub.refl]
  · rintro k tm1 s1 ⟨i, hk, hlen1, h0, h7, h8, h9, hs⟩
    simp +contextual only [hlen1, h0, h7, h8, h9, go_sem, Nat.reduceLT, Nat.reduceEqDiff, Nat.reduceAdd, Nat.reduceLeDiff, reduceIte, reduceCtorEq]
    refine ⟨fun hlt => ?_, fun hge => ?_⟩
    · have hi : i < l.length := by omega
      have he := List.getElem?_eq_getElem hi
      simp +contextual only [hlen1, h0, h7, h8, h9, hv.at he, go_sem, Nat.reduceLT, Nat.reduceEqDiff, Nat.reduceAdd, Nat.reduceLeDiff, reduceIte, reduceCtorEq]
      have hw : IntKind.i64.wrap ((i : Int) + 1) = ((i + 1 : Nat) : Int) := by rw [wrap_id (by omega)]; rfl
      refine ⟨k - 1, by omega, i + 1, by omega, ?_, by rw [hw], (hs.new _).upd hs.1 _⟩
      rw [List.take_succ_eq_append_getElem hi]
      simp only [longOf, List.foldl_append, List.foldl_cons, List.foldl_nil]
    · have hi : i = l.length := by omega
      subst hi
      rw [List.take_length]
      exact ⟨rfl, hs⟩
end Go.S1
end
section
set_option linter.unusedVariables false
set_option linter.unusedSimpArgs false
namespace Go.S1
open Go Go.Am Go.Proofs
set_option maxRecDepth 100000
set_option linter.unusedSimpArgs false
attribute [local go_sem] lvc_seq lvc_draw lvc_ops lvc_skip lvc_block lvc_exit lops_nil lops_cons lops_guard lstep_move lstep_assign lstep_binOp lstep_unOp lstep_pick lstep_nilCheck lstep_build lstep_slice lstep_fieldAddr lstep_indexAddr lstep_index lstep_extract lstep_makeFunc lstep_load lstep_store lstep_makeSlice lstep_buildSlice lstep_len lstep_append lstep_call lfun_func athen_normal athen_ret athen_exit ablock_normal ablock_ret ablock_exit ablock_exit_ne lvc_ret lvc_cond lvc_loop length_aput aput_none aev_same aev_ne aev_bool aev_int aev_str aev_nilIface aev_nilp aev_nils aev_nilm aev_func List.getD_cons_zero List.getD_cons_succ List.map_cons List.map_nil Option.map_some Option.map_none List.nil_append List.append_nil abin_add abin_sub abin_mul abin_eql abin_neq abin_lss abin_leq abin_gtr abin_geq abin_seql abin_sneq lval_some lmem_some bool?_bool ne_eq not_false_eq_true lpost_normal0 lpost_ret1 lpost_cell1 lcond_true lcond_false lcond_decide lcond_not lguard_decide_true lguard_decide_false lguard_true_true lguard_true_false lguard_false_false lguard_false_true apick_true apick_false decide_true decide_false lstep_min amin2_int amax2_int aun_not_decide aun_not_true aun_not_false aun_neg not_true_eq_false Classical.not_not al3 al9 al27 al35 al118 al121 ld3 st3 ld4 ld5 ld9 st9 len9 ld22 len22r fa25_0p fa25_1p ld27 st27 len27n ld31 fa35_0p fa35_0r fa35_1p fa35_1r fa35_2p fa35_2r ld35 st35 len63r len107r ld116 st116 fa118_0p fa118_1p ld118 st118 fa121_0p fa121_1p ld121 st121 acellsAt_r acellsAt_p astoreAt_p cells?_some Option.bind_some AV.ofV AV.ofOne AV.israw AV.cells splice AHeap.get_new AHeap.get_upd AHeap.nx_new AHeap.nx_upd List.drop_zero List.drop_succ_cons List.take_succ_cons List.take_zero List.length_cons List.length_nil List.all_cons List.all_nil AV.one List.set_cons_zero List.set_cons_succ List.getElem?_cons_zero List.getElem?_cons_succ Nat.zero_add Nat.add_zero Bool.and_true and_self and_true true_and if_true if_false ite_true ite_false Bool.false_eq_true Bool.true_eq_false List.toList_toArray Nat.le_refl List.drop_nil List.take_nil get_bump nx_bump
theorem in_ok (n lo hi : Int) (s : AHeap) : ACall Try.prog 80 [.int .i64 n, .int .i64 lo, .int .i64 hi] s fun v t => v = .bool (decide (lo ≤ n ∧ n ≤ hi)) ∧ t = s := by
  refine go80 (by simp) ?_
  intro tm hlen harg
  simp +contextual only [L80, hlen, harg, go_sem, Nat.reduceLT, Nat.reduceEqDiff, Nat.reduceAdd, Nat.reduceLeDiff, reduceIte, reduceCtorEq]
  refine ⟨fun h => by simp [h], fun h => by simp [h]⟩
theorem refin_ok (n lo hi : Int) (s : AHeap) : ACall Try.prog 71 [.int .i64 n, .int .i64 lo, .int .i64 hi] s fun v t => v = .bool (decide (lo ≤ n ∧ n ≤ hi)) ∧ t = s := by
  refine go71 (by simp) ?_
  intro tm hlen harg
  simp +contextual only [L71, hlen, harg, go_sem, Nat.reduceLT, Nat.reduceEqDiff, Nat.reduceAdd, Nat.reduceLeDiff, reduceIte, reduceCtorEq]
  refine ⟨fun h => by simp [h], fun h => by simp [h]⟩
def scan (n : Int) : Int → List Ed → Int
  | _, [] => 0
  | behind, e :: r =>
    if ¬ (0 ≤ e.at_ ∧ e.at_ ≤ n) then 1
    else if ¬ (0 ≤ e.cut ∧ e.cut ≤ n - e.at_) then 1
    else if e.cut = 0 ∧ e.new = [] then 3
    else if e.at_ ≤ behind then 7
    else scan n (e.at_ + e.cut) r
def faultOf (n : Int) (l : List Ed) : Int :=
  if ¬ (0 ≤ n ∧ n ≤ 20000) then 1
  else if 2000 < l.length then 2
  else if scan n (-1) l ≠ 0 then scan n (-1) l
  else if 20000 < longOf n l then 2
  else 0
theorem faultOf_scan {n : Int} {l : List Ed} {f : Int} (hn : 0 ≤ n ∧ n ≤ 20000) (h2 : ¬ 2000 < (l.length : Int)) (h : scan n (-1) l = f) (hf : f ≠ 0) : faultOf n l = f := by
  rw [faultOf, if_neg (Classical.not_not.2 hn), if_neg (by omega), if_pos (by rw [h]; exact hf), h]
theorem faultOf_end {n : Int} {l : List Ed} (hn : 0 ≤ n ∧ n ≤ 20000) (h2 : ¬ 2000 < (l.length : Int)) (h : scan n (-1) l = 0) : faultOf n l = if 20000 < longOf n l then 2 else 0 := by
  rw [faultOf, if_neg (Classical.not_not.2 hn), if_neg (by omega), if_neg (by rw [h]; simp)]
theorem check_ok (n : Int) (v : AV) (l : List Ed) (hv : SlE v l) (hl : l.length < 4611686018427387904) (s : AHeap) : ACall Try.prog 31 [.int .i64 n, v] s fun r t => r = .int .i64 (faultOf n l) ∧ Sub s t := by
  refine go31 (by simp) ?_
  intro tm hlen harg
  simp +contextual only [L31, hlen, harg, go_sem, Nat.reduceLT, Nat.reduceEqDiff, Nat.reduceAdd, Nat.reduceLeDiff, reduceIte, reduceCtorEq]
  refine lcall_eq (in_ok _ _ _ _) ?_
  simp +contextual only [hlen, harg, hv.len, go_sem, Nat.reduceLT, Nat.reduceEqDiff, Nat.reduceAdd, Nat.reduceLeDiff, reduceIte, reduceCtorEq]
  refine ⟨fun hn => ?_, fun hn => ⟨fun h2 => ?_, fun h2 => ?_⟩⟩
  · exact ⟨by simp only [faultOf, if_pos hn], .refl s⟩
  · exact ⟨by rw [faultOf, if_neg (Classical.not_not.2 hn), if_pos (by omega)], .refl s⟩
  · refine ⟨fun k tm' s' => ∃ (i : Nat) (B : Int), k + i = l.length ∧ tm'.length = 62 ∧ aev tm' (.tmp 0) = .int .i64 n ∧ aev tm' (.tmp 1) = v ∧ aev tm' (.tmp 5) = .int .i64 B ∧ -1 ≤ B ∧ B ≤ n ∧ aev tm' (.tmp 16) = v ∧
        aev tm' (.tmp 17) = .int .i64 l.length ∧ aev tm' (.tmp 18) = .int .i64 i ∧ scan n (-1) l = scan n B (l.drop i) ∧ Sub s s', l.length, ⟨0, -1, by simp, ?_⟩, ?_⟩
    · simp [length_aput, hlen, aev_same, aev_ne, harg, Sub.refl]
      omega
    · rintro k tm1 s1 ⟨i, B, hk, hlen1, q0, q1, q5, hB0, hB1, q16, q17, q18, hsc, hs⟩
      simp +contextual only [hlen1, q0, q1, q5, q16, q17, q18, go_sem, Nat.reduceLT, Nat.reduceEqDiff, Nat.reduceAdd, Nat.reduceLeDiff, reduceIte, reduceCtorEq]
      refine ⟨fun hlt => ?_, fun hge => ?_⟩
      · have hi : i < l.length := by omega
        have he := List.getElem?_eq_getElem hi
        have hdrop := List.drop_eq_getElem_cons hi
        generalize l[i] = e at he hdrop
        have hS := (hs.new (.cells [.int .i64 0, .int .i64 0, .str []] (some 35))).upd hs.1 (.cells [.int .i64 e.at_, .int .i64 e.cut, .str e.new] (some 35))
        simp +contextual only [hlen1, q0, q1, q5, q16, q17, q18, hv.at he, go_sem, Nat.reduceLT, Nat.reduceEqDiff, Nat.reduceAdd, Nat.reduceLeDiff, reduceIte, reduceCtorEq]
        refine lcall_eq (in_ok _ _ _ _) ?_
        simp +contextual only [hlen1, q0, q1, q5, q16, q17, q18, go_sem, Nat.reduceLT, Nat.reduceEqDiff, Nat.reduceAdd, Nat.reduceLeDiff, reduceIte, reduceCtorEq]
        have hw1 : IntKind.i64.wrap ((i : Int) + 1) = ((i + 1 : Nat) : Int) := by rw [wrap_id (by omega)]; rfl
        rw [hdrop] at hsc
        refine ⟨fun c1 => ⟨?_, hS⟩, fun c1 => ?_⟩
        · rw [faultOf_scan hn h2 (by rw [hsc, scan, if_pos c1]) (by decide)]
        · have hw2 : IntKind.i64.wrap (n - e.at_) = n - e.at_ := wrap_id (by omega)
          simp only [hw2]
          refine lcall_eq (in_ok _ _ _ _) ?_
          simp +contextual only [hlen1, q0, q1, q5, q16, q17, q18, go_sem, Nat.reduceLT, Nat.reduceEqDiff, Nat.reduceAdd, Nat.reduceLeDiff, reduceIte, reduceCtorEq]
          have hSS : ∀ o o', Sub s ((s1.new o).upd s1.nx o') := fun o o' => (hs.new o).upd hs.1 o'
          have c1' := Classical.not_not.2 c1
          have fin : ∀ B', B' = e.at_ + e.cut → (0 ≤ e.cut ∧ e.cut ≤ n - e.at_) → ¬ (e.cut = 0 ∧ e.new = []) → ¬ e.at_ ≤ B → scan n (-1) l = scan n B' (l.drop (i + 1)) := by
            rintro B' rfl c2 c3 c4
            rw [hsc, scan, if_neg c1', if_neg (Classical.not_not.2 c2), if_neg c3, if_neg c4]
          refine ⟨fun c2 => ⟨?_, hSS _ _⟩, fun c2 => ⟨fun c3 => ⟨fun c4 => ⟨?_, hSS _ _⟩, fun c4 => ⟨fun c5 => ⟨?_, hSS _ _⟩, fun c5 => ?_⟩⟩, fun c3 => ⟨fun c5 => ⟨?_, hSS _ _⟩, fun c5 => ?_⟩⟩⟩
          · rw [faultOf_scan hn h2 (by rw [hsc, scan, if_neg c1', if_pos c2]) (by decide)]
          · rw [faultOf_scan hn h2 (by rw [hsc, scan, if_neg c1', if_neg (Classical.not_not.2 c2), if_pos ⟨c3, c4⟩]) (by decide)]
          · rw [faultOf_scan hn h2 (by rw [hsc, scan, if_neg c1', if_neg (Classical.not_not.2 c2), if_neg (fun q => c4 q.2), if_pos c5]) (by decide)]
          · refine ⟨k - 1, by omega, i + 1, e.at_, by omega, by rw [wrap_id (by omega), Int.add_zero], by omega, by omega, by rw [hw1], ?_, hSS _ _⟩
            exact fin e.at_ (by omega) c2 (fun q => c4 q.2) c5
          · rw [faultOf_scan hn h2 (by rw [hsc, scan, if_neg c1', if_neg (Classical.not_not.2 c2), if_neg (fun q => c3 q.1), if_pos c5]) (by decide)]
          · refine ⟨k - 1, by omega, i + 1, e.at_ + e.cut, by omega, by rw [wrap_id (by omega)], by omega, by omega, by rw [hw1], ?_, hSS _ _⟩
            exact fin _ rfl c2 (fun q => c3 q.1) c5
      · have hi : i = l.length := by omega
        have hz : scan n (-1) l = 0 := by rw [hsc, hi, List.drop_length]; rfl
        refine lcall_of (long_ok n v l hv hl s1) ?_
        rintro _ t ⟨rfl, ht⟩
        simp +contextual only [hlen1, q0, q1, q5, q16, q17, q18, go_sem, Nat.reduceLT, Nat.reduceEqDiff, Nat.reduceAdd, Nat.reduceLeDiff, reduceIte, reduceCtorEq]
        rw [faultOf_end hn h2 hz]
        refine ⟨fun c => ⟨by rw [if_pos c], hs.trans ht⟩, fun c => ⟨by rw [if_neg c], hs.trans ht⟩⟩
end Go.S1
end
section
set_option linter.unusedVariables false
set_option linter.unusedSimpArgs false
namespace Go.S1
open Go Go.Am Go.Proofs
set_option maxRecDepth 100000
set_option linter.unusedSimpArgs false
attribute [local go_sem] lvc_seq lvc_draw lvc_ops lvc_skip lvc_block lvc_exit lops_nil lops_cons lops_guard lstep_move lstep_assign lstep_binOp lstep_unOp lstep_pick lstep_nilCheck lstep_build lstep_slice lstep_fieldAddr lstep_indexAddr lstep_index lstep_extract lstep_makeFunc lstep_load lstep_store lstep_makeSlice lstep_buildSlice lstep_len lstep_append lstep_call lfun_func athen_normal athen_ret athen_exit ablock_normal ablock_ret ablock_exit ablock_exit_ne lvc_ret lvc_cond lvc_loop length_aput aput_none aev_same aev_ne aev_bool aev_int aev_str aev_nilIface aev_nilp aev_nils aev_nilm aev_func List.getD_cons_zero List.getD_cons_succ List.map_cons List.map_nil Option.map_some Option.map_none List.nil_append List.append_nil abin_add abin_sub abin_mul abin_eql abin_neq abin_lss abin_leq abin_gtr abin_geq abin_seql abin_sneq lval_some lmem_some bool?_bool ne_eq not_false_eq_true lpost_normal0 lpost_ret1 lpost_cell1 lcond_true lcond_false lcond_decide lcond_not lguard_decide_true lguard_decide_false lguard_true_true lguard_true_false lguard_false_false lguard_false_true apick_true apick_false decide_true decide_false lstep_min amin2_int amax2_int aun_not_decide aun_not_true aun_not_false aun_neg not_true_eq_false Classical.not_not al3 al9 al27 al35 al118 al121 ld3 st3 ld4 ld5 ld9 st9 len9 ld22 len22r fa25_0p fa25_1p ld27 st27 len27n ld31 fa35_0p fa35_0r fa35_1p fa35_1r fa35_2p fa35_2r ld35 st35 len63r len107r ld116 st116 fa118_0p fa118_1p ld118 st118 fa121_0p fa121_1p ld121 st121 acellsAt_r acellsAt_p astoreAt_p cells?_some Option.bind_some AV.ofV AV.ofOne AV.israw AV.cells splice AHeap.get_new AHeap.get_upd AHeap.nx_new AHeap.nx_upd List.drop_zero List.drop_succ_cons List.take_succ_cons List.take_zero List.length_cons List.length_nil List.all_cons List.all_nil AV.one List.set_cons_zero List.set_cons_succ List.getElem?_cons_zero List.getElem?_cons_succ Nat.zero_add Nat.add_zero Bool.and_true and_self and_true true_and if_true if_false ite_true ite_false Bool.false_eq_true Bool.true_eq_false List.toList_toArray Nat.le_refl List.drop_nil List.take_nil get_bump nx_bump
theorem fault_ok (n : Int) (v : AV) (l : List Ed) (hv : SlE v l) (hl : l.length < 4611686018427387904) (s : AHeap) : ACall Try.prog 14 [.int .i64 n, v] s fun r t => r = .int .i64 (faultOf n l) ∧ Sub s t := by
  refine go14 (by simp) ?_
  intro tm hlen harg
  simp +contextual only [L14, hlen, harg, go_sem, Nat.reduceLT, Nat.reduceEqDiff, Nat.reduceAdd, Nat.reduceLeDiff, reduceIte, reduceCtorEq]
  refine lcall_eq (refin_ok _ _ _ _) ?_
  simp +contextual only [hlen, harg, hv.len, go_sem, Nat.reduceLT, Nat.reduceEqDiff, Nat.reduceAdd, Nat.reduceLeDiff, reduceIte, reduceCtorEq]
  refine ⟨fun hn => ?_, fun hn => ⟨fun h2 => ?_, fun h2 => ?_⟩⟩
  · exact ⟨by simp only [faultOf, if_pos hn], .refl s⟩
  · exact ⟨by rw [faultOf, if_neg (Classical.not_not.2 hn), if_pos (by omega)], .refl s⟩
  · refine ⟨fun k tm' s' => ∃ (i : Nat) (B : Int), k + i = l.length ∧ tm'.length = 70 ∧ aev tm' (.tmp 0) = .int .i64 n ∧ aev tm' (.tmp 1) = v ∧ aev tm' (.tmp 5) = .int .i64 B ∧ -1 ≤ B ∧ B ≤ n ∧ aev tm' (.tmp 6) = .int .i64 (longOf n (l.take i)) ∧ aev tm' (.tmp 18) = v ∧
        aev tm' (.tmp 19) = .int .i64 l.length ∧ aev tm' (.tmp 20) = .int .i64 i ∧ scan n (-1) l = scan n B (l.drop i) ∧ Sub s s', l.length, ⟨0, -1, by simp, ?_⟩, ?_⟩
    · simp [length_aput, hlen, aev_same, aev_ne, harg, Sub.refl, longOf]
      omega
    · rintro k tm1 s1 ⟨i, B, hk, hlen1, q0, q1, q5, hB0, hB1, q6, q16, q17, q18, hsc, hs⟩
      simp +contextual only [hlen1, q0, q1, q5, q6, q16, q17, q18, go_sem, Nat.reduceLT, Nat.reduceEqDiff, Nat.reduceAdd, Nat.reduceLeDiff, reduceIte, reduceCtorEq]
      refine ⟨fun hlt => ?_, fun hge => ?_⟩
      · have hi : i < l.length := by omega
        have he := List.getElem?_eq_getElem hi
        have hdrop := List.drop_eq_getElem_cons hi
        obtain ⟨e, hei⟩ : ∃ e, l[i] = e := ⟨_, rfl⟩
        rw [hei] at he hdrop
        have hS := (hs.new (.cells [.int .i64 0, .int .i64 0, .str []] (some 35))).upd hs.1 (.cells [.int .i64 e.at_, .int .i64 e.cut, .str e.new] (some 35))
        simp +contextual only [hlen1, q0, q1, q5, q6, q16, q17, q18, hv.at he, go_sem, Nat.reduceLT, Nat.reduceEqDiff, Nat.reduceAdd, Nat.reduceLeDiff, reduceIte, reduceCtorEq]
        refine lcall_eq (refin_ok _ _ _ _) ?_
        simp +contextual only [hlen1, q0, q1, q5, q6, q16, q17, q18, go_sem, Nat.reduceLT, Nat.reduceEqDiff, Nat.reduceAdd, Nat.reduceLeDiff, reduceIte, reduceCtorEq]
        have hw1 : IntKind.i64.wrap ((i : Int) + 1) = ((i + 1 : Nat) : Int) := by rw [wrap_id (by omega)]; rfl
        rw [hdrop] at hsc
        refine ⟨fun c1 => ⟨?_, hS⟩, fun c1 => ?_⟩
        · rw [faultOf_scan hn h2 (by rw [hsc, scan, if_pos c1]) (by decide)]
        · have hw2 : IntKind.i64.wrap (n - e.at_) = n - e.at_ := wrap_id (by omega)
          simp only [hw2]
          refine lcall_eq (refin_ok _ _ _ _) ?_
          simp +contextual only [hlen1, q0, q1, q5, q6, q16, q17, q18, go_sem, Nat.reduceLT, Nat.reduceEqDiff, Nat.reduceAdd, Nat.reduceLeDiff, reduceIte, reduceCtorEq]
          have hSS : ∀ o o', Sub s ((s1.new o).upd s1.nx o') := fun o o' => (hs.new o).upd hs.1 o'
          have c1' := Classical.not_not.2 c1
          have fin : ∀ B', B' = e.at_ + e.cut → (0 ≤ e.cut ∧ e.cut ≤ n - e.at_) → ¬ (e.cut = 0 ∧ e.new = []) → ¬ e.at_ ≤ B → scan n (-1) l = scan n B' (l.drop (i + 1)) := by
            rintro B' rfl c2 c3 c4
            rw [hsc, scan, if_neg c1', if_neg (Classical.not_not.2 c2), if_neg c3, if_neg c4]
          refine ⟨fun c2 => ⟨?_, hSS _ _⟩, fun c2 => ⟨fun c3 => ⟨fun c4 => ⟨?_, hSS _ _⟩, fun c4 => ⟨fun c5 => ⟨?_, hSS _ _⟩, fun c5 => ?_⟩⟩, fun c3 => ⟨fun c5 => ⟨?_, hSS _ _⟩, fun c5 => ?_⟩⟩⟩
          · rw [faultOf_scan hn h2 (by rw [hsc, scan, if_neg c1', if_pos c2]) (by decide)]
          · rw [faultOf_scan hn h2 (by rw [hsc, scan, if_neg c1', if_neg (Classical.not_not.2 c2), if_pos ⟨c3, c4⟩]) (by decide)]
          · rw [faultOf_scan hn h2 (by rw [hsc, scan, if_neg c1', if_neg (Classical.not_not.2 c2), if_neg (fun q => c4 q.2), if_pos c5]) (by decide)]
          · refine ⟨k - 1, by omega, i + 1, e.at_, by omega, by rw [wrap_id (by omega), Int.add_zero], by omega, by omega, ?_, by rw [hw1], ?_, hSS _ _⟩
            · rw [List.take_succ_eq_append_getElem hi]
              simp only [longOf, List.foldl_append, List.foldl_cons, List.foldl_nil, hei, c3]
            exact fin e.at_ (by omega) c2 (fun q => c4 q.2) c5
          · rw [faultOf_scan hn h2 (by rw [hsc, scan, if_neg c1', if_neg (Classical.not_not.2 c2), if_neg (fun q => c3 q.1), if_pos c5]) (by decide)]
          · refine ⟨k - 1, by omega, i + 1, e.at_ + e.cut, by omega, by rw [wrap_id (by omega)], by omega, by omega, ?_, by rw [hw1], ?_, hSS _ _⟩
            · rw [List.take_succ_eq_append_getElem hi]
              simp only [longOf, List.foldl_append, List.foldl_cons, List.foldl_nil, hei]
            exact fin _ rfl c2 (fun q => c3 q.1) c5
      · have hi : i = l.length := by omega
        have hz : scan n (-1) l = 0 := by rw [hsc, hi, List.drop_length]; rfl
        rw [faultOf_end hn h2 hz, hi, List.take_length]
        refine ⟨fun c => ⟨by rw [if_pos c], hs⟩, fun c => ⟨by rw [if_neg c], hs⟩⟩
end Go.S1
end
section
set_option linter.unusedVariables false
set_option linter.unusedSimpArgs false
namespace Go.S1
open Go Go.Am Go.Proofs
set_option maxRecDepth 100000
set_option linter.unusedSimpArgs false
attribute [local go_sem] lvc_seq lvc_draw lvc_ops lvc_skip lvc_block lvc_exit lops_nil lops_cons lops_guard lstep_move lstep_assign lstep_binOp lstep_unOp lstep_pick lstep_nilCheck lstep_build lstep_slice lstep_fieldAddr lstep_indexAddr lstep_index lstep_extract lstep_makeFunc lstep_load lstep_store lstep_makeSlice lstep_buildSlice lstep_len lstep_append lstep_call lfun_func athen_normal athen_ret athen_exit ablock_normal ablock_ret ablock_exit ablock_exit_ne lvc_ret lvc_cond lvc_loop length_aput aput_none aev_same aev_ne aev_bool aev_int aev_str aev_nilIface aev_nilp aev_nils aev_nilm aev_func List.getD_cons_zero List.getD_cons_succ List.map_cons List.map_nil Option.map_some Option.map_none List.nil_append List.append_nil abin_add abin_sub abin_mul abin_eql abin_neq abin_lss abin_leq abin_gtr abin_geq abin_seql abin_sneq lval_some lmem_some bool?_bool ne_eq not_false_eq_true lpost_normal0 lpost_ret1 lpost_cell1 lcond_true lcond_false lcond_decide lcond_not lguard_decide_true lguard_decide_false lguard_true_true lguard_true_false lguard_false_false lguard_false_true apick_true apick_false decide_true decide_false lstep_min amin2_int amax2_int aun_not_decide aun_not_true aun_not_false aun_neg not_true_eq_false Classical.not_not al3 al9 al27 al35 al118 al121 ld3 st3 ld4 ld5 ld9 st9 len9 ld22 len22r fa25_0p fa25_1p ld27 st27 len27n ld31 fa35_0p fa35_0r fa35_1p fa35_1r fa35_2p fa35_2r ld35 st35 len63r len107r ld116 st116 fa118_0p fa118_1p ld118 st118 fa121_0p fa121_1p ld121 st121 acellsAt_r acellsAt_p astoreAt_p cells?_some Option.bind_some AV.ofV AV.ofOne AV.israw AV.cells splice AHeap.get_new AHeap.get_upd AHeap.nx_new AHeap.nx_upd List.drop_zero List.drop_succ_cons List.take_succ_cons List.take_zero List.length_cons List.length_nil List.all_cons List.all_nil AV.one List.set_cons_zero List.set_cons_succ List.getElem?_cons_zero List.getElem?_cons_succ Nat.zero_add Nat.add_zero Bool.and_true and_self and_true true_and if_true if_false ite_true ite_false Bool.false_eq_true Bool.true_eq_false List.toList_toArray Nat.le_refl List.drop_nil List.take_nil get_bump nx_bump
end Go.S1
end
section
set_option linter.unusedVariables false
set_option linter.unusedSimpArgs false
namespace Go.S1
open Go Go.Am Go.Proofs
set_option maxRecDepth 100000
set_option linter.unusedSimpArgs false
attribute [local go_sem] lvc_seq lvc_draw lvc_ops lvc_skip lvc_block lvc_exit lops_nil lops_cons lops_guard lstep_move lstep_assign lstep_binOp lstep_unOp lstep_pick lstep_nilCheck lstep_build lstep_slice lstep_fieldAddr lstep_indexAddr lstep_index lstep_extract lstep_makeFunc lstep_load lstep_store lstep_makeSlice lstep_buildSlice lstep_len lstep_append lstep_call lfun_func athen_normal athen_ret athen_exit ablock_normal ablock_ret ablock_exit ablock_exit_ne lvc_ret lvc_cond lvc_loop length_aput aput_none aev_same aev_ne aev_bool aev_int aev_str aev_nilIface aev_nilp aev_nils aev_nilm aev_func List.getD_cons_zero List.getD_cons_succ List.map_cons List.map_nil Option.map_some Option.map_none List.nil_append List.append_nil abin_add abin_sub abin_mul abin_eql abin_neq abin_lss abin_leq abin_gtr abin_geq abin_seql abin_sneq lval_some lmem_some bool?_bool ne_eq not_false_eq_true lpost_normal0 lpost_ret1 lpost_cell1 lcond_true lcond_false lcond_decide lcond_not lguard_decide_true lguard_decide_false lguard_true_true lguard_true_false lguard_false_false lguard_false_true apick_true apick_false decide_true decide_false lstep_min amin2_int amax2_int aun_not_decide aun_not_true aun_not_false aun_neg not_true_eq_false Classical.not_not al3 al9 al27 al35 al118 al121 ld3 st3 ld4 ld5 ld9 st9 len9 ld22 len22r fa25_0p fa25_1p ld27 st27 len27n ld31 fa35_0p fa35_0r fa35_1p fa35_1r fa35_2p fa35_2r ld35 st35 len63r len107r ld116 st116 fa118_0p fa118_1p ld118 st118 fa121_0p fa121_1p ld121 st121 acellsAt_r acellsAt_p astoreAt_p cells?_some Option.bind_some AV.ofV AV.ofOne AV.israw AV.cells splice AHeap.get_new AHeap.get_upd AHeap.nx_new AHeap.nx_upd List.drop_zero List.drop_succ_cons List.take_succ_cons List.take_zero List.length_cons List.length_nil List.all_cons List.all_nil AV.one List.set_cons_zero List.set_cons_succ List.getElem?_cons_zero List.getElem?_cons_succ Nat.zero_add Nat.add_zero Bool.and_true and_self and_true true_and if_true if_false ite_true ite_false Bool.false_eq_true Bool.true_eq_false List.toList_toArray Nat.le_refl List.drop_nil List.take_nil get_bump nx_bump
def errsOf : List Int → Int
  | [] => 0
  | e :: r => if e ≠ 0 then e else errsOf r
theorem rs_at107 {b n i : Nat} (h1 : i < n) : aindexAddr tab 107 (.rs 1 b 0 n) (.int .i64 i) = some (.ptr b i) := by
  have : (i : Int) < n := by omega
  simp [aindexAddr, ty107, Tab.size, ty31, this]
theorem errs_ok (c : Nat) (l : List Int) (To : Option TypeId) (hl : l.length < 1000) (s : AHeap) (hc : s.get c = some (.cells (l.map (AV.int .i64)) To)) :
    ACall Try.prog 15 [.rs 1 c 0 l.length] s fun v t => v = .int .i64 (errsOf l) ∧ t = s := by
  refine go15 (by simp) ?_
  intro tm hlen harg
  simp +contextual only [L15, hlen, harg, go_sem, Nat.reduceLT, Nat.reduceEqDiff, Nat.reduceAdd, Nat.reduceLeDiff, reduceIte, reduceCtorEq]
  refine ⟨fun k tm' s' => ∃ i : Nat, k + i = l.length ∧ tm'.length = 15 ∧ aev tm' (.tmp 5) = .rs 1 c 0 l.length ∧ aev tm' (.tmp 6) = .int .i64 l.length ∧ aev tm' (.tmp 7) = .int .i64 i ∧ errsOf l = errsOf (l.drop i) ∧ s' = s, l.length, ⟨0, by simp, ?_⟩, ?_⟩
  · simp [length_aput, hlen, aev_same, aev_ne, harg]
  · rintro k tm1 s1 ⟨i, hk, hlen1, q5, q6, q7, hm, rfl⟩
    simp +contextual only [hlen1, q5, q6, q7, go_sem, Nat.reduceLT, Nat.reduceEqDiff, Nat.reduceAdd, Nat.reduceLeDiff, reduceIte, reduceCtorEq]
    refine ⟨fun hlt => ?_, fun hge => ?_⟩
    · have hi : i < l.length := by omega
      have hdrop := List.drop_eq_getElem_cons hi
      have hd : (List.drop i (l.map (AV.int .i64)))[0]? = some (.int .i64 l[i]) := by simp [hi]
      generalize l[i] = e at hdrop hd
      have hw1 : IntKind.i64.wrap ((i : Int) + 1) = ((i + 1 : Nat) : Int) := by rw [wrap_id (by omega)]; rfl
      rw [hdrop] at hm
      simp +contextual only [hlen1, q5, q6, q7, rs_at107 hi, hc, hd, go_sem, Nat.reduceLT, Nat.reduceEqDiff, Nat.reduceAdd, Nat.reduceLeDiff, reduceIte, reduceCtorEq]
      refine ⟨fun c1 => ?_, fun c1 => ⟨k - 1, by omega, i + 1, by omega, by rw [hw1], ?_⟩⟩
      · rw [hm, errsOf, if_pos c1]
      · rw [hm, errsOf, if_neg (by simp [c1])]
    · have hi : i = l.length := by omega
      rw [hm, hi, List.drop_length]
      rfl
end Go.S1
end
section
set_option linter.unusedVariables false
set_option linter.unusedSimpArgs false
namespace Go.S1
open Go Go.Am Go.Proofs
set_option maxRecDepth 100000
set_option linter.unusedSimpArgs false
attribute [local go_sem] lvc_seq lvc_draw lvc_ops lvc_skip lvc_block lvc_exit lops_nil lops_cons lops_guard lstep_move lstep_assign lstep_binOp lstep_unOp lstep_pick lstep_nilCheck lstep_build lstep_slice lstep_fieldAddr lstep_indexAddr lstep_index lstep_extract lstep_makeFunc lstep_load lstep_store lstep_makeSlice lstep_buildSlice lstep_len lstep_append lstep_call lfun_func athen_normal athen_ret athen_exit ablock_normal ablock_ret ablock_exit ablock_exit_ne lvc_ret lvc_cond lvc_loop length_aput aput_none aev_same aev_ne aev_bool aev_int aev_str aev_nilIface aev_nilp aev_nils aev_nilm aev_func List.getD_cons_zero List.getD_cons_succ List.map_cons List.map_nil Option.map_some Option.map_none List.nil_append List.append_nil abin_add abin_sub abin_mul abin_eql abin_neq abin_lss abin_leq abin_gtr abin_geq abin_seql abin_sneq lval_some lmem_some bool?_bool ne_eq not_false_eq_true lpost_normal0 lpost_ret1 lpost_cell1 lcond_true lcond_false lcond_decide lcond_not lguard_decide_true lguard_decide_false lguard_true_true lguard_true_false lguard_false_false lguard_false_true apick_true apick_false decide_true decide_false lstep_min amin2_int amax2_int aun_not_decide aun_not_true aun_not_false aun_neg not_true_eq_false Classical.not_not al3 al9 al27 al35 al118 al121 ld3 st3 ld4 ld5 ld9 st9 len9 ld22 len22r fa25_0p fa25_1p ld27 st27 len27n ld31 fa35_0p fa35_0r fa35_1p fa35_1r fa35_2p fa35_2r ld35 st35 len63r len107r ld116 st116 fa118_0p fa118_1p ld118 st118 fa121_0p fa121_1p ld121 st121 acellsAt_r acellsAt_p astoreAt_p cells?_some Option.bind_some AV.ofV AV.ofOne AV.israw AV.cells splice AHeap.get_new AHeap.get_upd AHeap.nx_new AHeap.nx_upd List.drop_zero List.drop_succ_cons List.take_succ_cons List.take_zero List.length_cons List.length_nil List.all_cons List.all_nil AV.one List.set_cons_zero List.set_cons_succ List.getElem?_cons_zero List.getElem?_cons_succ Nat.zero_add Nat.add_zero Bool.and_true and_self and_true true_and if_true if_false ite_true ite_false Bool.false_eq_true Bool.true_eq_false List.toList_toArray Nat.le_refl List.drop_nil List.take_nil get_bump nx_bump
def bytes (x : List UInt8) : List AV := x.map fun b => .int .u8 b.toNat
structure Bld (s : AHeap) (b : Nat) (y : AV) (x : List UInt8) : Prop where
  get : ∃ p, (p = .nilp ∨ p = .ptr b 0) ∧ s.get b = some (.cells [p, y] (some 115))
  lt : b < s.nx
  buf : (y = .nils ∧ x = []) ∨ ∃ c, c ≠ b ∧ c < s.nx ∧ y = .rs 1 c 0 x.length ∧ x ≠ [] ∧ s.get c = some (.cells (bytes x) (some 5))
def Own (y : AV) (m : Nat) : Prop := ∃ n, y = .rs 1 m 0 n
structure Wrote (s : AHeap) (b : Nat) (y : AV) (x : List UInt8) (t : AHeap) : Prop where
  nx : s.nx ≤ t.nx
  keep : ∀ m o, m < s.nx → m ≠ b → ¬ Own y m → s.get m = some o → t.get m = some o
  bld : ∃ y', Bld t b y' x ∧ ∀ m, Own y' m → Own y m ∨ s.nx ≤ m
end Go.S1
end
section
set_option linter.unusedVariables false
set_option linter.unusedSimpArgs false
namespace Go.S1
open Go Go.Am Go.Proofs
set_option maxRecDepth 100000
set_option linter.unusedSimpArgs false
attribute [local go_sem] lvc_seq lvc_draw lvc_ops lvc_skip lvc_block lvc_exit lops_nil lops_cons lops_guard lstep_move lstep_assign lstep_binOp lstep_unOp lstep_pick lstep_nilCheck lstep_build lstep_slice lstep_fieldAddr lstep_indexAddr lstep_index lstep_extract lstep_makeFunc lstep_load lstep_store lstep_makeSlice lstep_buildSlice lstep_len lstep_append lstep_call lfun_func athen_normal athen_ret athen_exit ablock_normal ablock_ret ablock_exit ablock_exit_ne lvc_ret lvc_cond lvc_loop length_aput aput_none aev_same aev_ne aev_bool aev_int aev_str aev_nilIface aev_nilp aev_nils aev_nilm aev_func List.getD_cons_zero List.getD_cons_succ List.map_cons List.map_nil Option.map_some Option.map_none List.nil_append List.append_nil abin_add abin_sub abin_mul abin_eql abin_neq abin_lss abin_leq abin_gtr abin_geq abin_seql abin_sneq lval_some lmem_some bool?_bool ne_eq not_false_eq_true lpost_normal0 lpost_ret1 lpost_cell1 lcond_true lcond_false lcond_decide lcond_not lguard_decide_true lguard_decide_false lguard_true_true lguard_true_false lguard_false_false lguard_false_true apick_true apick_false decide_true decide_false lstep_min amin2_int amax2_int aun_not_decide aun_not_true aun_not_false aun_neg not_true_eq_false Classical.not_not al3 al9 al27 al35 al118 al121 ld3 st3 ld4 ld5 ld9 st9 len9 ld22 len22r fa25_0p fa25_1p ld27 st27 len27n ld31 fa35_0p fa35_0r fa35_1p fa35_1r fa35_2p fa35_2r ld35 st35 len63r len107r ld116 st116 fa118_0p fa118_1p ld118 st118 fa121_0p fa121_1p ld121 st121 acellsAt_r acellsAt_p astoreAt_p cells?_some Option.bind_some AV.ofV AV.ofOne AV.israw AV.cells splice AHeap.get_new AHeap.get_upd AHeap.nx_new AHeap.nx_upd List.drop_zero List.drop_succ_cons List.take_succ_cons List.take_zero List.length_cons List.length_nil List.all_cons List.all_nil AV.one List.set_cons_zero List.set_cons_succ List.getElem?_cons_zero List.getElem?_cons_succ Nat.zero_add Nat.add_zero Bool.and_true and_self and_true true_and if_true if_false ite_true ite_false Bool.false_eq_true Bool.true_eq_false List.toList_toArray Nat.le_refl List.drop_nil List.take_nil get_bump nx_bump ldrun_nil ldrun_cons ldrun_guard ldval_some ldstep_move ldstep_build ldstep_fieldAddr ldstep_index ldstep_load List.cons_append lallocs ldlen_some ldmem_some ldstep_buildSlice AHeap.upds List.foldl_nil List.foldl_cons
theorem Bld.keep {s t : AHeap} {b : Nat} {y : AV} {x : List UInt8} (h : Bld s b y x) (hn : s.nx ≤ t.nx) (hk : ∀ m o, (m = b ∨ Own y m) → s.get m = some o → t.get m = some o) : Bld t b y x := by
  obtain ⟨p, hp, hg⟩ := h.get
  refine ⟨⟨p, hp, hk b _ (.inl rfl) hg⟩, Nat.lt_of_lt_of_le h.lt hn, ?_⟩
  rcases h.buf with q | ⟨c, q1, q2, q3, q4, q5⟩
  · exact .inl q
  · exact .inr ⟨c, q1, Nat.lt_of_lt_of_le q2 hn, q3, q4, hk c _ (.inr ⟨_, q3⟩) q5⟩
theorem Bld.own_lt {s : AHeap} {b : Nat} {y : AV} {x : List UInt8} (h : Bld s b y x) {m : Nat} (hm : m = b ∨ Own y m) : m < s.nx := by
  rcases hm with rfl | ⟨n, e⟩
  · exact h.lt
  · rcases h.buf with ⟨q, _⟩ | ⟨c, q1, q2, q3, q4, q5⟩
    · rw [q] at e; cases e
    · rw [q3] at e; cases e; exact q2
theorem abin_sadd {t : TypeId} {a b : List UInt8} (h : a.length + b.length ≤ 9223372036854775807) : abin tab .add t (.str a) (.str b) = some (.str (a ++ b)) := by
  have hm : IntKind.i64.max = 9223372036854775807 := rfl
  have : ¬ (((a.length + b.length : Nat) : Int) > IntKind.i64.max) := by rw [hm]; omega
  simp only [abin, abin1, astr, if_neg this]
theorem scan_cons {n B : Int} {e : Ed} {r : List Ed} (h : scan n B (e :: r) = 0) : 0 ≤ e.at_ ∧ e.at_ ≤ n ∧ 0 ≤ e.cut ∧ e.cut ≤ n - e.at_ ∧ B < e.at_ ∧ scan n (e.at_ + e.cut) r = 0 := by
  rw [scan] at h
  split at h
  · cases h
  · split at h
    · cases h
    · split at h
      · cases h
      · split at h
        · cases h
        · omega
end Go.S1
end
section
set_option linter.unusedVariables false
set_option linter.unusedSimpArgs false
namespace Go.S1
open Go Go.Am Go.Proofs
set_option maxRecDepth 100000
set_option linter.unusedSimpArgs false
attribute [local go_sem] lvc_seq lvc_draw lvc_ops lvc_skip lvc_block lvc_exit lops_nil lops_cons lops_guard lstep_move lstep_assign lstep_binOp lstep_unOp lstep_pick lstep_nilCheck lstep_build lstep_slice lstep_fieldAddr lstep_indexAddr lstep_index lstep_extract lstep_makeFunc lstep_load lstep_store lstep_makeSlice lstep_buildSlice lstep_len lstep_append lstep_call lfun_func athen_normal athen_ret athen_exit ablock_normal ablock_ret ablock_exit ablock_exit_ne lvc_ret lvc_cond lvc_loop length_aput aput_none aev_same aev_ne aev_bool aev_int aev_str aev_nilIface aev_nilp aev_nils aev_nilm aev_func List.getD_cons_zero List.getD_cons_succ List.map_cons List.map_nil Option.map_some Option.map_none List.nil_append List.append_nil abin_add abin_sub abin_mul abin_eql abin_neq abin_lss abin_leq abin_gtr abin_geq abin_seql abin_sneq lval_some lmem_some bool?_bool ne_eq not_false_eq_true lpost_normal0 lpost_ret1 lpost_cell1 lcond_true lcond_false lcond_decide lcond_not lguard_decide_true lguard_decide_false lguard_true_true lguard_true_false lguard_false_false lguard_false_true apick_true apick_false decide_true decide_false lstep_min amin2_int amax2_int aun_not_decide aun_not_true aun_not_false aun_neg not_true_eq_false Classical.not_not al3 al9 al27 al35 al118 al121 ld3 st3 ld4 ld5 ld9 st9 len9 ld22 len22r fa25_0p fa25_1p ld27 st27 len27n ld31 fa35_0p fa35_0r fa35_1p fa35_1r fa35_2p fa35_2r ld35 st35 len63r len107r ld116 st116 fa118_0p fa118_1p ld118 st118 fa121_0p fa121_1p ld121 st121 acellsAt_r acellsAt_p astoreAt_p cells?_some Option.bind_some AV.ofV AV.ofOne AV.israw AV.cells splice AHeap.get_new AHeap.get_upd AHeap.nx_new AHeap.nx_upd List.drop_zero List.drop_succ_cons List.take_succ_cons List.take_zero List.length_cons List.length_nil List.all_cons List.all_nil AV.one List.set_cons_zero List.set_cons_succ List.getElem?_cons_zero List.getElem?_cons_succ Nat.zero_add Nat.add_zero Bool.and_true and_self and_true true_and if_true if_false ite_true ite_false Bool.false_eq_true Bool.true_eq_false List.toList_toArray Nat.le_refl List.drop_nil List.take_nil get_bump nx_bump ldrun_nil ldrun_cons ldrun_guard ldval_some ldstep_move ldstep_build ldstep_fieldAddr ldstep_index ldstep_load List.cons_append lallocs ldlen_some ldmem_some ldstep_buildSlice AHeap.upds List.foldl_nil List.foldl_cons
theorem build35_3 {a b : Int} {c : List UInt8} : abuild tab 35 [(0, .int .i64 a), (1, .int .i64 b), (2, .str c)] = some (.agg [.int .i64 a, .int .i64 b, .str c]) := by
  simp [abuild, ty35, Tab.size, ty3, ty9, AV.ofV, AV.ofOne, afill, AV.israw, AV.cells, splice]
end Go.S1
end
section
set_option linter.unusedVariables false
set_option linter.unusedSimpArgs false
namespace Go.S1
open Go Go.Am Go.Proofs
set_option maxRecDepth 100000
set_option linter.unusedSimpArgs false
attribute [local go_sem] lvc_seq lvc_draw lvc_ops lvc_skip lvc_block lvc_exit lops_nil lops_cons lops_guard lstep_move lstep_assign lstep_binOp lstep_unOp lstep_pick lstep_nilCheck lstep_build lstep_slice lstep_fieldAddr lstep_indexAddr lstep_index lstep_extract lstep_makeFunc lstep_load lstep_store lstep_makeSlice lstep_buildSlice lstep_len lstep_append lstep_call lfun_func athen_normal athen_ret athen_exit ablock_normal ablock_ret ablock_exit ablock_exit_ne lvc_ret lvc_cond lvc_loop length_aput aput_none aev_same aev_ne aev_bool aev_int aev_str aev_nilIface aev_nilp aev_nils aev_nilm aev_func List.getD_cons_zero List.getD_cons_succ List.map_cons List.map_nil Option.map_some Option.map_none List.nil_append List.append_nil abin_add abin_sub abin_mul abin_eql abin_neq abin_lss abin_leq abin_gtr abin_geq abin_seql abin_sneq lval_some lmem_some bool?_bool ne_eq not_false_eq_true lpost_normal0 lpost_ret1 lpost_cell1 lcond_true lcond_false lcond_decide lcond_not lguard_decide_true lguard_decide_false lguard_true_true lguard_true_false lguard_false_false lguard_false_true apick_true apick_false decide_true decide_false lstep_min amin2_int amax2_int aun_not_decide aun_not_true aun_not_false aun_neg not_true_eq_false Classical.not_not al3 al9 al27 al35 al118 al121 ld3 st3 ld4 ld5 ld9 st9 len9 ld22 len22r fa25_0p fa25_1p ld27 st27 len27n ld31 fa35_0p fa35_0r fa35_1p fa35_1r fa35_2p fa35_2r ld35 st35 len63r len107r ld116 st116 fa118_0p fa118_1p ld118 st118 fa121_0p fa121_1p ld121 st121 acellsAt_r acellsAt_p astoreAt_p cells?_some Option.bind_some AV.ofV AV.ofOne AV.israw AV.cells splice AHeap.get_new AHeap.get_upd AHeap.nx_new AHeap.nx_upd List.drop_zero List.drop_succ_cons List.take_succ_cons List.take_zero List.length_cons List.length_nil List.all_cons List.all_nil AV.one List.set_cons_zero List.set_cons_succ List.getElem?_cons_zero List.getElem?_cons_succ Nat.zero_add Nat.add_zero Bool.and_true and_self and_true true_and if_true if_false ite_true ite_false Bool.false_eq_true Bool.true_eq_false List.toList_toArray Nat.le_refl List.drop_nil List.take_nil get_bump nx_bump
def letters (L : List (Int × UInt8)) : List AV := L.flatMap fun p => [.int .i64 p.1, .int .u8 p.2.toNat]
theorem letters_length (L : List (Int × UInt8)) : (letters L).length = L.length * 2 := by
  induction L with
  | nil => rfl
  | cons a L ih =>
    show (AV.int .i64 a.1 :: AV.int .u8 a.2.toNat :: letters L).length = _
    simp only [List.length_cons, ih]
    omega
theorem letters_append (a b : List (Int × UInt8)) : letters (a ++ b) = letters a ++ letters b := by simp [letters]
def Own2 (y : AV) (m : Nat) : Prop := ∃ n, y = .rs 2 m 0 n
structure Flow (s : AHeap) (F : Nat) (n : Int) (y : AV) (L : List (Int × UInt8)) : Prop where
  get : s.get F = some (.cells [.int .i64 n, y] (some 118))
  lt : F < s.nx
  buf : (y = .nils ∧ L = []) ∨ ∃ c, c ≠ F ∧ c < s.nx ∧ y = .rs 2 c 0 L.length ∧ L ≠ [] ∧ s.get c = some (.cells (letters L) (some 121))
theorem Flow.own_lt {s : AHeap} {F : Nat} {n : Int} {y : AV} {L : List (Int × UInt8)} (h : Flow s F n y L) {m : Nat} (hm : m = F ∨ Own2 y m) : m < s.nx := by
  rcases hm with rfl | ⟨n, e⟩
  · exact h.lt
  · rcases h.buf with ⟨q, _⟩ | ⟨c, q1, q2, q3, q4, q5⟩
    · rw [q] at e; cases e
    · rw [q3] at e; cases e; exact q2
theorem Flow.keep {s t : AHeap} {F : Nat} {n : Int} {y : AV} {L : List (Int × UInt8)} (h : Flow s F n y L) (hn : s.nx ≤ t.nx) (hk : ∀ m o, (m = F ∨ Own2 y m) → s.get m = some o → t.get m = some o) : Flow t F n y L := by
  refine ⟨hk F _ (.inl rfl) h.get, Nat.lt_of_lt_of_le h.lt hn, ?_⟩
  rcases h.buf with q | ⟨c, q1, q2, q3, q4, q5⟩
  · exact .inl q
  · exact .inr ⟨c, q1, Nat.lt_of_lt_of_le q2 hn, q3, q4, hk c _ (.inr ⟨_, q3⟩) q5⟩
theorem Flow.notOwn {s : AHeap} {F : Nat} {n : Int} {y : AV} {L : List (Int × UInt8)} (h : Flow s F n y L) : ¬ Own2 y F := by
  rintro ⟨n, e⟩
  rcases h.buf with ⟨q, _⟩ | ⟨c, q1, q2, q3, q4, q5⟩
  · rw [q] at e; cases e
  · rw [q3] at e; cases e; exact q1 rfl
theorem app_letter {s : AHeap} {F : Nat} {n : Int} {y : AV} {L : List (Int × UInt8)} (h : Flow s F n y L) (a : Int) (c : UInt8) {g : Nat} (hg : s.get g = some (.cells [.int .i64 a, .int .u8 c.toNat] (some 121))) (hb : L.length ≤ 1000000000) :
    ∃ y' t, aappend tab 121 s y (.rs 2 g 0 1) = some (y', t) ∧ s.nx ≤ t.nx ∧ (∀ m o, m < s.nx → ¬ Own2 y m → s.get m = some o → t.get m = some o) ∧ (∀ m, Own2 y' m → s.nx ≤ m) ∧
      ∃ d, d ≠ F ∧ d < t.nx ∧ y' = .rs 2 d 0 (L ++ [(a, c)]).length ∧ t.get d = some (.cells (letters (L ++ [(a, c)])) (some 121)) := by
  have hz : acellsOf s 2 (.rs 2 g 0 1) = some ([.int .i64 a, .int .u8 c.toNat], 1) := by simp [acellsOf, hg, AObj.cells?]
  have hb2 : (2 * (L.length + 1) + 512) * 16 ≤ 281474976710656 := by omega
  rcases h.buf with ⟨rfl, rfl⟩ | ⟨d, h1, h2, rfl, h3, h4⟩
  · refine ⟨.rs 2 s.nx 0 1, s.new (.cells [.int .i64 a, .int .u8 c.toNat] (some 121)), ?_, by rw [AHeap.nx_new]; omega, ?_, ?_, s.nx, ?_, by rw [AHeap.nx_new]; omega, by simp, by rw [AHeap.get_new, if_pos rfl]; simp [letters]⟩
    · simp [aappend, ty121, hz]
    · intro m o hm _ hg
      rw [AHeap.get_new, if_neg (by omega)]; exact hg
    · rintro m ⟨n, e⟩; cases e; exact Nat.le_refl _
    · have := h.lt; omega
  · refine ⟨.rs 2 s.nx 0 (L.length + 1), (s.del d).new (.cells (letters L ++ [.int .i64 a, .int .u8 c.toNat]) (some 121)), ?_, by rw [AHeap.nx_new, AHeap.nx_del]; omega, ?_, ?_, s.nx, ?_, by rw [AHeap.nx_new, AHeap.nx_del]; omega, by simp, by rw [AHeap.get_new, AHeap.nx_del, if_pos rfl]; simp [letters]⟩
    · have ht : List.take (L.length * 2) (letters L) = letters L := List.take_of_length_le (by rw [letters_length]; omega)
      simp only [aappend, ty121, hz]
      simp only [Nat.reduceEqDiff, or_self, if_false, h4, AObj.cells?, List.drop_zero, Nat.zero_add, ht, and_true, true_and]
      rw [if_pos ⟨by rw [letters_length]; omega, by simp [AV.one], hb2⟩]
      rfl
    · intro m o hm hno hg
      have : m ≠ d := by rintro rfl; exact hno ⟨_, rfl⟩
      rw [AHeap.get_new, AHeap.nx_del, if_neg (by omega), AHeap.get_del, if_neg this]; exact hg
    · rintro m ⟨n, e⟩; cases e; exact Nat.le_refl _
    · have := h.lt; omega
theorem build121_1 {a : Int} : abuild tab 121 [(0, .int .i64 a)] = some (.agg [.int .i64 a, .int .u8 0]) := by
  simp [abuild, ty121, Tab.size, ty3, ty5, AV.ofV, AV.ofOne, afill, AV.israw, AV.cells, splice]
theorem build121_2 {a : Int} {c : Int} : abuild tab 121 [(0, .int .i64 a), (1, .int .u8 c)] = some (.agg [.int .i64 a, .int .u8 c]) := by
  simp [abuild, ty121, Tab.size, ty3, ty5, AV.ofV, AV.ofOne, afill, AV.israw, AV.cells, splice]
theorem bs116 {a c : Int} {s : AHeap} : abuildSlice tab false 116 1 [(0, .agg [.int .i64 a, .int .u8 c])] s = some (.rs 2 s.nx 0 1, s.new (.cells [.int .i64 a, .int .u8 c] (some 121))) := by
  simp [abuildSlice, ty116, ty121, AV.israw, AV.ofV, AV.ofOne, afill, AV.cells, splice]
def runOf (a k : Nat) : List (Int × UInt8) := (List.range' a k).map fun (i : Nat) => ((i : Int), (0 : UInt8))
theorem runOf_succ (a k : Nat) : runOf a (k + 1) = runOf a k ++ [(((a + k : Nat) : Int), 0)] := by
  simp [runOf, List.range'_1_concat]
structure Flowed (s : AHeap) (F A : Nat) (n : Int) (y : AV) (L : List (Int × UInt8)) (a : Int) (t : AHeap) : Prop where
  nx : s.nx ≤ t.nx
  keep : ∀ m o, m < s.nx → m ≠ F → m ≠ A → ¬ Own2 y m → s.get m = some o → t.get m = some o
  at_ : t.get A = some (.cells [.int .i64 a] (some 3))
  flow : ∃ y', Flow t F n y' L ∧ ¬ Own2 y' A ∧ ∀ m, Own2 y' m → Own2 y m ∨ s.nx ≤ m
theorem keep_ok {s : AHeap} {F A : Nat} {n : Int} {y : AV} {L : List (Int × UInt8)} (h : Flow s F n y L) (a to : Nat) (hA : s.get A = some (.cells [.int .i64 a] (some 3))) (hAF : A ≠ F) (hAn : A < s.nx) (hAo : ¬ Own2 y A)
    (hto : to ≤ 100000) (ha : a ≤ 100000) (hL : L.length ≤ 900000000) :
    ACall Try.prog 119 [.int .i64 to, .ptr A 0, .ptr F 0] s fun v t => v = .tuple [] ∧ Flowed s F A n y (L ++ runOf a (to - a)) (max a to : Nat) t := by
  refine go119 (by simp) ?_
  intro tm hlen harg
  simp +contextual only [L119, hlen, harg, go_sem, Nat.reduceLT, Nat.reduceEqDiff, Nat.reduceAdd, Nat.reduceLeDiff, reduceIte, reduceCtorEq]
  refine ⟨fun k tm' s' => ∃ (j : Nat), k + j = to - a ∧ tm'.length = 16 ∧ aev tm' (.tmp 0) = .int .i64 to ∧ aev tm' (.tmp 1) = .ptr A 0 ∧ aev tm' (.tmp 2) = .ptr F 0 ∧ Flowed s F A n y (L ++ runOf a j) (a + j : Nat) s', to - a, ⟨0, by simp, hlen, ?_, ?_, ?_, ?_⟩, ?_⟩
  · simp [harg]
  · simp [harg]
  · simp [harg]
  · exact ⟨Nat.le_refl _, fun _ _ _ _ _ _ h => h, by simpa using hA, y, by simpa [runOf] using h, hAo, fun m h => .inl h⟩
  · rintro k tm1 s1 ⟨j, hk, hlen1, q0, q1, q2, hfl⟩
    obtain ⟨y1, hf1, hA1, ho1⟩ := hfl.flow
    have hgA := hfl.at_
    have hgF := hf1.get
    simp +contextual only [hlen1, q0, q1, q2, hgA, hgF, go_sem, Nat.reduceLT, Nat.reduceEqDiff, Nat.reduceAdd, Nat.reduceLeDiff, reduceIte, reduceCtorEq]
    refine ⟨fun hlt => ?_, fun hge => ?_⟩
    · have hlen2 : (L ++ runOf a j).length ≤ 1000000000 := by simp [runOf]; omega
      have hw1 : IntKind.i64.wrap (((a + j : Nat) : Int) + 1) = ((a + (j + 1) : Nat) : Int) := by rw [wrap_id (by omega)]; omega
      have hf2 : Flow (s1.new (.cells [.int .i64 (a + j : Nat), .int .u8 0] (some 121))) F n y1 (L ++ runOf a j) :=
        hf1.keep (by rw [AHeap.nx_new]; omega) fun m o hm hg => by rw [AHeap.get_new, if_neg (by have := hf1.own_lt hm; omega)]; exact hg
      have hA1n : A < s1.nx := Nat.lt_of_lt_of_le hAn hfl.nx
      obtain ⟨y', t, happ, hnx, hkeep, hown, d, hd1, hd2, hd3, hd4⟩ := app_letter hf2 (a + j : Nat) 0 (g := s1.nx) (by rw [AHeap.get_new, if_pos rfl]; rfl) hlen2
      rw [AHeap.nx_new] at hnx hkeep hown
      have hgA2 := hkeep A _ (by omega) hA1 (by rw [AHeap.get_new, if_neg (by omega)]; exact hgA)
      have hFn := hf1.lt
      have hgF2 := hkeep F _ (by omega) hf1.notOwn (by rw [AHeap.get_new, if_neg (by omega)]; exact hgF)
      subst hd3
      have happ' : aappend tab 121 (s1.new (.cells [.int .i64 (a + j : Nat), .int .u8 0] (some 121))) y1 (.rs 2 s1.nx 0 1) = some (.rs 2 d 0 (L ++ runOf a j ++ [(((a + j : Nat) : Int), (0 : UInt8))]).length, t) := happ
      generalize hLL : (L ++ runOf a j ++ [(((a + j : Nat) : Int), (0 : UInt8))]).length = len at *
      simp +contextual only [hlen1, q0, q1, q2, hgA, hgF, hgA2, hgF2, hAF, build121_1, bs116, ty116, happ', go_sem, Nat.reduceLT, Nat.reduceEqDiff, Nat.reduceAdd, Nat.reduceLeDiff, reduceIte, reduceCtorEq]
      have hnew := fun m hm => hown m hm
      refine ⟨k - 1, by omega, j + 1, by omega, ?_⟩
      have hs1 := hfl.nx
      refine ⟨by rw [AHeap.nx_upd, AHeap.nx_upd]; omega, ?_, by rw [AHeap.get_upd, if_pos rfl, hw1], .rs 2 d 0 len, ⟨?_, ?_, .inr ⟨d, hd1, ?_, ?_, ?_, ?_⟩⟩, ?_, ?_⟩
      · intro m o hm hmF hmA hmo hg
        rw [AHeap.get_upd, if_neg hmA, AHeap.get_upd, if_neg hmF]
        refine hkeep m o (by omega) (fun q => ?_) ?_
        · rcases ho1 m q with r | r
          · exact hmo r
          · omega
        · rw [AHeap.get_new, if_neg (by omega)]; exact hfl.keep m o hm hmF hmA hmo hg
      · rw [AHeap.get_upd, if_neg (Ne.symm hAF), AHeap.get_upd, if_pos rfl]
      · rw [AHeap.nx_upd, AHeap.nx_upd]; omega
      · rw [AHeap.nx_upd, AHeap.nx_upd]; exact hd2
      · rw [runOf_succ, ← List.append_assoc, hLL]
      · rw [runOf_succ]; simp
      · have := hnew d ⟨_, rfl⟩
        rw [AHeap.get_upd, if_neg (by omega), AHeap.get_upd, if_neg hd1, runOf_succ, ← List.append_assoc]; exact hd4
      · intro q; have := hnew A q; omega
      · intro m q; have := hnew m q; exact .inr (by omega)
    · have hj : j = to - a := by omega
      subst hj
      have e : ((a + (to - a) : Nat) : Int) = ((max a to : Nat) : Int) := by omega
      rw [e] at hfl
      exact hfl
end Go.S1
end
section
set_option linter.unusedVariables false
set_option linter.unusedSimpArgs false
namespace Go.S1
open Go Go.Am Go.Proofs
set_option maxRecDepth 100000
set_option linter.unusedSimpArgs false
attribute [local go_sem] lvc_seq lvc_draw lvc_ops lvc_skip lvc_block lvc_exit lops_nil lops_cons lops_guard lstep_move lstep_assign lstep_binOp lstep_unOp lstep_pick lstep_nilCheck lstep_build lstep_slice lstep_fieldAddr lstep_indexAddr lstep_index lstep_extract lstep_makeFunc lstep_load lstep_store lstep_makeSlice lstep_buildSlice lstep_len lstep_append lstep_call lfun_func athen_normal athen_ret athen_exit ablock_normal ablock_ret ablock_exit ablock_exit_ne lvc_ret lvc_cond lvc_loop length_aput aput_none aev_same aev_ne aev_bool aev_int aev_str aev_nilIface aev_nilp aev_nils aev_nilm aev_func List.getD_cons_zero List.getD_cons_succ List.map_cons List.map_nil Option.map_some Option.map_none List.nil_append List.append_nil abin_add abin_sub abin_mul abin_eql abin_neq abin_lss abin_leq abin_gtr abin_geq abin_seql abin_sneq lval_some lmem_some bool?_bool ne_eq not_false_eq_true lpost_normal0 lpost_ret1 lpost_cell1 lcond_true lcond_false lcond_decide lcond_not lguard_decide_true lguard_decide_false lguard_true_true lguard_true_false lguard_false_false lguard_false_true apick_true apick_false decide_true decide_false lstep_min amin2_int amax2_int aun_not_decide aun_not_true aun_not_false aun_neg not_true_eq_false Classical.not_not al3 al9 al27 al35 al118 al121 ld3 st3 ld4 ld5 ld9 st9 len9 ld22 len22r fa25_0p fa25_1p ld27 st27 len27n ld31 fa35_0p fa35_0r fa35_1p fa35_1r fa35_2p fa35_2r ld35 st35 len63r len107r ld116 st116 fa118_0p fa118_1p ld118 st118 fa121_0p fa121_1p ld121 st121 acellsAt_r acellsAt_p astoreAt_p cells?_some Option.bind_some AV.ofV AV.ofOne AV.israw AV.cells splice AHeap.get_new AHeap.get_upd AHeap.nx_new AHeap.nx_upd List.drop_zero List.drop_succ_cons List.take_succ_cons List.take_zero List.length_cons List.length_nil List.all_cons List.all_nil AV.one List.set_cons_zero List.set_cons_succ List.getElem?_cons_zero List.getElem?_cons_succ Nat.zero_add Nat.add_zero Bool.and_true and_self and_true true_and if_true if_false ite_true ite_false Bool.false_eq_true Bool.true_eq_false List.toList_toArray Nat.le_refl List.drop_nil List.take_nil get_bump nx_bump ldrun_nil ldrun_cons ldrun_guard ldval_some ldstep_move ldstep_build ldstep_fieldAddr ldstep_index ldstep_load List.cons_append lallocs ldlen_some ldmem_some ldstep_buildSlice AHeap.upds List.foldl_nil List.foldl_cons
def flowFrom (n : Nat) : Nat → List Ed → List (Int × UInt8)
  | a, [] => runOf a (n - a)
  | a, e :: r => runOf a (e.at_.toNat - a) ++ e.new.map (fun c => ((-1 : Int), c)) ++ flowFrom n (e.at_ + e.cut).toNat r
theorem flowOf_ok (n : Nat) (v : AV) (l : List Ed) (hv : SlE v l) (hl : l.length ≤ 2000) (hn : n ≤ 20000) (hnew : ∀ e ∈ l, e.new.length ≤ 100000) (hsc : scan n (-1) l = 0) (s : AHeap) :
    ACall Try.prog 74 [.int .i64 n, v] s fun r t => (∃ y, r = .agg [.int .i64 n, y] ∧ ((y = .nils ∧ flowFrom n 0 l = []) ∨ ∃ c, s.nx ≤ c ∧ c < t.nx ∧ y = .rs 2 c 0 (flowFrom n 0 l).length ∧ flowFrom n 0 l ≠ [] ∧
      t.get c = some (.cells (letters (flowFrom n 0 l)) (some 121)))) ∧ Sub s t := by
  refine go74 (by simp) ?_
  intro tm hlen harg
  have b118 : abuild tab 118 [(0, .int .i64 n)] = some (.agg [.int .i64 n, .nils]) := by
    simp [abuild, ty118, Tab.size, ty3, ty116, AV.ofV, AV.ofOne, afill, AV.israw, AV.cells, splice]
  simp +contextual only [L74, hlen, harg, hv.len, b118, go_sem, Nat.reduceLT, Nat.reduceEqDiff, Nat.reduceAdd, Nat.reduceLeDiff, reduceIte, reduceCtorEq]
  refine ⟨fun k tm' s' => ∃ (i a : Nat) (B : Int) (L : List (Int × UInt8)) (y : AV), k + i = l.length ∧ tm'.length = 51 ∧ aev tm' (.tmp 0) = .int .i64 n ∧ aev tm' (.tmp 4) = .ptr s.nx 0 ∧ aev tm' (.tmp 5) = .ptr (s.nx + 1) 0 ∧
      aev tm' (.tmp 6) = .ptr (s.nx + 1 + 1) 0 ∧ aev tm' (.tmp 7) = .func (.func 119) [] [.ptr (s.nx + 1 + 1) 0, .ptr (s.nx + 1) 0] ∧ aev tm' (.tmp 14) = v ∧ aev tm' (.tmp 15) = .int .i64 l.length ∧ aev tm' (.tmp 16) = .int .i64 i ∧
      Flow s' (s.nx + 1) n y L ∧ s'.get (s.nx + 1 + 1) = some (.cells [.int .i64 a] (some 3)) ∧ (∀ m, Own2 y m → s.nx + 3 ≤ m) ∧ Sub s s' ∧ s'.get s.nx = some (.cells [.int .i64 0, .nils] (some 118)) ∧ s.nx + 3 ≤ s'.nx ∧
      a ≤ n ∧ (B = a ∨ (B = -1 ∧ a = 0)) ∧ scan n B (l.drop i) = 0 ∧ L ++ flowFrom n a (l.drop i) = flowFrom n 0 l ∧ L.length ≤ a + i * 100000, l.length, ⟨0, 0, -1, [], .nils, by simp, ?_⟩, ?_⟩
  · simp [length_aput, hlen, aev_same, aev_ne, harg, hsc]
    refine ⟨⟨?_, ?_, .inl ⟨rfl, rfl⟩⟩, ?_, ?_, ?_, ?_, ?_⟩
    · simp [AHeap.get_upd, AHeap.get_new, AHeap.nx_new, AHeap.nx_upd]
    · simp [AHeap.nx_new, AHeap.nx_upd]
    · simp [AHeap.get_upd]
    · rintro m ⟨n, e⟩; cases e
    · refine Sub.upd (Sub.new (Sub.upd (Sub.new (Sub.new (Sub.refl s) _) _) (by omega) _) _) (by omega) _
    · simp [AHeap.get_upd, AHeap.get_new, AHeap.nx_new, AHeap.nx_upd]
      rw [if_neg (by omega), if_neg (by omega)]
    · simp [AHeap.nx_new, AHeap.nx_upd]
  · rintro k tm1 s1 ⟨i, a, B, L, y, hk, hlen1, q0, q4, q5, q6, q7, q14, q15, q16, hf, hA, hown, hs, hz, hn3, ha, hB, hs0, hL, hLl⟩
    simp +contextual only [hlen1, q0, q4, q5, q6, q7, q14, q15, q16, go_sem, Nat.reduceLT, Nat.reduceEqDiff, Nat.reduceAdd, Nat.reduceLeDiff, reduceIte, reduceCtorEq]
    refine ⟨fun hlt => ?_, fun hge => ?_⟩
    · have hi : i < l.length := by omega
      have he := List.getElem?_eq_getElem hi
      have hmem : l[i] ∈ l := List.getElem_mem hi
      have hdrop := List.drop_eq_getElem_cons hi
      generalize l[i] = e at he hdrop hmem
      have hen := hnew e hmem
      rw [hdrop] at hs0 hL
      obtain ⟨c1, c2, c3, c4, c5, c6⟩ := scan_cons hs0
      have hat : e.at_ = (e.at_.toNat : Int) := by omega
      simp +contextual only [hlen1, q0, q4, q5, q6, q7, q14, q15, q16, hv.at he, go_sem, Nat.reduceLT, Nat.reduceEqDiff, Nat.reduceAdd, Nat.reduceLeDiff, reduceIte, reduceCtorEq]
      have hAo : ¬ Own2 y (s.nx + 1 + 1) := fun q => by have := hown _ q; omega
      have hi2 : i * 100000 ≤ 2000 * 100000 := Nat.mul_le_mul_right _ (by omega)
      have hSn := (hs.new (.cells [.int .i64 0, .int .i64 0, .str []] (some 35))).upd hs.1 (.cells [.int .i64 e.at_, .int .i64 e.cut, .str e.new] (some 35))
      have hk2 : ∀ m o, m < s1.nx → s1.get m = some o → ((s1.new (.cells [.int .i64 0, .int .i64 0, .str []] (some 35))).upd s1.nx (.cells [.int .i64 e.at_, .int .i64 e.cut, .str e.new] (some 35))).get m = some o := by
        intro m o hm hg
        rw [AHeap.get_upd, if_neg (by omega), AHeap.get_new, if_neg (by omega)]; exact hg
      have hge2 : ((s1.new (.cells [.int .i64 0, .int .i64 0, .str []] (some 35))).upd s1.nx (.cells [.int .i64 e.at_, .int .i64 e.cut, .str e.new] (some 35))).get s1.nx = some (.cells [.int .i64 e.at_, .int .i64 e.cut, .str e.new] (some 35)) := by rw [AHeap.get_upd, if_pos rfl]
      have hnx2 : ((s1.new (.cells [.int .i64 0, .int .i64 0, .str []] (some 35))).upd s1.nx (.cells [.int .i64 e.at_, .int .i64 e.cut, .str e.new] (some 35))).nx = s1.nx + 1 := by rw [AHeap.nx_upd, AHeap.nx_new]
      generalize (s1.new (.cells [.int .i64 0, .int .i64 0, .str []] (some 35))).upd s1.nx (.cells [.int .i64 e.at_, .int .i64 e.cut, .str e.new] (some 35)) = s2 at hSn hk2 hge2 hnx2 ⊢
      have hf2 : Flow s2 (s.nx + 1) n y L := hf.keep (by omega) fun m o hm hg => hk2 m o (hf.own_lt hm) hg
      have hkp := keep_ok hf2 a e.at_.toNat (hk2 _ _ (by omega) hA) (by omega) (by omega) hAo (by omega) (by omega) (by omega)
      rw [← hat] at hkp
      refine lcall_of hkp ?_
      intro r t hrt
      have hfl := And.right hrt
      have hr : r = .tuple [] := And.left hrt
      clear hrt
      rw [hr]
      obtain ⟨y', hf', hA', ho'⟩ := hfl.flow
      have hzt := hfl.keep s.nx _ (by omega) (by omega) (by omega) (fun q => by have := hown _ q; omega) (hk2 _ _ (by omega) hz)
      have hno : ∀ y'' : AV, (∀ m, Own2 y'' m → m < s1.nx) → ¬ Own2 y'' s1.nx := fun y'' h q => by have := h _ q; omega
      have hget := hfl.keep s1.nx _ (by omega) (by omega) (by omega) (hno y fun m q => hf.own_lt (.inr q)) hge2
      have hSt : Sub s t := ⟨by have := hfl.nx; have := hSn.1; omega, fun m o hm hg => hfl.keep m o (by omega) (by omega) (by omega) (fun q => by have := hown _ q; omega) (hSn.2 m o hm hg)⟩
      have hin : ∀ m, Own2 y' m → s.nx + 3 ≤ m ∧ m ≠ s1.nx := fun m q => by
        rcases ho' m q with r | r
        · exact ⟨hown m r, by have := hf.own_lt (.inr r); omega⟩
        · exact ⟨by omega, by omega⟩
      have hnxt := hfl.nx
      simp +contextual only [hlen1, q0, q4, q5, q6, q7, q14, q15, q16, hget, go_sem, Nat.reduceLT, Nat.reduceEqDiff, Nat.reduceAdd, Nat.reduceLeDiff, reduceIte, reduceCtorEq]
      refine ⟨fun k2 tm' s' => ∃ (p : Nat) (y2 : AV), k2 + p = e.new.length ∧ tm'.length = 51 ∧ aev tm' (.tmp 0) = .int .i64 n ∧ aev tm' (.tmp 4) = .ptr s.nx 0 ∧ aev tm' (.tmp 5) = .ptr (s.nx + 1) 0 ∧
        aev tm' (.tmp 6) = .ptr (s.nx + 1 + 1) 0 ∧ aev tm' (.tmp 7) = .func (.func 119) [] [.ptr (s.nx + 1 + 1) 0, .ptr (s.nx + 1) 0] ∧ aev tm' (.tmp 14) = v ∧ aev tm' (.tmp 15) = .int .i64 l.length ∧ aev tm' (.tmp 16) = .int .i64 i ∧
        aev tm' (.tmp 9) = .ptr s1.nx 0 ∧ aev tm' (.tmp 26) = .int .i64 e.new.length ∧ aev tm' (.tmp 27) = .int .i64 p ∧ Flow s' (s.nx + 1) n y2 (L ++ runOf a (e.at_.toNat - a) ++ (e.new.take p).map (fun c => ((-1 : Int), c))) ∧
        s'.get (s.nx + 1 + 1) = some (.cells [.int .i64 (max a e.at_.toNat : Nat)] (some 3)) ∧ (∀ m, Own2 y2 m → s.nx + 3 ≤ m ∧ m ≠ s1.nx) ∧ Sub s s' ∧ s'.get s.nx = some (.cells [.int .i64 0, .nils] (some 118)) ∧
        s'.get s1.nx = some (.cells [.int .i64 e.at_, .int .i64 e.cut, .str e.new] (some 35)) ∧ s1.nx < s'.nx, e.new.length, ⟨0, y', by simp, ?_⟩, ?_⟩
      · simp only [length_aput, hlen1, aev_same, aev_ne, ne_eq, Nat.reduceEqDiff, not_false_eq_true, q0, q4, q5, q6, q7, q14, q15, q16, Nat.reduceLT, true_and]
        exact ⟨rfl, by simpa using hf', hfl.at_, hin, hSt, hzt, hget, by omega⟩
      · rintro k2 tm2 s3 ⟨p, y2, hkp2, hlen2, r0, r4, r5, r6, r7, r14, r15, r16, r9, r26, r27, hf3, hA3, hin3, hs3, hz3, hge3, hn33⟩
        simp +contextual only [hlen2, r0, r4, r5, r6, r7, r14, r15, r16, r9, r26, r27, hge3, hA3, go_sem, Nat.reduceLT, Nat.reduceEqDiff, Nat.reduceAdd, Nat.reduceLeDiff, reduceIte, reduceCtorEq]
        refine ⟨fun hp => ?_, fun hp => ?_⟩
        · refine ldraw_call (fun _ _ _ => none) (by intro f a s v t h; cases h) [(1, 1)] 8 (by decide) ?_
          have hgF := hf3.get
          have hpx : (0 : Int) ≤ p := Int.natCast_nonneg p
          obtain ⟨ch, hch⟩ : ∃ ch, e.new[p]? = some ch := ⟨_, List.getElem?_eq_getElem (by omega)⟩
          have hix : aindex tab 9 (.str e.new) (.int .i64 p) = some (.int .u8 ch.toNat) := by simp [aindex, ty9, hch]
          have hAn : ¬ s.nx + 1 = s3.nx := by omega
          simp +contextual only [hlen2, r0, r4, r5, r6, r7, r14, r15, r16, r9, r26, r27, hge3, hA3, hgF, hix, build121_2, bs116, go_sem, Nat.reduceLT, Nat.reduceEqDiff, Nat.reduceAdd, Nat.reduceLeDiff, reduceIte, reduceCtorEq]
          have hnF : ¬ s.nx + 1 = s3.nx + 8 := by omega
          refine ⟨by kernel_rfl, ?_, ?_⟩
          · rw [ldyn_cons rfl]
            simp +contextual only [hlen2, r0, r5, hgF, hnF, ldyn_nil, ltmTo, aquiet_load, Option.bind_some, go_sem, Nat.reduceLT, Nat.reduceEqDiff, Nat.reduceAdd, Nat.reduceLeDiff, reduceIte, reduceCtorEq]
          · have hf4 : Flow ((bump s3 8).new (.cells [.int .i64 (-1), .int .u8 ch.toNat] (some 121))) (s.nx + 1) n y2 (L ++ runOf a (e.at_.toNat - a) ++ (e.new.take p).map (fun c => ((-1 : Int), c))) :=
              hf3.keep (by rw [AHeap.nx_new, nx_bump]; omega) fun m o hm hg => by rw [AHeap.get_new, nx_bump, if_neg (by have := hf3.own_lt hm; omega)]; exact hg
            obtain ⟨y4, t4, happ, hnx4, hkeep4, hown4, d, hd1, hd2, hd3, hd4⟩ := app_letter hf4 (-1) ch (g := s3.nx + 8) (by rw [AHeap.get_new, nx_bump, if_pos rfl]) (by simp [runOf]; omega)
            subst hd3
            rw [AHeap.nx_new, nx_bump] at hnx4 hkeep4 hown4
            have hk4 : ∀ m o, m < s3.nx → ¬ Own2 y2 m → s3.get m = some o → t4.get m = some o := fun m o hm hno hg => hkeep4 m o (by omega) hno (by rw [AHeap.get_new, nx_bump, if_neg (by omega)]; exact hg)
            have hFl := hf3.lt
            have hgF4 := hk4 _ _ hFl hf3.notOwn hgF
            have hA4 := hk4 _ _ (by omega) (fun q => by have := (hin3 _ q).1; omega) hA3
            have hz4 := hk4 _ _ (by omega) (fun q => by have := (hin3 _ q).1; omega) hz3
            have he4 := hk4 _ _ hn33 (fun q => (hin3 _ q).2 rfl) hge3
            have hs4 : Sub s t4 := ⟨by omega, fun m o hm hg => hk4 m o (by omega) (fun q => by have := (hin3 _ q).1; omega) (hs3.2 m o hm hg)⟩
            have htk : e.new.take (p + 1) = e.new.take p ++ [ch] := by rw [List.take_add_one, hch]; rfl
            have hLL : L ++ runOf a (e.at_.toNat - a) ++ (e.new.take (p + 1)).map (fun c => ((-1 : Int), c)) = L ++ runOf a (e.at_.toNat - a) ++ (e.new.take p).map (fun c => ((-1 : Int), c)) ++ [((-1 : Int), ch)] := by
              rw [htk]; simp
            have hdn := hown4 d ⟨_, rfl⟩
            rw [← hLL] at happ hd4
            have hfl4 : Flow (t4.upd (s.nx + 1) (.cells [.int .i64 n, .rs 2 d 0 (L ++ runOf a (e.at_.toNat - a) ++ (e.new.take (p + 1)).map (fun c => ((-1 : Int), c))).length] (some 118))) (s.nx + 1) n
                (.rs 2 d 0 (L ++ runOf a (e.at_.toNat - a) ++ (e.new.take (p + 1)).map (fun c => ((-1 : Int), c))).length) (L ++ runOf a (e.at_.toNat - a) ++ (e.new.take (p + 1)).map (fun c => ((-1 : Int), c))) := by
              refine ⟨by rw [AHeap.get_upd, if_pos rfl], by rw [AHeap.nx_upd]; omega, .inr ⟨d, hd1, by rw [AHeap.nx_upd]; exact hd2, rfl, by rw [hLL]; simp, by rw [AHeap.get_upd, if_neg hd1]; exact hd4⟩⟩
            have hw5 : IntKind.i64.wrap ((p : Int) + 1) = ((p + 1 : Nat) : Int) := by rw [wrap_id (by omega)]; rfl
            clear hd4 hLL
            generalize hlen4 : (L ++ runOf a (e.at_.toNat - a) ++ (e.new.take (p + 1)).map (fun c => ((-1 : Int), c))).length = len at happ hfl4
            simp +contextual only [hlen2, r0, r4, r5, r6, r7, r14, r15, r16, r9, r26, r27, ty116, happ, hgF4, go_sem, Nat.reduceLT, Nat.reduceEqDiff, Nat.reduceAdd, Nat.reduceLeDiff, reduceIte, reduceCtorEq]
            refine ⟨k2 - 1, by omega, p + 1, .rs 2 d 0 len, by omega, by rw [hw5], hfl4, by rw [if_neg (by omega)]; exact hA4, fun m q => ?_, hs4.upd (by omega) _, by rw [if_neg (by omega)]; exact hz4, by rw [if_neg (by omega)]; exact he4, by omega⟩
            obtain ⟨zz, hzz⟩ := q
            cases hzz
            exact ⟨by omega, by omega⟩
        · have hpn : p = e.new.length := by omega
          subst hpn
          rw [List.take_length] at hf3
          have hw1 : IntKind.i64.wrap ((i : Int) + 1) = ((i + 1 : Nat) : Int) := by rw [wrap_id (by omega)]; rfl
          have hw2 : IntKind.i64.wrap (e.at_ + e.cut) = ((e.at_ + e.cut).toNat : Int) := by rw [wrap_id (by omega)]; omega
          rw [hw2]
          refine ⟨k - 1, by omega, i + 1, (e.at_ + e.cut).toNat, e.at_ + e.cut, _, y2, by omega, by rw [hw1], hf3.keep (by rw [AHeap.nx_upd]; omega) ?_, rfl, fun m q => (hin3 m q).1, hs3.upd (by omega) _, by rw [if_neg (by omega)]; exact hz3, by omega, by omega, .inl (by omega), c6, ?_, ?_⟩
          · intro m o hm hg
            rw [AHeap.get_upd, if_neg ?_]; exact hg
            rcases hm with rfl | q
            · omega
            · have := (hin3 m q).1; omega
          · rw [← hL, flowFrom]; simp
          · simp only [List.length_append, runOf, List.length_map, List.length_range']
            have : (i + 1) * 100000 = i * 100000 + 100000 := by omega
            omega
    · have hi : i = l.length := by omega
      have hdl : l.drop i = [] := by rw [hi, List.drop_length]
      rw [hdl] at hL hs0
      have hAo : ¬ Own2 y (s.nx + 1 + 1) := fun q => by have := hown _ q; omega
      have hi2 : i * 100000 ≤ 2000 * 100000 := Nat.mul_le_mul_right _ (by omega)
      rw [flowFrom] at hL
      refine lcall_of (keep_ok hf a n hA (by omega) (by omega) hAo (by omega) (by omega) (by omega)) ?_
      intro r t hrt
      have hfl := And.right hrt
      have hr : r = .tuple [] := And.left hrt
      rw [hr]
      rw [hL] at hfl
      obtain ⟨y', hf', hA', ho'⟩ := hfl.flow
      have hzt := hfl.keep s.nx _ (by omega) (by omega) (by omega) (fun q => by have := hown _ q; omega) hz
      have hgF := hf'.get
      have hin : ∀ m, Own2 y' m → s.nx + 3 ≤ m := fun m q => by
        rcases ho' m q with r | r
        · exact hown m r
        · omega
      have hSt : Sub s t := ⟨by have := hfl.nx; omega, fun m o hm hg => hfl.keep m o (by omega) (by omega) (by omega) (fun q => by have := hown _ q; omega) (hs.2 m o hm hg)⟩
      have hfin : ∀ y', Flow t (s.nx + 1) n y' (flowFrom n 0 l) → (∀ m, Own2 y' m → s.nx + 3 ≤ m) → ((y' = .nils ∧ flowFrom n 0 l = []) ∨ ∃ c, s.nx ≤ c ∧ c < (t.upd s.nx (.cells [.int .i64 n, y'] (some 118))).nx ∧ y' = .rs 2 c 0 (flowFrom n 0 l).length ∧ ¬ flowFrom n 0 l = [] ∧
          (t.upd s.nx (.cells [.int .i64 n, y'] (some 118))).get c = some (.cells (letters (flowFrom n 0 l)) (some 121))) := by
        intro y' hf' hin
        rcases hf'.buf with q | ⟨c, g1, g2, g3, g4, g5⟩
        · exact .inl q
        · have := hin c ⟨_, g3⟩
          exact .inr ⟨c, by omega, by rw [AHeap.nx_upd]; exact g2, g3, g4, by rw [AHeap.get_upd, if_neg (by omega)]; exact g5⟩
      have hres := hfin y' hf' hin
      rcases hf'.buf with ⟨rfl, _⟩ | ⟨c, _, _, rfl, _, _⟩
      · simp +contextual only [hlen1, q0, q4, q5, hgF, hzt, go_sem, Nat.reduceLT, Nat.reduceEqDiff, Nat.reduceAdd, Nat.reduceLeDiff, reduceIte, reduceCtorEq]
        exact ⟨_, rfl, ⟨_, rfl, by simpa only [AHeap.nx_upd, AHeap.get_upd] using hres⟩, hSt.upd (Nat.le_refl _) _⟩
      · generalize (flowFrom n 0 l).length = len at *
        simp +contextual only [hlen1, q0, q4, q5, hgF, hzt, go_sem, Nat.reduceLT, Nat.reduceEqDiff, Nat.reduceAdd, Nat.reduceLeDiff, reduceIte, reduceCtorEq]
        exact ⟨_, rfl, ⟨_, rfl, by simpa only [AHeap.nx_upd, AHeap.get_upd] using hres⟩, hSt.upd (Nat.le_refl _) _⟩
end Go.S1
end
section
set_option linter.unusedVariables false
set_option linter.unusedSimpArgs false
namespace Go.S1
open Go Go.Am Go.Proofs
set_option maxRecDepth 100000
set_option linter.unusedSimpArgs false
attribute [local go_sem] lvc_seq lvc_draw lvc_ops lvc_skip lvc_block lvc_exit lops_nil lops_cons lops_guard lstep_move lstep_assign lstep_binOp lstep_unOp lstep_pick lstep_nilCheck lstep_build lstep_slice lstep_fieldAddr lstep_indexAddr lstep_index lstep_extract lstep_makeFunc lstep_load lstep_store lstep_makeSlice lstep_buildSlice lstep_len lstep_append lstep_call lfun_func athen_normal athen_ret athen_exit ablock_normal ablock_ret ablock_exit ablock_exit_ne lvc_ret lvc_cond lvc_loop length_aput aput_none aev_same aev_ne aev_bool aev_int aev_str aev_nilIface aev_nilp aev_nils aev_nilm aev_func List.getD_cons_zero List.getD_cons_succ List.map_cons List.map_nil Option.map_some Option.map_none List.nil_append List.append_nil abin_add abin_sub abin_mul abin_eql abin_neq abin_lss abin_leq abin_gtr abin_geq abin_seql abin_sneq lval_some lmem_some bool?_bool ne_eq not_false_eq_true lpost_normal0 lpost_ret1 lpost_cell1 lcond_true lcond_false lcond_decide lcond_not lguard_decide_true lguard_decide_false lguard_true_true lguard_true_false lguard_false_false lguard_false_true apick_true apick_false decide_true decide_false lstep_min amin2_int amax2_int aun_not_decide aun_not_true aun_not_false aun_neg not_true_eq_false Classical.not_not al3 al9 al27 al35 al118 al121 ld3 st3 ld4 ld5 ld9 st9 len9 ld22 len22r fa25_0p fa25_1p ld27 st27 len27n ld31 fa35_0p fa35_0r fa35_1p fa35_1r fa35_2p fa35_2r ld35 st35 len63r len107r ld116 st116 fa118_0p fa118_1p ld118 st118 fa121_0p fa121_1p ld121 st121 acellsAt_r acellsAt_p astoreAt_p cells?_some Option.bind_some AV.ofV AV.ofOne AV.israw AV.cells splice AHeap.get_new AHeap.get_upd AHeap.nx_new AHeap.nx_upd List.drop_zero List.drop_succ_cons List.take_succ_cons List.take_zero List.length_cons List.length_nil List.all_cons List.all_nil AV.one List.set_cons_zero List.set_cons_succ List.getElem?_cons_zero List.getElem?_cons_succ Nat.zero_add Nat.add_zero Bool.and_true and_self and_true true_and if_true if_false ite_true ite_false Bool.false_eq_true Bool.true_eq_false List.toList_toArray Nat.le_refl List.drop_nil List.take_nil get_bump nx_bump
theorem flow_len (n : Nat) : ∀ (l : List Ed) (a : Nat), (∀ e ∈ l, e.new.length ≤ 100000) → (∀ e ∈ l, e.at_ ≤ n) → (flowFrom n a l).length ≤ n + l.length * (n + 100000)
  | [], a, _, _ => by simp [flowFrom, runOf]
  | e :: r, a, h, h2 => by
    have ih := flow_len n r (e.at_ + e.cut).toNat (fun e he => h e (List.mem_cons_of_mem _ he)) (fun e he => h2 e (List.mem_cons_of_mem _ he))
    have h1 := h e (List.mem_cons_self)
    have h3 := h2 e (List.mem_cons_self)
    rw [flowFrom]
    simp only [List.length_append, List.length_cons, List.length_map, runOf, List.length_range']
    rw [Nat.add_mul]
    omega
end Go.S1
end
section
set_option linter.unusedVariables false
set_option linter.unusedSimpArgs false
namespace Go.S1
open Go Go.Am Go.Proofs
set_option maxRecDepth 100000
set_option linter.unusedSimpArgs false
attribute [local go_sem] lvc_seq lvc_draw lvc_ops lvc_skip lvc_block lvc_exit lops_nil lops_cons lops_guard lstep_move lstep_assign lstep_binOp lstep_unOp lstep_pick lstep_nilCheck lstep_build lstep_slice lstep_fieldAddr lstep_indexAddr lstep_index lstep_extract lstep_makeFunc lstep_load lstep_store lstep_makeSlice lstep_buildSlice lstep_len lstep_append lstep_call lfun_func athen_normal athen_ret athen_exit ablock_normal ablock_ret ablock_exit ablock_exit_ne lvc_ret lvc_cond lvc_loop length_aput aput_none aev_same aev_ne aev_bool aev_int aev_str aev_nilIface aev_nilp aev_nils aev_nilm aev_func List.getD_cons_zero List.getD_cons_succ List.map_cons List.map_nil Option.map_some Option.map_none List.nil_append List.append_nil abin_add abin_sub abin_mul abin_eql abin_neq abin_lss abin_leq abin_gtr abin_geq abin_seql abin_sneq lval_some lmem_some bool?_bool ne_eq not_false_eq_true lpost_normal0 lpost_ret1 lpost_cell1 lcond_true lcond_false lcond_decide lcond_not lguard_decide_true lguard_decide_false lguard_true_true lguard_true_false lguard_false_false lguard_false_true apick_true apick_false decide_true decide_false lstep_min amin2_int amax2_int aun_not_decide aun_not_true aun_not_false aun_neg not_true_eq_false Classical.not_not al3 al9 al27 al35 al118 al121 ld3 st3 ld4 ld5 ld9 st9 len9 ld22 len22r fa25_0p fa25_1p ld27 st27 len27n ld31 fa35_0p fa35_0r fa35_1p fa35_1r fa35_2p fa35_2r ld35 st35 len63r len107r ld116 st116 fa118_0p fa118_1p ld118 st118 fa121_0p fa121_1p ld121 st121 acellsAt_r acellsAt_p astoreAt_p cells?_some Option.bind_some AV.ofV AV.ofOne AV.israw AV.cells splice AHeap.get_new AHeap.get_upd AHeap.nx_new AHeap.nx_upd List.drop_zero List.drop_succ_cons List.take_succ_cons List.take_zero List.length_cons List.length_nil List.all_cons List.all_nil AV.one List.set_cons_zero List.set_cons_succ List.getElem?_cons_zero List.getElem?_cons_succ Nat.zero_add Nat.add_zero Bool.and_true and_self and_true true_and if_true if_false ite_true ite_false Bool.false_eq_true Bool.true_eq_false List.toList_toArray Nat.le_refl List.drop_nil List.take_nil get_bump nx_bump ldrun_nil ldrun_cons ldrun_guard ldval_some ldstep_move ldstep_build ldstep_fieldAddr ldstep_index ldstep_load List.cons_append lallocs ldlen_some ldmem_some ldstep_buildSlice AHeap.upds List.foldl_nil List.foldl_cons
def wr (n : Int) : Int := IntKind.i64.wrap n
def belowOf (x n : Int) : Int := if n < 1 then 0 else if x.tmod n < 0 then wr (x.tmod n + n) else x.tmod n
theorem below_ok (x n : Int) (s : AHeap) : ACall Try.prog 116 [.int .i64 x, .int .i64 n] s fun v t => v = .int .i64 (belowOf x n) ∧ t = s := by
  refine go116 (by simp) ?_
  intro tm hlen harg
  simp +contextual only [L116, hlen, harg, go_sem, Nat.reduceLT, Nat.reduceEqDiff, Nat.reduceAdd, Nat.reduceLeDiff, reduceIte, reduceCtorEq]
  refine ⟨fun h => ?_, fun h => ?_⟩
  · simp [belowOf, h]
  · have hn : n ≠ 0 := by omega
    simp +contextual only [hlen, harg, abin_rem hn, go_sem, Nat.reduceLT, Nat.reduceEqDiff, Nat.reduceAdd, Nat.reduceLeDiff, reduceIte, reduceCtorEq]
    refine ⟨fun h2 => ?_, fun h2 => ?_⟩
    · simp only [belowOf, if_neg h, if_pos h2, wr, and_self]
    · simp only [belowOf, if_neg h, if_neg h2, and_self]
theorem below_lt {x n : Int} (hn : 1 ≤ n) (hb : n ≤ 4611686018427387904) : 0 ≤ belowOf x n ∧ belowOf x n < n := by
  unfold belowOf
  rw [if_neg (by omega)]
  have h1 := Int.tmod_lt_of_pos x (show 0 < n by omega)
  have h2 := Int.lt_tmod_of_pos x (show 0 < n by omega)
  split
  · rw [wr, wrap_id (by omega)]; omega
  · omega
def IsInts (v : AV) (l : List Int) : Prop := (∃ f, v = .vs 1 f (l.map (AV.int .i64))) ∨ (v = .nils ∧ l = [])
theorem IsInts.len {v : AV} {l : List Int} (h : IsInts v l) : alen tab 22 v = some (.int .i64 l.length) := by
  rcases h with ⟨f, rfl⟩ | ⟨rfl, rfl⟩ <;> simp [alen, ty22]
theorem IsInts.at {v : AV} {l : List Int} (h : IsInts v l) {n : Int} (h0 : 0 ≤ n) {x : Int} (he : l[n.toNat]? = some x) : aindexAddr tab 22 v (.int .i64 n) = some (.rptr [.int .i64 x]) := by
  rcases h with ⟨f, rfl⟩ | ⟨rfl, rfl⟩
  · simp [aindexAddr, ty22, Tab.size, ty3, he, h0, AV.israw, AV.cells]
  · simp at he
def nextOf (L : List Int) (at_ n : Int) : Int :=
  if L = [] then belowOf (wr (wr (at_ + 1) * 7919)) n
  else
    let i := (wr (wr (at_ + 1) - 1)).tmod L.length
    let round := wr ((wr (wr (at_ + 1) - 1)).tdiv L.length)
    belowOf (wr (belowOf (L.getD i.toNat 0) 1073741824 + wr (round * wr (7919 + i)))) n
theorem nextOf_lt (L : List Int) (at_ : Int) {n : Int} (hn : 1 ≤ n) (hb : n ≤ 4611686018427387904) : 0 ≤ nextOf L at_ n ∧ nextOf L at_ n < n := by
  unfold nextOf
  split
  · exact below_lt hn hb
  · exact below_lt hn hb
structure Strm (s : AHeap) (b : Nat) (Lv : AV) (L : List Int) (at_ : Int) : Prop where
  ints : IsInts Lv L
  len : L.length < 4611686018427387904
  at0 : 0 ≤ at_
  get : s.get b = some (.cells [Lv, .int .i64 at_] (some 25))
theorem rs_at {b n : Nat} {i : Int} (h0 : 0 ≤ i) (h1 : i < n) : aindexAddr tab 22 (.rs 1 b 0 n) (.int .i64 i) = some (.ptr b i.toNat) := by
  simp [aindexAddr, ty22, Tab.size, ty3, h0, h1]
theorem rs_at63 {b n : Nat} {i : Int} (h0 : 0 ≤ i) (h1 : i < n) : aindexAddr tab 63 (.rs 1 b 0 n) (.int .i64 i) = some (.ptr b i.toNat) := by
  simp [aindexAddr, ty63, Tab.size, ty9, h0, h1]
end Go.S1
end
