import Derived.Test.YtfolmcpfdcgliaaGreatMg6
import Derived.Test.YtfolmcpfdcgliaaGreatProg
import Derived.KernelRfl
set_option linter.unusedVariables false
set_option maxRecDepth 100000
namespace Go.Proofs.YtfolmcpfdcgliaaGreat.B
open Go Go.Proofs
abbrev tabL : List (Nat × TE) := [(1, ⟨.func, 1, 8, .nilFunc⟩), (2, ⟨.int .i64, 1, 8, .int .i64 0⟩), (3, ⟨.int .i64, 1, 8, .int .i64 0⟩), (4, ⟨.bool, 1, 1, .bool false⟩), (5, ⟨.int .u8, 1, 1, .int .u8 0⟩), (9, ⟨.string, 1, 16, .string ⟨#[]⟩⟩), (12, ⟨.int .u64, 1, 8, .int .u64 0⟩), (13, ⟨.struct [(9, 0), (12, 1)], 2, 24, .agg #[.string ⟨#[]⟩, .int .u64 0]⟩), (20, ⟨.iface, 1, 16, .nilIface⟩), (21, ⟨.int .i32, 1, 4, .int .i32 0⟩), (22, ⟨.func, 1, 8, .nilFunc⟩), (23, ⟨.func, 1, 8, .nilFunc⟩), (24, ⟨.ptr 35, 1, 8, .pointer none⟩), (25, ⟨.ptr 62, 1, 8, .pointer none⟩), (27, ⟨.func, 1, 8, .nilFunc⟩), (28, ⟨.slice 3, 1, 24, .slice none 0 0⟩), (29, ⟨.ptr 92, 1, 8, .pointer none⟩), (30, ⟨.func, 1, 8, .nilFunc⟩), (31, ⟨.slice 76, 1, 24, .slice none 0 0⟩), (32, ⟨.slice 46, 1, 24, .slice none 0 0⟩), (33, ⟨.ptr 118, 1, 8, .pointer none⟩), (34, ⟨.struct [(31, 0), (32, 1), (33, 2)], 3, 56, .agg #[.slice none 0 0, .slice none 0 0, .pointer none]⟩), (35, ⟨.struct [(31, 0), (32, 1), (33, 2)], 3, 56, .agg #[.slice none 0 0, .slice none 0 0, .pointer none]⟩), (36, ⟨.slice 49, 1, 24, .slice none 0 0⟩), (37, ⟨.int .i64, 1, 8, .int .i64 0⟩), (39, ⟨.func, 1, 8, .nilFunc⟩), (40, ⟨.func, 1, 8, .nilFunc⟩), (41, ⟨.func, 1, 8, .nilFunc⟩), (42, ⟨.func, 1, 8, .nilFunc⟩), (43, ⟨.slice 9, 1, 24, .slice none 0 0⟩), (44, ⟨.struct [(3, 0), (36, 1)], 2, 32, .agg #[.int .i64 0, .slice none 0 0]⟩), (45, ⟨.struct [(3, 0), (36, 1)], 2, 32, .agg #[.int .i64 0, .slice none 0 0]⟩), (46, ⟨.ptr 103, 1, 8, .pointer none⟩), (47, ⟨.func, 1, 8, .nilFunc⟩), (48, ⟨.struct [(3, 0), (9, 1)], 2, 24, .agg #[.int .i64 0, .string ⟨#[]⟩]⟩), (49, ⟨.struct [(3, 0), (9, 1)], 2, 24, .agg #[.int .i64 0, .string ⟨#[]⟩]⟩), (50, ⟨.func, 1, 8, .nilFunc⟩), (51, ⟨.func, 1, 8, .nilFunc⟩), (52, ⟨.func, 1, 8, .nilFunc⟩), (53, ⟨.slice 64, 1, 24, .slice none 0 0⟩), (54, ⟨.slice 29, 1, 24, .slice none 0 0⟩), (55, ⟨.slice 56, 1, 24, .slice none 0 0⟩), (56, ⟨.ptr 68, 1, 8, .pointer none⟩), (57, ⟨.func, 1, 8, .nilFunc⟩), (58, ⟨.slice 86, 1, 24, .slice none 0 0⟩), (59, ⟨.slice 88, 1, 24, .slice none 0 0⟩), (60, ⟨.ptr 84, 1, 8, .pointer none⟩), (61, ⟨.struct [(58, 0), (59, 1), (60, 2)], 3, 56, .agg #[.slice none 0 0, .slice none 0 0, .pointer none]⟩), (62, ⟨.struct [(58, 0), (59, 1), (60, 2)], 3, 56, .agg #[.slice none 0 0, .slice none 0 0, .pointer none]⟩), (63, ⟨.struct [(3, 0), (3, 1), (3, 2), (9, 3), (28, 4), (3, 5), (3, 6), (28, 7)], 8, 104, .agg #[.int .i64 0, .int .i64 0, .int .i64 0, .string ⟨#[]⟩, .slice none 0 0, .int .i64 0, .int .i64 0, .slice none 0 0]⟩), (64, ⟨.struct [(3, 0), (3, 1), (3, 2), (9, 3), (28, 4), (3, 5), (3, 6), (28, 7)], 8, 104, .agg #[.int .i64 0, .int .i64 0, .int .i64 0, .string ⟨#[]⟩, .slice none 0 0, .int .i64 0, .int .i64 0, .slice none 0 0]⟩), (65, ⟨.func, 1, 8, .nilFunc⟩), (66, ⟨.func, 1, 8, .nilFunc⟩), (67, ⟨.struct [(59, 0), (60, 1), (3, 2), (3, 3), (4, 4)], 5, 56, .agg #[.slice none 0 0, .pointer none, .int .i64 0, .int .i64 0, .bool false]⟩), (68, ⟨.struct [(59, 0), (60, 1), (3, 2), (3, 3), (4, 4)], 5, 56, .agg #[.slice none 0 0, .pointer none, .int .i64 0, .int .i64 0, .bool false]⟩), (69, ⟨.func, 1, 8, .nilFunc⟩), (70, ⟨.func, 1, 8, .nilFunc⟩), (71, ⟨.struct [(3, 0), (9, 1)], 2, 24, .agg #[.int .i64 0, .string ⟨#[]⟩]⟩), (72, ⟨.struct [(3, 0), (9, 1)], 2, 24, .agg #[.int .i64 0, .string ⟨#[]⟩]⟩), (74, ⟨.func, 1, 8, .nilFunc⟩), (75, ⟨.func, 1, 8, .nilFunc⟩), (76, ⟨.ptr 135, 1, 8, .pointer none⟩), (77, ⟨.func, 1, 8, .nilFunc⟩), (78, ⟨.func, 1, 8, .nilFunc⟩), (80, ⟨.func, 1, 8, .nilFunc⟩), (81, ⟨.func, 1, 8, .nilFunc⟩), (82, ⟨.slice 72, 1, 24, .slice none 0 0⟩), (83, ⟨.struct [(82, 0), (28, 1)], 2, 48, .agg #[.slice none 0 0, .slice none 0 0]⟩), (84, ⟨.struct [(82, 0), (28, 1)], 2, 48, .agg #[.slice none 0 0, .slice none 0 0]⟩), (85, ⟨.func, 1, 8, .nilFunc⟩), (86, ⟨.ptr 149, 1, 8, .pointer none⟩), (87, ⟨.func, 1, 8, .nilFunc⟩), (88, ⟨.ptr 112, 1, 8, .pointer none⟩), (90, ⟨.func, 1, 8, .nilFunc⟩), (91, ⟨.struct [(32, 0), (33, 1), (3, 2), (3, 3), (4, 4)], 5, 56, .agg #[.slice none 0 0, .pointer none, .int .i64 0, .int .i64 0, .bool false]⟩), (92, ⟨.struct [(32, 0), (33, 1), (3, 2), (3, 3), (4, 4)], 5, 56, .agg #[.slice none 0 0, .pointer none, .int .i64 0, .int .i64 0, .bool false]⟩), (93, ⟨.slice 45, 1, 24, .slice none 0 0⟩), (95, ⟨.func, 1, 8, .nilFunc⟩), (96, ⟨.func, 1, 8, .nilFunc⟩), (97, ⟨.func, 1, 8, .nilFunc⟩), (99, ⟨.func, 1, 8, .nilFunc⟩), (100, ⟨.func, 1, 8, .nilFunc⟩), (101, ⟨.func, 1, 8, .nilFunc⟩), (102, ⟨.struct [(76, 0), (3, 1), (45, 2), (4, 4)], 5, 56, .agg #[.pointer none, .int .i64 0, .int .i64 0, .slice none 0 0, .bool false]⟩), (103, ⟨.struct [(76, 0), (3, 1), (45, 2), (4, 4)], 5, 56, .agg #[.pointer none, .int .i64 0, .int .i64 0, .slice none 0 0, .bool false]⟩), (104, ⟨.func, 1, 8, .nilFunc⟩), (105, ⟨.func, 1, 8, .nilFunc⟩), (106, ⟨.func, 1, 8, .nilFunc⟩), (108, ⟨.func, 1, 8, .nilFunc⟩), (109, ⟨.func, 1, 8, .nilFunc⟩), (110, ⟨.func, 1, 8, .nilFunc⟩), (111, ⟨.struct [(86, 0), (3, 1), (45, 2), (4, 4)], 5, 56, .agg #[.pointer none, .int .i64 0, .int .i64 0, .slice none 0 0, .bool false]⟩), (112, ⟨.struct [(86, 0), (3, 1), (45, 2), (4, 4)], 5, 56, .agg #[.pointer none, .int .i64 0, .int .i64 0, .slice none 0 0, .bool false]⟩), (113, ⟨.func, 1, 8, .nilFunc⟩), (114, ⟨.slice 179, 1, 24, .slice none 0 0⟩), (115, ⟨.struct [(114, 0)], 1, 24, .agg #[.slice none 0 0]⟩), (116, ⟨.struct [(114, 0)], 1, 24, .agg #[.slice none 0 0]⟩), (117, ⟨.struct [(116, 0)], 1, 24, .agg #[.slice none 0 0]⟩), (118, ⟨.struct [(116, 0)], 1, 24, .agg #[.slice none 0 0]⟩), (119, ⟨.func, 1, 8, .nilFunc⟩), (120, ⟨.func, 1, 8, .nilFunc⟩), (121, ⟨.struct [(9, 0), (3, 1), (36, 2)], 3, 48, .agg #[.string ⟨#[]⟩, .int .i64 0, .slice none 0 0]⟩), (122, ⟨.struct [(9, 0), (3, 1), (36, 2)], 3, 48, .agg #[.string ⟨#[]⟩, .int .i64 0, .slice none 0 0]⟩), (123, ⟨.func, 1, 8, .nilFunc⟩), (124, ⟨.func, 1, 8, .nilFunc⟩), (125, ⟨.func, 1, 8, .nilFunc⟩), (126, ⟨.func, 1, 8, .nilFunc⟩), (127, ⟨.func, 1, 8, .nilFunc⟩), (128, ⟨.struct [], 0, 0, .agg #[]⟩), (129, ⟨.struct [], 0, 0, .agg #[]⟩), (130, ⟨.func, 1, 8, .nilFunc⟩), (131, ⟨.func, 1, 8, .nilFunc⟩), (132, ⟨.func, 1, 8, .nilFunc⟩), (133, ⟨.map 9 138, 1, 8, .map none⟩), (134, ⟨.struct [(133, 0), (3, 1), (3, 2), (3, 3), (4, 4)], 5, 40, .agg #[.map none, .int .i64 0, .int .i64 0, .int .i64 0, .bool false]⟩), (135, ⟨.struct [(133, 0), (3, 1), (3, 2), (3, 3), (4, 4)], 5, 40, .agg #[.map none, .int .i64 0, .int .i64 0, .int .i64 0, .bool false]⟩), (136, ⟨.func, 1, 8, .nilFunc⟩), (137, ⟨.struct [(9, 0), (3, 1)], 2, 24, .agg #[.string ⟨#[]⟩, .int .i64 0]⟩), (138, ⟨.struct [(9, 0), (3, 1)], 2, 24, .agg #[.string ⟨#[]⟩, .int .i64 0]⟩), (139, ⟨.func, 1, 8, .nilFunc⟩), (141, ⟨.func, 1, 8, .nilFunc⟩), (143, ⟨.func, 1, 8, .nilFunc⟩), (145, ⟨.func, 1, 8, .nilFunc⟩), (146, ⟨.func, 1, 8, .nilFunc⟩), (147, ⟨.slice 176, 1, 24, .slice none 0 0⟩), (148, ⟨.struct [(3, 0), (147, 1), (3, 2), (4, 3)], 4, 48, .agg #[.int .i64 0, .slice none 0 0, .int .i64 0, .bool false]⟩), (149, ⟨.struct [(3, 0), (147, 1), (3, 2), (4, 3)], 4, 48, .agg #[.int .i64 0, .slice none 0 0, .int .i64 0, .bool false]⟩), (151, ⟨.func, 1, 8, .nilFunc⟩), (153, ⟨.func, 1, 8, .nilFunc⟩), (155, ⟨.func, 1, 8, .nilFunc⟩), (157, ⟨.func, 1, 8, .nilFunc⟩), (158, ⟨.func, 1, 8, .nilFunc⟩), (159, ⟨.func, 1, 8, .nilFunc⟩), (160, ⟨.func, 1, 8, .nilFunc⟩), (161, ⟨.func, 1, 8, .nilFunc⟩), (162, ⟨.map 3 28, 1, 8, .map none⟩), (163, ⟨.func, 1, 8, .nilFunc⟩), (165, ⟨.func, 1, 8, .nilFunc⟩), (166, ⟨.func, 1, 8, .nilFunc⟩), (168, ⟨.func, 1, 8, .nilFunc⟩), (169, ⟨.func, 1, 8, .nilFunc⟩), (170, ⟨.struct [(9, 0), (3, 1), (3, 2), (36, 3)], 4, 56, .agg #[.string ⟨#[]⟩, .int .i64 0, .int .i64 0, .slice none 0 0]⟩), (171, ⟨.struct [(9, 0), (3, 1), (3, 2), (36, 3)], 4, 56, .agg #[.string ⟨#[]⟩, .int .i64 0, .int .i64 0, .slice none 0 0]⟩), (173, ⟨.func, 1, 8, .nilFunc⟩), (174, ⟨.func, 1, 8, .nilFunc⟩), (175, ⟨.struct [(9, 0), (9, 1), (3, 2)], 3, 40, .agg #[.string ⟨#[]⟩, .string ⟨#[]⟩, .int .i64 0]⟩), (176, ⟨.struct [(9, 0), (9, 1), (3, 2)], 3, 40, .agg #[.string ⟨#[]⟩, .string ⟨#[]⟩, .int .i64 0]⟩), (177, ⟨.ptr 116, 1, 8, .pointer none⟩), (178, ⟨.struct [(72, 0), (3, 2)], 3, 32, .agg #[.int .i64 0, .string ⟨#[]⟩, .int .i64 0]⟩), (179, ⟨.struct [(72, 0), (3, 2)], 3, 32, .agg #[.int .i64 0, .string ⟨#[]⟩, .int .i64 0]⟩), (180, ⟨.func, 1, 8, .nilFunc⟩), (183, ⟨.func, 1, 8, .nilFunc⟩), (184, ⟨.func, 1, 8, .nilFunc⟩), (185, ⟨.func, 1, 8, .nilFunc⟩), (186, ⟨.func, 1, 8, .nilFunc⟩), (187, ⟨.func, 1, 8, .nilFunc⟩), (188, ⟨.func, 1, 8, .nilFunc⟩), (189, ⟨.func, 1, 8, .nilFunc⟩), (190, ⟨.func, 1, 8, .nilFunc⟩), (191, ⟨.func, 1, 8, .nilFunc⟩), (193, ⟨.func, 1, 8, .nilFunc⟩), (194, ⟨.int .u32, 1, 4, .int .u32 0⟩), (195, ⟨.func, 1, 8, .nilFunc⟩), (196, ⟨.int .u64, 1, 8, .int .u64 0⟩), (197, ⟨.int .u64, 1, 8, .int .u64 0⟩), (198, ⟨.func, 1, 8, .nilFunc⟩), (200, ⟨.func, 1, 8, .nilFunc⟩), (201, ⟨.struct [], 0, 0, .agg #[]⟩), (202, ⟨.func, 1, 8, .nilFunc⟩), (204, ⟨.func, 1, 8, .nilFunc⟩), (206, ⟨.func, 1, 8, .nilFunc⟩), (208, ⟨.func, 1, 8, .nilFunc⟩), (209, ⟨.func, 1, 8, .nilFunc⟩), (210, ⟨.func, 1, 8, .nilFunc⟩), (211, ⟨.func, 1, 8, .nilFunc⟩), (213, ⟨.func, 1, 8, .nilFunc⟩), (214, ⟨.func, 1, 8, .nilFunc⟩), (215, ⟨.slice 5, 1, 24, .slice none 0 0⟩), (216, ⟨.func, 1, 8, .nilFunc⟩), (217, ⟨.func, 1, 8, .nilFunc⟩), (218, ⟨.func, 1, 8, .nilFunc⟩), (220, ⟨.func, 1, 8, .nilFunc⟩), (221, ⟨.func, 1, 8, .nilFunc⟩), (222, ⟨.func, 1, 8, .nilFunc⟩), (224, ⟨.func, 1, 8, .nilFunc⟩), (225, ⟨.func, 1, 8, .nilFunc⟩), (226, ⟨.func, 1, 8, .nilFunc⟩), (227, ⟨.func, 1, 8, .nilFunc⟩), (228, ⟨.ptr 230, 1, 8, .pointer none⟩), (229, ⟨.struct [(228, 0), (215, 1)], 2, 32, .agg #[.pointer none, .slice none 0 0]⟩), (230, ⟨.struct [(228, 0), (215, 1)], 2, 32, .agg #[.pointer none, .slice none 0 0]⟩), (231, ⟨.iface, 1, 16, .nilIface⟩), (232, ⟨.iface, 1, 16, .nilIface⟩), (234, ⟨.func, 1, 8, .nilFunc⟩), (235, ⟨.func, 1, 8, .nilFunc⟩), (236, ⟨.func, 1, 8, .nilFunc⟩), (237, ⟨.func, 1, 8, .nilFunc⟩), (238, ⟨.arr 4 5, 4, 4, .agg #[.int .u8 0, .int .u8 0, .int .u8 0, .int .u8 0]⟩), (240, ⟨.func, 1, 8, .nilFunc⟩), (241, ⟨.func, 1, 8, .nilFunc⟩), (242, ⟨.slice 241, 1, 24, .slice none 0 0⟩), (243, ⟨.func, 1, 8, .nilFunc⟩), (244, ⟨.func, 1, 8, .nilFunc⟩), (245, ⟨.func, 1, 8, .nilFunc⟩), (246, ⟨.func, 1, 8, .nilFunc⟩), (247, ⟨.func, 1, 8, .nilFunc⟩), (248, ⟨.func, 1, 8, .nilFunc⟩), (249, ⟨.int .i64, 1, 8, .int .i64 0⟩), (251, ⟨.func, 1, 8, .nilFunc⟩), (252, ⟨.func, 1, 8, .nilFunc⟩), (253, ⟨.func, 1, 8, .nilFunc⟩), (254, ⟨.func, 1, 8, .nilFunc⟩), (255, ⟨.func, 1, 8, .nilFunc⟩), (256, ⟨.func, 1, 8, .nilFunc⟩), (257, ⟨.func, 1, 8, .nilFunc⟩), (258, ⟨.func, 1, 8, .nilFunc⟩), (259, ⟨.func, 1, 8, .nilFunc⟩), (260, ⟨.ptr 5, 1, 8, .pointer none⟩), (261, ⟨.func, 1, 8, .nilFunc⟩), (262, ⟨.func, 1, 8, .nilFunc⟩), (263, ⟨.func, 1, 8, .nilFunc⟩), (264, ⟨.int .u64, 1, 8, .int .u64 0⟩), (265, ⟨.func, 1, 8, .nilFunc⟩), (266, ⟨.func, 1, 8, .nilFunc⟩), (267, ⟨.func, 1, 8, .nilFunc⟩), (268, ⟨.ptr 3, 1, 8, .pointer none⟩), (269, ⟨.func, 1, 8, .nilFunc⟩), (270, ⟨.func, 1, 8, .nilFunc⟩), (271, ⟨.other, 1, 8, .pointer none⟩), (272, ⟨.func, 1, 8, .nilFunc⟩), (273, ⟨.func, 1, 8, .nilFunc⟩), (274, ⟨.func, 1, 8, .nilFunc⟩), (275, ⟨.func, 1, 8, .nilFunc⟩), (276, ⟨.func, 1, 8, .nilFunc⟩), (277, ⟨.func, 1, 8, .nilFunc⟩), (278, ⟨.func, 1, 8, .nilFunc⟩), (279, ⟨.ptr 264, 1, 8, .pointer none⟩), (281, ⟨.func, 1, 8, .nilFunc⟩), (282, ⟨.func, 1, 8, .nilFunc⟩), (283, ⟨.func, 1, 8, .nilFunc⟩), (284, ⟨.func, 1, 8, .nilFunc⟩), (285, ⟨.func, 1, 8, .nilFunc⟩), (293, ⟨.func, 1, 8, .nilFunc⟩)]
theorem tabL_u : ∀ x ∈ tabL, (Tryz.prog.underlying x.1).map tdOf = some x.2.td := by
  intro x hx
  simp only [tabL, List.mem_cons, List.not_mem_nil, or_false] at hx
  rcases hx with rfl | rfl | rfl | rfl | rfl | rfl | rfl | rfl | rfl | rfl | rfl | rfl | rfl | rfl | rfl | rfl | rfl | rfl | rfl | rfl | rfl | rfl | rfl | rfl | rfl | rfl | rfl | rfl | rfl | rfl | rfl | rfl | rfl | rfl | rfl | rfl | rfl | rfl | rfl | rfl | rfl | rfl | rfl | rfl | rfl | rfl | rfl | rfl | rfl | rfl | rfl | rfl | rfl | rfl | rfl | rfl | rfl | rfl | rfl | rfl | rfl | rfl | rfl | rfl | rfl | rfl | rfl | rfl | rfl | rfl | rfl | rfl | rfl | rfl | rfl | rfl | rfl | rfl | rfl | rfl | rfl | rfl | rfl | rfl | rfl | rfl | rfl | rfl | rfl | rfl | rfl | rfl | rfl | rfl | rfl | rfl | rfl | rfl | rfl | rfl | rfl | rfl | rfl | rfl | rfl | rfl | rfl | rfl | rfl | rfl | rfl | rfl | rfl | rfl | rfl | rfl | rfl | rfl | rfl | rfl | rfl | rfl | rfl | rfl | rfl | rfl | rfl | rfl | rfl | rfl | rfl | rfl | rfl | rfl | rfl | rfl | rfl | rfl | rfl | rfl | rfl | rfl | rfl | rfl | rfl | rfl | rfl | rfl | rfl | rfl | rfl | rfl | rfl | rfl | rfl | rfl | rfl | rfl | rfl | rfl | rfl | rfl | rfl | rfl | rfl | rfl | rfl | rfl | rfl | rfl | rfl | rfl | rfl | rfl | rfl | rfl | rfl | rfl | rfl | rfl | rfl | rfl | rfl | rfl | rfl | rfl | rfl | rfl | rfl | rfl | rfl | rfl | rfl | rfl | rfl | rfl | rfl | rfl | rfl | rfl | rfl | rfl | rfl | rfl | rfl | rfl | rfl | rfl | rfl | rfl | rfl | rfl | rfl | rfl | rfl | rfl | rfl | rfl | rfl | rfl | rfl | rfl | rfl | rfl | rfl | rfl | rfl | rfl | rfl | rfl | rfl | rfl | rfl | rfl | rfl | rfl | rfl | rfl | rfl | rfl | rfl | rfl | rfl <;> kernel_rfl
theorem tabL_i : ∀ x ∈ tabL, (Tryz.prog.info? x.1).map (fun i => (i.zero, i.size, i.bytes)) = some (some x.2.zero, x.2.size, x.2.bytes) := by
  intro x hx
  simp only [tabL, List.mem_cons, List.not_mem_nil, or_false] at hx
  rcases hx with rfl | rfl | rfl | rfl | rfl | rfl | rfl | rfl | rfl | rfl | rfl | rfl | rfl | rfl | rfl | rfl | rfl | rfl | rfl | rfl | rfl | rfl | rfl | rfl | rfl | rfl | rfl | rfl | rfl | rfl | rfl | rfl | rfl | rfl | rfl | rfl | rfl | rfl | rfl | rfl | rfl | rfl | rfl | rfl | rfl | rfl | rfl | rfl | rfl | rfl | rfl | rfl | rfl | rfl | rfl | rfl | rfl | rfl | rfl | rfl | rfl | rfl | rfl | rfl | rfl | rfl | rfl | rfl | rfl | rfl | rfl | rfl | rfl | rfl | rfl | rfl | rfl | rfl | rfl | rfl | rfl | rfl | rfl | rfl | rfl | rfl | rfl | rfl | rfl | rfl | rfl | rfl | rfl | rfl | rfl | rfl | rfl | rfl | rfl | rfl | rfl | rfl | rfl | rfl | rfl | rfl | rfl | rfl | rfl | rfl | rfl | rfl | rfl | rfl | rfl | rfl | rfl | rfl | rfl | rfl | rfl | rfl | rfl | rfl | rfl | rfl | rfl | rfl | rfl | rfl | rfl | rfl | rfl | rfl | rfl | rfl | rfl | rfl | rfl | rfl | rfl | rfl | rfl | rfl | rfl | rfl | rfl | rfl | rfl | rfl | rfl | rfl | rfl | rfl | rfl | rfl | rfl | rfl | rfl | rfl | rfl | rfl | rfl | rfl | rfl | rfl | rfl | rfl | rfl | rfl | rfl | rfl | rfl | rfl | rfl | rfl | rfl | rfl | rfl | rfl | rfl | rfl | rfl | rfl | rfl | rfl | rfl | rfl | rfl | rfl | rfl | rfl | rfl | rfl | rfl | rfl | rfl | rfl | rfl | rfl | rfl | rfl | rfl | rfl | rfl | rfl | rfl | rfl | rfl | rfl | rfl | rfl | rfl | rfl | rfl | rfl | rfl | rfl | rfl | rfl | rfl | rfl | rfl | rfl | rfl | rfl | rfl | rfl | rfl | rfl | rfl | rfl | rfl | rfl | rfl | rfl | rfl | rfl | rfl | rfl | rfl | rfl | rfl <;> kernel_rfl
abbrev TT : Tab Tryz.prog := ⟨tabL, tabL_u, tabL_i⟩
theorem cmp49 : CmpT Tryz.prog 49 := ⟨by kernel_rfl, by kernel_rfl, by kernel_rfl, fun f hf => by
  have h : (Tryz.prog.fieldsOf 49).toList.all (fun f => f.name != "_") = true := by kernel_rfl
  have := List.all_eq_true.1 h f hf
  simpa using this⟩
theorem cmp72 : CmpT Tryz.prog 72 := ⟨by kernel_rfl, by kernel_rfl, by kernel_rfl, fun f hf => by
  have h : (Tryz.prog.fieldsOf 72).toList.all (fun f => f.name != "_") = true := by kernel_rfl
  have := List.all_eq_true.1 h f hf
  simpa using this⟩
theorem mixed : Tryz.prog.follows .mixedOrders = true := by kernel_rfl
theorem c3 : Callable Tryz.prog 3 := Callable.of Tryz.func3 (by kernel_rfl) rfl
theorem c4 : Callable Tryz.prog 4 := Callable.of Tryz.func4 (by kernel_rfl) rfl
theorem c5 : Callable Tryz.prog 5 := Callable.of Tryz.func5 (by kernel_rfl) rfl
theorem c6 : Callable Tryz.prog 6 := Callable.of Tryz.func6 (by kernel_rfl) rfl
theorem c7 : Callable Tryz.prog 7 := Callable.of Tryz.func7 (by kernel_rfl) rfl
theorem c8 : Callable Tryz.prog 8 := Callable.of Tryz.func8 (by kernel_rfl) rfl
theorem c9 : Callable Tryz.prog 9 := Callable.of Tryz.func9 (by kernel_rfl) rfl
theorem c10 : Callable Tryz.prog 10 := Callable.of Tryz.func10 (by kernel_rfl) rfl
theorem c11 : Callable Tryz.prog 11 := Callable.of Tryz.func11 (by kernel_rfl) rfl
theorem c12 : Callable Tryz.prog 12 := Callable.of Tryz.func12 (by kernel_rfl) rfl
theorem c13 : Callable Tryz.prog 13 := Callable.of Tryz.func13 (by kernel_rfl) rfl
theorem c14 : Callable Tryz.prog 14 := Callable.of Tryz.func14 (by kernel_rfl) rfl
theorem c15 : Callable Tryz.prog 15 := Callable.of Tryz.func15 (by kernel_rfl) rfl
theorem c16 : Callable Tryz.prog 16 := Callable.of Tryz.func16 (by kernel_rfl) rfl
theorem c17 : Callable Tryz.prog 17 := Callable.of Tryz.func17 (by kernel_rfl) rfl
theorem c18 : Callable Tryz.prog 18 := Callable.of Tryz.func18 (by kernel_rfl) rfl
theorem c19 : Callable Tryz.prog 19 := Callable.of Tryz.func19 (by kernel_rfl) rfl
theorem c20 : Callable Tryz.prog 20 := Callable.of Tryz.func20 (by kernel_rfl) rfl
theorem c22 : Callable Tryz.prog 22 := Callable.of Tryz.func22 (by kernel_rfl) rfl
theorem c23 : Callable Tryz.prog 23 := Callable.of Tryz.func23 (by kernel_rfl) rfl
theorem c24 : Callable Tryz.prog 24 := Callable.of Tryz.func24 (by kernel_rfl) rfl
theorem c25 : Callable Tryz.prog 25 := Callable.of Tryz.func25 (by kernel_rfl) rfl
theorem c26 : Callable Tryz.prog 26 := Callable.of Tryz.func26 (by kernel_rfl) rfl
theorem c27 : Callable Tryz.prog 27 := Callable.of Tryz.func27 (by kernel_rfl) rfl
theorem c28 : Callable Tryz.prog 28 := Callable.of Tryz.func28 (by kernel_rfl) rfl
theorem c29 : Callable Tryz.prog 29 := Callable.of Tryz.func29 (by kernel_rfl) rfl
theorem c30 : Callable Tryz.prog 30 := Callable.of Tryz.func30 (by kernel_rfl) rfl
theorem c31 : Callable Tryz.prog 31 := Callable.of Tryz.func31 (by kernel_rfl) rfl
theorem c32 : Callable Tryz.prog 32 := Callable.of Tryz.func32 (by kernel_rfl) rfl
theorem c33 : Callable Tryz.prog 33 := Callable.of Tryz.func33 (by kernel_rfl) rfl
theorem c34 : Callable Tryz.prog 34 := Callable.of Tryz.func34 (by kernel_rfl) rfl
theorem c35 : Callable Tryz.prog 35 := Callable.of Tryz.func35 (by kernel_rfl) rfl
theorem c36 : Callable Tryz.prog 36 := Callable.of Tryz.func36 (by kernel_rfl) rfl
theorem c37 : Callable Tryz.prog 37 := Callable.of Tryz.func37 (by kernel_rfl) rfl
theorem c38 : Callable Tryz.prog 38 := Callable.of Tryz.func38 (by kernel_rfl) rfl
theorem c39 : Callable Tryz.prog 39 := Callable.of Tryz.func39 (by kernel_rfl) rfl
theorem c40 : Callable Tryz.prog 40 := Callable.of Tryz.func40 (by kernel_rfl) rfl
theorem c41 : Callable Tryz.prog 41 := Callable.of Tryz.func41 (by kernel_rfl) rfl
theorem c42 : Callable Tryz.prog 42 := Callable.of Tryz.func42 (by kernel_rfl) rfl
theorem c43 : Callable Tryz.prog 43 := Callable.of Tryz.func43 (by kernel_rfl) rfl
theorem c44 : Callable Tryz.prog 44 := Callable.of Tryz.func44 (by kernel_rfl) rfl
theorem c45 : Callable Tryz.prog 45 := Callable.of Tryz.func45 (by kernel_rfl) rfl
theorem c46 : Callable Tryz.prog 46 := Callable.of Tryz.func46 (by kernel_rfl) rfl
theorem c47 : Callable Tryz.prog 47 := Callable.of Tryz.func47 (by kernel_rfl) rfl
theorem c48 : Callable Tryz.prog 48 := Callable.of Tryz.func48 (by kernel_rfl) rfl
theorem c49 : Callable Tryz.prog 49 := Callable.of Tryz.func49 (by kernel_rfl) rfl
theorem c50 : Callable Tryz.prog 50 := Callable.of Tryz.func50 (by kernel_rfl) rfl
theorem c51 : Callable Tryz.prog 51 := Callable.of Tryz.func51 (by kernel_rfl) rfl
theorem c52 : Callable Tryz.prog 52 := Callable.of Tryz.func52 (by kernel_rfl) rfl
theorem c53 : Callable Tryz.prog 53 := Callable.of Tryz.func53 (by kernel_rfl) rfl
theorem c54 : Callable Tryz.prog 54 := Callable.of Tryz.func54 (by kernel_rfl) rfl
theorem c55 : Callable Tryz.prog 55 := Callable.of Tryz.func55 (by kernel_rfl) rfl
theorem c56 : Callable Tryz.prog 56 := Callable.of Tryz.func56 (by kernel_rfl) rfl
theorem c57 : Callable Tryz.prog 57 := Callable.of Tryz.func57 (by kernel_rfl) rfl
theorem c58 : Callable Tryz.prog 58 := Callable.of Tryz.func58 (by kernel_rfl) rfl
theorem c59 : Callable Tryz.prog 59 := Callable.of Tryz.func59 (by kernel_rfl) rfl
theorem c60 : Callable Tryz.prog 60 := Callable.of Tryz.func60 (by kernel_rfl) rfl
theorem c61 : Callable Tryz.prog 61 := Callable.of Tryz.func61 (by kernel_rfl) rfl
theorem c62 : Callable Tryz.prog 62 := Callable.of Tryz.func62 (by kernel_rfl) rfl
theorem c63 : Callable Tryz.prog 63 := Callable.of Tryz.func63 (by kernel_rfl) rfl
theorem c64 : Callable Tryz.prog 64 := Callable.of Tryz.func64 (by kernel_rfl) rfl
theorem c65 : Callable Tryz.prog 65 := Callable.of Tryz.func65 (by kernel_rfl) rfl
theorem c66 : Callable Tryz.prog 66 := Callable.of Tryz.func66 (by kernel_rfl) rfl
theorem c67 : Callable Tryz.prog 67 := Callable.of Tryz.func67 (by kernel_rfl) rfl
theorem c68 : Callable Tryz.prog 68 := Callable.of Tryz.func68 (by kernel_rfl) rfl
theorem c69 : Callable Tryz.prog 69 := Callable.of Tryz.func69 (by kernel_rfl) rfl
theorem c70 : Callable Tryz.prog 70 := Callable.of Tryz.func70 (by kernel_rfl) rfl
theorem c71 : Callable Tryz.prog 71 := Callable.of Tryz.func71 (by kernel_rfl) rfl
theorem c72 : Callable Tryz.prog 72 := Callable.of Tryz.func72 (by kernel_rfl) rfl
theorem c73 : Callable Tryz.prog 73 := Callable.of Tryz.func73 (by kernel_rfl) rfl
theorem c74 : Callable Tryz.prog 74 := Callable.of Tryz.func74 (by kernel_rfl) rfl
theorem c75 : Callable Tryz.prog 75 := Callable.of Tryz.func75 (by kernel_rfl) rfl
theorem c76 : Callable Tryz.prog 76 := Callable.of Tryz.func76 (by kernel_rfl) rfl
theorem c77 : Callable Tryz.prog 77 := Callable.of Tryz.func77 (by kernel_rfl) rfl
theorem c78 : Callable Tryz.prog 78 := Callable.of Tryz.func78 (by kernel_rfl) rfl
theorem c79 : Callable Tryz.prog 79 := Callable.of Tryz.func79 (by kernel_rfl) rfl
theorem c80 : Callable Tryz.prog 80 := Callable.of Tryz.func80 (by kernel_rfl) rfl
theorem c81 : Callable Tryz.prog 81 := Callable.of Tryz.func81 (by kernel_rfl) rfl
theorem c82 : Callable Tryz.prog 82 := Callable.of Tryz.func82 (by kernel_rfl) rfl
theorem c83 : Callable Tryz.prog 83 := Callable.of Tryz.func83 (by kernel_rfl) rfl
theorem c84 : Callable Tryz.prog 84 := Callable.of Tryz.func84 (by kernel_rfl) rfl
theorem c85 : Callable Tryz.prog 85 := Callable.of Tryz.func85 (by kernel_rfl) rfl
theorem c86 : Callable Tryz.prog 86 := Callable.of Tryz.func86 (by kernel_rfl) rfl
theorem c87 : Callable Tryz.prog 87 := Callable.of Tryz.func87 (by kernel_rfl) rfl
theorem c88 : Callable Tryz.prog 88 := Callable.of Tryz.func88 (by kernel_rfl) rfl
theorem c89 : Callable Tryz.prog 89 := Callable.of Tryz.func89 (by kernel_rfl) rfl
theorem c90 : Callable Tryz.prog 90 := Callable.of Tryz.func90 (by kernel_rfl) rfl
theorem c91 : Callable Tryz.prog 91 := Callable.of Tryz.func91 (by kernel_rfl) rfl
theorem c92 : Callable Tryz.prog 92 := Callable.of Tryz.func92 (by kernel_rfl) rfl
theorem c93 : Callable Tryz.prog 93 := Callable.of Tryz.func93 (by kernel_rfl) rfl
theorem c94 : Callable Tryz.prog 94 := Callable.of Tryz.func94 (by kernel_rfl) rfl
theorem c95 : Callable Tryz.prog 95 := Callable.of Tryz.func95 (by kernel_rfl) rfl
theorem c96 : Callable Tryz.prog 96 := Callable.of Tryz.func96 (by kernel_rfl) rfl
theorem c97 : Callable Tryz.prog 97 := Callable.of Tryz.func97 (by kernel_rfl) rfl
theorem c98 : Callable Tryz.prog 98 := Callable.of Tryz.func98 (by kernel_rfl) rfl
theorem c99 : Callable Tryz.prog 99 := Callable.of Tryz.func99 (by kernel_rfl) rfl
theorem c100 : Callable Tryz.prog 100 := Callable.of Tryz.func100 (by kernel_rfl) rfl
theorem c101 : Callable Tryz.prog 101 := Callable.of Tryz.func101 (by kernel_rfl) rfl
theorem c102 : Callable Tryz.prog 102 := Callable.of Tryz.func102 (by kernel_rfl) rfl
theorem c103 : Callable Tryz.prog 103 := Callable.of Tryz.func103 (by kernel_rfl) rfl
theorem c104 : Callable Tryz.prog 104 := Callable.of Tryz.func104 (by kernel_rfl) rfl
theorem c105 : Callable Tryz.prog 105 := Callable.of Tryz.func105 (by kernel_rfl) rfl
theorem c106 : Callable Tryz.prog 106 := Callable.of Tryz.func106 (by kernel_rfl) rfl
theorem c107 : Callable Tryz.prog 107 := Callable.of Tryz.func107 (by kernel_rfl) rfl
theorem c108 : Callable Tryz.prog 108 := Callable.of Tryz.func108 (by kernel_rfl) rfl
theorem c109 : Callable Tryz.prog 109 := Callable.of Tryz.func109 (by kernel_rfl) rfl
theorem c110 : Callable Tryz.prog 110 := Callable.of Tryz.func110 (by kernel_rfl) rfl
theorem c111 : Callable Tryz.prog 111 := Callable.of Tryz.func111 (by kernel_rfl) rfl
theorem c112 : Callable Tryz.prog 112 := Callable.of Tryz.func112 (by kernel_rfl) rfl
theorem c113 : Callable Tryz.prog 113 := Callable.of Tryz.func113 (by kernel_rfl) rfl
theorem c114 : Callable Tryz.prog 114 := Callable.of Tryz.func114 (by kernel_rfl) rfl
theorem c115 : Callable Tryz.prog 115 := Callable.of Tryz.func115 (by kernel_rfl) rfl
theorem c116 : Callable Tryz.prog 116 := Callable.of Tryz.func116 (by kernel_rfl) rfl
theorem c117 : Callable Tryz.prog 117 := Callable.of Tryz.func117 (by kernel_rfl) rfl
theorem c118 : Callable Tryz.prog 118 := Callable.of Tryz.func118 (by kernel_rfl) rfl
theorem c119 : Callable Tryz.prog 119 := Callable.of Tryz.func119 (by kernel_rfl) rfl
theorem c120 : Callable Tryz.prog 120 := Callable.of Tryz.func120 (by kernel_rfl) rfl
theorem c121 : Callable Tryz.prog 121 := Callable.of Tryz.func121 (by kernel_rfl) rfl
theorem c124 : Callable Tryz.prog 124 := Callable.of Tryz.func124 (by kernel_rfl) rfl
theorem c125 : Callable Tryz.prog 125 := Callable.of Tryz.func125 (by kernel_rfl) rfl
theorem c126 : Callable Tryz.prog 126 := Callable.of Tryz.func126 (by kernel_rfl) rfl
theorem c127 : Callable Tryz.prog 127 := Callable.of Tryz.func127 (by kernel_rfl) rfl
theorem c128 : Callable Tryz.prog 128 := Callable.of Tryz.func128 (by kernel_rfl) rfl
theorem c129 : Callable Tryz.prog 129 := Callable.of Tryz.func129 (by kernel_rfl) rfl
theorem c130 : Callable Tryz.prog 130 := Callable.of Tryz.func130 (by kernel_rfl) rfl
theorem c131 : Callable Tryz.prog 131 := Callable.of Tryz.func131 (by kernel_rfl) rfl
theorem c132 : Callable Tryz.prog 132 := Callable.of Tryz.func132 (by kernel_rfl) rfl
theorem c133 : Callable Tryz.prog 133 := Callable.of Tryz.func133 (by kernel_rfl) rfl
theorem c134 : Callable Tryz.prog 134 := Callable.of Tryz.func134 (by kernel_rfl) rfl
theorem c135 : Callable Tryz.prog 135 := Callable.of Tryz.func135 (by kernel_rfl) rfl
theorem c136 : Callable Tryz.prog 136 := Callable.of Tryz.func136 (by kernel_rfl) rfl
theorem c137 : Callable Tryz.prog 137 := Callable.of Tryz.func137 (by kernel_rfl) rfl
theorem c138 : Callable Tryz.prog 138 := Callable.of Tryz.func138 (by kernel_rfl) rfl
theorem c139 : Callable Tryz.prog 139 := Callable.of Tryz.func139 (by kernel_rfl) rfl
theorem c140 : Callable Tryz.prog 140 := Callable.of Tryz.func140 (by kernel_rfl) rfl
theorem c141 : Callable Tryz.prog 141 := Callable.of Tryz.func141 (by kernel_rfl) rfl
theorem c145 : Callable Tryz.prog 145 := Callable.of Tryz.func145 (by kernel_rfl) rfl
theorem c146 : Callable Tryz.prog 146 := Callable.of Tryz.func146 (by kernel_rfl) rfl
theorem c147 : Callable Tryz.prog 147 := Callable.of Tryz.func147 (by kernel_rfl) rfl
theorem c148 : Callable Tryz.prog 148 := Callable.of Tryz.func148 (by kernel_rfl) rfl
theorem c149 : Callable Tryz.prog 149 := Callable.of Tryz.func149 (by kernel_rfl) rfl
theorem c150 : Callable Tryz.prog 150 := Callable.of Tryz.func150 (by kernel_rfl) rfl
theorem c151 : Callable Tryz.prog 151 := Callable.of Tryz.func151 (by kernel_rfl) rfl
theorem c152 : Callable Tryz.prog 152 := Callable.of Tryz.func152 (by kernel_rfl) rfl
theorem c153 : Callable Tryz.prog 153 := Callable.of Tryz.func153 (by kernel_rfl) rfl
theorem c154 : Callable Tryz.prog 154 := Callable.of Tryz.func154 (by kernel_rfl) rfl
theorem c155 : Callable Tryz.prog 155 := Callable.of Tryz.func155 (by kernel_rfl) rfl
theorem c156 : Callable Tryz.prog 156 := Callable.of Tryz.func156 (by kernel_rfl) rfl
theorem c157 : Callable Tryz.prog 157 := Callable.of Tryz.func157 (by kernel_rfl) rfl
theorem c158 : Callable Tryz.prog 158 := Callable.of Tryz.func158 (by kernel_rfl) rfl
theorem c159 : Callable Tryz.prog 159 := Callable.of Tryz.func159 (by kernel_rfl) rfl
theorem c160 : Callable Tryz.prog 160 := Callable.of Tryz.func160 (by kernel_rfl) rfl
theorem c161 : Callable Tryz.prog 161 := Callable.of Tryz.func161 (by kernel_rfl) rfl
theorem c162 : Callable Tryz.prog 162 := Callable.of Tryz.func162 (by kernel_rfl) rfl
theorem c174 : Callable Tryz.prog 174 := Callable.of Tryz.func174 (by kernel_rfl) rfl
theorem c175 : Callable Tryz.prog 175 := Callable.of Tryz.func175 (by kernel_rfl) rfl
theorem c176 : Callable Tryz.prog 176 := Callable.of Tryz.func176 (by kernel_rfl) rfl
theorem c179 : Callable Tryz.prog 179 := Callable.of Tryz.func179 (by kernel_rfl) rfl
theorem c180 : Callable Tryz.prog 180 := Callable.of Tryz.func180 (by kernel_rfl) rfl
theorem c181 : Callable Tryz.prog 181 := Callable.of Tryz.func181 (by kernel_rfl) rfl
theorem c182 : Callable Tryz.prog 182 := Callable.of Tryz.func182 (by kernel_rfl) rfl
theorem c183 : Callable Tryz.prog 183 := Callable.of Tryz.func183 (by kernel_rfl) rfl
theorem c184 : Callable Tryz.prog 184 := Callable.of Tryz.func184 (by kernel_rfl) rfl
theorem c185 : Callable Tryz.prog 185 := Callable.of Tryz.func185 (by kernel_rfl) rfl
end Go.Proofs.YtfolmcpfdcgliaaGreat.B
