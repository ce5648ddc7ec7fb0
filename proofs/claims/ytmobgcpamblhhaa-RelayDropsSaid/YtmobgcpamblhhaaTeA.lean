/- The seat's types, for the interpreter. Written by gente.py. -/
import Derived.Test.YtmobgcpamblhhaaProg
import Derived.Test.YtmobgcpamblhhaaViTy
set_option maxRecDepth 100000
namespace Go.Proofs.Ytmobgcpamblhhaa
open Go.Vi

def tl : List (TypeId × TyI) := [
  (1, ⟨1, 8, .nilfn, .other⟩),
  (2, ⟨1, 8, .int .i64 0, .int .i64⟩),
  (3, ⟨1, 8, .int .i64 0, .int .i64⟩),
  (4, ⟨1, 1, .bool false, .bool⟩),
  (5, ⟨1, 1, .int .u8 0, .int .u8⟩),
  (6, ⟨1, 1, .int .u8 0, .int .u8⟩),
  (7, ⟨4, 24, .agg [.int .i64 0, .int .i64 0, .bool false, .int .u8 0], .struct [(0, 2), (1, 3), (2, 4), (3, 6)]⟩),
  (8, ⟨4, 24, .agg [.int .i64 0, .int .i64 0, .bool false, .int .u8 0], .struct [(0, 2), (1, 3), (2, 4), (3, 6)]⟩),
  (9, ⟨1, 16, .str ⟨#[]⟩, .string⟩),
  (10, ⟨1, 16, .str ⟨#[]⟩, .string⟩),
  (11, ⟨1, 16, .str ⟨#[]⟩, .string⟩),
  (12, ⟨1, 8, .int .u64 0, .int .u64⟩),
  (15, ⟨1, 8, .ptr none, .ptr 168⟩),
  (16, ⟨1, 8, .ptr none, .ptr 171⟩),
  (17, ⟨1, 8, .ptr none, .ptr 180⟩),
  (20, ⟨1, 16, .nilif, .other⟩),
  (21, ⟨1, 4, .int .i32 0, .int .i32⟩),
  (22, ⟨1, 24, .sl 0 true [], .slice 81⟩),
  (23, ⟨1, 4, .int .u32 0, .int .u32⟩),
  (24, ⟨4, 32, .agg [.int .i64 0, .int .i64 0, .int .i64 0, .int .u32 0], .struct [(0, 3), (1, 3), (2, 3), (3, 23)]⟩),
  (25, ⟨4, 32, .agg [.int .i64 0, .int .i64 0, .int .i64 0, .int .u32 0], .struct [(0, 3), (1, 3), (2, 3), (3, 23)]⟩),
  (26, ⟨1, 8, .nilfn, .other⟩),
  (27, ⟨1, 8, .nilfn, .other⟩),
  (28, ⟨1, 8, .nilfn, .other⟩),
  (29, ⟨1, 8, .ptr none, .ptr 89⟩),
  (30, ⟨1, 24, .sl 0 true [], .slice 35⟩),
  (32, ⟨1, 8, .nilfn, .other⟩),
  (33, ⟨1, 24, .sl 0 true [], .slice 37⟩),
  (34, ⟨2, 32, .agg [.int .i64 0, .sl 0 true []], .struct [(0, 3), (1, 33)]⟩),
  (35, ⟨2, 32, .agg [.int .i64 0, .sl 0 true []], .struct [(0, 3), (1, 33)]⟩),
  (36, ⟨5, 40, .agg [.int .i64 0, .int .i64 0, .int .i64 0, .int .i64 0, .int .u32 0], .struct [(0, 3), (1, 25)]⟩),
  (37, ⟨5, 40, .agg [.int .i64 0, .int .i64 0, .int .i64 0, .int .i64 0, .int .u32 0], .struct [(0, 3), (1, 25)]⟩),
  (38, ⟨1, 8, .int .i64 0, .int .i64⟩),
  (40, ⟨1, 8, .nilfn, .other⟩),
  (41, ⟨1, 8, .nilfn, .other⟩),
  (42, ⟨1, 8, .nilfn, .other⟩),
  (43, ⟨1, 24, .sl 0 true [], .slice 25⟩),
  (44, ⟨1, 8, .nilfn, .other⟩),
  (45, ⟨1, 8, .nilfn, .other⟩),
  (46, ⟨1, 8, .nilfn, .other⟩),
  (47, ⟨1, 8, .nilfn, .other⟩),
  (48, ⟨1, 24, .sl 0 true [], .slice 3⟩),
  (49, ⟨1, 8, .nilfn, .other⟩),
  (50, ⟨1, 8, .nilfn, .other⟩),
  (52, ⟨1, 8, .nilfn, .other⟩),
  (53, ⟨1, 8, .nilfn, .other⟩),
  (54, ⟨1, 24, .sl 0 true [], .slice 5⟩),
  (55, ⟨1, 8, .nilfn, .other⟩),
  (56, ⟨1, 8, .nilfn, .other⟩),
  (57, ⟨1, 8, .ptr none, .ptr 67⟩),
  (58, ⟨1, 8, .nilfn, .other⟩),
  (59, ⟨1, 8, .nilfn, .other⟩),
  (60, ⟨1, 8, .nilfn, .other⟩),
  (61, ⟨1, 8, .nilfn, .other⟩),
  (62, ⟨2, 16, .agg [.int .i64 0, .int .i64 0], .array 2 3⟩),
  (63, ⟨1, 8, .nilfn, .other⟩),
  (64, ⟨1, 8, .nilfn, .other⟩),
  (65, ⟨1, 8, .mp none, .map 110 25⟩),
  (66, ⟨1, 8, .agg [.mp none], .struct [(0, 65)]⟩),
  (67, ⟨1, 8, .agg [.mp none], .struct [(0, 65)]⟩),
  (69, ⟨1, 8, .nilfn, .other⟩),
  (70, ⟨1, 8, .nilfn, .other⟩),
  (71, ⟨1, 8, .nilfn, .other⟩),
  (72, ⟨1, 8, .nilfn, .other⟩),
  (73, ⟨1, 24, .sl 0 true [], .slice 102⟩),
  (74, ⟨1, 8, .nilfn, .other⟩),
  (75, ⟨1, 8, .nilfn, .other⟩),
  (76, ⟨1, 8, .nilfn, .other⟩),
  (78, ⟨1, 8, .nilfn, .other⟩),
  (79, ⟨1, 8, .nilfn, .other⟩),
  (80, ⟨3, 40, .agg [.bool false, .int .i64 0, .sl 0 true []], .struct [(0, 4), (1, 35)]⟩),
  (81, ⟨3, 40, .agg [.bool false, .int .i64 0, .sl 0 true []], .struct [(0, 4), (1, 35)]⟩),
  (83, ⟨1, 8, .nilfn, .other⟩),
  (84, ⟨1, 8, .nilfn, .other⟩),
  (85, ⟨1, 8, .nilfn, .other⟩),
  (86, ⟨1, 8, .mp none, .map 3 25⟩),
  (87, ⟨1, 8, .mp none, .map 3 86⟩),
  (88, ⟨1, 8, .agg [.mp none], .struct [(0, 87)]⟩),
  (89, ⟨1, 8, .agg [.mp none], .struct [(0, 87)]⟩),
  (92, ⟨1, 8, .nilfn, .other⟩),
  (93, ⟨1, 8, .nilfn, .other⟩),
  (94, ⟨1, 8, .nilfn, .other⟩),
  (95, ⟨1, 8, .nilfn, .other⟩),
  (96, ⟨1, 8, .nilfn, .other⟩),
  (97, ⟨1, 8, .nilfn, .other⟩),
  (98, ⟨1, 8, .nilfn, .other⟩),
  (99, ⟨1, 8, .nilfn, .other⟩),
  (100, ⟨1, 8, .nilfn, .other⟩),
  (101, ⟨2, 16, .agg [.int .i64 0, .int .i64 0], .struct [(0, 3), (1, 3)]⟩),
  (102, ⟨2, 16, .agg [.int .i64 0, .int .i64 0], .struct [(0, 3), (1, 3)]⟩),
  (103, ⟨1, 8, .nilfn, .other⟩),
  (104, ⟨1, 8, .nilfn, .other⟩),
  (105, ⟨1, 8, .nilfn, .other⟩),
  (106, ⟨1, 8, .nilfn, .other⟩),
  (107, ⟨1, 8, .nilfn, .other⟩),
  (108, ⟨1, 8, .nilfn, .other⟩),
  (109, ⟨2, 16, .agg [.int .i64 0, .int .i64 0], .struct [(0, 3), (1, 3)]⟩),
  (110, ⟨2, 16, .agg [.int .i64 0, .int .i64 0], .struct [(0, 3), (1, 3)]⟩),
  (111, ⟨1, 8, .nilfn, .other⟩),
  (112, ⟨1, 8, .nilfn, .other⟩),
  (113, ⟨1, 8, .nilfn, .other⟩),
  (114, ⟨1, 8, .nilfn, .other⟩),
  (116, ⟨1, 8, .nilfn, .other⟩),
  (117, ⟨1, 8, .nilfn, .other⟩),
  (118, ⟨1, 8, .nilfn, .other⟩),
  (119, ⟨1, 8, .int .u64 0, .int .u64⟩),
  (120, ⟨1, 8, .int .u64 0, .int .u64⟩),
  (121, ⟨1, 8, .nilfn, .other⟩),
  (122, ⟨1, 8, .nilfn, .other⟩),
  (123, ⟨1, 8, .nilfn, .other⟩),
  (124, ⟨1, 8, .nilfn, .other⟩),
  (125, ⟨1, 8, .nilfn, .other⟩),
  (126, ⟨1, 8, .nilfn, .other⟩),
  (127, ⟨1, 8, .nilfn, .other⟩),
  (128, ⟨1, 8, .nilfn, .other⟩),
  (129, ⟨1, 8, .nilfn, .other⟩),
  (130, ⟨1, 24, .sl 0 true [], .slice 119⟩),
  (131, ⟨1, 8, .nilfn, .other⟩),
  (132, ⟨1, 8, .nilfn, .other⟩),
  (133, ⟨1, 8, .nilfn, .other⟩),
  (134, ⟨1, 8, .nilfn, .other⟩),
  (135, ⟨1, 8, .nilfn, .other⟩),
  (136, ⟨1, 8, .nilfn, .other⟩),
  (137, ⟨1, 8, .nilfn, .other⟩),
  (138, ⟨1, 8, .nilfn, .other⟩),
  (139, ⟨1, 8, .nilfn, .other⟩),
  (140, ⟨1, 8, .int .i64 0, .int .i64⟩),
  (142, ⟨1, 8, .nilfn, .other⟩),
  (143, ⟨1, 8, .nilfn, .other⟩),
  (144, ⟨1, 8, .nilfn, .other⟩),
  (146, ⟨1, 8, .nilfn, .other⟩),
  (147, ⟨1, 8, .nilfn, .other⟩),
  (148, ⟨1, 8, .nilfn, .other⟩),
  (149, ⟨1, 8, .nilfn, .other⟩),
  (150, ⟨1, 8, .nilfn, .other⟩),
  (151, ⟨1, 8, .nilfn, .other⟩),
  (152, ⟨1, 8, .int .u64 0, .int .u64⟩),
  (153, ⟨1, 8, .nilfn, .other⟩),
  (154, ⟨1, 8, .nilfn, .other⟩),
  (155, ⟨1, 8, .nilfn, .other⟩),
  (156, ⟨1, 8, .ptr none, .ptr 3⟩),
  (157, ⟨1, 8, .nilfn, .other⟩),
  (158, ⟨1, 8, .nilfn, .other⟩),
  (159, ⟨1, 8, .nilfn, .other⟩),
  (160, ⟨1, 8, .nilfn, .other⟩),
  (161, ⟨1, 8, .nilfn, .other⟩),
  (162, ⟨1, 8, .ptr none, .ptr 152⟩),
  (164, ⟨1, 8, .nilfn, .other⟩),
  (165, ⟨1, 8, .nilfn, .other⟩),
  (166, ⟨1, 8, .nilfn, .other⟩),
  (169, ⟨0, 0, .agg [], .array 0 16⟩),
  (172, ⟨1, 8, .nilfn, .other⟩),
  (173, ⟨1, 1, .int .u8 0, .int .u8⟩),
  (174, ⟨1, 1, .int .u8 0, .int .u8⟩),
  (175, ⟨1, 8, .nilfn, .other⟩),
  (176, ⟨1, 8, .ptr none, .ptr 5⟩),
  (177, ⟨1, 4, .int .i32 0, .int .i32⟩),
  (178, ⟨1, 4, .int .i32 0, .int .i32⟩)]
def te : TE := fun t => tl.lookup t
theorem te_ok : TEOK Try.prog te := by
  refine TEOK_of_list ?_
  kernel_rfl
@[simp] theorem te_1 : te 1 = some ⟨1, 8, .nilfn, .other⟩ := rfl
@[simp] theorem te_2 : te 2 = some ⟨1, 8, .int .i64 0, .int .i64⟩ := rfl
@[simp] theorem te_3 : te 3 = some ⟨1, 8, .int .i64 0, .int .i64⟩ := rfl
@[simp] theorem te_4 : te 4 = some ⟨1, 1, .bool false, .bool⟩ := rfl
@[simp] theorem te_5 : te 5 = some ⟨1, 1, .int .u8 0, .int .u8⟩ := rfl
@[simp] theorem te_6 : te 6 = some ⟨1, 1, .int .u8 0, .int .u8⟩ := rfl
@[simp] theorem te_7 : te 7 = some ⟨4, 24, .agg [.int .i64 0, .int .i64 0, .bool false, .int .u8 0], .struct [(0, 2), (1, 3), (2, 4), (3, 6)]⟩ := rfl
@[simp] theorem te_8 : te 8 = some ⟨4, 24, .agg [.int .i64 0, .int .i64 0, .bool false, .int .u8 0], .struct [(0, 2), (1, 3), (2, 4), (3, 6)]⟩ := rfl
@[simp] theorem te_9 : te 9 = some ⟨1, 16, .str ⟨#[]⟩, .string⟩ := rfl
@[simp] theorem te_10 : te 10 = some ⟨1, 16, .str ⟨#[]⟩, .string⟩ := rfl
@[simp] theorem te_11 : te 11 = some ⟨1, 16, .str ⟨#[]⟩, .string⟩ := rfl
@[simp] theorem te_12 : te 12 = some ⟨1, 8, .int .u64 0, .int .u64⟩ := rfl
@[simp] theorem te_15 : te 15 = some ⟨1, 8, .ptr none, .ptr 168⟩ := rfl
@[simp] theorem te_16 : te 16 = some ⟨1, 8, .ptr none, .ptr 171⟩ := rfl
@[simp] theorem te_17 : te 17 = some ⟨1, 8, .ptr none, .ptr 180⟩ := rfl
@[simp] theorem te_20 : te 20 = some ⟨1, 16, .nilif, .other⟩ := rfl
@[simp] theorem te_21 : te 21 = some ⟨1, 4, .int .i32 0, .int .i32⟩ := rfl
@[simp] theorem te_22 : te 22 = some ⟨1, 24, .sl 0 true [], .slice 81⟩ := rfl
@[simp] theorem te_23 : te 23 = some ⟨1, 4, .int .u32 0, .int .u32⟩ := rfl
@[simp] theorem te_24 : te 24 = some ⟨4, 32, .agg [.int .i64 0, .int .i64 0, .int .i64 0, .int .u32 0], .struct [(0, 3), (1, 3), (2, 3), (3, 23)]⟩ := rfl
@[simp] theorem te_25 : te 25 = some ⟨4, 32, .agg [.int .i64 0, .int .i64 0, .int .i64 0, .int .u32 0], .struct [(0, 3), (1, 3), (2, 3), (3, 23)]⟩ := rfl
@[simp] theorem te_26 : te 26 = some ⟨1, 8, .nilfn, .other⟩ := rfl
@[simp] theorem te_27 : te 27 = some ⟨1, 8, .nilfn, .other⟩ := rfl
@[simp] theorem te_28 : te 28 = some ⟨1, 8, .nilfn, .other⟩ := rfl
@[simp] theorem te_29 : te 29 = some ⟨1, 8, .ptr none, .ptr 89⟩ := rfl
@[simp] theorem te_30 : te 30 = some ⟨1, 24, .sl 0 true [], .slice 35⟩ := rfl
@[simp] theorem te_32 : te 32 = some ⟨1, 8, .nilfn, .other⟩ := rfl
@[simp] theorem te_33 : te 33 = some ⟨1, 24, .sl 0 true [], .slice 37⟩ := rfl
@[simp] theorem te_34 : te 34 = some ⟨2, 32, .agg [.int .i64 0, .sl 0 true []], .struct [(0, 3), (1, 33)]⟩ := rfl
@[simp] theorem te_35 : te 35 = some ⟨2, 32, .agg [.int .i64 0, .sl 0 true []], .struct [(0, 3), (1, 33)]⟩ := rfl
@[simp] theorem te_36 : te 36 = some ⟨5, 40, .agg [.int .i64 0, .int .i64 0, .int .i64 0, .int .i64 0, .int .u32 0], .struct [(0, 3), (1, 25)]⟩ := rfl
@[simp] theorem te_37 : te 37 = some ⟨5, 40, .agg [.int .i64 0, .int .i64 0, .int .i64 0, .int .i64 0, .int .u32 0], .struct [(0, 3), (1, 25)]⟩ := rfl
@[simp] theorem te_38 : te 38 = some ⟨1, 8, .int .i64 0, .int .i64⟩ := rfl
@[simp] theorem te_40 : te 40 = some ⟨1, 8, .nilfn, .other⟩ := rfl
@[simp] theorem te_41 : te 41 = some ⟨1, 8, .nilfn, .other⟩ := rfl
@[simp] theorem te_42 : te 42 = some ⟨1, 8, .nilfn, .other⟩ := rfl
@[simp] theorem te_43 : te 43 = some ⟨1, 24, .sl 0 true [], .slice 25⟩ := rfl
@[simp] theorem te_44 : te 44 = some ⟨1, 8, .nilfn, .other⟩ := rfl
@[simp] theorem te_45 : te 45 = some ⟨1, 8, .nilfn, .other⟩ := rfl
@[simp] theorem te_46 : te 46 = some ⟨1, 8, .nilfn, .other⟩ := rfl
@[simp] theorem te_47 : te 47 = some ⟨1, 8, .nilfn, .other⟩ := rfl
@[simp] theorem te_48 : te 48 = some ⟨1, 24, .sl 0 true [], .slice 3⟩ := rfl
@[simp] theorem te_49 : te 49 = some ⟨1, 8, .nilfn, .other⟩ := rfl
@[simp] theorem te_50 : te 50 = some ⟨1, 8, .nilfn, .other⟩ := rfl
@[simp] theorem te_52 : te 52 = some ⟨1, 8, .nilfn, .other⟩ := rfl
@[simp] theorem te_53 : te 53 = some ⟨1, 8, .nilfn, .other⟩ := rfl
@[simp] theorem te_54 : te 54 = some ⟨1, 24, .sl 0 true [], .slice 5⟩ := rfl
@[simp] theorem te_55 : te 55 = some ⟨1, 8, .nilfn, .other⟩ := rfl
@[simp] theorem te_56 : te 56 = some ⟨1, 8, .nilfn, .other⟩ := rfl
@[simp] theorem te_57 : te 57 = some ⟨1, 8, .ptr none, .ptr 67⟩ := rfl
@[simp] theorem te_58 : te 58 = some ⟨1, 8, .nilfn, .other⟩ := rfl
@[simp] theorem te_59 : te 59 = some ⟨1, 8, .nilfn, .other⟩ := rfl
@[simp] theorem te_60 : te 60 = some ⟨1, 8, .nilfn, .other⟩ := rfl
@[simp] theorem te_61 : te 61 = some ⟨1, 8, .nilfn, .other⟩ := rfl
@[simp] theorem te_62 : te 62 = some ⟨2, 16, .agg [.int .i64 0, .int .i64 0], .array 2 3⟩ := rfl
@[simp] theorem te_63 : te 63 = some ⟨1, 8, .nilfn, .other⟩ := rfl
@[simp] theorem te_64 : te 64 = some ⟨1, 8, .nilfn, .other⟩ := rfl
@[simp] theorem te_65 : te 65 = some ⟨1, 8, .mp none, .map 110 25⟩ := rfl
@[simp] theorem te_66 : te 66 = some ⟨1, 8, .agg [.mp none], .struct [(0, 65)]⟩ := rfl
@[simp] theorem te_67 : te 67 = some ⟨1, 8, .agg [.mp none], .struct [(0, 65)]⟩ := rfl
@[simp] theorem te_69 : te 69 = some ⟨1, 8, .nilfn, .other⟩ := rfl
@[simp] theorem te_70 : te 70 = some ⟨1, 8, .nilfn, .other⟩ := rfl
@[simp] theorem te_71 : te 71 = some ⟨1, 8, .nilfn, .other⟩ := rfl
@[simp] theorem te_72 : te 72 = some ⟨1, 8, .nilfn, .other⟩ := rfl
@[simp] theorem te_73 : te 73 = some ⟨1, 24, .sl 0 true [], .slice 102⟩ := rfl
@[simp] theorem te_74 : te 74 = some ⟨1, 8, .nilfn, .other⟩ := rfl
@[simp] theorem te_75 : te 75 = some ⟨1, 8, .nilfn, .other⟩ := rfl
@[simp] theorem te_76 : te 76 = some ⟨1, 8, .nilfn, .other⟩ := rfl
@[simp] theorem te_78 : te 78 = some ⟨1, 8, .nilfn, .other⟩ := rfl
@[simp] theorem te_79 : te 79 = some ⟨1, 8, .nilfn, .other⟩ := rfl
@[simp] theorem te_80 : te 80 = some ⟨3, 40, .agg [.bool false, .int .i64 0, .sl 0 true []], .struct [(0, 4), (1, 35)]⟩ := rfl
@[simp] theorem te_81 : te 81 = some ⟨3, 40, .agg [.bool false, .int .i64 0, .sl 0 true []], .struct [(0, 4), (1, 35)]⟩ := rfl
@[simp] theorem te_83 : te 83 = some ⟨1, 8, .nilfn, .other⟩ := rfl
@[simp] theorem te_84 : te 84 = some ⟨1, 8, .nilfn, .other⟩ := rfl
@[simp] theorem te_85 : te 85 = some ⟨1, 8, .nilfn, .other⟩ := rfl
@[simp] theorem te_86 : te 86 = some ⟨1, 8, .mp none, .map 3 25⟩ := rfl
@[simp] theorem te_87 : te 87 = some ⟨1, 8, .mp none, .map 3 86⟩ := rfl
@[simp] theorem te_88 : te 88 = some ⟨1, 8, .agg [.mp none], .struct [(0, 87)]⟩ := rfl
@[simp] theorem te_89 : te 89 = some ⟨1, 8, .agg [.mp none], .struct [(0, 87)]⟩ := rfl
@[simp] theorem te_92 : te 92 = some ⟨1, 8, .nilfn, .other⟩ := rfl
@[simp] theorem te_93 : te 93 = some ⟨1, 8, .nilfn, .other⟩ := rfl
@[simp] theorem te_94 : te 94 = some ⟨1, 8, .nilfn, .other⟩ := rfl
@[simp] theorem te_95 : te 95 = some ⟨1, 8, .nilfn, .other⟩ := rfl
@[simp] theorem te_96 : te 96 = some ⟨1, 8, .nilfn, .other⟩ := rfl
@[simp] theorem te_97 : te 97 = some ⟨1, 8, .nilfn, .other⟩ := rfl
@[simp] theorem te_98 : te 98 = some ⟨1, 8, .nilfn, .other⟩ := rfl
@[simp] theorem te_99 : te 99 = some ⟨1, 8, .nilfn, .other⟩ := rfl
@[simp] theorem te_100 : te 100 = some ⟨1, 8, .nilfn, .other⟩ := rfl
@[simp] theorem te_101 : te 101 = some ⟨2, 16, .agg [.int .i64 0, .int .i64 0], .struct [(0, 3), (1, 3)]⟩ := rfl
@[simp] theorem te_102 : te 102 = some ⟨2, 16, .agg [.int .i64 0, .int .i64 0], .struct [(0, 3), (1, 3)]⟩ := rfl
@[simp] theorem te_103 : te 103 = some ⟨1, 8, .nilfn, .other⟩ := rfl
@[simp] theorem te_104 : te 104 = some ⟨1, 8, .nilfn, .other⟩ := rfl
@[simp] theorem te_105 : te 105 = some ⟨1, 8, .nilfn, .other⟩ := rfl
@[simp] theorem te_106 : te 106 = some ⟨1, 8, .nilfn, .other⟩ := rfl
@[simp] theorem te_107 : te 107 = some ⟨1, 8, .nilfn, .other⟩ := rfl
@[simp] theorem te_108 : te 108 = some ⟨1, 8, .nilfn, .other⟩ := rfl
@[simp] theorem te_109 : te 109 = some ⟨2, 16, .agg [.int .i64 0, .int .i64 0], .struct [(0, 3), (1, 3)]⟩ := rfl
@[simp] theorem te_110 : te 110 = some ⟨2, 16, .agg [.int .i64 0, .int .i64 0], .struct [(0, 3), (1, 3)]⟩ := rfl
@[simp] theorem te_111 : te 111 = some ⟨1, 8, .nilfn, .other⟩ := rfl
@[simp] theorem te_112 : te 112 = some ⟨1, 8, .nilfn, .other⟩ := rfl
@[simp] theorem te_113 : te 113 = some ⟨1, 8, .nilfn, .other⟩ := rfl
@[simp] theorem te_114 : te 114 = some ⟨1, 8, .nilfn, .other⟩ := rfl
@[simp] theorem te_116 : te 116 = some ⟨1, 8, .nilfn, .other⟩ := rfl
@[simp] theorem te_117 : te 117 = some ⟨1, 8, .nilfn, .other⟩ := rfl
@[simp] theorem te_118 : te 118 = some ⟨1, 8, .nilfn, .other⟩ := rfl
@[simp] theorem te_119 : te 119 = some ⟨1, 8, .int .u64 0, .int .u64⟩ := rfl
@[simp] theorem te_120 : te 120 = some ⟨1, 8, .int .u64 0, .int .u64⟩ := rfl
@[simp] theorem te_121 : te 121 = some ⟨1, 8, .nilfn, .other⟩ := rfl
@[simp] theorem te_122 : te 122 = some ⟨1, 8, .nilfn, .other⟩ := rfl
@[simp] theorem te_123 : te 123 = some ⟨1, 8, .nilfn, .other⟩ := rfl
@[simp] theorem te_124 : te 124 = some ⟨1, 8, .nilfn, .other⟩ := rfl
@[simp] theorem te_125 : te 125 = some ⟨1, 8, .nilfn, .other⟩ := rfl
@[simp] theorem te_126 : te 126 = some ⟨1, 8, .nilfn, .other⟩ := rfl
@[simp] theorem te_127 : te 127 = some ⟨1, 8, .nilfn, .other⟩ := rfl
@[simp] theorem te_128 : te 128 = some ⟨1, 8, .nilfn, .other⟩ := rfl
@[simp] theorem te_129 : te 129 = some ⟨1, 8, .nilfn, .other⟩ := rfl
@[simp] theorem te_130 : te 130 = some ⟨1, 24, .sl 0 true [], .slice 119⟩ := rfl
@[simp] theorem te_131 : te 131 = some ⟨1, 8, .nilfn, .other⟩ := rfl
@[simp] theorem te_132 : te 132 = some ⟨1, 8, .nilfn, .other⟩ := rfl
@[simp] theorem te_133 : te 133 = some ⟨1, 8, .nilfn, .other⟩ := rfl
@[simp] theorem te_134 : te 134 = some ⟨1, 8, .nilfn, .other⟩ := rfl
@[simp] theorem te_135 : te 135 = some ⟨1, 8, .nilfn, .other⟩ := rfl
@[simp] theorem te_136 : te 136 = some ⟨1, 8, .nilfn, .other⟩ := rfl
@[simp] theorem te_137 : te 137 = some ⟨1, 8, .nilfn, .other⟩ := rfl
@[simp] theorem te_138 : te 138 = some ⟨1, 8, .nilfn, .other⟩ := rfl
@[simp] theorem te_139 : te 139 = some ⟨1, 8, .nilfn, .other⟩ := rfl
@[simp] theorem te_140 : te 140 = some ⟨1, 8, .int .i64 0, .int .i64⟩ := rfl
@[simp] theorem te_142 : te 142 = some ⟨1, 8, .nilfn, .other⟩ := rfl
@[simp] theorem te_143 : te 143 = some ⟨1, 8, .nilfn, .other⟩ := rfl
@[simp] theorem te_144 : te 144 = some ⟨1, 8, .nilfn, .other⟩ := rfl
@[simp] theorem te_146 : te 146 = some ⟨1, 8, .nilfn, .other⟩ := rfl
@[simp] theorem te_147 : te 147 = some ⟨1, 8, .nilfn, .other⟩ := rfl
@[simp] theorem te_148 : te 148 = some ⟨1, 8, .nilfn, .other⟩ := rfl
@[simp] theorem te_149 : te 149 = some ⟨1, 8, .nilfn, .other⟩ := rfl
@[simp] theorem te_150 : te 150 = some ⟨1, 8, .nilfn, .other⟩ := rfl
@[simp] theorem te_151 : te 151 = some ⟨1, 8, .nilfn, .other⟩ := rfl
@[simp] theorem te_152 : te 152 = some ⟨1, 8, .int .u64 0, .int .u64⟩ := rfl
@[simp] theorem te_153 : te 153 = some ⟨1, 8, .nilfn, .other⟩ := rfl
@[simp] theorem te_154 : te 154 = some ⟨1, 8, .nilfn, .other⟩ := rfl
@[simp] theorem te_155 : te 155 = some ⟨1, 8, .nilfn, .other⟩ := rfl
@[simp] theorem te_156 : te 156 = some ⟨1, 8, .ptr none, .ptr 3⟩ := rfl
@[simp] theorem te_157 : te 157 = some ⟨1, 8, .nilfn, .other⟩ := rfl
@[simp] theorem te_158 : te 158 = some ⟨1, 8, .nilfn, .other⟩ := rfl
@[simp] theorem te_159 : te 159 = some ⟨1, 8, .nilfn, .other⟩ := rfl
@[simp] theorem te_160 : te 160 = some ⟨1, 8, .nilfn, .other⟩ := rfl
@[simp] theorem te_161 : te 161 = some ⟨1, 8, .nilfn, .other⟩ := rfl
@[simp] theorem te_162 : te 162 = some ⟨1, 8, .ptr none, .ptr 152⟩ := rfl
@[simp] theorem te_164 : te 164 = some ⟨1, 8, .nilfn, .other⟩ := rfl
@[simp] theorem te_165 : te 165 = some ⟨1, 8, .nilfn, .other⟩ := rfl
@[simp] theorem te_166 : te 166 = some ⟨1, 8, .nilfn, .other⟩ := rfl
@[simp] theorem te_169 : te 169 = some ⟨0, 0, .agg [], .array 0 16⟩ := rfl
@[simp] theorem te_172 : te 172 = some ⟨1, 8, .nilfn, .other⟩ := rfl
@[simp] theorem te_173 : te 173 = some ⟨1, 1, .int .u8 0, .int .u8⟩ := rfl
@[simp] theorem te_174 : te 174 = some ⟨1, 1, .int .u8 0, .int .u8⟩ := rfl
@[simp] theorem te_175 : te 175 = some ⟨1, 8, .nilfn, .other⟩ := rfl
@[simp] theorem te_176 : te 176 = some ⟨1, 8, .ptr none, .ptr 5⟩ := rfl
@[simp] theorem te_177 : te 177 = some ⟨1, 4, .int .i32 0, .int .i32⟩ := rfl
@[simp] theorem te_178 : te 178 = some ⟨1, 4, .int .i32 0, .int .i32⟩ := rfl
end Go.Proofs.Ytmobgcpamblhhaa
