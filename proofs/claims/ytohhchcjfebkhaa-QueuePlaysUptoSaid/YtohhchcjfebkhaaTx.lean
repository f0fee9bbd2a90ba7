/- What is told of this seat's types: printed by a program of mine, each entry checked by the kernel. -/
import Derived.Test.YtohhchcjfebkhaaProg
import Derived.Test.YtohhchcjfebkhaaVxall
import Derived.KernelRfl
namespace Go.Proofs.Ytohhchcjfebkhaa
open Go.Vx Go.Vc
def tx : List (Nat × TY) := [(1, ⟨⟨.nilFunc, 1, 8, false, [], none, false, false⟩, .fn⟩),
  (2, ⟨⟨(.int .i64 0), 1, 8, false, [], none, false, false⟩, .int .i64⟩),
  (3, ⟨⟨(.int .i64 0), 1, 8, false, [], none, false, false⟩, .int .i64⟩),
  (4, ⟨⟨(.bool false), 1, 1, false, [], none, false, false⟩, .bool⟩),
  (5, ⟨⟨(.int .u8 0), 1, 1, false, [], none, false, false⟩, .int .u8⟩),
  (6, ⟨⟨(.int .u8 0), 1, 1, false, [], none, false, false⟩, .int .u8⟩),
  (7, ⟨⟨(.agg #[(.int .i64 0), (.int .i64 0), (.bool false), (.int .u8 0)]), 4, 24, true, [(0, 1), (1, 1), (2, 1), (3, 1)], none, false, false⟩, .other⟩),
  (8, ⟨⟨(.agg #[(.int .i64 0), (.int .i64 0), (.bool false), (.int .u8 0)]), 4, 24, true, [(0, 1), (1, 1), (2, 1), (3, 1)], none, false, false⟩, .other⟩),
  (9, ⟨⟨(.string ⟨#[]⟩), 1, 16, false, [], none, true, false⟩, .str⟩),
  (10, ⟨⟨(.string ⟨#[]⟩), 1, 16, false, [], none, true, false⟩, .str⟩),
  (11, ⟨⟨(.string ⟨#[]⟩), 1, 16, false, [], none, true, false⟩, .str⟩),
  (12, ⟨⟨(.int .u64 0), 1, 8, false, [], none, false, false⟩, .int .u64⟩),
  (13, ⟨⟨(.agg #[(.string ⟨#[]⟩), (.int .u64 0)]), 2, 24, true, [(0, 1), (1, 1)], none, false, false⟩, .other⟩),
  (14, ⟨⟨(.agg #[(.string ⟨#[]⟩), (.int .u64 0)]), 2, 24, true, [(0, 1), (1, 1)], none, false, false⟩, .other⟩),
  (15, ⟨⟨(.pointer none), 1, 8, false, [], none, false, false⟩, .ptr⟩),
  (16, ⟨⟨(.pointer none), 1, 8, false, [], none, false, false⟩, .ptr⟩),
  (17, ⟨⟨(.pointer none), 1, 8, false, [], none, false, false⟩, .ptr⟩),
  (18, ⟨⟨(.agg #[(.pointer none)]), 1, 8, true, [(0, 1)], none, false, false⟩, .other⟩),
  (19, ⟨⟨(.agg #[(.pointer none)]), 1, 8, true, [(0, 1)], none, false, false⟩, .other⟩),
  (20, ⟨⟨.nilIface, 1, 16, false, [], none, false, true⟩, .ifc⟩),
  (21, ⟨⟨(.int .i32 0), 1, 4, false, [], none, false, false⟩, .int .i32⟩),
  (22, ⟨⟨(.slice none 0 0), 1, 24, false, [], some 35, false, false⟩, .slice 35⟩),
  (23, ⟨⟨(.pointer none), 1, 8, false, [], none, false, false⟩, .ptr⟩),
  (24, ⟨⟨.nilFunc, 1, 8, false, [], none, false, false⟩, .fn⟩),
  (25, ⟨⟨(.slice none 0 0), 1, 24, false, [], some 30, false, false⟩, .slice 30⟩),
  (26, ⟨⟨.nilFunc, 1, 8, false, [], none, false, false⟩, .fn⟩),
  (27, ⟨⟨.nilFunc, 1, 8, false, [], none, false, false⟩, .fn⟩),
  (28, ⟨⟨.nilFunc, 1, 8, false, [], none, false, false⟩, .fn⟩),
  (29, ⟨⟨(.agg #[(.int .i64 0), (.string ⟨#[]⟩)]), 2, 24, true, [(0, 1), (1, 1)], none, false, false⟩, .other⟩),
  (30, ⟨⟨(.agg #[(.int .i64 0), (.string ⟨#[]⟩)]), 2, 24, true, [(0, 1), (1, 1)], none, false, false⟩, .other⟩),
  (32, ⟨⟨.nilFunc, 1, 8, false, [], none, false, false⟩, .fn⟩),
  (33, ⟨⟨.nilFunc, 1, 8, false, [], none, false, false⟩, .fn⟩),
  (34, ⟨⟨.nilFunc, 1, 8, false, [], none, false, false⟩, .fn⟩),
  (35, ⟨⟨(.agg #[(.int .i64 0), (.string ⟨#[]⟩)]), 2, 24, true, [(0, 1), (1, 1)], none, false, false⟩, .other⟩),
  (36, ⟨⟨.nilFunc, 1, 8, false, [], none, false, false⟩, .fn⟩),
  (37, ⟨⟨.nilFunc, 1, 8, false, [], none, false, false⟩, .fn⟩),
  (38, ⟨⟨.nilFunc, 1, 8, false, [], none, false, false⟩, .fn⟩),
  (39, ⟨⟨.nilFunc, 1, 8, false, [], none, false, false⟩, .fn⟩),
  (40, ⟨⟨.nilFunc, 1, 8, false, [], none, false, false⟩, .fn⟩),
  (41, ⟨⟨.nilFunc, 1, 8, false, [], none, false, false⟩, .fn⟩),
  (42, ⟨⟨.nilFunc, 1, 8, false, [], none, false, false⟩, .fn⟩),
  (43, ⟨⟨.nilFunc, 1, 8, false, [], none, false, false⟩, .fn⟩),
  (44, ⟨⟨(.slice none 0 0), 1, 24, false, [], some 49, false, false⟩, .slice 49⟩),
  (45, ⟨⟨(.pointer none), 1, 8, false, [], none, false, false⟩, .ptr⟩),
  (46, ⟨⟨.nilFunc, 1, 8, false, [], none, false, false⟩, .fn⟩),
  (47, ⟨⟨.nilFunc, 1, 8, false, [], none, false, false⟩, .fn⟩),
  (48, ⟨⟨(.agg #[(.int .i64 0), (.int .i64 0), (.string ⟨#[]⟩), (.slice none 0 0)]), 4, 56, true, [(0, 1), (1, 1), (2, 1), (3, 1)], none, false, false⟩, .other⟩),
  (49, ⟨⟨(.agg #[(.int .i64 0), (.int .i64 0), (.string ⟨#[]⟩), (.slice none 0 0)]), 4, 56, true, [(0, 1), (1, 1), (2, 1), (3, 1)], none, false, false⟩, .other⟩),
  (50, ⟨⟨(.agg #[(.slice none 0 0)]), 1, 24, true, [(0, 1)], none, false, false⟩, .other⟩),
  (51, ⟨⟨(.agg #[(.slice none 0 0)]), 1, 24, true, [(0, 1)], none, false, false⟩, .other⟩),
  (52, ⟨⟨.nilFunc, 1, 8, false, [], none, false, false⟩, .fn⟩),
  (53, ⟨⟨.nilFunc, 1, 8, false, [], none, false, false⟩, .fn⟩),
  (54, ⟨⟨.nilFunc, 1, 8, false, [], none, false, false⟩, .fn⟩),
  (55, ⟨⟨.nilFunc, 1, 8, false, [], none, false, false⟩, .fn⟩),
  (56, ⟨⟨(.map none), 1, 8, false, [], none, false, false⟩, .map⟩),
  (57, ⟨⟨(.agg #[(.slice none 0 0), (.map none)]), 2, 32, true, [(0, 1), (1, 1)], none, false, false⟩, .other⟩),
  (58, ⟨⟨(.agg #[(.slice none 0 0), (.map none)]), 2, 32, true, [(0, 1), (1, 1)], none, false, false⟩, .other⟩),
  (59, ⟨⟨(.agg #[(.slice none 0 0), (.map none)]), 2, 32, true, [(0, 2)], none, false, false⟩, .other⟩),
  (60, ⟨⟨(.agg #[(.slice none 0 0), (.map none)]), 2, 32, true, [(0, 2)], none, false, false⟩, .other⟩),
  (61, ⟨⟨.nilFunc, 1, 8, false, [], none, false, false⟩, .fn⟩),
  (62, ⟨⟨.nilFunc, 1, 8, false, [], none, false, false⟩, .fn⟩),
  (63, ⟨⟨.nilFunc, 1, 8, false, [], none, false, false⟩, .fn⟩),
  (64, ⟨⟨.nilFunc, 1, 8, false, [], none, false, false⟩, .fn⟩),
  (65, ⟨⟨.nilFunc, 1, 8, false, [], none, false, false⟩, .fn⟩),
  (66, ⟨⟨.nilFunc, 1, 8, false, [], none, false, false⟩, .fn⟩),
  (67, ⟨⟨(.pointer none), 1, 8, false, [], none, false, false⟩, .ptr⟩),
  (69, ⟨⟨.nilFunc, 1, 8, false, [], none, false, false⟩, .fn⟩),
  (70, ⟨⟨.nilFunc, 1, 8, false, [], none, false, false⟩, .fn⟩),
  (71, ⟨⟨.nilFunc, 1, 8, false, [], none, false, false⟩, .fn⟩),
  (72, ⟨⟨.nilFunc, 1, 8, false, [], none, false, false⟩, .fn⟩),
  (73, ⟨⟨.nilFunc, 1, 8, false, [], none, false, false⟩, .fn⟩),
  (75, ⟨⟨.nilFunc, 1, 8, false, [], none, false, false⟩, .fn⟩),
  (76, ⟨⟨.nilFunc, 1, 8, false, [], none, false, false⟩, .fn⟩),
  (77, ⟨⟨.nilFunc, 1, 8, false, [], none, false, false⟩, .fn⟩),
  (78, ⟨⟨.nilFunc, 1, 8, false, [], none, false, false⟩, .fn⟩),
  (79, ⟨⟨.nilFunc, 1, 8, false, [], none, false, false⟩, .fn⟩),
  (80, ⟨⟨.nilFunc, 1, 8, false, [], none, false, false⟩, .fn⟩),
  (81, ⟨⟨.nilIface, 1, 16, false, [], none, false, true⟩, .ifc⟩),
  (82, ⟨⟨.nilIface, 1, 16, false, [], none, false, true⟩, .ifc⟩),
  (83, ⟨⟨.nilFunc, 1, 8, false, [], none, false, false⟩, .fn⟩),
  (84, ⟨⟨.nilFunc, 1, 8, false, [], none, false, false⟩, .fn⟩),
  (85, ⟨⟨.nilFunc, 1, 8, false, [], none, false, false⟩, .fn⟩),
  (86, ⟨⟨.nilFunc, 1, 8, false, [], none, false, false⟩, .fn⟩),
  (87, ⟨⟨.nilFunc, 1, 8, false, [], none, false, false⟩, .fn⟩),
  (88, ⟨⟨.nilFunc, 1, 8, false, [], none, false, false⟩, .fn⟩),
  (89, ⟨⟨.nilFunc, 1, 8, false, [], none, false, false⟩, .fn⟩),
  (90, ⟨⟨.nilFunc, 1, 8, false, [], none, false, false⟩, .fn⟩),
  (91, ⟨⟨.nilFunc, 1, 8, false, [], none, false, false⟩, .fn⟩),
  (92, ⟨⟨(.int .u64 0), 1, 8, false, [], none, false, false⟩, .int .u64⟩),
  (93, ⟨⟨(.slice none 0 0), 1, 24, false, [], some 3, false, false⟩, .slice 3⟩),
  (94, ⟨⟨.nilFunc, 1, 8, false, [], none, false, false⟩, .fn⟩),
  (95, ⟨⟨.nilFunc, 1, 8, false, [], none, false, false⟩, .fn⟩),
  (96, ⟨⟨.nilFunc, 1, 8, false, [], none, false, false⟩, .fn⟩),
  (97, ⟨⟨(.int .i64 0), 1, 8, false, [], none, false, false⟩, .int .i64⟩),
  (99, ⟨⟨.nilFunc, 1, 8, false, [], none, false, false⟩, .fn⟩),
  (100, ⟨⟨.nilFunc, 1, 8, false, [], none, false, false⟩, .fn⟩),
  (101, ⟨⟨.nilFunc, 1, 8, false, [], none, false, false⟩, .fn⟩),
  (102, ⟨⟨.nilFunc, 1, 8, false, [], none, false, false⟩, .fn⟩),
  (103, ⟨⟨.nilFunc, 1, 8, false, [], none, false, false⟩, .fn⟩),
  (104, ⟨⟨(.int .u32 0), 1, 4, false, [], none, false, false⟩, .int .u32⟩),
  (105, ⟨⟨.nilFunc, 1, 8, false, [], none, false, false⟩, .fn⟩),
  (106, ⟨⟨(.int .u64 0), 1, 8, false, [], none, false, false⟩, .int .u64⟩),
  (107, ⟨⟨(.int .u64 0), 1, 8, false, [], none, false, false⟩, .int .u64⟩),
  (108, ⟨⟨.nilFunc, 1, 8, false, [], none, false, false⟩, .fn⟩),
  (109, ⟨⟨.nilFunc, 1, 8, false, [], none, false, false⟩, .fn⟩),
  (110, ⟨⟨.nilFunc, 1, 8, false, [], none, false, false⟩, .fn⟩),
  (111, ⟨⟨(.pointer none), 1, 8, false, [], none, false, false⟩, .ptr⟩),
  (112, ⟨⟨.nilFunc, 1, 8, false, [], none, false, false⟩, .fn⟩),
  (113, ⟨⟨(.pointer none), 1, 8, false, [], none, false, false⟩, .ptr⟩),
  (115, ⟨⟨.nilFunc, 1, 8, false, [], none, false, false⟩, .fn⟩),
  (116, ⟨⟨.nilFunc, 1, 8, false, [], none, false, false⟩, .fn⟩),
  (117, ⟨⟨(.agg #[(.pointer none), (.pointer none), (.pointer none), (.string ⟨#[]⟩)]), 4, 40, true, [(0, 1), (1, 1), (2, 1), (3, 1)], none, false, false⟩, .other⟩),
  (118, ⟨⟨(.agg #[(.pointer none), (.pointer none), (.pointer none), (.string ⟨#[]⟩)]), 4, 40, true, [(0, 1), (1, 1), (2, 1), (3, 1)], none, false, false⟩, .other⟩),
  (122, ⟨⟨(.int .u8 0), 1, 1, false, [], none, false, false⟩, .int .u8⟩),
  (123, ⟨⟨(.int .u8 0), 1, 1, false, [], none, false, false⟩, .int .u8⟩),
  (124, ⟨⟨.nilFunc, 1, 8, false, [], none, false, false⟩, .fn⟩),
  (125, ⟨⟨(.pointer none), 1, 8, false, [], none, false, false⟩, .ptr⟩),
  (126, ⟨⟨(.int .i32 0), 1, 4, false, [], none, false, false⟩, .int .i32⟩),
  (127, ⟨⟨(.int .i32 0), 1, 4, false, [], none, false, false⟩, .int .i32⟩),
  (128, ⟨⟨(.agg #[(.int .u64 0), (.int .u64 0), (.int .u32 0), (.int .u8 0), (.int .u8 0), (.int .u8 0), (.int .u8 0), .nilFunc, (.pointer none), (.int .i32 0), (.int .i32 0)]), 11, 48, true, [(0, 1), (1, 1), (2, 1), (3, 1), (4, 1), (5, 1), (6, 1), (7, 1), (8, 1), (9, 1), (10, 1)], none, false, false⟩, .other⟩),
  (129, ⟨⟨(.agg #[(.int .u64 0), (.int .u64 0), (.int .u32 0), (.int .u8 0), (.int .u8 0), (.int .u8 0), (.int .u8 0), .nilFunc, (.pointer none), (.int .i32 0), (.int .i32 0)]), 11, 48, true, [(0, 1), (1, 1), (2, 1), (3, 1), (4, 1), (5, 1), (6, 1), (7, 1), (8, 1), (9, 1), (10, 1)], none, false, false⟩, .other⟩),
  (130, ⟨⟨.nilFunc, 1, 8, false, [], none, false, false⟩, .fn⟩)]
theorem tx1 : TYok Try.prog 1 ⟨⟨.nilFunc, 1, 8, false, [], none, false, false⟩, .fn⟩ := ⟨⟨by kernel_rfl, by kernel_rfl⟩, by kernel_rfl⟩
theorem tx2 : TYok Try.prog 2 ⟨⟨(.int .i64 0), 1, 8, false, [], none, false, false⟩, .int .i64⟩ := ⟨⟨by kernel_rfl, by kernel_rfl⟩, by kernel_rfl⟩
theorem tx3 : TYok Try.prog 3 ⟨⟨(.int .i64 0), 1, 8, false, [], none, false, false⟩, .int .i64⟩ := ⟨⟨by kernel_rfl, by kernel_rfl⟩, by kernel_rfl⟩
theorem tx4 : TYok Try.prog 4 ⟨⟨(.bool false), 1, 1, false, [], none, false, false⟩, .bool⟩ := ⟨⟨by kernel_rfl, by kernel_rfl⟩, by kernel_rfl⟩
theorem tx5 : TYok Try.prog 5 ⟨⟨(.int .u8 0), 1, 1, false, [], none, false, false⟩, .int .u8⟩ := ⟨⟨by kernel_rfl, by kernel_rfl⟩, by kernel_rfl⟩
theorem tx6 : TYok Try.prog 6 ⟨⟨(.int .u8 0), 1, 1, false, [], none, false, false⟩, .int .u8⟩ := ⟨⟨by kernel_rfl, by kernel_rfl⟩, by kernel_rfl⟩
theorem tx7 : TYok Try.prog 7 ⟨⟨(.agg #[(.int .i64 0), (.int .i64 0), (.bool false), (.int .u8 0)]), 4, 24, true, [(0, 1), (1, 1), (2, 1), (3, 1)], none, false, false⟩, .other⟩ := ⟨⟨by kernel_rfl, by kernel_rfl⟩, by kernel_rfl⟩
theorem tx8 : TYok Try.prog 8 ⟨⟨(.agg #[(.int .i64 0), (.int .i64 0), (.bool false), (.int .u8 0)]), 4, 24, true, [(0, 1), (1, 1), (2, 1), (3, 1)], none, false, false⟩, .other⟩ := ⟨⟨by kernel_rfl, by kernel_rfl⟩, by kernel_rfl⟩
theorem tx9 : TYok Try.prog 9 ⟨⟨(.string ⟨#[]⟩), 1, 16, false, [], none, true, false⟩, .str⟩ := ⟨⟨by kernel_rfl, by kernel_rfl⟩, by kernel_rfl⟩
theorem tx10 : TYok Try.prog 10 ⟨⟨(.string ⟨#[]⟩), 1, 16, false, [], none, true, false⟩, .str⟩ := ⟨⟨by kernel_rfl, by kernel_rfl⟩, by kernel_rfl⟩
theorem tx11 : TYok Try.prog 11 ⟨⟨(.string ⟨#[]⟩), 1, 16, false, [], none, true, false⟩, .str⟩ := ⟨⟨by kernel_rfl, by kernel_rfl⟩, by kernel_rfl⟩
theorem tx12 : TYok Try.prog 12 ⟨⟨(.int .u64 0), 1, 8, false, [], none, false, false⟩, .int .u64⟩ := ⟨⟨by kernel_rfl, by kernel_rfl⟩, by kernel_rfl⟩
theorem tx13 : TYok Try.prog 13 ⟨⟨(.agg #[(.string ⟨#[]⟩), (.int .u64 0)]), 2, 24, true, [(0, 1), (1, 1)], none, false, false⟩, .other⟩ := ⟨⟨by kernel_rfl, by kernel_rfl⟩, by kernel_rfl⟩
theorem tx14 : TYok Try.prog 14 ⟨⟨(.agg #[(.string ⟨#[]⟩), (.int .u64 0)]), 2, 24, true, [(0, 1), (1, 1)], none, false, false⟩, .other⟩ := ⟨⟨by kernel_rfl, by kernel_rfl⟩, by kernel_rfl⟩
theorem tx15 : TYok Try.prog 15 ⟨⟨(.pointer none), 1, 8, false, [], none, false, false⟩, .ptr⟩ := ⟨⟨by kernel_rfl, by kernel_rfl⟩, by kernel_rfl⟩
theorem tx16 : TYok Try.prog 16 ⟨⟨(.pointer none), 1, 8, false, [], none, false, false⟩, .ptr⟩ := ⟨⟨by kernel_rfl, by kernel_rfl⟩, by kernel_rfl⟩
theorem tx17 : TYok Try.prog 17 ⟨⟨(.pointer none), 1, 8, false, [], none, false, false⟩, .ptr⟩ := ⟨⟨by kernel_rfl, by kernel_rfl⟩, by kernel_rfl⟩
theorem tx18 : TYok Try.prog 18 ⟨⟨(.agg #[(.pointer none)]), 1, 8, true, [(0, 1)], none, false, false⟩, .other⟩ := ⟨⟨by kernel_rfl, by kernel_rfl⟩, by kernel_rfl⟩
theorem tx19 : TYok Try.prog 19 ⟨⟨(.agg #[(.pointer none)]), 1, 8, true, [(0, 1)], none, false, false⟩, .other⟩ := ⟨⟨by kernel_rfl, by kernel_rfl⟩, by kernel_rfl⟩
theorem tx20 : TYok Try.prog 20 ⟨⟨.nilIface, 1, 16, false, [], none, false, true⟩, .ifc⟩ := ⟨⟨by kernel_rfl, by kernel_rfl⟩, by kernel_rfl⟩
theorem tx21 : TYok Try.prog 21 ⟨⟨(.int .i32 0), 1, 4, false, [], none, false, false⟩, .int .i32⟩ := ⟨⟨by kernel_rfl, by kernel_rfl⟩, by kernel_rfl⟩
theorem tx22 : TYok Try.prog 22 ⟨⟨(.slice none 0 0), 1, 24, false, [], some 35, false, false⟩, .slice 35⟩ := ⟨⟨by kernel_rfl, by kernel_rfl⟩, by kernel_rfl⟩
theorem tx23 : TYok Try.prog 23 ⟨⟨(.pointer none), 1, 8, false, [], none, false, false⟩, .ptr⟩ := ⟨⟨by kernel_rfl, by kernel_rfl⟩, by kernel_rfl⟩
theorem tx24 : TYok Try.prog 24 ⟨⟨.nilFunc, 1, 8, false, [], none, false, false⟩, .fn⟩ := ⟨⟨by kernel_rfl, by kernel_rfl⟩, by kernel_rfl⟩
theorem tx25 : TYok Try.prog 25 ⟨⟨(.slice none 0 0), 1, 24, false, [], some 30, false, false⟩, .slice 30⟩ := ⟨⟨by kernel_rfl, by kernel_rfl⟩, by kernel_rfl⟩
theorem tx26 : TYok Try.prog 26 ⟨⟨.nilFunc, 1, 8, false, [], none, false, false⟩, .fn⟩ := ⟨⟨by kernel_rfl, by kernel_rfl⟩, by kernel_rfl⟩
theorem tx27 : TYok Try.prog 27 ⟨⟨.nilFunc, 1, 8, false, [], none, false, false⟩, .fn⟩ := ⟨⟨by kernel_rfl, by kernel_rfl⟩, by kernel_rfl⟩
theorem tx28 : TYok Try.prog 28 ⟨⟨.nilFunc, 1, 8, false, [], none, false, false⟩, .fn⟩ := ⟨⟨by kernel_rfl, by kernel_rfl⟩, by kernel_rfl⟩
theorem tx29 : TYok Try.prog 29 ⟨⟨(.agg #[(.int .i64 0), (.string ⟨#[]⟩)]), 2, 24, true, [(0, 1), (1, 1)], none, false, false⟩, .other⟩ := ⟨⟨by kernel_rfl, by kernel_rfl⟩, by kernel_rfl⟩
theorem tx30 : TYok Try.prog 30 ⟨⟨(.agg #[(.int .i64 0), (.string ⟨#[]⟩)]), 2, 24, true, [(0, 1), (1, 1)], none, false, false⟩, .other⟩ := ⟨⟨by kernel_rfl, by kernel_rfl⟩, by kernel_rfl⟩
theorem tx32 : TYok Try.prog 32 ⟨⟨.nilFunc, 1, 8, false, [], none, false, false⟩, .fn⟩ := ⟨⟨by kernel_rfl, by kernel_rfl⟩, by kernel_rfl⟩
theorem tx33 : TYok Try.prog 33 ⟨⟨.nilFunc, 1, 8, false, [], none, false, false⟩, .fn⟩ := ⟨⟨by kernel_rfl, by kernel_rfl⟩, by kernel_rfl⟩
theorem tx34 : TYok Try.prog 34 ⟨⟨.nilFunc, 1, 8, false, [], none, false, false⟩, .fn⟩ := ⟨⟨by kernel_rfl, by kernel_rfl⟩, by kernel_rfl⟩
theorem tx35 : TYok Try.prog 35 ⟨⟨(.agg #[(.int .i64 0), (.string ⟨#[]⟩)]), 2, 24, true, [(0, 1), (1, 1)], none, false, false⟩, .other⟩ := ⟨⟨by kernel_rfl, by kernel_rfl⟩, by kernel_rfl⟩
theorem tx36 : TYok Try.prog 36 ⟨⟨.nilFunc, 1, 8, false, [], none, false, false⟩, .fn⟩ := ⟨⟨by kernel_rfl, by kernel_rfl⟩, by kernel_rfl⟩
theorem tx37 : TYok Try.prog 37 ⟨⟨.nilFunc, 1, 8, false, [], none, false, false⟩, .fn⟩ := ⟨⟨by kernel_rfl, by kernel_rfl⟩, by kernel_rfl⟩
theorem tx38 : TYok Try.prog 38 ⟨⟨.nilFunc, 1, 8, false, [], none, false, false⟩, .fn⟩ := ⟨⟨by kernel_rfl, by kernel_rfl⟩, by kernel_rfl⟩
theorem tx39 : TYok Try.prog 39 ⟨⟨.nilFunc, 1, 8, false, [], none, false, false⟩, .fn⟩ := ⟨⟨by kernel_rfl, by kernel_rfl⟩, by kernel_rfl⟩
theorem tx40 : TYok Try.prog 40 ⟨⟨.nilFunc, 1, 8, false, [], none, false, false⟩, .fn⟩ := ⟨⟨by kernel_rfl, by kernel_rfl⟩, by kernel_rfl⟩
theorem tx41 : TYok Try.prog 41 ⟨⟨.nilFunc, 1, 8, false, [], none, false, false⟩, .fn⟩ := ⟨⟨by kernel_rfl, by kernel_rfl⟩, by kernel_rfl⟩
theorem tx42 : TYok Try.prog 42 ⟨⟨.nilFunc, 1, 8, false, [], none, false, false⟩, .fn⟩ := ⟨⟨by kernel_rfl, by kernel_rfl⟩, by kernel_rfl⟩
theorem tx43 : TYok Try.prog 43 ⟨⟨.nilFunc, 1, 8, false, [], none, false, false⟩, .fn⟩ := ⟨⟨by kernel_rfl, by kernel_rfl⟩, by kernel_rfl⟩
theorem tx44 : TYok Try.prog 44 ⟨⟨(.slice none 0 0), 1, 24, false, [], some 49, false, false⟩, .slice 49⟩ := ⟨⟨by kernel_rfl, by kernel_rfl⟩, by kernel_rfl⟩
theorem tx45 : TYok Try.prog 45 ⟨⟨(.pointer none), 1, 8, false, [], none, false, false⟩, .ptr⟩ := ⟨⟨by kernel_rfl, by kernel_rfl⟩, by kernel_rfl⟩
theorem tx46 : TYok Try.prog 46 ⟨⟨.nilFunc, 1, 8, false, [], none, false, false⟩, .fn⟩ := ⟨⟨by kernel_rfl, by kernel_rfl⟩, by kernel_rfl⟩
theorem tx47 : TYok Try.prog 47 ⟨⟨.nilFunc, 1, 8, false, [], none, false, false⟩, .fn⟩ := ⟨⟨by kernel_rfl, by kernel_rfl⟩, by kernel_rfl⟩
theorem tx48 : TYok Try.prog 48 ⟨⟨(.agg #[(.int .i64 0), (.int .i64 0), (.string ⟨#[]⟩), (.slice none 0 0)]), 4, 56, true, [(0, 1), (1, 1), (2, 1), (3, 1)], none, false, false⟩, .other⟩ := ⟨⟨by kernel_rfl, by kernel_rfl⟩, by kernel_rfl⟩
theorem tx49 : TYok Try.prog 49 ⟨⟨(.agg #[(.int .i64 0), (.int .i64 0), (.string ⟨#[]⟩), (.slice none 0 0)]), 4, 56, true, [(0, 1), (1, 1), (2, 1), (3, 1)], none, false, false⟩, .other⟩ := ⟨⟨by kernel_rfl, by kernel_rfl⟩, by kernel_rfl⟩
theorem tx50 : TYok Try.prog 50 ⟨⟨(.agg #[(.slice none 0 0)]), 1, 24, true, [(0, 1)], none, false, false⟩, .other⟩ := ⟨⟨by kernel_rfl, by kernel_rfl⟩, by kernel_rfl⟩
theorem tx51 : TYok Try.prog 51 ⟨⟨(.agg #[(.slice none 0 0)]), 1, 24, true, [(0, 1)], none, false, false⟩, .other⟩ := ⟨⟨by kernel_rfl, by kernel_rfl⟩, by kernel_rfl⟩
theorem tx52 : TYok Try.prog 52 ⟨⟨.nilFunc, 1, 8, false, [], none, false, false⟩, .fn⟩ := ⟨⟨by kernel_rfl, by kernel_rfl⟩, by kernel_rfl⟩
theorem tx53 : TYok Try.prog 53 ⟨⟨.nilFunc, 1, 8, false, [], none, false, false⟩, .fn⟩ := ⟨⟨by kernel_rfl, by kernel_rfl⟩, by kernel_rfl⟩
theorem tx54 : TYok Try.prog 54 ⟨⟨.nilFunc, 1, 8, false, [], none, false, false⟩, .fn⟩ := ⟨⟨by kernel_rfl, by kernel_rfl⟩, by kernel_rfl⟩
theorem tx55 : TYok Try.prog 55 ⟨⟨.nilFunc, 1, 8, false, [], none, false, false⟩, .fn⟩ := ⟨⟨by kernel_rfl, by kernel_rfl⟩, by kernel_rfl⟩
theorem tx56 : TYok Try.prog 56 ⟨⟨(.map none), 1, 8, false, [], none, false, false⟩, .map⟩ := ⟨⟨by kernel_rfl, by kernel_rfl⟩, by kernel_rfl⟩
theorem tx57 : TYok Try.prog 57 ⟨⟨(.agg #[(.slice none 0 0), (.map none)]), 2, 32, true, [(0, 1), (1, 1)], none, false, false⟩, .other⟩ := ⟨⟨by kernel_rfl, by kernel_rfl⟩, by kernel_rfl⟩
theorem tx58 : TYok Try.prog 58 ⟨⟨(.agg #[(.slice none 0 0), (.map none)]), 2, 32, true, [(0, 1), (1, 1)], none, false, false⟩, .other⟩ := ⟨⟨by kernel_rfl, by kernel_rfl⟩, by kernel_rfl⟩
theorem tx59 : TYok Try.prog 59 ⟨⟨(.agg #[(.slice none 0 0), (.map none)]), 2, 32, true, [(0, 2)], none, false, false⟩, .other⟩ := ⟨⟨by kernel_rfl, by kernel_rfl⟩, by kernel_rfl⟩
theorem tx60 : TYok Try.prog 60 ⟨⟨(.agg #[(.slice none 0 0), (.map none)]), 2, 32, true, [(0, 2)], none, false, false⟩, .other⟩ := ⟨⟨by kernel_rfl, by kernel_rfl⟩, by kernel_rfl⟩
theorem tx61 : TYok Try.prog 61 ⟨⟨.nilFunc, 1, 8, false, [], none, false, false⟩, .fn⟩ := ⟨⟨by kernel_rfl, by kernel_rfl⟩, by kernel_rfl⟩
theorem tx62 : TYok Try.prog 62 ⟨⟨.nilFunc, 1, 8, false, [], none, false, false⟩, .fn⟩ := ⟨⟨by kernel_rfl, by kernel_rfl⟩, by kernel_rfl⟩
theorem tx63 : TYok Try.prog 63 ⟨⟨.nilFunc, 1, 8, false, [], none, false, false⟩, .fn⟩ := ⟨⟨by kernel_rfl, by kernel_rfl⟩, by kernel_rfl⟩
theorem tx64 : TYok Try.prog 64 ⟨⟨.nilFunc, 1, 8, false, [], none, false, false⟩, .fn⟩ := ⟨⟨by kernel_rfl, by kernel_rfl⟩, by kernel_rfl⟩
theorem tx65 : TYok Try.prog 65 ⟨⟨.nilFunc, 1, 8, false, [], none, false, false⟩, .fn⟩ := ⟨⟨by kernel_rfl, by kernel_rfl⟩, by kernel_rfl⟩
theorem tx66 : TYok Try.prog 66 ⟨⟨.nilFunc, 1, 8, false, [], none, false, false⟩, .fn⟩ := ⟨⟨by kernel_rfl, by kernel_rfl⟩, by kernel_rfl⟩
theorem tx67 : TYok Try.prog 67 ⟨⟨(.pointer none), 1, 8, false, [], none, false, false⟩, .ptr⟩ := ⟨⟨by kernel_rfl, by kernel_rfl⟩, by kernel_rfl⟩
theorem tx69 : TYok Try.prog 69 ⟨⟨.nilFunc, 1, 8, false, [], none, false, false⟩, .fn⟩ := ⟨⟨by kernel_rfl, by kernel_rfl⟩, by kernel_rfl⟩
theorem tx70 : TYok Try.prog 70 ⟨⟨.nilFunc, 1, 8, false, [], none, false, false⟩, .fn⟩ := ⟨⟨by kernel_rfl, by kernel_rfl⟩, by kernel_rfl⟩
theorem tx71 : TYok Try.prog 71 ⟨⟨.nilFunc, 1, 8, false, [], none, false, false⟩, .fn⟩ := ⟨⟨by kernel_rfl, by kernel_rfl⟩, by kernel_rfl⟩
theorem tx72 : TYok Try.prog 72 ⟨⟨.nilFunc, 1, 8, false, [], none, false, false⟩, .fn⟩ := ⟨⟨by kernel_rfl, by kernel_rfl⟩, by kernel_rfl⟩
theorem tx73 : TYok Try.prog 73 ⟨⟨.nilFunc, 1, 8, false, [], none, false, false⟩, .fn⟩ := ⟨⟨by kernel_rfl, by kernel_rfl⟩, by kernel_rfl⟩
theorem tx75 : TYok Try.prog 75 ⟨⟨.nilFunc, 1, 8, false, [], none, false, false⟩, .fn⟩ := ⟨⟨by kernel_rfl, by kernel_rfl⟩, by kernel_rfl⟩
theorem tx76 : TYok Try.prog 76 ⟨⟨.nilFunc, 1, 8, false, [], none, false, false⟩, .fn⟩ := ⟨⟨by kernel_rfl, by kernel_rfl⟩, by kernel_rfl⟩
theorem tx77 : TYok Try.prog 77 ⟨⟨.nilFunc, 1, 8, false, [], none, false, false⟩, .fn⟩ := ⟨⟨by kernel_rfl, by kernel_rfl⟩, by kernel_rfl⟩
theorem tx78 : TYok Try.prog 78 ⟨⟨.nilFunc, 1, 8, false, [], none, false, false⟩, .fn⟩ := ⟨⟨by kernel_rfl, by kernel_rfl⟩, by kernel_rfl⟩
theorem tx79 : TYok Try.prog 79 ⟨⟨.nilFunc, 1, 8, false, [], none, false, false⟩, .fn⟩ := ⟨⟨by kernel_rfl, by kernel_rfl⟩, by kernel_rfl⟩
theorem tx80 : TYok Try.prog 80 ⟨⟨.nilFunc, 1, 8, false, [], none, false, false⟩, .fn⟩ := ⟨⟨by kernel_rfl, by kernel_rfl⟩, by kernel_rfl⟩
theorem tx81 : TYok Try.prog 81 ⟨⟨.nilIface, 1, 16, false, [], none, false, true⟩, .ifc⟩ := ⟨⟨by kernel_rfl, by kernel_rfl⟩, by kernel_rfl⟩
theorem tx82 : TYok Try.prog 82 ⟨⟨.nilIface, 1, 16, false, [], none, false, true⟩, .ifc⟩ := ⟨⟨by kernel_rfl, by kernel_rfl⟩, by kernel_rfl⟩
theorem tx83 : TYok Try.prog 83 ⟨⟨.nilFunc, 1, 8, false, [], none, false, false⟩, .fn⟩ := ⟨⟨by kernel_rfl, by kernel_rfl⟩, by kernel_rfl⟩
theorem tx84 : TYok Try.prog 84 ⟨⟨.nilFunc, 1, 8, false, [], none, false, false⟩, .fn⟩ := ⟨⟨by kernel_rfl, by kernel_rfl⟩, by kernel_rfl⟩
theorem tx85 : TYok Try.prog 85 ⟨⟨.nilFunc, 1, 8, false, [], none, false, false⟩, .fn⟩ := ⟨⟨by kernel_rfl, by kernel_rfl⟩, by kernel_rfl⟩
theorem tx86 : TYok Try.prog 86 ⟨⟨.nilFunc, 1, 8, false, [], none, false, false⟩, .fn⟩ := ⟨⟨by kernel_rfl, by kernel_rfl⟩, by kernel_rfl⟩
theorem tx87 : TYok Try.prog 87 ⟨⟨.nilFunc, 1, 8, false, [], none, false, false⟩, .fn⟩ := ⟨⟨by kernel_rfl, by kernel_rfl⟩, by kernel_rfl⟩
theorem tx88 : TYok Try.prog 88 ⟨⟨.nilFunc, 1, 8, false, [], none, false, false⟩, .fn⟩ := ⟨⟨by kernel_rfl, by kernel_rfl⟩, by kernel_rfl⟩
theorem tx89 : TYok Try.prog 89 ⟨⟨.nilFunc, 1, 8, false, [], none, false, false⟩, .fn⟩ := ⟨⟨by kernel_rfl, by kernel_rfl⟩, by kernel_rfl⟩
theorem tx90 : TYok Try.prog 90 ⟨⟨.nilFunc, 1, 8, false, [], none, false, false⟩, .fn⟩ := ⟨⟨by kernel_rfl, by kernel_rfl⟩, by kernel_rfl⟩
theorem tx91 : TYok Try.prog 91 ⟨⟨.nilFunc, 1, 8, false, [], none, false, false⟩, .fn⟩ := ⟨⟨by kernel_rfl, by kernel_rfl⟩, by kernel_rfl⟩
theorem tx92 : TYok Try.prog 92 ⟨⟨(.int .u64 0), 1, 8, false, [], none, false, false⟩, .int .u64⟩ := ⟨⟨by kernel_rfl, by kernel_rfl⟩, by kernel_rfl⟩
theorem tx93 : TYok Try.prog 93 ⟨⟨(.slice none 0 0), 1, 24, false, [], some 3, false, false⟩, .slice 3⟩ := ⟨⟨by kernel_rfl, by kernel_rfl⟩, by kernel_rfl⟩
theorem tx94 : TYok Try.prog 94 ⟨⟨.nilFunc, 1, 8, false, [], none, false, false⟩, .fn⟩ := ⟨⟨by kernel_rfl, by kernel_rfl⟩, by kernel_rfl⟩
theorem tx95 : TYok Try.prog 95 ⟨⟨.nilFunc, 1, 8, false, [], none, false, false⟩, .fn⟩ := ⟨⟨by kernel_rfl, by kernel_rfl⟩, by kernel_rfl⟩
theorem tx96 : TYok Try.prog 96 ⟨⟨.nilFunc, 1, 8, false, [], none, false, false⟩, .fn⟩ := ⟨⟨by kernel_rfl, by kernel_rfl⟩, by kernel_rfl⟩
theorem tx97 : TYok Try.prog 97 ⟨⟨(.int .i64 0), 1, 8, false, [], none, false, false⟩, .int .i64⟩ := ⟨⟨by kernel_rfl, by kernel_rfl⟩, by kernel_rfl⟩
theorem tx99 : TYok Try.prog 99 ⟨⟨.nilFunc, 1, 8, false, [], none, false, false⟩, .fn⟩ := ⟨⟨by kernel_rfl, by kernel_rfl⟩, by kernel_rfl⟩
theorem tx100 : TYok Try.prog 100 ⟨⟨.nilFunc, 1, 8, false, [], none, false, false⟩, .fn⟩ := ⟨⟨by kernel_rfl, by kernel_rfl⟩, by kernel_rfl⟩
theorem tx101 : TYok Try.prog 101 ⟨⟨.nilFunc, 1, 8, false, [], none, false, false⟩, .fn⟩ := ⟨⟨by kernel_rfl, by kernel_rfl⟩, by kernel_rfl⟩
theorem tx102 : TYok Try.prog 102 ⟨⟨.nilFunc, 1, 8, false, [], none, false, false⟩, .fn⟩ := ⟨⟨by kernel_rfl, by kernel_rfl⟩, by kernel_rfl⟩
theorem tx103 : TYok Try.prog 103 ⟨⟨.nilFunc, 1, 8, false, [], none, false, false⟩, .fn⟩ := ⟨⟨by kernel_rfl, by kernel_rfl⟩, by kernel_rfl⟩
theorem tx104 : TYok Try.prog 104 ⟨⟨(.int .u32 0), 1, 4, false, [], none, false, false⟩, .int .u32⟩ := ⟨⟨by kernel_rfl, by kernel_rfl⟩, by kernel_rfl⟩
theorem tx105 : TYok Try.prog 105 ⟨⟨.nilFunc, 1, 8, false, [], none, false, false⟩, .fn⟩ := ⟨⟨by kernel_rfl, by kernel_rfl⟩, by kernel_rfl⟩
theorem tx106 : TYok Try.prog 106 ⟨⟨(.int .u64 0), 1, 8, false, [], none, false, false⟩, .int .u64⟩ := ⟨⟨by kernel_rfl, by kernel_rfl⟩, by kernel_rfl⟩
theorem tx107 : TYok Try.prog 107 ⟨⟨(.int .u64 0), 1, 8, false, [], none, false, false⟩, .int .u64⟩ := ⟨⟨by kernel_rfl, by kernel_rfl⟩, by kernel_rfl⟩
theorem tx108 : TYok Try.prog 108 ⟨⟨.nilFunc, 1, 8, false, [], none, false, false⟩, .fn⟩ := ⟨⟨by kernel_rfl, by kernel_rfl⟩, by kernel_rfl⟩
theorem tx109 : TYok Try.prog 109 ⟨⟨.nilFunc, 1, 8, false, [], none, false, false⟩, .fn⟩ := ⟨⟨by kernel_rfl, by kernel_rfl⟩, by kernel_rfl⟩
theorem tx110 : TYok Try.prog 110 ⟨⟨.nilFunc, 1, 8, false, [], none, false, false⟩, .fn⟩ := ⟨⟨by kernel_rfl, by kernel_rfl⟩, by kernel_rfl⟩
theorem tx111 : TYok Try.prog 111 ⟨⟨(.pointer none), 1, 8, false, [], none, false, false⟩, .ptr⟩ := ⟨⟨by kernel_rfl, by kernel_rfl⟩, by kernel_rfl⟩
theorem tx112 : TYok Try.prog 112 ⟨⟨.nilFunc, 1, 8, false, [], none, false, false⟩, .fn⟩ := ⟨⟨by kernel_rfl, by kernel_rfl⟩, by kernel_rfl⟩
theorem tx113 : TYok Try.prog 113 ⟨⟨(.pointer none), 1, 8, false, [], none, false, false⟩, .ptr⟩ := ⟨⟨by kernel_rfl, by kernel_rfl⟩, by kernel_rfl⟩
theorem tx115 : TYok Try.prog 115 ⟨⟨.nilFunc, 1, 8, false, [], none, false, false⟩, .fn⟩ := ⟨⟨by kernel_rfl, by kernel_rfl⟩, by kernel_rfl⟩
theorem tx116 : TYok Try.prog 116 ⟨⟨.nilFunc, 1, 8, false, [], none, false, false⟩, .fn⟩ := ⟨⟨by kernel_rfl, by kernel_rfl⟩, by kernel_rfl⟩
theorem tx117 : TYok Try.prog 117 ⟨⟨(.agg #[(.pointer none), (.pointer none), (.pointer none), (.string ⟨#[]⟩)]), 4, 40, true, [(0, 1), (1, 1), (2, 1), (3, 1)], none, false, false⟩, .other⟩ := ⟨⟨by kernel_rfl, by kernel_rfl⟩, by kernel_rfl⟩
theorem tx118 : TYok Try.prog 118 ⟨⟨(.agg #[(.pointer none), (.pointer none), (.pointer none), (.string ⟨#[]⟩)]), 4, 40, true, [(0, 1), (1, 1), (2, 1), (3, 1)], none, false, false⟩, .other⟩ := ⟨⟨by kernel_rfl, by kernel_rfl⟩, by kernel_rfl⟩
theorem tx122 : TYok Try.prog 122 ⟨⟨(.int .u8 0), 1, 1, false, [], none, false, false⟩, .int .u8⟩ := ⟨⟨by kernel_rfl, by kernel_rfl⟩, by kernel_rfl⟩
theorem tx123 : TYok Try.prog 123 ⟨⟨(.int .u8 0), 1, 1, false, [], none, false, false⟩, .int .u8⟩ := ⟨⟨by kernel_rfl, by kernel_rfl⟩, by kernel_rfl⟩
theorem tx124 : TYok Try.prog 124 ⟨⟨.nilFunc, 1, 8, false, [], none, false, false⟩, .fn⟩ := ⟨⟨by kernel_rfl, by kernel_rfl⟩, by kernel_rfl⟩
theorem tx125 : TYok Try.prog 125 ⟨⟨(.pointer none), 1, 8, false, [], none, false, false⟩, .ptr⟩ := ⟨⟨by kernel_rfl, by kernel_rfl⟩, by kernel_rfl⟩
theorem tx126 : TYok Try.prog 126 ⟨⟨(.int .i32 0), 1, 4, false, [], none, false, false⟩, .int .i32⟩ := ⟨⟨by kernel_rfl, by kernel_rfl⟩, by kernel_rfl⟩
theorem tx127 : TYok Try.prog 127 ⟨⟨(.int .i32 0), 1, 4, false, [], none, false, false⟩, .int .i32⟩ := ⟨⟨by kernel_rfl, by kernel_rfl⟩, by kernel_rfl⟩
theorem tx128 : TYok Try.prog 128 ⟨⟨(.agg #[(.int .u64 0), (.int .u64 0), (.int .u32 0), (.int .u8 0), (.int .u8 0), (.int .u8 0), (.int .u8 0), .nilFunc, (.pointer none), (.int .i32 0), (.int .i32 0)]), 11, 48, true, [(0, 1), (1, 1), (2, 1), (3, 1), (4, 1), (5, 1), (6, 1), (7, 1), (8, 1), (9, 1), (10, 1)], none, false, false⟩, .other⟩ := ⟨⟨by kernel_rfl, by kernel_rfl⟩, by kernel_rfl⟩
theorem tx129 : TYok Try.prog 129 ⟨⟨(.agg #[(.int .u64 0), (.int .u64 0), (.int .u32 0), (.int .u8 0), (.int .u8 0), (.int .u8 0), (.int .u8 0), .nilFunc, (.pointer none), (.int .i32 0), (.int .i32 0)]), 11, 48, true, [(0, 1), (1, 1), (2, 1), (3, 1), (4, 1), (5, 1), (6, 1), (7, 1), (8, 1), (9, 1), (10, 1)], none, false, false⟩, .other⟩ := ⟨⟨by kernel_rfl, by kernel_rfl⟩, by kernel_rfl⟩
theorem tx130 : TYok Try.prog 130 ⟨⟨.nilFunc, 1, 8, false, [], none, false, false⟩, .fn⟩ := ⟨⟨by kernel_rfl, by kernel_rfl⟩, by kernel_rfl⟩
theorem txok : Tys Try.prog tx := (Tys_cons tx1 (Tys_cons tx2 (Tys_cons tx3 (Tys_cons tx4 (Tys_cons tx5 (Tys_cons tx6 (Tys_cons tx7 (Tys_cons tx8 (Tys_cons tx9 (Tys_cons tx10 (Tys_cons tx11 (Tys_cons tx12 (Tys_cons tx13 (Tys_cons tx14 (Tys_cons tx15 (Tys_cons tx16 (Tys_cons tx17 (Tys_cons tx18 (Tys_cons tx19 (Tys_cons tx20 (Tys_cons tx21 (Tys_cons tx22 (Tys_cons tx23 (Tys_cons tx24 (Tys_cons tx25 (Tys_cons tx26 (Tys_cons tx27 (Tys_cons tx28 (Tys_cons tx29 (Tys_cons tx30 (Tys_cons tx32 (Tys_cons tx33 (Tys_cons tx34 (Tys_cons tx35 (Tys_cons tx36 (Tys_cons tx37 (Tys_cons tx38 (Tys_cons tx39 (Tys_cons tx40 (Tys_cons tx41 (Tys_cons tx42 (Tys_cons tx43 (Tys_cons tx44 (Tys_cons tx45 (Tys_cons tx46 (Tys_cons tx47 (Tys_cons tx48 (Tys_cons tx49 (Tys_cons tx50 (Tys_cons tx51 (Tys_cons tx52 (Tys_cons tx53 (Tys_cons tx54 (Tys_cons tx55 (Tys_cons tx56 (Tys_cons tx57 (Tys_cons tx58 (Tys_cons tx59 (Tys_cons tx60 (Tys_cons tx61 (Tys_cons tx62 (Tys_cons tx63 (Tys_cons tx64 (Tys_cons tx65 (Tys_cons tx66 (Tys_cons tx67 (Tys_cons tx69 (Tys_cons tx70 (Tys_cons tx71 (Tys_cons tx72 (Tys_cons tx73 (Tys_cons tx75 (Tys_cons tx76 (Tys_cons tx77 (Tys_cons tx78 (Tys_cons tx79 (Tys_cons tx80 (Tys_cons tx81 (Tys_cons tx82 (Tys_cons tx83 (Tys_cons tx84 (Tys_cons tx85 (Tys_cons tx86 (Tys_cons tx87 (Tys_cons tx88 (Tys_cons tx89 (Tys_cons tx90 (Tys_cons tx91 (Tys_cons tx92 (Tys_cons tx93 (Tys_cons tx94 (Tys_cons tx95 (Tys_cons tx96 (Tys_cons tx97 (Tys_cons tx99 (Tys_cons tx100 (Tys_cons tx101 (Tys_cons tx102 (Tys_cons tx103 (Tys_cons tx104 (Tys_cons tx105 (Tys_cons tx106 (Tys_cons tx107 (Tys_cons tx108 (Tys_cons tx109 (Tys_cons tx110 (Tys_cons tx111 (Tys_cons tx112 (Tys_cons tx113 (Tys_cons tx115 (Tys_cons tx116 (Tys_cons tx117 (Tys_cons tx118 (Tys_cons tx122 (Tys_cons tx123 (Tys_cons tx124 (Tys_cons tx125 (Tys_cons tx126 (Tys_cons tx127 (Tys_cons tx128 (Tys_cons tx129 (Tys_cons tx130 Tys_nil))))))))))))))))))))))))))))))))))))))))))))))))))))))))))))))))))))))))))))))))))))))))))))))))))))))))))))))))))))))))))
theorem mixed : Try.prog.follows .mixedOrders = true := by kernel_rfl
theorem gf2 : Goes Try.prog 2 := goes_of Try.func2 rfl rfl
theorem gf3 : Goes Try.prog 3 := goes_of Try.func3 rfl rfl
theorem gf4 : Goes Try.prog 4 := goes_of Try.func4 rfl rfl
theorem gf5 : Goes Try.prog 5 := goes_of Try.func5 rfl rfl
theorem gf6 : Goes Try.prog 6 := goes_of Try.func6 rfl rfl
theorem gf7 : Goes Try.prog 7 := goes_of Try.func7 rfl rfl
theorem gf8 : Goes Try.prog 8 := goes_of Try.func8 rfl rfl
theorem gf9 : Goes Try.prog 9 := goes_of Try.func9 rfl rfl
theorem gf10 : Goes Try.prog 10 := goes_of Try.func10 rfl rfl
theorem gf11 : Goes Try.prog 11 := goes_of Try.func11 rfl rfl
theorem gf12 : Goes Try.prog 12 := goes_of Try.func12 rfl rfl
theorem gf13 : Goes Try.prog 13 := goes_of Try.func13 rfl rfl
theorem gf14 : Goes Try.prog 14 := goes_of Try.func14 rfl rfl
theorem gf15 : Goes Try.prog 15 := goes_of Try.func15 rfl rfl
theorem gf16 : Goes Try.prog 16 := goes_of Try.func16 rfl rfl
theorem gf17 : Goes Try.prog 17 := goes_of Try.func17 rfl rfl
theorem gf18 : Goes Try.prog 18 := goes_of Try.func18 rfl rfl
theorem gf19 : Goes Try.prog 19 := goes_of Try.func19 rfl rfl
theorem gf20 : Goes Try.prog 20 := goes_of Try.func20 rfl rfl
theorem gf21 : Goes Try.prog 21 := goes_of Try.func21 rfl rfl
theorem gf22 : Goes Try.prog 22 := goes_of Try.func22 rfl rfl
theorem gf23 : Goes Try.prog 23 := goes_of Try.func23 rfl rfl
theorem gf24 : Goes Try.prog 24 := goes_of Try.func24 rfl rfl
theorem gf25 : Goes Try.prog 25 := goes_of Try.func25 rfl rfl
theorem gf26 : Goes Try.prog 26 := goes_of Try.func26 rfl rfl
theorem gf27 : Goes Try.prog 27 := goes_of Try.func27 rfl rfl
theorem gf28 : Goes Try.prog 28 := goes_of Try.func28 rfl rfl
theorem gf29 : Goes Try.prog 29 := goes_of Try.func29 rfl rfl
theorem gf30 : Goes Try.prog 30 := goes_of Try.func30 rfl rfl
theorem gf31 : Goes Try.prog 31 := goes_of Try.func31 rfl rfl
theorem gf32 : Goes Try.prog 32 := goes_of Try.func32 rfl rfl
theorem gf33 : Goes Try.prog 33 := goes_of Try.func33 rfl rfl
theorem gf34 : Goes Try.prog 34 := goes_of Try.func34 rfl rfl
theorem gf35 : Goes Try.prog 35 := goes_of Try.func35 rfl rfl
theorem gf36 : Goes Try.prog 36 := goes_of Try.func36 rfl rfl
theorem gf37 : Goes Try.prog 37 := goes_of Try.func37 rfl rfl
theorem gf38 : Goes Try.prog 38 := goes_of Try.func38 rfl rfl
theorem gf39 : Goes Try.prog 39 := goes_of Try.func39 rfl rfl
theorem gf40 : Goes Try.prog 40 := goes_of Try.func40 rfl rfl
theorem gf41 : Goes Try.prog 41 := goes_of Try.func41 rfl rfl
theorem gf42 : Goes Try.prog 42 := goes_of Try.func42 rfl rfl
theorem gf43 : Goes Try.prog 43 := goes_of Try.func43 rfl rfl
theorem gf44 : Goes Try.prog 44 := goes_of Try.func44 rfl rfl
theorem gf45 : Goes Try.prog 45 := goes_of Try.func45 rfl rfl
theorem gf46 : Goes Try.prog 46 := goes_of Try.func46 rfl rfl
theorem gf47 : Goes Try.prog 47 := goes_of Try.func47 rfl rfl
theorem gf48 : Goes Try.prog 48 := goes_of Try.func48 rfl rfl
theorem gf49 : Goes Try.prog 49 := goes_of Try.func49 rfl rfl
theorem gf50 : Goes Try.prog 50 := goes_of Try.func50 rfl rfl
theorem gf51 : Goes Try.prog 51 := goes_of Try.func51 rfl rfl
theorem gf52 : Goes Try.prog 52 := goes_of Try.func52 rfl rfl
theorem gf53 : Goes Try.prog 53 := goes_of Try.func53 rfl rfl
theorem gf54 : Goes Try.prog 54 := goes_of Try.func54 rfl rfl
theorem gf55 : Goes Try.prog 55 := goes_of Try.func55 rfl rfl
theorem gf56 : Goes Try.prog 56 := goes_of Try.func56 rfl rfl
theorem gf57 : Goes Try.prog 57 := goes_of Try.func57 rfl rfl
theorem gf58 : Goes Try.prog 58 := goes_of Try.func58 rfl rfl
theorem gf59 : Goes Try.prog 59 := goes_of Try.func59 rfl rfl
theorem gf60 : Goes Try.prog 60 := goes_of Try.func60 rfl rfl
theorem gf61 : Goes Try.prog 61 := goes_of Try.func61 rfl rfl
theorem gf62 : Goes Try.prog 62 := goes_of Try.func62 rfl rfl
theorem gf63 : Goes Try.prog 63 := goes_of Try.func63 rfl rfl
theorem gf64 : Goes Try.prog 64 := goes_of Try.func64 rfl rfl
theorem gf65 : Goes Try.prog 65 := goes_of Try.func65 rfl rfl
theorem gf66 : Goes Try.prog 66 := goes_of Try.func66 rfl rfl
theorem gf67 : Goes Try.prog 67 := goes_of Try.func67 rfl rfl
theorem gf68 : Goes Try.prog 68 := goes_of Try.func68 rfl rfl
theorem gf69 : Goes Try.prog 69 := goes_of Try.func69 rfl rfl
theorem gf70 : Goes Try.prog 70 := goes_of Try.func70 rfl rfl
theorem gf71 : Goes Try.prog 71 := goes_of Try.func71 rfl rfl
theorem gf72 : Goes Try.prog 72 := goes_of Try.func72 rfl rfl
theorem gf73 : Goes Try.prog 73 := goes_of Try.func73 rfl rfl
theorem gf74 : Goes Try.prog 74 := goes_of Try.func74 rfl rfl
theorem gf91 : Goes Try.prog 91 := goes_of Try.func91 rfl rfl
theorem gf92 : Goes Try.prog 92 := goes_of Try.func92 rfl rfl
theorem gf93 : Goes Try.prog 93 := goes_of Try.func93 rfl rfl
theorem gf94 : Goes Try.prog 94 := goes_of Try.func94 rfl rfl
theorem gf95 : Goes Try.prog 95 := goes_of Try.func95 rfl rfl
end Go.Proofs.Ytohhchcjfebkhaa
