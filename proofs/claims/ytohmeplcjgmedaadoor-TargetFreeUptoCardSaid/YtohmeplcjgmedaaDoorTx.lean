/- What is told of this seat's types: printed by a program of mine, each entry checked by the kernel. -/
import Derived.Test.YtohmeplcjgmedaaDoorProg
import Derived.Test.YtohmeplcjgmedaaDoorVxall
import Derived.KernelRfl
namespace Go.Proofs.YtohmeplcjgmedaaDoor
open Go.Vx Go.Vc
def tx : List (Nat × TY) := [(1, ⟨⟨.nilFunc, 1, 8, false, [], none, false, false⟩, .fn⟩),
  (2, ⟨⟨(.int .i64 0), 1, 8, false, [], none, false, false⟩, .int .i64⟩),
  (3, ⟨⟨(.int .i64 0), 1, 8, false, [], none, false, false⟩, .int .i64⟩),
  (4, ⟨⟨(.bool false), 1, 1, false, [], none, false, false⟩, .bool⟩),
  (5, ⟨⟨(.int .u8 0), 1, 1, false, [], none, false, false⟩, .int .u8⟩),
  (6, ⟨⟨(.int .u8 0), 1, 1, false, [], none, false, false⟩, .int .u8⟩),
  (7, ⟨⟨(.agg #[(.int .i64 0), (.int .i64 0), (.bool false), (.int .u8 0)]), 4, 24, true, [(0, 1), (1, 1), (2, 1), (3, 1)], none, false, false⟩, .other⟩),
  (8, ⟨⟨(.agg #[(.int .i64 0), (.int .i64 0), (.bool false), (.int .u8 0)]), 4, 24, true, [(0, 1), (1, 1), (2, 1), (3, 1)], none, false, false⟩, .other⟩),
  (9, ⟨⟨(.string ⟨#[]⟩), 1, 16, false, [], none, true, false⟩, .str⟩),
  (10, ⟨⟨(.string ⟨#[]⟩), 1, 16, false, [], none, true, false⟩, .str⟩),
  (11, ⟨⟨(.string ⟨#[]⟩), 1, 16, false, [], none, true, false⟩, .str⟩),
  (12, ⟨⟨(.int .u64 0), 1, 8, false, [], none, false, false⟩, .int .u64⟩),
  (13, ⟨⟨(.agg #[(.string ⟨#[]⟩), (.int .u64 0)]), 2, 24, true, [(0, 1), (1, 1)], none, false, false⟩, .other⟩),
  (14, ⟨⟨(.agg #[(.string ⟨#[]⟩), (.int .u64 0)]), 2, 24, true, [(0, 1), (1, 1)], none, false, false⟩, .other⟩),
  (15, ⟨⟨(.pointer none), 1, 8, false, [], none, false, false⟩, .ptr⟩),
  (16, ⟨⟨(.pointer none), 1, 8, false, [], none, false, false⟩, .ptr⟩),
  (17, ⟨⟨(.pointer none), 1, 8, false, [], none, false, false⟩, .ptr⟩),
  (18, ⟨⟨(.agg #[(.pointer none)]), 1, 8, true, [(0, 1)], none, false, false⟩, .other⟩),
  (19, ⟨⟨(.agg #[(.pointer none)]), 1, 8, true, [(0, 1)], none, false, false⟩, .other⟩),
  (20, ⟨⟨.nilIface, 1, 16, false, [], none, false, true⟩, .ifc⟩),
  (21, ⟨⟨(.int .i32 0), 1, 4, false, [], none, false, false⟩, .int .i32⟩),
  (22, ⟨⟨(.slice none 0 0), 1, 24, false, [], some 9, false, false⟩, .slice 9⟩),
  (23, ⟨⟨(.slice none 0 0), 1, 24, false, [], some 25, false, false⟩, .slice 25⟩),
  (24, ⟨⟨(.agg #[(.int .i64 0), (.int .i64 0), (.slice none 0 0), (.slice none 0 0)]), 4, 64, true, [(0, 1), (1, 1), (2, 1), (3, 1)], none, false, false⟩, .other⟩),
  (25, ⟨⟨(.agg #[(.int .i64 0), (.int .i64 0), (.slice none 0 0), (.slice none 0 0)]), 4, 64, true, [(0, 1), (1, 1), (2, 1), (3, 1)], none, false, false⟩, .other⟩),
  (26, ⟨⟨(.int .i64 0), 1, 8, false, [], none, false, false⟩, .int .i64⟩),
  (27, ⟨⟨.nilFunc, 1, 8, false, [], none, false, false⟩, .fn⟩),
  (28, ⟨⟨.nilFunc, 1, 8, false, [], none, false, false⟩, .fn⟩),
  (29, ⟨⟨(.slice none 0 0), 1, 24, false, [], some 3, false, false⟩, .slice 3⟩),
  (30, ⟨⟨.nilFunc, 1, 8, false, [], none, false, false⟩, .fn⟩),
  (31, ⟨⟨.nilFunc, 1, 8, false, [], none, false, false⟩, .fn⟩),
  (32, ⟨⟨.nilFunc, 1, 8, false, [], none, false, false⟩, .fn⟩),
  (33, ⟨⟨.nilFunc, 1, 8, false, [], none, false, false⟩, .fn⟩),
  (34, ⟨⟨.nilFunc, 1, 8, false, [], none, false, false⟩, .fn⟩),
  (35, ⟨⟨.nilFunc, 1, 8, false, [], none, false, false⟩, .fn⟩),
  (36, ⟨⟨.nilFunc, 1, 8, false, [], none, false, false⟩, .fn⟩),
  (37, ⟨⟨.nilFunc, 1, 8, false, [], none, false, false⟩, .fn⟩),
  (38, ⟨⟨.nilFunc, 1, 8, false, [], none, false, false⟩, .fn⟩),
  (39, ⟨⟨.nilFunc, 1, 8, false, [], none, false, false⟩, .fn⟩),
  (40, ⟨⟨.nilFunc, 1, 8, false, [], none, false, false⟩, .fn⟩),
  (41, ⟨⟨.nilFunc, 1, 8, false, [], none, false, false⟩, .fn⟩),
  (42, ⟨⟨.nilFunc, 1, 8, false, [], none, false, false⟩, .fn⟩),
  (43, ⟨⟨.nilFunc, 1, 8, false, [], none, false, false⟩, .fn⟩),
  (44, ⟨⟨(.pointer none), 1, 8, false, [], none, false, false⟩, .ptr⟩),
  (45, ⟨⟨(.agg #[(.slice none 0 0), (.slice none 0 0)]), 2, 48, true, [(0, 1), (1, 1)], none, false, false⟩, .other⟩),
  (46, ⟨⟨(.agg #[(.slice none 0 0), (.slice none 0 0)]), 2, 48, true, [(0, 1), (1, 1)], none, false, false⟩, .other⟩),
  (47, ⟨⟨.nilFunc, 1, 8, false, [], none, false, false⟩, .fn⟩),
  (48, ⟨⟨.nilFunc, 1, 8, false, [], none, false, false⟩, .fn⟩),
  (49, ⟨⟨.nilFunc, 1, 8, false, [], none, false, false⟩, .fn⟩),
  (50, ⟨⟨.nilFunc, 1, 8, false, [], none, false, false⟩, .fn⟩),
  (51, ⟨⟨.nilFunc, 1, 8, false, [], none, false, false⟩, .fn⟩),
  (52, ⟨⟨.nilFunc, 1, 8, false, [], none, false, false⟩, .fn⟩),
  (53, ⟨⟨.nilFunc, 1, 8, false, [], none, false, false⟩, .fn⟩),
  (54, ⟨⟨.nilFunc, 1, 8, false, [], none, false, false⟩, .fn⟩),
  (55, ⟨⟨.nilFunc, 1, 8, false, [], none, false, false⟩, .fn⟩),
  (56, ⟨⟨(.pointer none), 1, 8, false, [], none, false, false⟩, .ptr⟩),
  (57, ⟨⟨(.pointer none), 1, 8, false, [], none, false, false⟩, .ptr⟩),
  (58, ⟨⟨(.slice none 0 0), 1, 24, false, [], some 5, false, false⟩, .slice 5⟩),
  (59, ⟨⟨(.agg #[(.pointer none), (.slice none 0 0)]), 2, 32, true, [(0, 1), (1, 1)], none, false, false⟩, .other⟩),
  (60, ⟨⟨(.agg #[(.pointer none), (.slice none 0 0)]), 2, 32, true, [(0, 1), (1, 1)], none, false, false⟩, .other⟩),
  (61, ⟨⟨(.agg #[(.pointer none), (.slice none 0 0)]), 2, 32, true, [(0, 2)], none, false, false⟩, .other⟩),
  (62, ⟨⟨(.agg #[(.pointer none), (.slice none 0 0)]), 2, 32, true, [(0, 2)], none, false, false⟩, .other⟩),
  (63, ⟨⟨.nilFunc, 1, 8, false, [], none, false, false⟩, .fn⟩),
  (64, ⟨⟨.nilFunc, 1, 8, false, [], none, false, false⟩, .fn⟩),
  (65, ⟨⟨.nilFunc, 1, 8, false, [], none, false, false⟩, .fn⟩),
  (66, ⟨⟨.nilFunc, 1, 8, false, [], none, false, false⟩, .fn⟩),
  (67, ⟨⟨.nilFunc, 1, 8, false, [], none, false, false⟩, .fn⟩),
  (68, ⟨⟨(.int .u64 0), 1, 8, false, [], none, false, false⟩, .int .u64⟩),
  (69, ⟨⟨.nilFunc, 1, 8, false, [], none, false, false⟩, .fn⟩),
  (70, ⟨⟨.nilFunc, 1, 8, false, [], none, false, false⟩, .fn⟩),
  (71, ⟨⟨.nilFunc, 1, 8, false, [], none, false, false⟩, .fn⟩),
  (72, ⟨⟨.nilFunc, 1, 8, false, [], none, false, false⟩, .fn⟩),
  (73, ⟨⟨.nilIface, 1, 16, false, [], none, false, true⟩, .ifc⟩),
  (74, ⟨⟨.nilIface, 1, 16, false, [], none, false, true⟩, .ifc⟩),
  (75, ⟨⟨.nilFunc, 1, 8, false, [], none, false, false⟩, .fn⟩),
  (77, ⟨⟨.nilFunc, 1, 8, false, [], none, false, false⟩, .fn⟩),
  (78, ⟨⟨(.agg #[(.string ⟨#[]⟩), (.string ⟨#[]⟩), (.string ⟨#[]⟩), (.string ⟨#[]⟩)]), 4, 64, true, [], none, false, false⟩, .other⟩),
  (79, ⟨⟨.nilFunc, 1, 8, false, [], none, false, false⟩, .fn⟩),
  (80, ⟨⟨(.agg #[(.string ⟨#[]⟩), (.string ⟨#[]⟩), (.string ⟨#[]⟩)]), 3, 48, true, [], none, false, false⟩, .other⟩),
  (81, ⟨⟨.nilFunc, 1, 8, false, [], none, false, false⟩, .fn⟩),
  (82, ⟨⟨(.pointer none), 1, 8, false, [], none, false, false⟩, .ptr⟩),
  (83, ⟨⟨.nilFunc, 1, 8, false, [], none, false, false⟩, .fn⟩),
  (84, ⟨⟨.nilFunc, 1, 8, false, [], none, false, false⟩, .fn⟩),
  (85, ⟨⟨.nilFunc, 1, 8, false, [], none, false, false⟩, .fn⟩),
  (86, ⟨⟨.nilFunc, 1, 8, false, [], none, false, false⟩, .fn⟩),
  (87, ⟨⟨.nilFunc, 1, 8, false, [], none, false, false⟩, .fn⟩),
  (88, ⟨⟨(.int .i64 0), 1, 8, false, [], none, false, false⟩, .int .i64⟩),
  (90, ⟨⟨.nilFunc, 1, 8, false, [], none, false, false⟩, .fn⟩),
  (91, ⟨⟨.nilFunc, 1, 8, false, [], none, false, false⟩, .fn⟩),
  (92, ⟨⟨.nilFunc, 1, 8, false, [], none, false, false⟩, .fn⟩),
  (93, ⟨⟨.nilFunc, 1, 8, false, [], none, false, false⟩, .fn⟩),
  (95, ⟨⟨.nilFunc, 1, 8, false, [], none, false, false⟩, .fn⟩),
  (96, ⟨⟨.nilFunc, 1, 8, false, [], none, false, false⟩, .fn⟩),
  (97, ⟨⟨(.int .u32 0), 1, 4, false, [], none, false, false⟩, .int .u32⟩),
  (98, ⟨⟨.nilFunc, 1, 8, false, [], none, false, false⟩, .fn⟩),
  (99, ⟨⟨(.int .u64 0), 1, 8, false, [], none, false, false⟩, .int .u64⟩),
  (100, ⟨⟨.nilFunc, 1, 8, false, [], none, false, false⟩, .fn⟩),
  (101, ⟨⟨.nilFunc, 1, 8, false, [], none, false, false⟩, .fn⟩),
  (102, ⟨⟨(.int .u64 0), 1, 8, false, [], none, false, false⟩, .int .u64⟩),
  (103, ⟨⟨.nilFunc, 1, 8, false, [], none, false, false⟩, .fn⟩),
  (104, ⟨⟨.nilFunc, 1, 8, false, [], none, false, false⟩, .fn⟩),
  (105, ⟨⟨.nilFunc, 1, 8, false, [], none, false, false⟩, .fn⟩),
  (106, ⟨⟨(.pointer none), 1, 8, false, [], none, false, false⟩, .ptr⟩),
  (107, ⟨⟨.nilFunc, 1, 8, false, [], none, false, false⟩, .fn⟩),
  (108, ⟨⟨(.slice none 0 0), 1, 24, false, [], some 29, false, false⟩, .slice 29⟩),
  (109, ⟨⟨.nilFunc, 1, 8, false, [], none, false, false⟩, .fn⟩),
  (110, ⟨⟨.nilFunc, 1, 8, false, [], none, false, false⟩, .fn⟩),
  (112, ⟨⟨.nilFunc, 1, 8, false, [], none, false, false⟩, .fn⟩),
  (113, ⟨⟨.nilFunc, 1, 8, false, [], none, false, false⟩, .fn⟩),
  (114, ⟨⟨(.pointer none), 1, 8, false, [], none, false, false⟩, .ptr⟩),
  (116, ⟨⟨.nilFunc, 1, 8, false, [], none, false, false⟩, .fn⟩),
  (117, ⟨⟨.nilFunc, 1, 8, false, [], none, false, false⟩, .fn⟩),
  (118, ⟨⟨(.agg #[(.int .u8 0), (.int .u8 0), (.int .u8 0), (.int .u8 0), (.int .u8 0), (.int .u8 0), (.int .u8 0), (.int .u8 0), (.int .u8 0), (.int .u8 0), (.int .u8 0), (.int .u8 0), (.int .u8 0), (.int .u8 0), (.int .u8 0), (.int .u8 0), (.int .u8 0), (.int .u8 0), (.int .u8 0), (.int .u8 0), (.int .u8 0), (.int .u8 0), (.int .u8 0), (.int .u8 0)]), 24, 24, true, [], none, false, false⟩, .other⟩),
  (119, ⟨⟨.nilFunc, 1, 8, false, [], none, false, false⟩, .fn⟩),
  (121, ⟨⟨.nilFunc, 1, 8, false, [], none, false, false⟩, .fn⟩),
  (122, ⟨⟨.nilFunc, 1, 8, false, [], none, false, false⟩, .fn⟩),
  (123, ⟨⟨(.agg #[(.int .u64 0), (.int .u64 0), (.int .u64 0), (.int .u64 0), (.int .u64 0), (.int .u64 0), (.int .u64 0), (.int .u64 0), (.int .u64 0), (.int .u64 0), (.int .u64 0), (.int .u64 0), (.int .u64 0), (.int .u64 0), (.int .u64 0), (.int .u64 0), (.int .u64 0), (.int .u64 0), (.int .u64 0), (.int .u64 0)]), 20, 160, true, [], none, false, false⟩, .other⟩),
  (124, ⟨⟨(.agg #[(.int .u8 0), (.int .u8 0), (.int .u8 0), (.int .u8 0), (.int .u8 0), (.int .u8 0), (.int .u8 0), (.int .u8 0), (.int .u8 0), (.int .u8 0), (.int .u8 0), (.int .u8 0), (.int .u8 0), (.int .u8 0), (.int .u8 0), (.int .u8 0), (.int .u8 0), (.int .u8 0), (.int .u8 0), (.int .u8 0), (.int .u8 0), (.int .u8 0), (.int .u8 0), (.int .u8 0), (.int .u8 0), (.int .u8 0), (.int .u8 0), (.int .u8 0), (.int .u8 0), (.int .u8 0), (.int .u8 0), (.int .u8 0), (.int .u8 0), (.int .u8 0), (.int .u8 0), (.int .u8 0), (.int .u8 0), (.int .u8 0), (.int .u8 0), (.int .u8 0), (.int .u8 0), (.int .u8 0), (.int .u8 0), (.int .u8 0), (.int .u8 0), (.int .u8 0), (.int .u8 0), (.int .u8 0), (.int .u8 0), (.int .u8 0), (.int .u8 0), (.int .u8 0), (.int .u8 0), (.int .u8 0), (.int .u8 0), (.int .u8 0), (.int .u8 0), (.int .u8 0), (.int .u8 0), (.int .u8 0), (.int .u8 0), (.int .u8 0), (.int .u8 0), (.int .u8 0), (.int .u8 0)]), 65, 65, true, [], none, false, false⟩, .other⟩),
  (125, ⟨⟨(.agg #[(.int .u8 0), (.int .u8 0), (.int .u8 0), (.int .u8 0), (.int .u8 0), (.int .u8 0), (.int .u8 0), (.int .u8 0), (.int .u8 0), (.int .u8 0), (.int .u8 0), (.int .u8 0), (.int .u8 0), (.int .u8 0), (.int .u8 0), (.int .u8 0), (.int .u8 0), (.int .u8 0), (.int .u8 0), (.int .u8 0), (.int .u8 0), (.int .u8 0), (.int .u8 0), (.int .u8 0), (.int .u8 0), (.int .u8 0), (.int .u8 0), (.int .u8 0), (.int .u8 0), (.int .u8 0), (.int .u8 0), (.int .u8 0)]), 32, 32, true, [], none, false, false⟩, .other⟩),
  (126, ⟨⟨(.agg #[(.int .u8 0), (.int .u8 0), (.int .u8 0), (.int .u8 0), (.int .u8 0), (.int .u8 0), (.int .u8 0), (.int .u8 0), (.int .u8 0), (.int .u8 0), (.int .u8 0), (.int .u8 0), (.int .u8 0), (.int .u8 0), (.int .u8 0), (.int .u8 0), (.int .u8 0), (.int .u8 0), (.int .u8 0), (.int .u8 0), (.int .u8 0), (.int .u8 0), (.int .u8 0), (.int .u8 0), (.int .u8 0), (.int .u8 0), (.int .u8 0), (.int .u8 0), (.int .u8 0), (.int .u8 0), (.int .u8 0), (.int .u8 0), (.int .u8 0), (.int .u8 0), (.int .u8 0), (.int .u8 0), (.int .u8 0), (.int .u8 0), (.int .u8 0), (.int .u8 0), (.int .u8 0), (.int .u8 0), (.int .u8 0), (.int .u8 0), (.int .u8 0), (.int .u8 0), (.int .u8 0), (.int .u8 0), (.int .u8 0), (.int .u8 0), (.int .u8 0), (.int .u8 0), (.int .u8 0), (.int .u8 0), (.int .u8 0), (.int .u8 0), (.int .u8 0), (.int .u8 0), (.int .u8 0), (.int .u8 0), (.int .u8 0), (.int .u8 0), (.int .u8 0), (.int .u8 0)]), 64, 64, true, [], none, false, false⟩, .other⟩),
  (127, ⟨⟨(.agg #[(.pointer none), (.pointer none), (.pointer none), (.string ⟨#[]⟩)]), 4, 40, true, [(0, 1), (1, 1), (2, 1), (3, 1)], none, false, false⟩, .other⟩),
  (128, ⟨⟨(.agg #[(.pointer none), (.pointer none), (.pointer none), (.string ⟨#[]⟩)]), 4, 40, true, [(0, 1), (1, 1), (2, 1), (3, 1)], none, false, false⟩, .other⟩),
  (132, ⟨⟨.nilFunc, 1, 8, false, [], none, false, false⟩, .fn⟩),
  (133, ⟨⟨(.int .u8 0), 1, 1, false, [], none, false, false⟩, .int .u8⟩),
  (134, ⟨⟨(.int .u8 0), 1, 1, false, [], none, false, false⟩, .int .u8⟩),
  (135, ⟨⟨.nilFunc, 1, 8, false, [], none, false, false⟩, .fn⟩),
  (136, ⟨⟨(.int .i32 0), 1, 4, false, [], none, false, false⟩, .int .i32⟩),
  (137, ⟨⟨(.int .i32 0), 1, 4, false, [], none, false, false⟩, .int .i32⟩),
  (138, ⟨⟨(.agg #[(.int .u64 0), (.int .u64 0), (.int .u32 0), (.int .u8 0), (.int .u8 0), (.int .u8 0), (.int .u8 0), .nilFunc, (.pointer none), (.int .i32 0), (.int .i32 0)]), 11, 48, true, [(0, 1), (1, 1), (2, 1), (3, 1), (4, 1), (5, 1), (6, 1), (7, 1), (8, 1), (9, 1), (10, 1)], none, false, false⟩, .other⟩),
  (139, ⟨⟨(.agg #[(.int .u64 0), (.int .u64 0), (.int .u32 0), (.int .u8 0), (.int .u8 0), (.int .u8 0), (.int .u8 0), .nilFunc, (.pointer none), (.int .i32 0), (.int .i32 0)]), 11, 48, true, [(0, 1), (1, 1), (2, 1), (3, 1), (4, 1), (5, 1), (6, 1), (7, 1), (8, 1), (9, 1), (10, 1)], none, false, false⟩, .other⟩),
  (140, ⟨⟨.nilFunc, 1, 8, false, [], none, false, false⟩, .fn⟩),
  (141, ⟨⟨(.slice none 0 0), 1, 24, false, [], some 143, false, false⟩, .slice 143⟩),
  (142, ⟨⟨(.agg #[(.int .i64 0), (.int .i64 0), (.int .i64 0), (.string ⟨#[]⟩), (.slice none 0 0), (.slice none 0 0), (.slice none 0 0)]), 7, 112, true, [(0, 1), (1, 1), (2, 1), (3, 1), (4, 1), (5, 1), (6, 1)], none, false, false⟩, .other⟩),
  (143, ⟨⟨(.agg #[(.int .i64 0), (.int .i64 0), (.int .i64 0), (.string ⟨#[]⟩), (.slice none 0 0), (.slice none 0 0), (.slice none 0 0)]), 7, 112, true, [(0, 1), (1, 1), (2, 1), (3, 1), (4, 1), (5, 1), (6, 1)], none, false, false⟩, .other⟩),
  (144, ⟨⟨(.agg #[(.slice none 0 0), (.slice none 0 0)]), 2, 48, true, [(0, 1), (1, 1)], none, false, false⟩, .other⟩),
  (145, ⟨⟨.nilFunc, 1, 8, false, [], none, false, false⟩, .fn⟩)]
theorem tx1 : TYok Tryd.prog 1 ⟨⟨.nilFunc, 1, 8, false, [], none, false, false⟩, .fn⟩ := ⟨⟨by kernel_rfl, by kernel_rfl⟩, by kernel_rfl⟩
theorem tx2 : TYok Tryd.prog 2 ⟨⟨(.int .i64 0), 1, 8, false, [], none, false, false⟩, .int .i64⟩ := ⟨⟨by kernel_rfl, by kernel_rfl⟩, by kernel_rfl⟩
theorem tx3 : TYok Tryd.prog 3 ⟨⟨(.int .i64 0), 1, 8, false, [], none, false, false⟩, .int .i64⟩ := ⟨⟨by kernel_rfl, by kernel_rfl⟩, by kernel_rfl⟩
theorem tx4 : TYok Tryd.prog 4 ⟨⟨(.bool false), 1, 1, false, [], none, false, false⟩, .bool⟩ := ⟨⟨by kernel_rfl, by kernel_rfl⟩, by kernel_rfl⟩
theorem tx5 : TYok Tryd.prog 5 ⟨⟨(.int .u8 0), 1, 1, false, [], none, false, false⟩, .int .u8⟩ := ⟨⟨by kernel_rfl, by kernel_rfl⟩, by kernel_rfl⟩
theorem tx6 : TYok Tryd.prog 6 ⟨⟨(.int .u8 0), 1, 1, false, [], none, false, false⟩, .int .u8⟩ := ⟨⟨by kernel_rfl, by kernel_rfl⟩, by kernel_rfl⟩
theorem tx7 : TYok Tryd.prog 7 ⟨⟨(.agg #[(.int .i64 0), (.int .i64 0), (.bool false), (.int .u8 0)]), 4, 24, true, [(0, 1), (1, 1), (2, 1), (3, 1)], none, false, false⟩, .other⟩ := ⟨⟨by kernel_rfl, by kernel_rfl⟩, by kernel_rfl⟩
theorem tx8 : TYok Tryd.prog 8 ⟨⟨(.agg #[(.int .i64 0), (.int .i64 0), (.bool false), (.int .u8 0)]), 4, 24, true, [(0, 1), (1, 1), (2, 1), (3, 1)], none, false, false⟩, .other⟩ := ⟨⟨by kernel_rfl, by kernel_rfl⟩, by kernel_rfl⟩
theorem tx9 : TYok Tryd.prog 9 ⟨⟨(.string ⟨#[]⟩), 1, 16, false, [], none, true, false⟩, .str⟩ := ⟨⟨by kernel_rfl, by kernel_rfl⟩, by kernel_rfl⟩
theorem tx10 : TYok Tryd.prog 10 ⟨⟨(.string ⟨#[]⟩), 1, 16, false, [], none, true, false⟩, .str⟩ := ⟨⟨by kernel_rfl, by kernel_rfl⟩, by kernel_rfl⟩
theorem tx11 : TYok Tryd.prog 11 ⟨⟨(.string ⟨#[]⟩), 1, 16, false, [], none, true, false⟩, .str⟩ := ⟨⟨by kernel_rfl, by kernel_rfl⟩, by kernel_rfl⟩
theorem tx12 : TYok Tryd.prog 12 ⟨⟨(.int .u64 0), 1, 8, false, [], none, false, false⟩, .int .u64⟩ := ⟨⟨by kernel_rfl, by kernel_rfl⟩, by kernel_rfl⟩
theorem tx13 : TYok Tryd.prog 13 ⟨⟨(.agg #[(.string ⟨#[]⟩), (.int .u64 0)]), 2, 24, true, [(0, 1), (1, 1)], none, false, false⟩, .other⟩ := ⟨⟨by kernel_rfl, by kernel_rfl⟩, by kernel_rfl⟩
theorem tx14 : TYok Tryd.prog 14 ⟨⟨(.agg #[(.string ⟨#[]⟩), (.int .u64 0)]), 2, 24, true, [(0, 1), (1, 1)], none, false, false⟩, .other⟩ := ⟨⟨by kernel_rfl, by kernel_rfl⟩, by kernel_rfl⟩
theorem tx15 : TYok Tryd.prog 15 ⟨⟨(.pointer none), 1, 8, false, [], none, false, false⟩, .ptr⟩ := ⟨⟨by kernel_rfl, by kernel_rfl⟩, by kernel_rfl⟩
theorem tx16 : TYok Tryd.prog 16 ⟨⟨(.pointer none), 1, 8, false, [], none, false, false⟩, .ptr⟩ := ⟨⟨by kernel_rfl, by kernel_rfl⟩, by kernel_rfl⟩
theorem tx17 : TYok Tryd.prog 17 ⟨⟨(.pointer none), 1, 8, false, [], none, false, false⟩, .ptr⟩ := ⟨⟨by kernel_rfl, by kernel_rfl⟩, by kernel_rfl⟩
theorem tx18 : TYok Tryd.prog 18 ⟨⟨(.agg #[(.pointer none)]), 1, 8, true, [(0, 1)], none, false, false⟩, .other⟩ := ⟨⟨by kernel_rfl, by kernel_rfl⟩, by kernel_rfl⟩
theorem tx19 : TYok Tryd.prog 19 ⟨⟨(.agg #[(.pointer none)]), 1, 8, true, [(0, 1)], none, false, false⟩, .other⟩ := ⟨⟨by kernel_rfl, by kernel_rfl⟩, by kernel_rfl⟩
theorem tx20 : TYok Tryd.prog 20 ⟨⟨.nilIface, 1, 16, false, [], none, false, true⟩, .ifc⟩ := ⟨⟨by kernel_rfl, by kernel_rfl⟩, by kernel_rfl⟩
theorem tx21 : TYok Tryd.prog 21 ⟨⟨(.int .i32 0), 1, 4, false, [], none, false, false⟩, .int .i32⟩ := ⟨⟨by kernel_rfl, by kernel_rfl⟩, by kernel_rfl⟩
theorem tx22 : TYok Tryd.prog 22 ⟨⟨(.slice none 0 0), 1, 24, false, [], some 9, false, false⟩, .slice 9⟩ := ⟨⟨by kernel_rfl, by kernel_rfl⟩, by kernel_rfl⟩
theorem tx23 : TYok Tryd.prog 23 ⟨⟨(.slice none 0 0), 1, 24, false, [], some 25, false, false⟩, .slice 25⟩ := ⟨⟨by kernel_rfl, by kernel_rfl⟩, by kernel_rfl⟩
theorem tx24 : TYok Tryd.prog 24 ⟨⟨(.agg #[(.int .i64 0), (.int .i64 0), (.slice none 0 0), (.slice none 0 0)]), 4, 64, true, [(0, 1), (1, 1), (2, 1), (3, 1)], none, false, false⟩, .other⟩ := ⟨⟨by kernel_rfl, by kernel_rfl⟩, by kernel_rfl⟩
theorem tx25 : TYok Tryd.prog 25 ⟨⟨(.agg #[(.int .i64 0), (.int .i64 0), (.slice none 0 0), (.slice none 0 0)]), 4, 64, true, [(0, 1), (1, 1), (2, 1), (3, 1)], none, false, false⟩, .other⟩ := ⟨⟨by kernel_rfl, by kernel_rfl⟩, by kernel_rfl⟩
theorem tx26 : TYok Tryd.prog 26 ⟨⟨(.int .i64 0), 1, 8, false, [], none, false, false⟩, .int .i64⟩ := ⟨⟨by kernel_rfl, by kernel_rfl⟩, by kernel_rfl⟩
theorem tx27 : TYok Tryd.prog 27 ⟨⟨.nilFunc, 1, 8, false, [], none, false, false⟩, .fn⟩ := ⟨⟨by kernel_rfl, by kernel_rfl⟩, by kernel_rfl⟩
theorem tx28 : TYok Tryd.prog 28 ⟨⟨.nilFunc, 1, 8, false, [], none, false, false⟩, .fn⟩ := ⟨⟨by kernel_rfl, by kernel_rfl⟩, by kernel_rfl⟩
theorem tx29 : TYok Tryd.prog 29 ⟨⟨(.slice none 0 0), 1, 24, false, [], some 3, false, false⟩, .slice 3⟩ := ⟨⟨by kernel_rfl, by kernel_rfl⟩, by kernel_rfl⟩
theorem tx30 : TYok Tryd.prog 30 ⟨⟨.nilFunc, 1, 8, false, [], none, false, false⟩, .fn⟩ := ⟨⟨by kernel_rfl, by kernel_rfl⟩, by kernel_rfl⟩
theorem tx31 : TYok Tryd.prog 31 ⟨⟨.nilFunc, 1, 8, false, [], none, false, false⟩, .fn⟩ := ⟨⟨by kernel_rfl, by kernel_rfl⟩, by kernel_rfl⟩
theorem tx32 : TYok Tryd.prog 32 ⟨⟨.nilFunc, 1, 8, false, [], none, false, false⟩, .fn⟩ := ⟨⟨by kernel_rfl, by kernel_rfl⟩, by kernel_rfl⟩
theorem tx33 : TYok Tryd.prog 33 ⟨⟨.nilFunc, 1, 8, false, [], none, false, false⟩, .fn⟩ := ⟨⟨by kernel_rfl, by kernel_rfl⟩, by kernel_rfl⟩
theorem tx34 : TYok Tryd.prog 34 ⟨⟨.nilFunc, 1, 8, false, [], none, false, false⟩, .fn⟩ := ⟨⟨by kernel_rfl, by kernel_rfl⟩, by kernel_rfl⟩
theorem tx35 : TYok Tryd.prog 35 ⟨⟨.nilFunc, 1, 8, false, [], none, false, false⟩, .fn⟩ := ⟨⟨by kernel_rfl, by kernel_rfl⟩, by kernel_rfl⟩
theorem tx36 : TYok Tryd.prog 36 ⟨⟨.nilFunc, 1, 8, false, [], none, false, false⟩, .fn⟩ := ⟨⟨by kernel_rfl, by kernel_rfl⟩, by kernel_rfl⟩
theorem tx37 : TYok Tryd.prog 37 ⟨⟨.nilFunc, 1, 8, false, [], none, false, false⟩, .fn⟩ := ⟨⟨by kernel_rfl, by kernel_rfl⟩, by kernel_rfl⟩
theorem tx38 : TYok Tryd.prog 38 ⟨⟨.nilFunc, 1, 8, false, [], none, false, false⟩, .fn⟩ := ⟨⟨by kernel_rfl, by kernel_rfl⟩, by kernel_rfl⟩
theorem tx39 : TYok Tryd.prog 39 ⟨⟨.nilFunc, 1, 8, false, [], none, false, false⟩, .fn⟩ := ⟨⟨by kernel_rfl, by kernel_rfl⟩, by kernel_rfl⟩
theorem tx40 : TYok Tryd.prog 40 ⟨⟨.nilFunc, 1, 8, false, [], none, false, false⟩, .fn⟩ := ⟨⟨by kernel_rfl, by kernel_rfl⟩, by kernel_rfl⟩
theorem tx41 : TYok Tryd.prog 41 ⟨⟨.nilFunc, 1, 8, false, [], none, false, false⟩, .fn⟩ := ⟨⟨by kernel_rfl, by kernel_rfl⟩, by kernel_rfl⟩
theorem tx42 : TYok Tryd.prog 42 ⟨⟨.nilFunc, 1, 8, false, [], none, false, false⟩, .fn⟩ := ⟨⟨by kernel_rfl, by kernel_rfl⟩, by kernel_rfl⟩
theorem tx43 : TYok Tryd.prog 43 ⟨⟨.nilFunc, 1, 8, false, [], none, false, false⟩, .fn⟩ := ⟨⟨by kernel_rfl, by kernel_rfl⟩, by kernel_rfl⟩
theorem tx44 : TYok Tryd.prog 44 ⟨⟨(.pointer none), 1, 8, false, [], none, false, false⟩, .ptr⟩ := ⟨⟨by kernel_rfl, by kernel_rfl⟩, by kernel_rfl⟩
theorem tx45 : TYok Tryd.prog 45 ⟨⟨(.agg #[(.slice none 0 0), (.slice none 0 0)]), 2, 48, true, [(0, 1), (1, 1)], none, false, false⟩, .other⟩ := ⟨⟨by kernel_rfl, by kernel_rfl⟩, by kernel_rfl⟩
theorem tx46 : TYok Tryd.prog 46 ⟨⟨(.agg #[(.slice none 0 0), (.slice none 0 0)]), 2, 48, true, [(0, 1), (1, 1)], none, false, false⟩, .other⟩ := ⟨⟨by kernel_rfl, by kernel_rfl⟩, by kernel_rfl⟩
theorem tx47 : TYok Tryd.prog 47 ⟨⟨.nilFunc, 1, 8, false, [], none, false, false⟩, .fn⟩ := ⟨⟨by kernel_rfl, by kernel_rfl⟩, by kernel_rfl⟩
theorem tx48 : TYok Tryd.prog 48 ⟨⟨.nilFunc, 1, 8, false, [], none, false, false⟩, .fn⟩ := ⟨⟨by kernel_rfl, by kernel_rfl⟩, by kernel_rfl⟩
theorem tx49 : TYok Tryd.prog 49 ⟨⟨.nilFunc, 1, 8, false, [], none, false, false⟩, .fn⟩ := ⟨⟨by kernel_rfl, by kernel_rfl⟩, by kernel_rfl⟩
theorem tx50 : TYok Tryd.prog 50 ⟨⟨.nilFunc, 1, 8, false, [], none, false, false⟩, .fn⟩ := ⟨⟨by kernel_rfl, by kernel_rfl⟩, by kernel_rfl⟩
theorem tx51 : TYok Tryd.prog 51 ⟨⟨.nilFunc, 1, 8, false, [], none, false, false⟩, .fn⟩ := ⟨⟨by kernel_rfl, by kernel_rfl⟩, by kernel_rfl⟩
theorem tx52 : TYok Tryd.prog 52 ⟨⟨.nilFunc, 1, 8, false, [], none, false, false⟩, .fn⟩ := ⟨⟨by kernel_rfl, by kernel_rfl⟩, by kernel_rfl⟩
theorem tx53 : TYok Tryd.prog 53 ⟨⟨.nilFunc, 1, 8, false, [], none, false, false⟩, .fn⟩ := ⟨⟨by kernel_rfl, by kernel_rfl⟩, by kernel_rfl⟩
theorem tx54 : TYok Tryd.prog 54 ⟨⟨.nilFunc, 1, 8, false, [], none, false, false⟩, .fn⟩ := ⟨⟨by kernel_rfl, by kernel_rfl⟩, by kernel_rfl⟩
theorem tx55 : TYok Tryd.prog 55 ⟨⟨.nilFunc, 1, 8, false, [], none, false, false⟩, .fn⟩ := ⟨⟨by kernel_rfl, by kernel_rfl⟩, by kernel_rfl⟩
theorem tx56 : TYok Tryd.prog 56 ⟨⟨(.pointer none), 1, 8, false, [], none, false, false⟩, .ptr⟩ := ⟨⟨by kernel_rfl, by kernel_rfl⟩, by kernel_rfl⟩
theorem tx57 : TYok Tryd.prog 57 ⟨⟨(.pointer none), 1, 8, false, [], none, false, false⟩, .ptr⟩ := ⟨⟨by kernel_rfl, by kernel_rfl⟩, by kernel_rfl⟩
theorem tx58 : TYok Tryd.prog 58 ⟨⟨(.slice none 0 0), 1, 24, false, [], some 5, false, false⟩, .slice 5⟩ := ⟨⟨by kernel_rfl, by kernel_rfl⟩, by kernel_rfl⟩
theorem tx59 : TYok Tryd.prog 59 ⟨⟨(.agg #[(.pointer none), (.slice none 0 0)]), 2, 32, true, [(0, 1), (1, 1)], none, false, false⟩, .other⟩ := ⟨⟨by kernel_rfl, by kernel_rfl⟩, by kernel_rfl⟩
theorem tx60 : TYok Tryd.prog 60 ⟨⟨(.agg #[(.pointer none), (.slice none 0 0)]), 2, 32, true, [(0, 1), (1, 1)], none, false, false⟩, .other⟩ := ⟨⟨by kernel_rfl, by kernel_rfl⟩, by kernel_rfl⟩
theorem tx61 : TYok Tryd.prog 61 ⟨⟨(.agg #[(.pointer none), (.slice none 0 0)]), 2, 32, true, [(0, 2)], none, false, false⟩, .other⟩ := ⟨⟨by kernel_rfl, by kernel_rfl⟩, by kernel_rfl⟩
theorem tx62 : TYok Tryd.prog 62 ⟨⟨(.agg #[(.pointer none), (.slice none 0 0)]), 2, 32, true, [(0, 2)], none, false, false⟩, .other⟩ := ⟨⟨by kernel_rfl, by kernel_rfl⟩, by kernel_rfl⟩
theorem tx63 : TYok Tryd.prog 63 ⟨⟨.nilFunc, 1, 8, false, [], none, false, false⟩, .fn⟩ := ⟨⟨by kernel_rfl, by kernel_rfl⟩, by kernel_rfl⟩
theorem tx64 : TYok Tryd.prog 64 ⟨⟨.nilFunc, 1, 8, false, [], none, false, false⟩, .fn⟩ := ⟨⟨by kernel_rfl, by kernel_rfl⟩, by kernel_rfl⟩
theorem tx65 : TYok Tryd.prog 65 ⟨⟨.nilFunc, 1, 8, false, [], none, false, false⟩, .fn⟩ := ⟨⟨by kernel_rfl, by kernel_rfl⟩, by kernel_rfl⟩
theorem tx66 : TYok Tryd.prog 66 ⟨⟨.nilFunc, 1, 8, false, [], none, false, false⟩, .fn⟩ := ⟨⟨by kernel_rfl, by kernel_rfl⟩, by kernel_rfl⟩
theorem tx67 : TYok Tryd.prog 67 ⟨⟨.nilFunc, 1, 8, false, [], none, false, false⟩, .fn⟩ := ⟨⟨by kernel_rfl, by kernel_rfl⟩, by kernel_rfl⟩
theorem tx68 : TYok Tryd.prog 68 ⟨⟨(.int .u64 0), 1, 8, false, [], none, false, false⟩, .int .u64⟩ := ⟨⟨by kernel_rfl, by kernel_rfl⟩, by kernel_rfl⟩
theorem tx69 : TYok Tryd.prog 69 ⟨⟨.nilFunc, 1, 8, false, [], none, false, false⟩, .fn⟩ := ⟨⟨by kernel_rfl, by kernel_rfl⟩, by kernel_rfl⟩
theorem tx70 : TYok Tryd.prog 70 ⟨⟨.nilFunc, 1, 8, false, [], none, false, false⟩, .fn⟩ := ⟨⟨by kernel_rfl, by kernel_rfl⟩, by kernel_rfl⟩
theorem tx71 : TYok Tryd.prog 71 ⟨⟨.nilFunc, 1, 8, false, [], none, false, false⟩, .fn⟩ := ⟨⟨by kernel_rfl, by kernel_rfl⟩, by kernel_rfl⟩
theorem tx72 : TYok Tryd.prog 72 ⟨⟨.nilFunc, 1, 8, false, [], none, false, false⟩, .fn⟩ := ⟨⟨by kernel_rfl, by kernel_rfl⟩, by kernel_rfl⟩
theorem tx73 : TYok Tryd.prog 73 ⟨⟨.nilIface, 1, 16, false, [], none, false, true⟩, .ifc⟩ := ⟨⟨by kernel_rfl, by kernel_rfl⟩, by kernel_rfl⟩
theorem tx74 : TYok Tryd.prog 74 ⟨⟨.nilIface, 1, 16, false, [], none, false, true⟩, .ifc⟩ := ⟨⟨by kernel_rfl, by kernel_rfl⟩, by kernel_rfl⟩
theorem tx75 : TYok Tryd.prog 75 ⟨⟨.nilFunc, 1, 8, false, [], none, false, false⟩, .fn⟩ := ⟨⟨by kernel_rfl, by kernel_rfl⟩, by kernel_rfl⟩
theorem tx77 : TYok Tryd.prog 77 ⟨⟨.nilFunc, 1, 8, false, [], none, false, false⟩, .fn⟩ := ⟨⟨by kernel_rfl, by kernel_rfl⟩, by kernel_rfl⟩
theorem tx78 : TYok Tryd.prog 78 ⟨⟨(.agg #[(.string ⟨#[]⟩), (.string ⟨#[]⟩), (.string ⟨#[]⟩), (.string ⟨#[]⟩)]), 4, 64, true, [], none, false, false⟩, .other⟩ := ⟨⟨by kernel_rfl, by kernel_rfl⟩, by kernel_rfl⟩
theorem tx79 : TYok Tryd.prog 79 ⟨⟨.nilFunc, 1, 8, false, [], none, false, false⟩, .fn⟩ := ⟨⟨by kernel_rfl, by kernel_rfl⟩, by kernel_rfl⟩
theorem tx80 : TYok Tryd.prog 80 ⟨⟨(.agg #[(.string ⟨#[]⟩), (.string ⟨#[]⟩), (.string ⟨#[]⟩)]), 3, 48, true, [], none, false, false⟩, .other⟩ := ⟨⟨by kernel_rfl, by kernel_rfl⟩, by kernel_rfl⟩
theorem tx81 : TYok Tryd.prog 81 ⟨⟨.nilFunc, 1, 8, false, [], none, false, false⟩, .fn⟩ := ⟨⟨by kernel_rfl, by kernel_rfl⟩, by kernel_rfl⟩
theorem tx82 : TYok Tryd.prog 82 ⟨⟨(.pointer none), 1, 8, false, [], none, false, false⟩, .ptr⟩ := ⟨⟨by kernel_rfl, by kernel_rfl⟩, by kernel_rfl⟩
theorem tx83 : TYok Tryd.prog 83 ⟨⟨.nilFunc, 1, 8, false, [], none, false, false⟩, .fn⟩ := ⟨⟨by kernel_rfl, by kernel_rfl⟩, by kernel_rfl⟩
theorem tx84 : TYok Tryd.prog 84 ⟨⟨.nilFunc, 1, 8, false, [], none, false, false⟩, .fn⟩ := ⟨⟨by kernel_rfl, by kernel_rfl⟩, by kernel_rfl⟩
theorem tx85 : TYok Tryd.prog 85 ⟨⟨.nilFunc, 1, 8, false, [], none, false, false⟩, .fn⟩ := ⟨⟨by kernel_rfl, by kernel_rfl⟩, by kernel_rfl⟩
theorem tx86 : TYok Tryd.prog 86 ⟨⟨.nilFunc, 1, 8, false, [], none, false, false⟩, .fn⟩ := ⟨⟨by kernel_rfl, by kernel_rfl⟩, by kernel_rfl⟩
theorem tx87 : TYok Tryd.prog 87 ⟨⟨.nilFunc, 1, 8, false, [], none, false, false⟩, .fn⟩ := ⟨⟨by kernel_rfl, by kernel_rfl⟩, by kernel_rfl⟩
theorem tx88 : TYok Tryd.prog 88 ⟨⟨(.int .i64 0), 1, 8, false, [], none, false, false⟩, .int .i64⟩ := ⟨⟨by kernel_rfl, by kernel_rfl⟩, by kernel_rfl⟩
theorem tx90 : TYok Tryd.prog 90 ⟨⟨.nilFunc, 1, 8, false, [], none, false, false⟩, .fn⟩ := ⟨⟨by kernel_rfl, by kernel_rfl⟩, by kernel_rfl⟩
theorem tx91 : TYok Tryd.prog 91 ⟨⟨.nilFunc, 1, 8, false, [], none, false, false⟩, .fn⟩ := ⟨⟨by kernel_rfl, by kernel_rfl⟩, by kernel_rfl⟩
theorem tx92 : TYok Tryd.prog 92 ⟨⟨.nilFunc, 1, 8, false, [], none, false, false⟩, .fn⟩ := ⟨⟨by kernel_rfl, by kernel_rfl⟩, by kernel_rfl⟩
theorem tx93 : TYok Tryd.prog 93 ⟨⟨.nilFunc, 1, 8, false, [], none, false, false⟩, .fn⟩ := ⟨⟨by kernel_rfl, by kernel_rfl⟩, by kernel_rfl⟩
theorem tx95 : TYok Tryd.prog 95 ⟨⟨.nilFunc, 1, 8, false, [], none, false, false⟩, .fn⟩ := ⟨⟨by kernel_rfl, by kernel_rfl⟩, by kernel_rfl⟩
theorem tx96 : TYok Tryd.prog 96 ⟨⟨.nilFunc, 1, 8, false, [], none, false, false⟩, .fn⟩ := ⟨⟨by kernel_rfl, by kernel_rfl⟩, by kernel_rfl⟩
theorem tx97 : TYok Tryd.prog 97 ⟨⟨(.int .u32 0), 1, 4, false, [], none, false, false⟩, .int .u32⟩ := ⟨⟨by kernel_rfl, by kernel_rfl⟩, by kernel_rfl⟩
theorem tx98 : TYok Tryd.prog 98 ⟨⟨.nilFunc, 1, 8, false, [], none, false, false⟩, .fn⟩ := ⟨⟨by kernel_rfl, by kernel_rfl⟩, by kernel_rfl⟩
theorem tx99 : TYok Tryd.prog 99 ⟨⟨(.int .u64 0), 1, 8, false, [], none, false, false⟩, .int .u64⟩ := ⟨⟨by kernel_rfl, by kernel_rfl⟩, by kernel_rfl⟩
theorem tx100 : TYok Tryd.prog 100 ⟨⟨.nilFunc, 1, 8, false, [], none, false, false⟩, .fn⟩ := ⟨⟨by kernel_rfl, by kernel_rfl⟩, by kernel_rfl⟩
theorem tx101 : TYok Tryd.prog 101 ⟨⟨.nilFunc, 1, 8, false, [], none, false, false⟩, .fn⟩ := ⟨⟨by kernel_rfl, by kernel_rfl⟩, by kernel_rfl⟩
theorem tx102 : TYok Tryd.prog 102 ⟨⟨(.int .u64 0), 1, 8, false, [], none, false, false⟩, .int .u64⟩ := ⟨⟨by kernel_rfl, by kernel_rfl⟩, by kernel_rfl⟩
theorem tx103 : TYok Tryd.prog 103 ⟨⟨.nilFunc, 1, 8, false, [], none, false, false⟩, .fn⟩ := ⟨⟨by kernel_rfl, by kernel_rfl⟩, by kernel_rfl⟩
theorem tx104 : TYok Tryd.prog 104 ⟨⟨.nilFunc, 1, 8, false, [], none, false, false⟩, .fn⟩ := ⟨⟨by kernel_rfl, by kernel_rfl⟩, by kernel_rfl⟩
theorem tx105 : TYok Tryd.prog 105 ⟨⟨.nilFunc, 1, 8, false, [], none, false, false⟩, .fn⟩ := ⟨⟨by kernel_rfl, by kernel_rfl⟩, by kernel_rfl⟩
theorem tx106 : TYok Tryd.prog 106 ⟨⟨(.pointer none), 1, 8, false, [], none, false, false⟩, .ptr⟩ := ⟨⟨by kernel_rfl, by kernel_rfl⟩, by kernel_rfl⟩
theorem tx107 : TYok Tryd.prog 107 ⟨⟨.nilFunc, 1, 8, false, [], none, false, false⟩, .fn⟩ := ⟨⟨by kernel_rfl, by kernel_rfl⟩, by kernel_rfl⟩
theorem tx108 : TYok Tryd.prog 108 ⟨⟨(.slice none 0 0), 1, 24, false, [], some 29, false, false⟩, .slice 29⟩ := ⟨⟨by kernel_rfl, by kernel_rfl⟩, by kernel_rfl⟩
theorem tx109 : TYok Tryd.prog 109 ⟨⟨.nilFunc, 1, 8, false, [], none, false, false⟩, .fn⟩ := ⟨⟨by kernel_rfl, by kernel_rfl⟩, by kernel_rfl⟩
theorem tx110 : TYok Tryd.prog 110 ⟨⟨.nilFunc, 1, 8, false, [], none, false, false⟩, .fn⟩ := ⟨⟨by kernel_rfl, by kernel_rfl⟩, by kernel_rfl⟩
theorem tx112 : TYok Tryd.prog 112 ⟨⟨.nilFunc, 1, 8, false, [], none, false, false⟩, .fn⟩ := ⟨⟨by kernel_rfl, by kernel_rfl⟩, by kernel_rfl⟩
theorem tx113 : TYok Tryd.prog 113 ⟨⟨.nilFunc, 1, 8, false, [], none, false, false⟩, .fn⟩ := ⟨⟨by kernel_rfl, by kernel_rfl⟩, by kernel_rfl⟩
theorem tx114 : TYok Tryd.prog 114 ⟨⟨(.pointer none), 1, 8, false, [], none, false, false⟩, .ptr⟩ := ⟨⟨by kernel_rfl, by kernel_rfl⟩, by kernel_rfl⟩
theorem tx116 : TYok Tryd.prog 116 ⟨⟨.nilFunc, 1, 8, false, [], none, false, false⟩, .fn⟩ := ⟨⟨by kernel_rfl, by kernel_rfl⟩, by kernel_rfl⟩
theorem tx117 : TYok Tryd.prog 117 ⟨⟨.nilFunc, 1, 8, false, [], none, false, false⟩, .fn⟩ := ⟨⟨by kernel_rfl, by kernel_rfl⟩, by kernel_rfl⟩
theorem tx118 : TYok Tryd.prog 118 ⟨⟨(.agg #[(.int .u8 0), (.int .u8 0), (.int .u8 0), (.int .u8 0), (.int .u8 0), (.int .u8 0), (.int .u8 0), (.int .u8 0), (.int .u8 0), (.int .u8 0), (.int .u8 0), (.int .u8 0), (.int .u8 0), (.int .u8 0), (.int .u8 0), (.int .u8 0), (.int .u8 0), (.int .u8 0), (.int .u8 0), (.int .u8 0), (.int .u8 0), (.int .u8 0), (.int .u8 0), (.int .u8 0)]), 24, 24, true, [], none, false, false⟩, .other⟩ := ⟨⟨by kernel_rfl, by kernel_rfl⟩, by kernel_rfl⟩
theorem tx119 : TYok Tryd.prog 119 ⟨⟨.nilFunc, 1, 8, false, [], none, false, false⟩, .fn⟩ := ⟨⟨by kernel_rfl, by kernel_rfl⟩, by kernel_rfl⟩
theorem tx121 : TYok Tryd.prog 121 ⟨⟨.nilFunc, 1, 8, false, [], none, false, false⟩, .fn⟩ := ⟨⟨by kernel_rfl, by kernel_rfl⟩, by kernel_rfl⟩
theorem tx122 : TYok Tryd.prog 122 ⟨⟨.nilFunc, 1, 8, false, [], none, false, false⟩, .fn⟩ := ⟨⟨by kernel_rfl, by kernel_rfl⟩, by kernel_rfl⟩
theorem tx123 : TYok Tryd.prog 123 ⟨⟨(.agg #[(.int .u64 0), (.int .u64 0), (.int .u64 0), (.int .u64 0), (.int .u64 0), (.int .u64 0), (.int .u64 0), (.int .u64 0), (.int .u64 0), (.int .u64 0), (.int .u64 0), (.int .u64 0), (.int .u64 0), (.int .u64 0), (.int .u64 0), (.int .u64 0), (.int .u64 0), (.int .u64 0), (.int .u64 0), (.int .u64 0)]), 20, 160, true, [], none, false, false⟩, .other⟩ := ⟨⟨by kernel_rfl, by kernel_rfl⟩, by kernel_rfl⟩
theorem tx124 : TYok Tryd.prog 124 ⟨⟨(.agg #[(.int .u8 0), (.int .u8 0), (.int .u8 0), (.int .u8 0), (.int .u8 0), (.int .u8 0), (.int .u8 0), (.int .u8 0), (.int .u8 0), (.int .u8 0), (.int .u8 0), (.int .u8 0), (.int .u8 0), (.int .u8 0), (.int .u8 0), (.int .u8 0), (.int .u8 0), (.int .u8 0), (.int .u8 0), (.int .u8 0), (.int .u8 0), (.int .u8 0), (.int .u8 0), (.int .u8 0), (.int .u8 0), (.int .u8 0), (.int .u8 0), (.int .u8 0), (.int .u8 0), (.int .u8 0), (.int .u8 0), (.int .u8 0), (.int .u8 0), (.int .u8 0), (.int .u8 0), (.int .u8 0), (.int .u8 0), (.int .u8 0), (.int .u8 0), (.int .u8 0), (.int .u8 0), (.int .u8 0), (.int .u8 0), (.int .u8 0), (.int .u8 0), (.int .u8 0), (.int .u8 0), (.int .u8 0), (.int .u8 0), (.int .u8 0), (.int .u8 0), (.int .u8 0), (.int .u8 0), (.int .u8 0), (.int .u8 0), (.int .u8 0), (.int .u8 0), (.int .u8 0), (.int .u8 0), (.int .u8 0), (.int .u8 0), (.int .u8 0), (.int .u8 0), (.int .u8 0), (.int .u8 0)]), 65, 65, true, [], none, false, false⟩, .other⟩ := ⟨⟨by kernel_rfl, by kernel_rfl⟩, by kernel_rfl⟩
theorem tx125 : TYok Tryd.prog 125 ⟨⟨(.agg #[(.int .u8 0), (.int .u8 0), (.int .u8 0), (.int .u8 0), (.int .u8 0), (.int .u8 0), (.int .u8 0), (.int .u8 0), (.int .u8 0), (.int .u8 0), (.int .u8 0), (.int .u8 0), (.int .u8 0), (.int .u8 0), (.int .u8 0), (.int .u8 0), (.int .u8 0), (.int .u8 0), (.int .u8 0), (.int .u8 0), (.int .u8 0), (.int .u8 0), (.int .u8 0), (.int .u8 0), (.int .u8 0), (.int .u8 0), (.int .u8 0), (.int .u8 0), (.int .u8 0), (.int .u8 0), (.int .u8 0), (.int .u8 0)]), 32, 32, true, [], none, false, false⟩, .other⟩ := ⟨⟨by kernel_rfl, by kernel_rfl⟩, by kernel_rfl⟩
theorem tx126 : TYok Tryd.prog 126 ⟨⟨(.agg #[(.int .u8 0), (.int .u8 0), (.int .u8 0), (.int .u8 0), (.int .u8 0), (.int .u8 0), (.int .u8 0), (.int .u8 0), (.int .u8 0), (.int .u8 0), (.int .u8 0), (.int .u8 0), (.int .u8 0), (.int .u8 0), (.int .u8 0), (.int .u8 0), (.int .u8 0), (.int .u8 0), (.int .u8 0), (.int .u8 0), (.int .u8 0), (.int .u8 0), (.int .u8 0), (.int .u8 0), (.int .u8 0), (.int .u8 0), (.int .u8 0), (.int .u8 0), (.int .u8 0), (.int .u8 0), (.int .u8 0), (.int .u8 0), (.int .u8 0), (.int .u8 0), (.int .u8 0), (.int .u8 0), (.int .u8 0), (.int .u8 0), (.int .u8 0), (.int .u8 0), (.int .u8 0), (.int .u8 0), (.int .u8 0), (.int .u8 0), (.int .u8 0), (.int .u8 0), (.int .u8 0), (.int .u8 0), (.int .u8 0), (.int .u8 0), (.int .u8 0), (.int .u8 0), (.int .u8 0), (.int .u8 0), (.int .u8 0), (.int .u8 0), (.int .u8 0), (.int .u8 0), (.int .u8 0), (.int .u8 0), (.int .u8 0), (.int .u8 0), (.int .u8 0), (.int .u8 0)]), 64, 64, true, [], none, false, false⟩, .other⟩ := ⟨⟨by kernel_rfl, by kernel_rfl⟩, by kernel_rfl⟩
theorem tx127 : TYok Tryd.prog 127 ⟨⟨(.agg #[(.pointer none), (.pointer none), (.pointer none), (.string ⟨#[]⟩)]), 4, 40, true, [(0, 1), (1, 1), (2, 1), (3, 1)], none, false, false⟩, .other⟩ := ⟨⟨by kernel_rfl, by kernel_rfl⟩, by kernel_rfl⟩
theorem tx128 : TYok Tryd.prog 128 ⟨⟨(.agg #[(.pointer none), (.pointer none), (.pointer none), (.string ⟨#[]⟩)]), 4, 40, true, [(0, 1), (1, 1), (2, 1), (3, 1)], none, false, false⟩, .other⟩ := ⟨⟨by kernel_rfl, by kernel_rfl⟩, by kernel_rfl⟩
theorem tx132 : TYok Tryd.prog 132 ⟨⟨.nilFunc, 1, 8, false, [], none, false, false⟩, .fn⟩ := ⟨⟨by kernel_rfl, by kernel_rfl⟩, by kernel_rfl⟩
theorem tx133 : TYok Tryd.prog 133 ⟨⟨(.int .u8 0), 1, 1, false, [], none, false, false⟩, .int .u8⟩ := ⟨⟨by kernel_rfl, by kernel_rfl⟩, by kernel_rfl⟩
theorem tx134 : TYok Tryd.prog 134 ⟨⟨(.int .u8 0), 1, 1, false, [], none, false, false⟩, .int .u8⟩ := ⟨⟨by kernel_rfl, by kernel_rfl⟩, by kernel_rfl⟩
theorem tx135 : TYok Tryd.prog 135 ⟨⟨.nilFunc, 1, 8, false, [], none, false, false⟩, .fn⟩ := ⟨⟨by kernel_rfl, by kernel_rfl⟩, by kernel_rfl⟩
theorem tx136 : TYok Tryd.prog 136 ⟨⟨(.int .i32 0), 1, 4, false, [], none, false, false⟩, .int .i32⟩ := ⟨⟨by kernel_rfl, by kernel_rfl⟩, by kernel_rfl⟩
theorem tx137 : TYok Tryd.prog 137 ⟨⟨(.int .i32 0), 1, 4, false, [], none, false, false⟩, .int .i32⟩ := ⟨⟨by kernel_rfl, by kernel_rfl⟩, by kernel_rfl⟩
theorem tx138 : TYok Tryd.prog 138 ⟨⟨(.agg #[(.int .u64 0), (.int .u64 0), (.int .u32 0), (.int .u8 0), (.int .u8 0), (.int .u8 0), (.int .u8 0), .nilFunc, (.pointer none), (.int .i32 0), (.int .i32 0)]), 11, 48, true, [(0, 1), (1, 1), (2, 1), (3, 1), (4, 1), (5, 1), (6, 1), (7, 1), (8, 1), (9, 1), (10, 1)], none, false, false⟩, .other⟩ := ⟨⟨by kernel_rfl, by kernel_rfl⟩, by kernel_rfl⟩
theorem tx139 : TYok Tryd.prog 139 ⟨⟨(.agg #[(.int .u64 0), (.int .u64 0), (.int .u32 0), (.int .u8 0), (.int .u8 0), (.int .u8 0), (.int .u8 0), .nilFunc, (.pointer none), (.int .i32 0), (.int .i32 0)]), 11, 48, true, [(0, 1), (1, 1), (2, 1), (3, 1), (4, 1), (5, 1), (6, 1), (7, 1), (8, 1), (9, 1), (10, 1)], none, false, false⟩, .other⟩ := ⟨⟨by kernel_rfl, by kernel_rfl⟩, by kernel_rfl⟩
theorem tx140 : TYok Tryd.prog 140 ⟨⟨.nilFunc, 1, 8, false, [], none, false, false⟩, .fn⟩ := ⟨⟨by kernel_rfl, by kernel_rfl⟩, by kernel_rfl⟩
theorem tx141 : TYok Tryd.prog 141 ⟨⟨(.slice none 0 0), 1, 24, false, [], some 143, false, false⟩, .slice 143⟩ := ⟨⟨by kernel_rfl, by kernel_rfl⟩, by kernel_rfl⟩
theorem tx142 : TYok Tryd.prog 142 ⟨⟨(.agg #[(.int .i64 0), (.int .i64 0), (.int .i64 0), (.string ⟨#[]⟩), (.slice none 0 0), (.slice none 0 0), (.slice none 0 0)]), 7, 112, true, [(0, 1), (1, 1), (2, 1), (3, 1), (4, 1), (5, 1), (6, 1)], none, false, false⟩, .other⟩ := ⟨⟨by kernel_rfl, by kernel_rfl⟩, by kernel_rfl⟩
theorem tx143 : TYok Tryd.prog 143 ⟨⟨(.agg #[(.int .i64 0), (.int .i64 0), (.int .i64 0), (.string ⟨#[]⟩), (.slice none 0 0), (.slice none 0 0), (.slice none 0 0)]), 7, 112, true, [(0, 1), (1, 1), (2, 1), (3, 1), (4, 1), (5, 1), (6, 1)], none, false, false⟩, .other⟩ := ⟨⟨by kernel_rfl, by kernel_rfl⟩, by kernel_rfl⟩
theorem tx144 : TYok Tryd.prog 144 ⟨⟨(.agg #[(.slice none 0 0), (.slice none 0 0)]), 2, 48, true, [(0, 1), (1, 1)], none, false, false⟩, .other⟩ := ⟨⟨by kernel_rfl, by kernel_rfl⟩, by kernel_rfl⟩
theorem tx145 : TYok Tryd.prog 145 ⟨⟨.nilFunc, 1, 8, false, [], none, false, false⟩, .fn⟩ := ⟨⟨by kernel_rfl, by kernel_rfl⟩, by kernel_rfl⟩
theorem txok : Tys Tryd.prog tx := (Tys_cons tx1 (Tys_cons tx2 (Tys_cons tx3 (Tys_cons tx4 (Tys_cons tx5 (Tys_cons tx6 (Tys_cons tx7 (Tys_cons tx8 (Tys_cons tx9 (Tys_cons tx10 (Tys_cons tx11 (Tys_cons tx12 (Tys_cons tx13 (Tys_cons tx14 (Tys_cons tx15 (Tys_cons tx16 (Tys_cons tx17 (Tys_cons tx18 (Tys_cons tx19 (Tys_cons tx20 (Tys_cons tx21 (Tys_cons tx22 (Tys_cons tx23 (Tys_cons tx24 (Tys_cons tx25 (Tys_cons tx26 (Tys_cons tx27 (Tys_cons tx28 (Tys_cons tx29 (Tys_cons tx30 (Tys_cons tx31 (Tys_cons tx32 (Tys_cons tx33 (Tys_cons tx34 (Tys_cons tx35 (Tys_cons tx36 (Tys_cons tx37 (Tys_cons tx38 (Tys_cons tx39 (Tys_cons tx40 (Tys_cons tx41 (Tys_cons tx42 (Tys_cons tx43 (Tys_cons tx44 (Tys_cons tx45 (Tys_cons tx46 (Tys_cons tx47 (Tys_cons tx48 (Tys_cons tx49 (Tys_cons tx50 (Tys_cons tx51 (Tys_cons tx52 (Tys_cons tx53 (Tys_cons tx54 (Tys_cons tx55 (Tys_cons tx56 (Tys_cons tx57 (Tys_cons tx58 (Tys_cons tx59 (Tys_cons tx60 (Tys_cons tx61 (Tys_cons tx62 (Tys_cons tx63 (Tys_cons tx64 (Tys_cons tx65 (Tys_cons tx66 (Tys_cons tx67 (Tys_cons tx68 (Tys_cons tx69 (Tys_cons tx70 (Tys_cons tx71 (Tys_cons tx72 (Tys_cons tx73 (Tys_cons tx74 (Tys_cons tx75 (Tys_cons tx77 (Tys_cons tx78 (Tys_cons tx79 (Tys_cons tx80 (Tys_cons tx81 (Tys_cons tx82 (Tys_cons tx83 (Tys_cons tx84 (Tys_cons tx85 (Tys_cons tx86 (Tys_cons tx87 (Tys_cons tx88 (Tys_cons tx90 (Tys_cons tx91 (Tys_cons tx92 (Tys_cons tx93 (Tys_cons tx95 (Tys_cons tx96 (Tys_cons tx97 (Tys_cons tx98 (Tys_cons tx99 (Tys_cons tx100 (Tys_cons tx101 (Tys_cons tx102 (Tys_cons tx103 (Tys_cons tx104 (Tys_cons tx105 (Tys_cons tx106 (Tys_cons tx107 (Tys_cons tx108 (Tys_cons tx109 (Tys_cons tx110 (Tys_cons tx112 (Tys_cons tx113 (Tys_cons tx114 (Tys_cons tx116 (Tys_cons tx117 (Tys_cons tx118 (Tys_cons tx119 (Tys_cons tx121 (Tys_cons tx122 (Tys_cons tx123 (Tys_cons tx124 (Tys_cons tx125 (Tys_cons tx126 (Tys_cons tx127 (Tys_cons tx128 (Tys_cons tx132 (Tys_cons tx133 (Tys_cons tx134 (Tys_cons tx135 (Tys_cons tx136 (Tys_cons tx137 (Tys_cons tx138 (Tys_cons tx139 (Tys_cons tx140 (Tys_cons tx141 (Tys_cons tx142 (Tys_cons tx143 (Tys_cons tx144 (Tys_cons tx145 Tys_nil))))))))))))))))))))))))))))))))))))))))))))))))))))))))))))))))))))))))))))))))))))))))))))))))))))))))))))))))))))))))))))))))))))))))
theorem mixed : Tryd.prog.follows .mixedOrders = true := by kernel_rfl
theorem gf2 : Goes Tryd.prog 2 := goes_of Tryd.func2 rfl rfl
theorem gf3 : Goes Tryd.prog 3 := goes_of Tryd.func3 rfl rfl
theorem gf4 : Goes Tryd.prog 4 := goes_of Tryd.func4 rfl rfl
theorem gf5 : Goes Tryd.prog 5 := goes_of Tryd.func5 rfl rfl
theorem gf6 : Goes Tryd.prog 6 := goes_of Tryd.func6 rfl rfl
theorem gf7 : Goes Tryd.prog 7 := goes_of Tryd.func7 rfl rfl
theorem gf8 : Goes Tryd.prog 8 := goes_of Tryd.func8 rfl rfl
theorem gf9 : Goes Tryd.prog 9 := goes_of Tryd.func9 rfl rfl
theorem gf10 : Goes Tryd.prog 10 := goes_of Tryd.func10 rfl rfl
theorem gf11 : Goes Tryd.prog 11 := goes_of Tryd.func11 rfl rfl
theorem gf12 : Goes Tryd.prog 12 := goes_of Tryd.func12 rfl rfl
theorem gf13 : Goes Tryd.prog 13 := goes_of Tryd.func13 rfl rfl
theorem gf14 : Goes Tryd.prog 14 := goes_of Tryd.func14 rfl rfl
theorem gf15 : Goes Tryd.prog 15 := goes_of Tryd.func15 rfl rfl
theorem gf16 : Goes Tryd.prog 16 := goes_of Tryd.func16 rfl rfl
theorem gf17 : Goes Tryd.prog 17 := goes_of Tryd.func17 rfl rfl
theorem gf18 : Goes Tryd.prog 18 := goes_of Tryd.func18 rfl rfl
theorem gf19 : Goes Tryd.prog 19 := goes_of Tryd.func19 rfl rfl
theorem gf20 : Goes Tryd.prog 20 := goes_of Tryd.func20 rfl rfl
theorem gf21 : Goes Tryd.prog 21 := goes_of Tryd.func21 rfl rfl
theorem gf22 : Goes Tryd.prog 22 := goes_of Tryd.func22 rfl rfl
theorem gf23 : Goes Tryd.prog 23 := goes_of Tryd.func23 rfl rfl
theorem gf24 : Goes Tryd.prog 24 := goes_of Tryd.func24 rfl rfl
theorem gf25 : Goes Tryd.prog 25 := goes_of Tryd.func25 rfl rfl
theorem gf26 : Goes Tryd.prog 26 := goes_of Tryd.func26 rfl rfl
theorem gf27 : Goes Tryd.prog 27 := goes_of Tryd.func27 rfl rfl
theorem gf28 : Goes Tryd.prog 28 := goes_of Tryd.func28 rfl rfl
theorem gf29 : Goes Tryd.prog 29 := goes_of Tryd.func29 rfl rfl
theorem gf30 : Goes Tryd.prog 30 := goes_of Tryd.func30 rfl rfl
theorem gf31 : Goes Tryd.prog 31 := goes_of Tryd.func31 rfl rfl
theorem gf32 : Goes Tryd.prog 32 := goes_of Tryd.func32 rfl rfl
theorem gf33 : Goes Tryd.prog 33 := goes_of Tryd.func33 rfl rfl
theorem gf34 : Goes Tryd.prog 34 := goes_of Tryd.func34 rfl rfl
theorem gf35 : Goes Tryd.prog 35 := goes_of Tryd.func35 rfl rfl
theorem gf36 : Goes Tryd.prog 36 := goes_of Tryd.func36 rfl rfl
theorem gf37 : Goes Tryd.prog 37 := goes_of Tryd.func37 rfl rfl
theorem gf38 : Goes Tryd.prog 38 := goes_of Tryd.func38 rfl rfl
theorem gf39 : Goes Tryd.prog 39 := goes_of Tryd.func39 rfl rfl
theorem gf40 : Goes Tryd.prog 40 := goes_of Tryd.func40 rfl rfl
theorem gf41 : Goes Tryd.prog 41 := goes_of Tryd.func41 rfl rfl
theorem gf42 : Goes Tryd.prog 42 := goes_of Tryd.func42 rfl rfl
theorem gf43 : Goes Tryd.prog 43 := goes_of Tryd.func43 rfl rfl
theorem gf44 : Goes Tryd.prog 44 := goes_of Tryd.func44 rfl rfl
theorem gf45 : Goes Tryd.prog 45 := goes_of Tryd.func45 rfl rfl
theorem gf46 : Goes Tryd.prog 46 := goes_of Tryd.func46 rfl rfl
theorem gf47 : Goes Tryd.prog 47 := goes_of Tryd.func47 rfl rfl
theorem gf48 : Goes Tryd.prog 48 := goes_of Tryd.func48 rfl rfl
theorem gf49 : Goes Tryd.prog 49 := goes_of Tryd.func49 rfl rfl
theorem gf50 : Goes Tryd.prog 50 := goes_of Tryd.func50 rfl rfl
theorem gf51 : Goes Tryd.prog 51 := goes_of Tryd.func51 rfl rfl
theorem gf52 : Goes Tryd.prog 52 := goes_of Tryd.func52 rfl rfl
theorem gf53 : Goes Tryd.prog 53 := goes_of Tryd.func53 rfl rfl
theorem gf54 : Goes Tryd.prog 54 := goes_of Tryd.func54 rfl rfl
theorem gf55 : Goes Tryd.prog 55 := goes_of Tryd.func55 rfl rfl
theorem gf56 : Goes Tryd.prog 56 := goes_of Tryd.func56 rfl rfl
theorem gf57 : Goes Tryd.prog 57 := goes_of Tryd.func57 rfl rfl
theorem gf58 : Goes Tryd.prog 58 := goes_of Tryd.func58 rfl rfl
theorem gf59 : Goes Tryd.prog 59 := goes_of Tryd.func59 rfl rfl
theorem gf60 : Goes Tryd.prog 60 := goes_of Tryd.func60 rfl rfl
theorem gf61 : Goes Tryd.prog 61 := goes_of Tryd.func61 rfl rfl
theorem gf62 : Goes Tryd.prog 62 := goes_of Tryd.func62 rfl rfl
theorem gf63 : Goes Tryd.prog 63 := goes_of Tryd.func63 rfl rfl
theorem gf64 : Goes Tryd.prog 64 := goes_of Tryd.func64 rfl rfl
theorem gf65 : Goes Tryd.prog 65 := goes_of Tryd.func65 rfl rfl
theorem gf66 : Goes Tryd.prog 66 := goes_of Tryd.func66 rfl rfl
theorem gf67 : Goes Tryd.prog 67 := goes_of Tryd.func67 rfl rfl
theorem gf68 : Goes Tryd.prog 68 := goes_of Tryd.func68 rfl rfl
theorem gf69 : Goes Tryd.prog 69 := goes_of Tryd.func69 rfl rfl
theorem gf70 : Goes Tryd.prog 70 := goes_of Tryd.func70 rfl rfl
theorem gf71 : Goes Tryd.prog 71 := goes_of Tryd.func71 rfl rfl
theorem gf72 : Goes Tryd.prog 72 := goes_of Tryd.func72 rfl rfl
theorem gf73 : Goes Tryd.prog 73 := goes_of Tryd.func73 rfl rfl
theorem gf74 : Goes Tryd.prog 74 := goes_of Tryd.func74 rfl rfl
theorem gf75 : Goes Tryd.prog 75 := goes_of Tryd.func75 rfl rfl
theorem gf76 : Goes Tryd.prog 76 := goes_of Tryd.func76 rfl rfl
theorem gf77 : Goes Tryd.prog 77 := goes_of Tryd.func77 rfl rfl
theorem gf78 : Goes Tryd.prog 78 := goes_of Tryd.func78 rfl rfl
theorem gf80 : Goes Tryd.prog 80 := goes_of Tryd.func80 rfl rfl
theorem gf81 : Goes Tryd.prog 81 := goes_of Tryd.func81 rfl rfl
theorem gf82 : Goes Tryd.prog 82 := goes_of Tryd.func82 rfl rfl
theorem gf83 : Goes Tryd.prog 83 := goes_of Tryd.func83 rfl rfl
theorem gf84 : Goes Tryd.prog 84 := goes_of Tryd.func84 rfl rfl
theorem gf85 : Goes Tryd.prog 85 := goes_of Tryd.func85 rfl rfl
theorem gf86 : Goes Tryd.prog 86 := goes_of Tryd.func86 rfl rfl
theorem gf87 : Goes Tryd.prog 87 := goes_of Tryd.func87 rfl rfl
theorem gf88 : Goes Tryd.prog 88 := goes_of Tryd.func88 rfl rfl
theorem gf89 : Goes Tryd.prog 89 := goes_of Tryd.func89 rfl rfl
theorem gf90 : Goes Tryd.prog 90 := goes_of Tryd.func90 rfl rfl
theorem gf91 : Goes Tryd.prog 91 := goes_of Tryd.func91 rfl rfl
theorem gf92 : Goes Tryd.prog 92 := goes_of Tryd.func92 rfl rfl
theorem gf118 : Goes Tryd.prog 118 := goes_of Tryd.func118 rfl rfl
end Go.Proofs.YtohmeplcjgmedaaDoor
