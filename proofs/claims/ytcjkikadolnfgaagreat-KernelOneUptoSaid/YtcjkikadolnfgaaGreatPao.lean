/- Texts of mine, joined: Tx Ba Bb Bc. -/
import Derived.Test.YtcjkikadolnfgaaGreatProg
import Derived.Test.YtcjkikadolnfgaaGreatPam
import Derived.KernelRfl
import Derived.Test.YtcjkikadolnfgaaGreatPan
/- What is told of this seat's types: printed by a program of mine, each entry checked by the kernel. -/
namespace Go.Proofs.YtcjkikadolnfgaaGreat
open Go.Vx Go.Vc
def tx : List (Nat × TY) := [(1, ⟨⟨.nilFunc, 1, 8, false, [], none, false, false⟩, .fn⟩),
  (2, ⟨⟨(.int .i64 0), 1, 8, false, [], none, false, false⟩, .int .i64⟩),
  (3, ⟨⟨(.int .i64 0), 1, 8, false, [], none, false, false⟩, .int .i64⟩),
  (4, ⟨⟨(.bool false), 1, 1, false, [], none, false, false⟩, .bool⟩),
  (5, ⟨⟨(.int .u8 0), 1, 1, false, [], none, false, false⟩, .int .u8⟩),
  (6, ⟨⟨(.int .u8 0), 1, 1, false, [], none, false, false⟩, .int .u8⟩),
  (7, ⟨⟨(.agg #[(.int .i64 0), (.int .i64 0), (.bool false), (.int .u8 0)]), 4, 24, true, [(0, 1), (1, 1), (2, 1), (3, 1)], none, false, false⟩, .other⟩),
  (8, ⟨⟨(.agg #[(.int .i64 0), (.int .i64 0), (.bool false), (.int .u8 0)]), 4, 24, true, [(0, 1), (1, 1), (2, 1), (3, 1)], none, false, false⟩, .other⟩),
  (9, ⟨⟨(.string ⟨#[]⟩), 1, 16, false, [], none, true, false⟩, .str⟩),
  (10, ⟨⟨(.string ⟨#[]⟩), 1, 16, false, [], none, true, false⟩, .str⟩),
  (11, ⟨⟨(.string ⟨#[]⟩), 1, 16, false, [], none, true, false⟩, .str⟩),
  (12, ⟨⟨(.int .u64 0), 1, 8, false, [], none, false, false⟩, .int .u64⟩),
  (13, ⟨⟨(.agg #[(.string ⟨#[]⟩), (.int .u64 0)]), 2, 24, true, [(0, 1), (1, 1)], none, false, false⟩, .other⟩),
  (14, ⟨⟨(.agg #[(.string ⟨#[]⟩), (.int .u64 0)]), 2, 24, true, [(0, 1), (1, 1)], none, false, false⟩, .other⟩),
  (15, ⟨⟨(.pointer none), 1, 8, false, [], none, false, false⟩, .ptr⟩),
  (16, ⟨⟨(.pointer none), 1, 8, false, [], none, false, false⟩, .ptr⟩),
  (17, ⟨⟨(.pointer none), 1, 8, false, [], none, false, false⟩, .ptr⟩),
  (18, ⟨⟨(.agg #[(.pointer none)]), 1, 8, true, [(0, 1)], none, false, false⟩, .other⟩),
  (19, ⟨⟨(.agg #[(.pointer none)]), 1, 8, true, [(0, 1)], none, false, false⟩, .other⟩),
  (20, ⟨⟨.nilIface, 1, 16, false, [], none, false, true⟩, .ifc⟩),
  (21, ⟨⟨(.int .i32 0), 1, 4, false, [], none, false, false⟩, .int .i32⟩),
  (22, ⟨⟨(.slice none 0 0), 1, 24, false, [], some 9, false, false⟩, .slice 9⟩),
  (23, ⟨⟨(.slice none 0 0), 1, 24, false, [], some 28, false, false⟩, .slice 28⟩),
  (24, ⟨⟨(.slice none 0 0), 1, 24, false, [], some 26, false, false⟩, .slice 26⟩),
  (25, ⟨⟨(.agg #[(.int .i64 0), (.int .i64 0), (.int .i64 0), (.string ⟨#[]⟩), (.slice none 0 0), (.slice none 0 0), (.slice none 0 0)]), 7, 112, true, [(0, 1), (1, 1), (2, 1), (3, 1), (4, 1), (5, 1), (6, 1)], none, false, false⟩, .other⟩),
  (26, ⟨⟨(.agg #[(.int .i64 0), (.int .i64 0), (.int .i64 0), (.string ⟨#[]⟩), (.slice none 0 0), (.slice none 0 0), (.slice none 0 0)]), 7, 112, true, [(0, 1), (1, 1), (2, 1), (3, 1), (4, 1), (5, 1), (6, 1)], none, false, false⟩, .other⟩),
  (27, ⟨⟨(.agg #[(.int .i64 0), (.int .i64 0), (.slice none 0 0), (.slice none 0 0)]), 4, 64, true, [(0, 1), (1, 1), (2, 1), (3, 1)], none, false, false⟩, .other⟩),
  (28, ⟨⟨(.agg #[(.int .i64 0), (.int .i64 0), (.slice none 0 0), (.slice none 0 0)]), 4, 64, true, [(0, 1), (1, 1), (2, 1), (3, 1)], none, false, false⟩, .other⟩),
  (29, ⟨⟨(.int .i64 0), 1, 8, false, [], none, false, false⟩, .int .i64⟩),
  (31, ⟨⟨.nilFunc, 1, 8, false, [], none, false, false⟩, .fn⟩),
  (32, ⟨⟨.nilFunc, 1, 8, false, [], none, false, false⟩, .fn⟩),
  (33, ⟨⟨.nilFunc, 1, 8, false, [], none, false, false⟩, .fn⟩),
  (34, ⟨⟨.nilFunc, 1, 8, false, [], none, false, false⟩, .fn⟩),
  (35, ⟨⟨.nilFunc, 1, 8, false, [], none, false, false⟩, .fn⟩),
  (36, ⟨⟨(.slice none 0 0), 1, 24, false, [], some 3, false, false⟩, .slice 3⟩),
  (37, ⟨⟨.nilFunc, 1, 8, false, [], none, false, false⟩, .fn⟩),
  (38, ⟨⟨.nilFunc, 1, 8, false, [], none, false, false⟩, .fn⟩),
  (39, ⟨⟨(.slice none 0 0), 1, 24, false, [], some 122, false, false⟩, .slice 122⟩),
  (40, ⟨⟨.nilFunc, 1, 8, false, [], none, false, false⟩, .fn⟩),
  (41, ⟨⟨.nilFunc, 1, 8, false, [], none, false, false⟩, .fn⟩),
  (42, ⟨⟨.nilFunc, 1, 8, false, [], none, false, false⟩, .fn⟩),
  (43, ⟨⟨.nilFunc, 1, 8, false, [], none, false, false⟩, .fn⟩),
  (44, ⟨⟨.nilFunc, 1, 8, false, [], none, false, false⟩, .fn⟩),
  (45, ⟨⟨.nilFunc, 1, 8, false, [], none, false, false⟩, .fn⟩),
  (46, ⟨⟨.nilFunc, 1, 8, false, [], none, false, false⟩, .fn⟩),
  (47, ⟨⟨.nilFunc, 1, 8, false, [], none, false, false⟩, .fn⟩),
  (48, ⟨⟨.nilFunc, 1, 8, false, [], none, false, false⟩, .fn⟩),
  (49, ⟨⟨.nilFunc, 1, 8, false, [], none, false, false⟩, .fn⟩),
  (50, ⟨⟨.nilFunc, 1, 8, false, [], none, false, false⟩, .fn⟩),
  (51, ⟨⟨.nilFunc, 1, 8, false, [], none, false, false⟩, .fn⟩),
  (52, ⟨⟨.nilFunc, 1, 8, false, [], none, false, false⟩, .fn⟩),
  (53, ⟨⟨.nilFunc, 1, 8, false, [], none, false, false⟩, .fn⟩),
  (54, ⟨⟨.nilFunc, 1, 8, false, [], none, false, false⟩, .fn⟩),
  (55, ⟨⟨.nilFunc, 1, 8, false, [], none, false, false⟩, .fn⟩),
  (56, ⟨⟨.nilFunc, 1, 8, false, [], none, false, false⟩, .fn⟩),
  (57, ⟨⟨.nilFunc, 1, 8, false, [], none, false, false⟩, .fn⟩),
  (58, ⟨⟨.nilFunc, 1, 8, false, [], none, false, false⟩, .fn⟩),
  (59, ⟨⟨.nilFunc, 1, 8, false, [], none, false, false⟩, .fn⟩),
  (60, ⟨⟨(.agg #[(.slice none 0 0), (.slice none 0 0)]), 2, 48, true, [(0, 1), (1, 1)], none, false, false⟩, .other⟩),
  (61, ⟨⟨(.agg #[(.slice none 0 0), (.slice none 0 0)]), 2, 48, true, [(0, 1), (1, 1)], none, false, false⟩, .other⟩),
  (62, ⟨⟨(.slice none 0 0), 1, 24, false, [], some 66, false, false⟩, .slice 66⟩),
  (63, ⟨⟨.nilFunc, 1, 8, false, [], none, false, false⟩, .fn⟩),
  (64, ⟨⟨.nilFunc, 1, 8, false, [], none, false, false⟩, .fn⟩),
  (65, ⟨⟨(.agg #[(.string ⟨#[]⟩), (.int .i64 0), (.int .i64 0), (.slice none 0 0), (.slice none 0 0)]), 5, 80, true, [(0, 1), (1, 4)], none, false, false⟩, .other⟩),
  (66, ⟨⟨(.agg #[(.string ⟨#[]⟩), (.int .i64 0), (.int .i64 0), (.slice none 0 0), (.slice none 0 0)]), 5, 80, true, [(0, 1), (1, 4)], none, false, false⟩, .other⟩),
  (67, ⟨⟨.nilFunc, 1, 8, false, [], none, false, false⟩, .fn⟩),
  (68, ⟨⟨.nilFunc, 1, 8, false, [], none, false, false⟩, .fn⟩),
  (69, ⟨⟨.nilFunc, 1, 8, false, [], none, false, false⟩, .fn⟩),
  (70, ⟨⟨(.agg #[(.slice none 0 0), (.slice none 0 0)]), 2, 48, true, [(0, 1), (1, 1)], none, false, false⟩, .other⟩),
  (71, ⟨⟨(.agg #[(.slice none 0 0), (.slice none 0 0)]), 2, 48, true, [(0, 1), (1, 1)], none, false, false⟩, .other⟩),
  (72, ⟨⟨.nilFunc, 1, 8, false, [], none, false, false⟩, .fn⟩),
  (73, ⟨⟨.nilFunc, 1, 8, false, [], none, false, false⟩, .fn⟩),
  (74, ⟨⟨(.agg #[(.slice none 0 0), (.slice none 0 0)]), 2, 48, true, [(0, 1), (1, 1)], none, false, false⟩, .other⟩),
  (75, ⟨⟨(.agg #[(.slice none 0 0), (.slice none 0 0)]), 2, 48, true, [(0, 1), (1, 1)], none, false, false⟩, .other⟩),
  (76, ⟨⟨.nilFunc, 1, 8, false, [], none, false, false⟩, .fn⟩),
  (77, ⟨⟨.nilFunc, 1, 8, false, [], none, false, false⟩, .fn⟩),
  (78, ⟨⟨.nilFunc, 1, 8, false, [], none, false, false⟩, .fn⟩),
  (79, ⟨⟨.nilFunc, 1, 8, false, [], none, false, false⟩, .fn⟩),
  (80, ⟨⟨.nilFunc, 1, 8, false, [], none, false, false⟩, .fn⟩),
  (81, ⟨⟨.nilFunc, 1, 8, false, [], none, false, false⟩, .fn⟩),
  (82, ⟨⟨.nilFunc, 1, 8, false, [], none, false, false⟩, .fn⟩),
  (83, ⟨⟨(.int .i64 0), 1, 8, false, [], none, false, false⟩, .int .i64⟩),
  (85, ⟨⟨.nilFunc, 1, 8, false, [], none, false, false⟩, .fn⟩),
  (86, ⟨⟨.nilFunc, 1, 8, false, [], none, false, false⟩, .fn⟩),
  (87, ⟨⟨.nilFunc, 1, 8, false, [], none, false, false⟩, .fn⟩),
  (88, ⟨⟨.nilFunc, 1, 8, false, [], none, false, false⟩, .fn⟩),
  (89, ⟨⟨(.pointer none), 1, 8, false, [], none, false, false⟩, .ptr⟩),
  (90, ⟨⟨(.agg #[(.slice none 0 0), (.slice none 0 0)]), 2, 48, true, [(0, 1), (1, 1)], none, false, false⟩, .other⟩),
  (91, ⟨⟨.nilFunc, 1, 8, false, [], none, false, false⟩, .fn⟩),
  (92, ⟨⟨.nilFunc, 1, 8, false, [], none, false, false⟩, .fn⟩),
  (93, ⟨⟨.nilFunc, 1, 8, false, [], none, false, false⟩, .fn⟩),
  (94, ⟨⟨.nilFunc, 1, 8, false, [], none, false, false⟩, .fn⟩),
  (95, ⟨⟨.nilFunc, 1, 8, false, [], none, false, false⟩, .fn⟩),
  (96, ⟨⟨.nilFunc, 1, 8, false, [], none, false, false⟩, .fn⟩),
  (97, ⟨⟨.nilFunc, 1, 8, false, [], none, false, false⟩, .fn⟩),
  (98, ⟨⟨.nilFunc, 1, 8, false, [], none, false, false⟩, .fn⟩),
  (99, ⟨⟨.nilFunc, 1, 8, false, [], none, false, false⟩, .fn⟩),
  (100, ⟨⟨.nilFunc, 1, 8, false, [], none, false, false⟩, .fn⟩),
  (101, ⟨⟨.nilFunc, 1, 8, false, [], none, false, false⟩, .fn⟩),
  (102, ⟨⟨(.agg #[.nilFunc, .nilFunc, .nilFunc, .nilFunc, .nilFunc, .nilFunc, .nilFunc, .nilFunc, .nilFunc, .nilFunc, .nilFunc, .nilFunc, .nilFunc, .nilFunc, .nilFunc, .nilFunc, .nilFunc, .nilFunc, .nilFunc, .nilFunc, .nilFunc, .nilFunc, .nilFunc, .nilFunc, .nilFunc, .nilFunc]), 26, 208, true, [], none, false, false⟩, .other⟩),
  (103, ⟨⟨.nilFunc, 1, 8, false, [], none, false, false⟩, .fn⟩),
  (104, ⟨⟨.nilFunc, 1, 8, false, [], none, false, false⟩, .fn⟩),
  (105, ⟨⟨.nilFunc, 1, 8, false, [], none, false, false⟩, .fn⟩),
  (106, ⟨⟨.nilFunc, 1, 8, false, [], none, false, false⟩, .fn⟩),
  (107, ⟨⟨.nilFunc, 1, 8, false, [], none, false, false⟩, .fn⟩),
  (108, ⟨⟨.nilFunc, 1, 8, false, [], none, false, false⟩, .fn⟩),
  (109, ⟨⟨.nilFunc, 1, 8, false, [], none, false, false⟩, .fn⟩),
  (110, ⟨⟨.nilFunc, 1, 8, false, [], none, false, false⟩, .fn⟩),
  (111, ⟨⟨.nilFunc, 1, 8, false, [], none, false, false⟩, .fn⟩),
  (112, ⟨⟨(.int .u64 0), 1, 8, false, [], none, false, false⟩, .int .u64⟩),
  (113, ⟨⟨.nilFunc, 1, 8, false, [], none, false, false⟩, .fn⟩),
  (114, ⟨⟨.nilFunc, 1, 8, false, [], none, false, false⟩, .fn⟩),
  (115, ⟨⟨.nilFunc, 1, 8, false, [], none, false, false⟩, .fn⟩),
  (116, ⟨⟨.nilFunc, 1, 8, false, [], none, false, false⟩, .fn⟩),
  (117, ⟨⟨.nilFunc, 1, 8, false, [], none, false, false⟩, .fn⟩),
  (118, ⟨⟨.nilFunc, 1, 8, false, [], none, false, false⟩, .fn⟩),
  (119, ⟨⟨.nilFunc, 1, 8, false, [], none, false, false⟩, .fn⟩),
  (120, ⟨⟨.nilFunc, 1, 8, false, [], none, false, false⟩, .fn⟩),
  (121, ⟨⟨.nilFunc, 1, 8, false, [], none, false, false⟩, .fn⟩),
  (122, ⟨⟨(.agg #[(.string ⟨#[]⟩), (.int .i64 0), (.int .i64 0), (.slice none 0 0), (.slice none 0 0)]), 5, 80, true, [(0, 1), (1, 4)], none, false, false⟩, .other⟩),
  (123, ⟨⟨.nilFunc, 1, 8, false, [], none, false, false⟩, .fn⟩),
  (125, ⟨⟨.nilFunc, 1, 8, false, [], none, false, false⟩, .fn⟩),
  (126, ⟨⟨.nilFunc, 1, 8, false, [], none, false, false⟩, .fn⟩),
  (127, ⟨⟨.nilFunc, 1, 8, false, [], none, false, false⟩, .fn⟩),
  (128, ⟨⟨.nilFunc, 1, 8, false, [], none, false, false⟩, .fn⟩),
  (129, ⟨⟨.nilFunc, 1, 8, false, [], none, false, false⟩, .fn⟩),
  (130, ⟨⟨.nilFunc, 1, 8, false, [], none, false, false⟩, .fn⟩),
  (131, ⟨⟨.nilFunc, 1, 8, false, [], none, false, false⟩, .fn⟩),
  (132, ⟨⟨(.int .i64 0), 1, 8, false, [], none, false, false⟩, .int .i64⟩),
  (134, ⟨⟨.nilFunc, 1, 8, false, [], none, false, false⟩, .fn⟩),
  (135, ⟨⟨.nilFunc, 1, 8, false, [], none, false, false⟩, .fn⟩),
  (136, ⟨⟨.nilFunc, 1, 8, false, [], none, false, false⟩, .fn⟩),
  (137, ⟨⟨.nilFunc, 1, 8, false, [], none, false, false⟩, .fn⟩),
  (139, ⟨⟨.nilFunc, 1, 8, false, [], none, false, false⟩, .fn⟩),
  (140, ⟨⟨.nilFunc, 1, 8, false, [], none, false, false⟩, .fn⟩),
  (141, ⟨⟨(.int .u32 0), 1, 4, false, [], none, false, false⟩, .int .u32⟩),
  (142, ⟨⟨.nilFunc, 1, 8, false, [], none, false, false⟩, .fn⟩),
  (143, ⟨⟨(.int .u64 0), 1, 8, false, [], none, false, false⟩, .int .u64⟩),
  (144, ⟨⟨.nilFunc, 1, 8, false, [], none, false, false⟩, .fn⟩),
  (145, ⟨⟨.nilFunc, 1, 8, false, [], none, false, false⟩, .fn⟩),
  (146, ⟨⟨(.agg #[(.bool false), (.bool false), (.bool false), (.int .i64 0), (.int .i64 0), (.int .i64 0)]), 6, 32, true, [(0, 1), (1, 1), (2, 1), (3, 1), (4, 1), (5, 1)], none, false, false⟩, .other⟩),
  (147, ⟨⟨(.agg #[(.bool false), (.bool false), (.bool false), (.int .i64 0), (.int .i64 0), (.int .i64 0)]), 6, 32, true, [(0, 1), (1, 1), (2, 1), (3, 1), (4, 1), (5, 1)], none, false, false⟩, .other⟩),
  (148, ⟨⟨(.agg #[(.bool false), (.bool false), (.bool false), (.int .i64 0), (.int .i64 0), (.int .i64 0), (.bool false), (.bool false), (.bool false), (.int .i64 0), (.int .i64 0), (.int .i64 0), (.bool false), (.bool false), (.bool false), (.int .i64 0), (.int .i64 0), (.int .i64 0), (.bool false), (.bool false), (.bool false), (.int .i64 0), (.int .i64 0), (.int .i64 0), (.bool false), (.bool false), (.bool false), (.int .i64 0), (.int .i64 0), (.int .i64 0), (.bool false), (.bool false), (.bool false), (.int .i64 0), (.int .i64 0), (.int .i64 0), (.bool false), (.bool false), (.bool false), (.int .i64 0), (.int .i64 0), (.int .i64 0), (.bool false), (.bool false), (.bool false), (.int .i64 0), (.int .i64 0), (.int .i64 0), (.bool false), (.bool false), (.bool false), (.int .i64 0), (.int .i64 0), (.int .i64 0), (.bool false), (.bool false), (.bool false), (.int .i64 0), (.int .i64 0), (.int .i64 0), (.bool false), (.bool false), (.bool false), (.int .i64 0), (.int .i64 0), (.int .i64 0), (.bool false), (.bool false), (.bool false), (.int .i64 0), (.int .i64 0), (.int .i64 0), (.bool false), (.bool false), (.bool false), (.int .i64 0), (.int .i64 0), (.int .i64 0), (.bool false), (.bool false), (.bool false), (.int .i64 0), (.int .i64 0), (.int .i64 0), (.bool false), (.bool false), (.bool false), (.int .i64 0), (.int .i64 0), (.int .i64 0), (.bool false), (.bool false), (.bool false), (.int .i64 0), (.int .i64 0), (.int .i64 0), (.bool false), (.bool false), (.bool false), (.int .i64 0), (.int .i64 0), (.int .i64 0), (.bool false), (.bool false), (.bool false), (.int .i64 0), (.int .i64 0), (.int .i64 0), (.bool false), (.bool false), (.bool false), (.int .i64 0), (.int .i64 0), (.int .i64 0), (.bool false), (.bool false), (.bool false), (.int .i64 0), (.int .i64 0), (.int .i64 0), (.bool false), (.bool false), (.bool false), (.int .i64 0), (.int .i64 0), (.int .i64 0), (.bool false), (.bool false), (.bool false), (.int .i64 0), (.int .i64 0), (.int .i64 0), (.bool false), (.bool false), (.bool false), (.int .i64 0), (.int .i64 0), (.int .i64 0), (.bool false), (.bool false), (.bool false), (.int .i64 0), (.int .i64 0), (.int .i64 0), (.bool false), (.bool false), (.bool false), (.int .i64 0), (.int .i64 0), (.int .i64 0), (.bool false), (.bool false), (.bool false), (.int .i64 0), (.int .i64 0), (.int .i64 0)]), 156, 832, true, [], none, false, false⟩, .other⟩),
  (149, ⟨⟨.nilFunc, 1, 8, false, [], none, false, false⟩, .fn⟩),
  (150, ⟨⟨.nilFunc, 1, 8, false, [], none, false, false⟩, .fn⟩),
  (151, ⟨⟨.nilFunc, 1, 8, false, [], none, false, false⟩, .fn⟩),
  (152, ⟨⟨.nilFunc, 1, 8, false, [], none, false, false⟩, .fn⟩),
  (153, ⟨⟨.nilFunc, 1, 8, false, [], none, false, false⟩, .fn⟩),
  (154, ⟨⟨.nilFunc, 1, 8, false, [], none, false, false⟩, .fn⟩),
  (155, ⟨⟨.nilFunc, 1, 8, false, [], none, false, false⟩, .fn⟩),
  (156, ⟨⟨.nilFunc, 1, 8, false, [], none, false, false⟩, .fn⟩),
  (157, ⟨⟨.nilFunc, 1, 8, false, [], none, false, false⟩, .fn⟩),
  (158, ⟨⟨.nilFunc, 1, 8, false, [], none, false, false⟩, .fn⟩),
  (160, ⟨⟨.nilFunc, 1, 8, false, [], none, false, false⟩, .fn⟩),
  (161, ⟨⟨.nilFunc, 1, 8, false, [], none, false, false⟩, .fn⟩),
  (162, ⟨⟨(.int .u64 0), 1, 8, false, [], none, false, false⟩, .int .u64⟩),
  (163, ⟨⟨.nilFunc, 1, 8, false, [], none, false, false⟩, .fn⟩),
  (164, ⟨⟨.nilFunc, 1, 8, false, [], none, false, false⟩, .fn⟩),
  (165, ⟨⟨.nilFunc, 1, 8, false, [], none, false, false⟩, .fn⟩),
  (166, ⟨⟨(.pointer none), 1, 8, false, [], none, false, false⟩, .ptr⟩),
  (167, ⟨⟨.nilFunc, 1, 8, false, [], none, false, false⟩, .fn⟩),
  (168, ⟨⟨.nilFunc, 1, 8, false, [], none, false, false⟩, .fn⟩),
  (169, ⟨⟨(.slice none 0 0), 1, 24, false, [], some 36, false, false⟩, .slice 36⟩),
  (170, ⟨⟨.nilFunc, 1, 8, false, [], none, false, false⟩, .fn⟩),
  (171, ⟨⟨.nilFunc, 1, 8, false, [], none, false, false⟩, .fn⟩),
  (172, ⟨⟨(.pointer none), 1, 8, false, [], none, false, false⟩, .ptr⟩),
  (174, ⟨⟨.nilFunc, 1, 8, false, [], none, false, false⟩, .fn⟩),
  (175, ⟨⟨.nilFunc, 1, 8, false, [], none, false, false⟩, .fn⟩),
  (176, ⟨⟨.nilFunc, 1, 8, false, [], none, false, false⟩, .fn⟩),
  (177, ⟨⟨(.agg #[(.pointer none), (.pointer none), (.pointer none), (.string ⟨#[]⟩)]), 4, 40, true, [(0, 1), (1, 1), (2, 1), (3, 1)], none, false, false⟩, .other⟩),
  (178, ⟨⟨(.agg #[(.pointer none), (.pointer none), (.pointer none), (.string ⟨#[]⟩)]), 4, 40, true, [(0, 1), (1, 1), (2, 1), (3, 1)], none, false, false⟩, .other⟩),
  (182, ⟨⟨.nilFunc, 1, 8, false, [], none, false, false⟩, .fn⟩),
  (183, ⟨⟨(.int .u8 0), 1, 1, false, [], none, false, false⟩, .int .u8⟩),
  (184, ⟨⟨(.int .u8 0), 1, 1, false, [], none, false, false⟩, .int .u8⟩),
  (185, ⟨⟨.nilFunc, 1, 8, false, [], none, false, false⟩, .fn⟩),
  (186, ⟨⟨(.pointer none), 1, 8, false, [], none, false, false⟩, .ptr⟩),
  (187, ⟨⟨(.int .i32 0), 1, 4, false, [], none, false, false⟩, .int .i32⟩),
  (188, ⟨⟨(.int .i32 0), 1, 4, false, [], none, false, false⟩, .int .i32⟩),
  (189, ⟨⟨(.agg #[(.int .u64 0), (.int .u64 0), (.int .u32 0), (.int .u8 0), (.int .u8 0), (.int .u8 0), (.int .u8 0), .nilFunc, (.pointer none), (.int .i32 0), (.int .i32 0)]), 11, 48, true, [(0, 1), (1, 1), (2, 1), (3, 1), (4, 1), (5, 1), (6, 1), (7, 1), (8, 1), (9, 1), (10, 1)], none, false, false⟩, .other⟩),
  (190, ⟨⟨(.agg #[(.int .u64 0), (.int .u64 0), (.int .u32 0), (.int .u8 0), (.int .u8 0), (.int .u8 0), (.int .u8 0), .nilFunc, (.pointer none), (.int .i32 0), (.int .i32 0)]), 11, 48, true, [(0, 1), (1, 1), (2, 1), (3, 1), (4, 1), (5, 1), (6, 1), (7, 1), (8, 1), (9, 1), (10, 1)], none, false, false⟩, .other⟩),
  (191, ⟨⟨.nilFunc, 1, 8, false, [], none, false, false⟩, .fn⟩)]
theorem tx1 : TYok Tryz.prog 1 ⟨⟨.nilFunc, 1, 8, false, [], none, false, false⟩, .fn⟩ := ⟨⟨by kernel_rfl, by kernel_rfl⟩, by kernel_rfl⟩
theorem tx2 : TYok Tryz.prog 2 ⟨⟨(.int .i64 0), 1, 8, false, [], none, false, false⟩, .int .i64⟩ := ⟨⟨by kernel_rfl, by kernel_rfl⟩, by kernel_rfl⟩
theorem tx3 : TYok Tryz.prog 3 ⟨⟨(.int .i64 0), 1, 8, false, [], none, false, false⟩, .int .i64⟩ := ⟨⟨by kernel_rfl, by kernel_rfl⟩, by kernel_rfl⟩
theorem tx4 : TYok Tryz.prog 4 ⟨⟨(.bool false), 1, 1, false, [], none, false, false⟩, .bool⟩ := ⟨⟨by kernel_rfl, by kernel_rfl⟩, by kernel_rfl⟩
theorem tx5 : TYok Tryz.prog 5 ⟨⟨(.int .u8 0), 1, 1, false, [], none, false, false⟩, .int .u8⟩ := ⟨⟨by kernel_rfl, by kernel_rfl⟩, by kernel_rfl⟩
theorem tx6 : TYok Tryz.prog 6 ⟨⟨(.int .u8 0), 1, 1, false, [], none, false, false⟩, .int .u8⟩ := ⟨⟨by kernel_rfl, by kernel_rfl⟩, by kernel_rfl⟩
theorem tx7 : TYok Tryz.prog 7 ⟨⟨(.agg #[(.int .i64 0), (.int .i64 0), (.bool false), (.int .u8 0)]), 4, 24, true, [(0, 1), (1, 1), (2, 1), (3, 1)], none, false, false⟩, .other⟩ := ⟨⟨by kernel_rfl, by kernel_rfl⟩, by kernel_rfl⟩
theorem tx8 : TYok Tryz.prog 8 ⟨⟨(.agg #[(.int .i64 0), (.int .i64 0), (.bool false), (.int .u8 0)]), 4, 24, true, [(0, 1), (1, 1), (2, 1), (3, 1)], none, false, false⟩, .other⟩ := ⟨⟨by kernel_rfl, by kernel_rfl⟩, by kernel_rfl⟩
theorem tx9 : TYok Tryz.prog 9 ⟨⟨(.string ⟨#[]⟩), 1, 16, false, [], none, true, false⟩, .str⟩ := ⟨⟨by kernel_rfl, by kernel_rfl⟩, by kernel_rfl⟩
theorem tx10 : TYok Tryz.prog 10 ⟨⟨(.string ⟨#[]⟩), 1, 16, false, [], none, true, false⟩, .str⟩ := ⟨⟨by kernel_rfl, by kernel_rfl⟩, by kernel_rfl⟩
theorem tx11 : TYok Tryz.prog 11 ⟨⟨(.string ⟨#[]⟩), 1, 16, false, [], none, true, false⟩, .str⟩ := ⟨⟨by kernel_rfl, by kernel_rfl⟩, by kernel_rfl⟩
theorem tx12 : TYok Tryz.prog 12 ⟨⟨(.int .u64 0), 1, 8, false, [], none, false, false⟩, .int .u64⟩ := ⟨⟨by kernel_rfl, by kernel_rfl⟩, by kernel_rfl⟩
theorem tx13 : TYok Tryz.prog 13 ⟨⟨(.agg #[(.string ⟨#[]⟩), (.int .u64 0)]), 2, 24, true, [(0, 1), (1, 1)], none, false, false⟩, .other⟩ := ⟨⟨by kernel_rfl, by kernel_rfl⟩, by kernel_rfl⟩
theorem tx14 : TYok Tryz.prog 14 ⟨⟨(.agg #[(.string ⟨#[]⟩), (.int .u64 0)]), 2, 24, true, [(0, 1), (1, 1)], none, false, false⟩, .other⟩ := ⟨⟨by kernel_rfl, by kernel_rfl⟩, by kernel_rfl⟩
theorem tx15 : TYok Tryz.prog 15 ⟨⟨(.pointer none), 1, 8, false, [], none, false, false⟩, .ptr⟩ := ⟨⟨by kernel_rfl, by kernel_rfl⟩, by kernel_rfl⟩
theorem tx16 : TYok Tryz.prog 16 ⟨⟨(.pointer none), 1, 8, false, [], none, false, false⟩, .ptr⟩ := ⟨⟨by kernel_rfl, by kernel_rfl⟩, by kernel_rfl⟩
theorem tx17 : TYok Tryz.prog 17 ⟨⟨(.pointer none), 1, 8, false, [], none, false, false⟩, .ptr⟩ := ⟨⟨by kernel_rfl, by kernel_rfl⟩, by kernel_rfl⟩
theorem tx18 : TYok Tryz.prog 18 ⟨⟨(.agg #[(.pointer none)]), 1, 8, true, [(0, 1)], none, false, false⟩, .other⟩ := ⟨⟨by kernel_rfl, by kernel_rfl⟩, by kernel_rfl⟩
theorem tx19 : TYok Tryz.prog 19 ⟨⟨(.agg #[(.pointer none)]), 1, 8, true, [(0, 1)], none, false, false⟩, .other⟩ := ⟨⟨by kernel_rfl, by kernel_rfl⟩, by kernel_rfl⟩
theorem tx20 : TYok Tryz.prog 20 ⟨⟨.nilIface, 1, 16, false, [], none, false, true⟩, .ifc⟩ := ⟨⟨by kernel_rfl, by kernel_rfl⟩, by kernel_rfl⟩
theorem tx21 : TYok Tryz.prog 21 ⟨⟨(.int .i32 0), 1, 4, false, [], none, false, false⟩, .int .i32⟩ := ⟨⟨by kernel_rfl, by kernel_rfl⟩, by kernel_rfl⟩
theorem tx22 : TYok Tryz.prog 22 ⟨⟨(.slice none 0 0), 1, 24, false, [], some 9, false, false⟩, .slice 9⟩ := ⟨⟨by kernel_rfl, by kernel_rfl⟩, by kernel_rfl⟩
theorem tx23 : TYok Tryz.prog 23 ⟨⟨(.slice none 0 0), 1, 24, false, [], some 28, false, false⟩, .slice 28⟩ := ⟨⟨by kernel_rfl, by kernel_rfl⟩, by kernel_rfl⟩
theorem tx24 : TYok Tryz.prog 24 ⟨⟨(.slice none 0 0), 1, 24, false, [], some 26, false, false⟩, .slice 26⟩ := ⟨⟨by kernel_rfl, by kernel_rfl⟩, by kernel_rfl⟩
theorem tx25 : TYok Tryz.prog 25 ⟨⟨(.agg #[(.int .i64 0), (.int .i64 0), (.int .i64 0), (.string ⟨#[]⟩), (.slice none 0 0), (.slice none 0 0), (.slice none 0 0)]), 7, 112, true, [(0, 1), (1, 1), (2, 1), (3, 1), (4, 1), (5, 1), (6, 1)], none, false, false⟩, .other⟩ := ⟨⟨by kernel_rfl, by kernel_rfl⟩, by kernel_rfl⟩
theorem tx26 : TYok Tryz.prog 26 ⟨⟨(.agg #[(.int .i64 0), (.int .i64 0), (.int .i64 0), (.string ⟨#[]⟩), (.slice none 0 0), (.slice none 0 0), (.slice none 0 0)]), 7, 112, true, [(0, 1), (1, 1), (2, 1), (3, 1), (4, 1), (5, 1), (6, 1)], none, false, false⟩, .other⟩ := ⟨⟨by kernel_rfl, by kernel_rfl⟩, by kernel_rfl⟩
theorem tx27 : TYok Tryz.prog 27 ⟨⟨(.agg #[(.int .i64 0), (.int .i64 0), (.slice none 0 0), (.slice none 0 0)]), 4, 64, true, [(0, 1), (1, 1), (2, 1), (3, 1)], none, false, false⟩, .other⟩ := ⟨⟨by kernel_rfl, by kernel_rfl⟩, by kernel_rfl⟩
theorem tx28 : TYok Tryz.prog 28 ⟨⟨(.agg #[(.int .i64 0), (.int .i64 0), (.slice none 0 0), (.slice none 0 0)]), 4, 64, true, [(0, 1), (1, 1), (2, 1), (3, 1)], none, false, false⟩, .other⟩ := ⟨⟨by kernel_rfl, by kernel_rfl⟩, by kernel_rfl⟩
theorem tx29 : TYok Tryz.prog 29 ⟨⟨(.int .i64 0), 1, 8, false, [], none, false, false⟩, .int .i64⟩ := ⟨⟨by kernel_rfl, by kernel_rfl⟩, by kernel_rfl⟩
theorem tx31 : TYok Tryz.prog 31 ⟨⟨.nilFunc, 1, 8, false, [], none, false, false⟩, .fn⟩ := ⟨⟨by kernel_rfl, by kernel_rfl⟩, by kernel_rfl⟩
theorem tx32 : TYok Tryz.prog 32 ⟨⟨.nilFunc, 1, 8, false, [], none, false, false⟩, .fn⟩ := ⟨⟨by kernel_rfl, by kernel_rfl⟩, by kernel_rfl⟩
theorem tx33 : TYok Tryz.prog 33 ⟨⟨.nilFunc, 1, 8, false, [], none, false, false⟩, .fn⟩ := ⟨⟨by kernel_rfl, by kernel_rfl⟩, by kernel_rfl⟩
theorem tx34 : TYok Tryz.prog 34 ⟨⟨.nilFunc, 1, 8, false, [], none, false, false⟩, .fn⟩ := ⟨⟨by kernel_rfl, by kernel_rfl⟩, by kernel_rfl⟩
theorem tx35 : TYok Tryz.prog 35 ⟨⟨.nilFunc, 1, 8, false, [], none, false, false⟩, .fn⟩ := ⟨⟨by kernel_rfl, by kernel_rfl⟩, by kernel_rfl⟩
theorem tx36 : TYok Tryz.prog 36 ⟨⟨(.slice none 0 0), 1, 24, false, [], some 3, false, false⟩, .slice 3⟩ := ⟨⟨by kernel_rfl, by kernel_rfl⟩, by kernel_rfl⟩
theorem tx37 : TYok Tryz.prog 37 ⟨⟨.nilFunc, 1, 8, false, [], none, false, false⟩, .fn⟩ := ⟨⟨by kernel_rfl, by kernel_rfl⟩, by kernel_rfl⟩
theorem tx38 : TYok Tryz.prog 38 ⟨⟨.nilFunc, 1, 8, false, [], none, false, false⟩, .fn⟩ := ⟨⟨by kernel_rfl, by kernel_rfl⟩, by kernel_rfl⟩
theorem tx39 : TYok Tryz.prog 39 ⟨⟨(.slice none 0 0), 1, 24, false, [], some 122, false, false⟩, .slice 122⟩ := ⟨⟨by kernel_rfl, by kernel_rfl⟩, by kernel_rfl⟩
theorem tx40 : TYok Tryz.prog 40 ⟨⟨.nilFunc, 1, 8, false, [], none, false, false⟩, .fn⟩ := ⟨⟨by kernel_rfl, by kernel_rfl⟩, by kernel_rfl⟩
theorem tx41 : TYok Tryz.prog 41 ⟨⟨.nilFunc, 1, 8, false, [], none, false, false⟩, .fn⟩ := ⟨⟨by kernel_rfl, by kernel_rfl⟩, by kernel_rfl⟩
theorem tx42 : TYok Tryz.prog 42 ⟨⟨.nilFunc, 1, 8, false, [], none, false, false⟩, .fn⟩ := ⟨⟨by kernel_rfl, by kernel_rfl⟩, by kernel_rfl⟩
theorem tx43 : TYok Tryz.prog 43 ⟨⟨.nilFunc, 1, 8, false, [], none, false, false⟩, .fn⟩ := ⟨⟨by kernel_rfl, by kernel_rfl⟩, by kernel_rfl⟩
theorem tx44 : TYok Tryz.prog 44 ⟨⟨.nilFunc, 1, 8, false, [], none, false, false⟩, .fn⟩ := ⟨⟨by kernel_rfl, by kernel_rfl⟩, by kernel_rfl⟩
theorem tx45 : TYok Tryz.prog 45 ⟨⟨.nilFunc, 1, 8, false, [], none, false, false⟩, .fn⟩ := ⟨⟨by kernel_rfl, by kernel_rfl⟩, by kernel_rfl⟩
theorem tx46 : TYok Tryz.prog 46 ⟨⟨.nilFunc, 1, 8, false, [], none, false, false⟩, .fn⟩ := ⟨⟨by kernel_rfl, by kernel_rfl⟩, by kernel_rfl⟩
theorem tx47 : TYok Tryz.prog 47 ⟨⟨.nilFunc, 1, 8, false, [], none, false, false⟩, .fn⟩ := ⟨⟨by kernel_rfl, by kernel_rfl⟩, by kernel_rfl⟩
theorem tx48 : TYok Tryz.prog 48 ⟨⟨.nilFunc, 1, 8, false, [], none, false, false⟩, .fn⟩ := ⟨⟨by kernel_rfl, by kernel_rfl⟩, by kernel_rfl⟩
theorem tx49 : TYok Tryz.prog 49 ⟨⟨.nilFunc, 1, 8, false, [], none, false, false⟩, .fn⟩ := ⟨⟨by kernel_rfl, by kernel_rfl⟩, by kernel_rfl⟩
theorem tx50 : TYok Tryz.prog 50 ⟨⟨.nilFunc, 1, 8, false, [], none, false, false⟩, .fn⟩ := ⟨⟨by kernel_rfl, by kernel_rfl⟩, by kernel_rfl⟩
theorem tx51 : TYok Tryz.prog 51 ⟨⟨.nilFunc, 1, 8, false, [], none, false, false⟩, .fn⟩ := ⟨⟨by kernel_rfl, by kernel_rfl⟩, by kernel_rfl⟩
theorem tx52 : TYok Tryz.prog 52 ⟨⟨.nilFunc, 1, 8, false, [], none, false, false⟩, .fn⟩ := ⟨⟨by kernel_rfl, by kernel_rfl⟩, by kernel_rfl⟩
theorem tx53 : TYok Tryz.prog 53 ⟨⟨.nilFunc, 1, 8, false, [], none, false, false⟩, .fn⟩ := ⟨⟨by kernel_rfl, by kernel_rfl⟩, by kernel_rfl⟩
theorem tx54 : TYok Tryz.prog 54 ⟨⟨.nilFunc, 1, 8, false, [], none, false, false⟩, .fn⟩ := ⟨⟨by kernel_rfl, by kernel_rfl⟩, by kernel_rfl⟩
theorem tx55 : TYok Tryz.prog 55 ⟨⟨.nilFunc, 1, 8, false, [], none, false, false⟩, .fn⟩ := ⟨⟨by kernel_rfl, by kernel_rfl⟩, by kernel_rfl⟩
theorem tx56 : TYok Tryz.prog 56 ⟨⟨.nilFunc, 1, 8, false, [], none, false, false⟩, .fn⟩ := ⟨⟨by kernel_rfl, by kernel_rfl⟩, by kernel_rfl⟩
theorem tx57 : TYok Tryz.prog 57 ⟨⟨.nilFunc, 1, 8, false, [], none, false, false⟩, .fn⟩ := ⟨⟨by kernel_rfl, by kernel_rfl⟩, by kernel_rfl⟩
theorem tx58 : TYok Tryz.prog 58 ⟨⟨.nilFunc, 1, 8, false, [], none, false, false⟩, .fn⟩ := ⟨⟨by kernel_rfl, by kernel_rfl⟩, by kernel_rfl⟩
theorem tx59 : TYok Tryz.prog 59 ⟨⟨.nilFunc, 1, 8, false, [], none, false, false⟩, .fn⟩ := ⟨⟨by kernel_rfl, by kernel_rfl⟩, by kernel_rfl⟩
theorem tx60 : TYok Tryz.prog 60 ⟨⟨(.agg #[(.slice none 0 0), (.slice none 0 0)]), 2, 48, true, [(0, 1), (1, 1)], none, false, false⟩, .other⟩ := ⟨⟨by kernel_rfl, by kernel_rfl⟩, by kernel_rfl⟩
theorem tx61 : TYok Tryz.prog 61 ⟨⟨(.agg #[(.slice none 0 0), (.slice none 0 0)]), 2, 48, true, [(0, 1), (1, 1)], none, false, false⟩, .other⟩ := ⟨⟨by kernel_rfl, by kernel_rfl⟩, by kernel_rfl⟩
theorem tx62 : TYok Tryz.prog 62 ⟨⟨(.slice none 0 0), 1, 24, false, [], some 66, false, false⟩, .slice 66⟩ := ⟨⟨by kernel_rfl, by kernel_rfl⟩, by kernel_rfl⟩
theorem tx63 : TYok Tryz.prog 63 ⟨⟨.nilFunc, 1, 8, false, [], none, false, false⟩, .fn⟩ := ⟨⟨by kernel_rfl, by kernel_rfl⟩, by kernel_rfl⟩
theorem tx64 : TYok Tryz.prog 64 ⟨⟨.nilFunc, 1, 8, false, [], none, false, false⟩, .fn⟩ := ⟨⟨by kernel_rfl, by kernel_rfl⟩, by kernel_rfl⟩
theorem tx65 : TYok Tryz.prog 65 ⟨⟨(.agg #[(.string ⟨#[]⟩), (.int .i64 0), (.int .i64 0), (.slice none 0 0), (.slice none 0 0)]), 5, 80, true, [(0, 1), (1, 4)], none, false, false⟩, .other⟩ := ⟨⟨by kernel_rfl, by kernel_rfl⟩, by kernel_rfl⟩
theorem tx66 : TYok Tryz.prog 66 ⟨⟨(.agg #[(.string ⟨#[]⟩), (.int .i64 0), (.int .i64 0), (.slice none 0 0), (.slice none 0 0)]), 5, 80, true, [(0, 1), (1, 4)], none, false, false⟩, .other⟩ := ⟨⟨by kernel_rfl, by kernel_rfl⟩, by kernel_rfl⟩
theorem tx67 : TYok Tryz.prog 67 ⟨⟨.nilFunc, 1, 8, false, [], none, false, false⟩, .fn⟩ := ⟨⟨by kernel_rfl, by kernel_rfl⟩, by kernel_rfl⟩
theorem tx68 : TYok Tryz.prog 68 ⟨⟨.nilFunc, 1, 8, false, [], none, false, false⟩, .fn⟩ := ⟨⟨by kernel_rfl, by kernel_rfl⟩, by kernel_rfl⟩
theorem tx69 : TYok Tryz.prog 69 ⟨⟨.nilFunc, 1, 8, false, [], none, false, false⟩, .fn⟩ := ⟨⟨by kernel_rfl, by kernel_rfl⟩, by kernel_rfl⟩
theorem tx70 : TYok Tryz.prog 70 ⟨⟨(.agg #[(.slice none 0 0), (.slice none 0 0)]), 2, 48, true, [(0, 1), (1, 1)], none, false, false⟩, .other⟩ := ⟨⟨by kernel_rfl, by kernel_rfl⟩, by kernel_rfl⟩
theorem tx71 : TYok Tryz.prog 71 ⟨⟨(.agg #[(.slice none 0 0), (.slice none 0 0)]), 2, 48, true, [(0, 1), (1, 1)], none, false, false⟩, .other⟩ := ⟨⟨by kernel_rfl, by kernel_rfl⟩, by kernel_rfl⟩
theorem tx72 : TYok Tryz.prog 72 ⟨⟨.nilFunc, 1, 8, false, [], none, false, false⟩, .fn⟩ := ⟨⟨by kernel_rfl, by kernel_rfl⟩, by kernel_rfl⟩
theorem tx73 : TYok Tryz.prog 73 ⟨⟨.nilFunc, 1, 8, false, [], none, false, false⟩, .fn⟩ := ⟨⟨by kernel_rfl, by kernel_rfl⟩, by kernel_rfl⟩
theorem tx74 : TYok Tryz.prog 74 ⟨⟨(.agg #[(.slice none 0 0), (.slice none 0 0)]), 2, 48, true, [(0, 1), (1, 1)], none, false, false⟩, .other⟩ := ⟨⟨by kernel_rfl, by kernel_rfl⟩, by kernel_rfl⟩
theorem tx75 : TYok Tryz.prog 75 ⟨⟨(.agg #[(.slice none 0 0), (.slice none 0 0)]), 2, 48, true, [(0, 1), (1, 1)], none, false, false⟩, .other⟩ := ⟨⟨by kernel_rfl, by kernel_rfl⟩, by kernel_rfl⟩
theorem tx76 : TYok Tryz.prog 76 ⟨⟨.nilFunc, 1, 8, false, [], none, false, false⟩, .fn⟩ := ⟨⟨by kernel_rfl, by kernel_rfl⟩, by kernel_rfl⟩
theorem tx77 : TYok Tryz.prog 77 ⟨⟨.nilFunc, 1, 8, false, [], none, false, false⟩, .fn⟩ := ⟨⟨by kernel_rfl, by kernel_rfl⟩, by kernel_rfl⟩
theorem tx78 : TYok Tryz.prog 78 ⟨⟨.nilFunc, 1, 8, false, [], none, false, false⟩, .fn⟩ := ⟨⟨by kernel_rfl, by kernel_rfl⟩, by kernel_rfl⟩
theorem tx79 : TYok Tryz.prog 79 ⟨⟨.nilFunc, 1, 8, false, [], none, false, false⟩, .fn⟩ := ⟨⟨by kernel_rfl, by kernel_rfl⟩, by kernel_rfl⟩
theorem tx80 : TYok Tryz.prog 80 ⟨⟨.nilFunc, 1, 8, false, [], none, false, false⟩, .fn⟩ := ⟨⟨by kernel_rfl, by kernel_rfl⟩, by kernel_rfl⟩
theorem tx81 : TYok Tryz.prog 81 ⟨⟨.nilFunc, 1, 8, false, [], none, false, false⟩, .fn⟩ := ⟨⟨by kernel_rfl, by kernel_rfl⟩, by kernel_rfl⟩
theorem tx82 : TYok Tryz.prog 82 ⟨⟨.nilFunc, 1, 8, false, [], none, false, false⟩, .fn⟩ := ⟨⟨by kernel_rfl, by kernel_rfl⟩, by kernel_rfl⟩
theorem tx83 : TYok Tryz.prog 83 ⟨⟨(.int .i64 0), 1, 8, false, [], none, false, false⟩, .int .i64⟩ := ⟨⟨by kernel_rfl, by kernel_rfl⟩, by kernel_rfl⟩
theorem tx85 : TYok Tryz.prog 85 ⟨⟨.nilFunc, 1, 8, false, [], none, false, false⟩, .fn⟩ := ⟨⟨by kernel_rfl, by kernel_rfl⟩, by kernel_rfl⟩
theorem tx86 : TYok Tryz.prog 86 ⟨⟨.nilFunc, 1, 8, false, [], none, false, false⟩, .fn⟩ := ⟨⟨by kernel_rfl, by kernel_rfl⟩, by kernel_rfl⟩
theorem tx87 : TYok Tryz.prog 87 ⟨⟨.nilFunc, 1, 8, false, [], none, false, false⟩, .fn⟩ := ⟨⟨by kernel_rfl, by kernel_rfl⟩, by kernel_rfl⟩
theorem tx88 : TYok Tryz.prog 88 ⟨⟨.nilFunc, 1, 8, false, [], none, false, false⟩, .fn⟩ := ⟨⟨by kernel_rfl, by kernel_rfl⟩, by kernel_rfl⟩
theorem tx89 : TYok Tryz.prog 89 ⟨⟨(.pointer none), 1, 8, false, [], none, false, false⟩, .ptr⟩ := ⟨⟨by kernel_rfl, by kernel_rfl⟩, by kernel_rfl⟩
theorem tx90 : TYok Tryz.prog 90 ⟨⟨(.agg #[(.slice none 0 0), (.slice none 0 0)]), 2, 48, true, [(0, 1), (1, 1)], none, false, false⟩, .other⟩ := ⟨⟨by kernel_rfl, by kernel_rfl⟩, by kernel_rfl⟩
theorem tx91 : TYok Tryz.prog 91 ⟨⟨.nilFunc, 1, 8, false, [], none, false, false⟩, .fn⟩ := ⟨⟨by kernel_rfl, by kernel_rfl⟩, by kernel_rfl⟩
theorem tx92 : TYok Tryz.prog 92 ⟨⟨.nilFunc, 1, 8, false, [], none, false, false⟩, .fn⟩ := ⟨⟨by kernel_rfl, by kernel_rfl⟩, by kernel_rfl⟩
theorem tx93 : TYok Tryz.prog 93 ⟨⟨.nilFunc, 1, 8, false, [], none, false, false⟩, .fn⟩ := ⟨⟨by kernel_rfl, by kernel_rfl⟩, by kernel_rfl⟩
theorem tx94 : TYok Tryz.prog 94 ⟨⟨.nilFunc, 1, 8, false, [], none, false, false⟩, .fn⟩ := ⟨⟨by kernel_rfl, by kernel_rfl⟩, by kernel_rfl⟩
theorem tx95 : TYok Tryz.prog 95 ⟨⟨.nilFunc, 1, 8, false, [], none, false, false⟩, .fn⟩ := ⟨⟨by kernel_rfl, by kernel_rfl⟩, by kernel_rfl⟩
theorem tx96 : TYok Tryz.prog 96 ⟨⟨.nilFunc, 1, 8, false, [], none, false, false⟩, .fn⟩ := ⟨⟨by kernel_rfl, by kernel_rfl⟩, by kernel_rfl⟩
theorem tx97 : TYok Tryz.prog 97 ⟨⟨.nilFunc, 1, 8, false, [], none, false, false⟩, .fn⟩ := ⟨⟨by kernel_rfl, by kernel_rfl⟩, by kernel_rfl⟩
theorem tx98 : TYok Tryz.prog 98 ⟨⟨.nilFunc, 1, 8, false, [], none, false, false⟩, .fn⟩ := ⟨⟨by kernel_rfl, by kernel_rfl⟩, by kernel_rfl⟩
theorem tx99 : TYok Tryz.prog 99 ⟨⟨.nilFunc, 1, 8, false, [], none, false, false⟩, .fn⟩ := ⟨⟨by kernel_rfl, by kernel_rfl⟩, by kernel_rfl⟩
theorem tx100 : TYok Tryz.prog 100 ⟨⟨.nilFunc, 1, 8, false, [], none, false, false⟩, .fn⟩ := ⟨⟨by kernel_rfl, by kernel_rfl⟩, by kernel_rfl⟩
theorem tx101 : TYok Tryz.prog 101 ⟨⟨.nilFunc, 1, 8, false, [], none, false, false⟩, .fn⟩ := ⟨⟨by kernel_rfl, by kernel_rfl⟩, by kernel_rfl⟩
theorem tx102 : TYok Tryz.prog 102 ⟨⟨(.agg #[.nilFunc, .nilFunc, .nilFunc, .nilFunc, .nilFunc, .nilFunc, .nilFunc, .nilFunc, .nilFunc, .nilFunc, .nilFunc, .nilFunc, .nilFunc, .nilFunc, .nilFunc, .nilFunc, .nilFunc, .nilFunc, .nilFunc, .nilFunc, .nilFunc, .nilFunc, .nilFunc, .nilFunc, .nilFunc, .nilFunc]), 26, 208, true, [], none, false, false⟩, .other⟩ := ⟨⟨by kernel_rfl, by kernel_rfl⟩, by kernel_rfl⟩
theorem tx103 : TYok Tryz.prog 103 ⟨⟨.nilFunc, 1, 8, false, [], none, false, false⟩, .fn⟩ := ⟨⟨by kernel_rfl, by kernel_rfl⟩, by kernel_rfl⟩
theorem tx104 : TYok Tryz.prog 104 ⟨⟨.nilFunc, 1, 8, false, [], none, false, false⟩, .fn⟩ := ⟨⟨by kernel_rfl, by kernel_rfl⟩, by kernel_rfl⟩
theorem tx105 : TYok Tryz.prog 105 ⟨⟨.nilFunc, 1, 8, false, [], none, false, false⟩, .fn⟩ := ⟨⟨by kernel_rfl, by kernel_rfl⟩, by kernel_rfl⟩
theorem tx106 : TYok Tryz.prog 106 ⟨⟨.nilFunc, 1, 8, false, [], none, false, false⟩, .fn⟩ := ⟨⟨by kernel_rfl, by kernel_rfl⟩, by kernel_rfl⟩
theorem tx107 : TYok Tryz.prog 107 ⟨⟨.nilFunc, 1, 8, false, [], none, false, false⟩, .fn⟩ := ⟨⟨by kernel_rfl, by kernel_rfl⟩, by kernel_rfl⟩
theorem tx108 : TYok Tryz.prog 108 ⟨⟨.nilFunc, 1, 8, false, [], none, false, false⟩, .fn⟩ := ⟨⟨by kernel_rfl, by kernel_rfl⟩, by kernel_rfl⟩
theorem tx109 : TYok Tryz.prog 109 ⟨⟨.nilFunc, 1, 8, false, [], none, false, false⟩, .fn⟩ := ⟨⟨by kernel_rfl, by kernel_rfl⟩, by kernel_rfl⟩
theorem tx110 : TYok Tryz.prog 110 ⟨⟨.nilFunc, 1, 8, false, [], none, false, false⟩, .fn⟩ := ⟨⟨by kernel_rfl, by kernel_rfl⟩, by kernel_rfl⟩
theorem tx111 : TYok Tryz.prog 111 ⟨⟨.nilFunc, 1, 8, false, [], none, false, false⟩, .fn⟩ := ⟨⟨by kernel_rfl, by kernel_rfl⟩, by kernel_rfl⟩
theorem tx112 : TYok Tryz.prog 112 ⟨⟨(.int .u64 0), 1, 8, false, [], none, false, false⟩, .int .u64⟩ := ⟨⟨by kernel_rfl, by kernel_rfl⟩, by kernel_rfl⟩
theorem tx113 : TYok Tryz.prog 113 ⟨⟨.nilFunc, 1, 8, false, [], none, false, false⟩, .fn⟩ := ⟨⟨by kernel_rfl, by kernel_rfl⟩, by kernel_rfl⟩
theorem tx114 : TYok Tryz.prog 114 ⟨⟨.nilFunc, 1, 8, false, [], none, false, false⟩, .fn⟩ := ⟨⟨by kernel_rfl, by kernel_rfl⟩, by kernel_rfl⟩
theorem tx115 : TYok Tryz.prog 115 ⟨⟨.nilFunc, 1, 8, false, [], none, false, false⟩, .fn⟩ := ⟨⟨by kernel_rfl, by kernel_rfl⟩, by kernel_rfl⟩
theorem tx116 : TYok Tryz.prog 116 ⟨⟨.nilFunc, 1, 8, false, [], none, false, false⟩, .fn⟩ := ⟨⟨by kernel_rfl, by kernel_rfl⟩, by kernel_rfl⟩
theorem tx117 : TYok Tryz.prog 117 ⟨⟨.nilFunc, 1, 8, false, [], none, false, false⟩, .fn⟩ := ⟨⟨by kernel_rfl, by kernel_rfl⟩, by kernel_rfl⟩
theorem tx118 : TYok Tryz.prog 118 ⟨⟨.nilFunc, 1, 8, false, [], none, false, false⟩, .fn⟩ := ⟨⟨by kernel_rfl, by kernel_rfl⟩, by kernel_rfl⟩
theorem tx119 : TYok Tryz.prog 119 ⟨⟨.nilFunc, 1, 8, false, [], none, false, false⟩, .fn⟩ := ⟨⟨by kernel_rfl, by kernel_rfl⟩, by kernel_rfl⟩
theorem tx120 : TYok Tryz.prog 120 ⟨⟨.nilFunc, 1, 8, false, [], none, false, false⟩, .fn⟩ := ⟨⟨by kernel_rfl, by kernel_rfl⟩, by kernel_rfl⟩
theorem tx121 : TYok Tryz.prog 121 ⟨⟨.nilFunc, 1, 8, false, [], none, false, false⟩, .fn⟩ := ⟨⟨by kernel_rfl, by kernel_rfl⟩, by kernel_rfl⟩
theorem tx122 : TYok Tryz.prog 122 ⟨⟨(.agg #[(.string ⟨#[]⟩), (.int .i64 0), (.int .i64 0), (.slice none 0 0), (.slice none 0 0)]), 5, 80, true, [(0, 1), (1, 4)], none, false, false⟩, .other⟩ := ⟨⟨by kernel_rfl, by kernel_rfl⟩, by kernel_rfl⟩
theorem tx123 : TYok Tryz.prog 123 ⟨⟨.nilFunc, 1, 8, false, [], none, false, false⟩, .fn⟩ := ⟨⟨by kernel_rfl, by kernel_rfl⟩, by kernel_rfl⟩
theorem tx125 : TYok Tryz.prog 125 ⟨⟨.nilFunc, 1, 8, false, [], none, false, false⟩, .fn⟩ := ⟨⟨by kernel_rfl, by kernel_rfl⟩, by kernel_rfl⟩
theorem tx126 : TYok Tryz.prog 126 ⟨⟨.nilFunc, 1, 8, false, [], none, false, false⟩, .fn⟩ := ⟨⟨by kernel_rfl, by kernel_rfl⟩, by kernel_rfl⟩
theorem tx127 : TYok Tryz.prog 127 ⟨⟨.nilFunc, 1, 8, false, [], none, false, false⟩, .fn⟩ := ⟨⟨by kernel_rfl, by kernel_rfl⟩, by kernel_rfl⟩
theorem tx128 : TYok Tryz.prog 128 ⟨⟨.nilFunc, 1, 8, false, [], none, false, false⟩, .fn⟩ := ⟨⟨by kernel_rfl, by kernel_rfl⟩, by kernel_rfl⟩
theorem tx129 : TYok Tryz.prog 129 ⟨⟨.nilFunc, 1, 8, false, [], none, false, false⟩, .fn⟩ := ⟨⟨by kernel_rfl, by kernel_rfl⟩, by kernel_rfl⟩
theorem tx130 : TYok Tryz.prog 130 ⟨⟨.nilFunc, 1, 8, false, [], none, false, false⟩, .fn⟩ := ⟨⟨by kernel_rfl, by kernel_rfl⟩, by kernel_rfl⟩
theorem tx131 : TYok Tryz.prog 131 ⟨⟨.nilFunc, 1, 8, false, [], none, false, false⟩, .fn⟩ := ⟨⟨by kernel_rfl, by kernel_rfl⟩, by kernel_rfl⟩
theorem tx132 : TYok Tryz.prog 132 ⟨⟨(.int .i64 0), 1, 8, false, [], none, false, false⟩, .int .i64⟩ := ⟨⟨by kernel_rfl, by kernel_rfl⟩, by kernel_rfl⟩
theorem tx134 : TYok Tryz.prog 134 ⟨⟨.nilFunc, 1, 8, false, [], none, false, false⟩, .fn⟩ := ⟨⟨by kernel_rfl, by kernel_rfl⟩, by kernel_rfl⟩
theorem tx135 : TYok Tryz.prog 135 ⟨⟨.nilFunc, 1, 8, false, [], none, false, false⟩, .fn⟩ := ⟨⟨by kernel_rfl, by kernel_rfl⟩, by kernel_rfl⟩
theorem tx136 : TYok Tryz.prog 136 ⟨⟨.nilFunc, 1, 8, false, [], none, false, false⟩, .fn⟩ := ⟨⟨by kernel_rfl, by kernel_rfl⟩, by kernel_rfl⟩
theorem tx137 : TYok Tryz.prog 137 ⟨⟨.nilFunc, 1, 8, false, [], none, false, false⟩, .fn⟩ := ⟨⟨by kernel_rfl, by kernel_rfl⟩, by kernel_rfl⟩
theorem tx139 : TYok Tryz.prog 139 ⟨⟨.nilFunc, 1, 8, false, [], none, false, false⟩, .fn⟩ := ⟨⟨by kernel_rfl, by kernel_rfl⟩, by kernel_rfl⟩
theorem tx140 : TYok Tryz.prog 140 ⟨⟨.nilFunc, 1, 8, false, [], none, false, false⟩, .fn⟩ := ⟨⟨by kernel_rfl, by kernel_rfl⟩, by kernel_rfl⟩
theorem tx141 : TYok Tryz.prog 141 ⟨⟨(.int .u32 0), 1, 4, false, [], none, false, false⟩, .int .u32⟩ := ⟨⟨by kernel_rfl, by kernel_rfl⟩, by kernel_rfl⟩
theorem tx142 : TYok Tryz.prog 142 ⟨⟨.nilFunc, 1, 8, false, [], none, false, false⟩, .fn⟩ := ⟨⟨by kernel_rfl, by kernel_rfl⟩, by kernel_rfl⟩
theorem tx143 : TYok Tryz.prog 143 ⟨⟨(.int .u64 0), 1, 8, false, [], none, false, false⟩, .int .u64⟩ := ⟨⟨by kernel_rfl, by kernel_rfl⟩, by kernel_rfl⟩
theorem tx144 : TYok Tryz.prog 144 ⟨⟨.nilFunc, 1, 8, false, [], none, false, false⟩, .fn⟩ := ⟨⟨by kernel_rfl, by kernel_rfl⟩, by kernel_rfl⟩
theorem tx145 : TYok Tryz.prog 145 ⟨⟨.nilFunc, 1, 8, false, [], none, false, false⟩, .fn⟩ := ⟨⟨by kernel_rfl, by kernel_rfl⟩, by kernel_rfl⟩
theorem tx146 : TYok Tryz.prog 146 ⟨⟨(.agg #[(.bool false), (.bool false), (.bool false), (.int .i64 0), (.int .i64 0), (.int .i64 0)]), 6, 32, true, [(0, 1), (1, 1), (2, 1), (3, 1), (4, 1), (5, 1)], none, false, false⟩, .other⟩ := ⟨⟨by kernel_rfl, by kernel_rfl⟩, by kernel_rfl⟩
theorem tx147 : TYok Tryz.prog 147 ⟨⟨(.agg #[(.bool false), (.bool false), (.bool false), (.int .i64 0), (.int .i64 0), (.int .i64 0)]), 6, 32, true, [(0, 1), (1, 1), (2, 1), (3, 1), (4, 1), (5, 1)], none, false, false⟩, .other⟩ := ⟨⟨by kernel_rfl, by kernel_rfl⟩, by kernel_rfl⟩
theorem tx148 : TYok Tryz.prog 148 ⟨⟨(.agg #[(.bool false), (.bool false), (.bool false), (.int .i64 0), (.int .i64 0), (.int .i64 0), (.bool false), (.bool false), (.bool false), (.int .i64 0), (.int .i64 0), (.int .i64 0), (.bool false), (.bool false), (.bool false), (.int .i64 0), (.int .i64 0), (.int .i64 0), (.bool false), (.bool false), (.bool false), (.int .i64 0), (.int .i64 0), (.int .i64 0), (.bool false), (.bool false), (.bool false), (.int .i64 0), (.int .i64 0), (.int .i64 0), (.bool false), (.bool false), (.bool false), (.int .i64 0), (.int .i64 0), (.int .i64 0), (.bool false), (.bool false), (.bool false), (.int .i64 0), (.int .i64 0), (.int .i64 0), (.bool false), (.bool false), (.bool false), (.int .i64 0), (.int .i64 0), (.int .i64 0), (.bool false), (.bool false), (.bool false), (.int .i64 0), (.int .i64 0), (.int .i64 0), (.bool false), (.bool false), (.bool false), (.int .i64 0), (.int .i64 0), (.int .i64 0), (.bool false), (.bool false), (.bool false), (.int .i64 0), (.int .i64 0), (.int .i64 0), (.bool false), (.bool false), (.bool false), (.int .i64 0), (.int .i64 0), (.int .i64 0), (.bool false), (.bool false), (.bool false), (.int .i64 0), (.int .i64 0), (.int .i64 0), (.bool false), (.bool false), (.bool false), (.int .i64 0), (.int .i64 0), (.int .i64 0), (.bool false), (.bool false), (.bool false), (.int .i64 0), (.int .i64 0), (.int .i64 0), (.bool false), (.bool false), (.bool false), (.int .i64 0), (.int .i64 0), (.int .i64 0), (.bool false), (.bool false), (.bool false), (.int .i64 0), (.int .i64 0), (.int .i64 0), (.bool false), (.bool false), (.bool false), (.int .i64 0), (.int .i64 0), (.int .i64 0), (.bool false), (.bool false), (.bool false), (.int .i64 0), (.int .i64 0), (.int .i64 0), (.bool false), (.bool false), (.bool false), (.int .i64 0), (.int .i64 0), (.int .i64 0), (.bool false), (.bool false), (.bool false), (.int .i64 0), (.int .i64 0), (.int .i64 0), (.bool false), (.bool false), (.bool false), (.int .i64 0), (.int .i64 0), (.int .i64 0), (.bool false), (.bool false), (.bool false), (.int .i64 0), (.int .i64 0), (.int .i64 0), (.bool false), (.bool false), (.bool false), (.int .i64 0), (.int .i64 0), (.int .i64 0), (.bool false), (.bool false), (.bool false), (.int .i64 0), (.int .i64 0), (.int .i64 0), (.bool false), (.bool false), (.bool false), (.int .i64 0), (.int .i64 0), (.int .i64 0)]), 156, 832, true, [], none, false, false⟩, .other⟩ := ⟨⟨by kernel_rfl, by kernel_rfl⟩, by kernel_rfl⟩
theorem tx149 : TYok Tryz.prog 149 ⟨⟨.nilFunc, 1, 8, false, [], none, false, false⟩, .fn⟩ := ⟨⟨by kernel_rfl, by kernel_rfl⟩, by kernel_rfl⟩
theorem tx150 : TYok Tryz.prog 150 ⟨⟨.nilFunc, 1, 8, false, [], none, false, false⟩, .fn⟩ := ⟨⟨by kernel_rfl, by kernel_rfl⟩, by kernel_rfl⟩
theorem tx151 : TYok Tryz.prog 151 ⟨⟨.nilFunc, 1, 8, false, [], none, false, false⟩, .fn⟩ := ⟨⟨by kernel_rfl, by kernel_rfl⟩, by kernel_rfl⟩
theorem tx152 : TYok Tryz.prog 152 ⟨⟨.nilFunc, 1, 8, false, [], none, false, false⟩, .fn⟩ := ⟨⟨by kernel_rfl, by kernel_rfl⟩, by kernel_rfl⟩
theorem tx153 : TYok Tryz.prog 153 ⟨⟨.nilFunc, 1, 8, false, [], none, false, false⟩, .fn⟩ := ⟨⟨by kernel_rfl, by kernel_rfl⟩, by kernel_rfl⟩
theorem tx154 : TYok Tryz.prog 154 ⟨⟨.nilFunc, 1, 8, false, [], none, false, false⟩, .fn⟩ := ⟨⟨by kernel_rfl, by kernel_rfl⟩, by kernel_rfl⟩
theorem tx155 : TYok Tryz.prog 155 ⟨⟨.nilFunc, 1, 8, false, [], none, false, false⟩, .fn⟩ := ⟨⟨by kernel_rfl, by kernel_rfl⟩, by kernel_rfl⟩
theorem tx156 : TYok Tryz.prog 156 ⟨⟨.nilFunc, 1, 8, false, [], none, false, false⟩, .fn⟩ := ⟨⟨by kernel_rfl, by kernel_rfl⟩, by kernel_rfl⟩
theorem tx157 : TYok Tryz.prog 157 ⟨⟨.nilFunc, 1, 8, false, [], none, false, false⟩, .fn⟩ := ⟨⟨by kernel_rfl, by kernel_rfl⟩, by kernel_rfl⟩
theorem tx158 : TYok Tryz.prog 158 ⟨⟨.nilFunc, 1, 8, false, [], none, false, false⟩, .fn⟩ := ⟨⟨by kernel_rfl, by kernel_rfl⟩, by kernel_rfl⟩
theorem tx160 : TYok Tryz.prog 160 ⟨⟨.nilFunc, 1, 8, false, [], none, false, false⟩, .fn⟩ := ⟨⟨by kernel_rfl, by kernel_rfl⟩, by kernel_rfl⟩
theorem tx161 : TYok Tryz.prog 161 ⟨⟨.nilFunc, 1, 8, false, [], none, false, false⟩, .fn⟩ := ⟨⟨by kernel_rfl, by kernel_rfl⟩, by kernel_rfl⟩
theorem tx162 : TYok Tryz.prog 162 ⟨⟨(.int .u64 0), 1, 8, false, [], none, false, false⟩, .int .u64⟩ := ⟨⟨by kernel_rfl, by kernel_rfl⟩, by kernel_rfl⟩
theorem tx163 : TYok Tryz.prog 163 ⟨⟨.nilFunc, 1, 8, false, [], none, false, false⟩, .fn⟩ := ⟨⟨by kernel_rfl, by kernel_rfl⟩, by kernel_rfl⟩
theorem tx164 : TYok Tryz.prog 164 ⟨⟨.nilFunc, 1, 8, false, [], none, false, false⟩, .fn⟩ := ⟨⟨by kernel_rfl, by kernel_rfl⟩, by kernel_rfl⟩
theorem tx165 : TYok Tryz.prog 165 ⟨⟨.nilFunc, 1, 8, false, [], none, false, false⟩, .fn⟩ := ⟨⟨by kernel_rfl, by kernel_rfl⟩, by kernel_rfl⟩
theorem tx166 : TYok Tryz.prog 166 ⟨⟨(.pointer none), 1, 8, false, [], none, false, false⟩, .ptr⟩ := ⟨⟨by kernel_rfl, by kernel_rfl⟩, by kernel_rfl⟩
theorem tx167 : TYok Tryz.prog 167 ⟨⟨.nilFunc, 1, 8, false, [], none, false, false⟩, .fn⟩ := ⟨⟨by kernel_rfl, by kernel_rfl⟩, by kernel_rfl⟩
theorem tx168 : TYok Tryz.prog 168 ⟨⟨.nilFunc, 1, 8, false, [], none, false, false⟩, .fn⟩ := ⟨⟨by kernel_rfl, by kernel_rfl⟩, by kernel_rfl⟩
theorem tx169 : TYok Tryz.prog 169 ⟨⟨(.slice none 0 0), 1, 24, false, [], some 36, false, false⟩, .slice 36⟩ := ⟨⟨by kernel_rfl, by kernel_rfl⟩, by kernel_rfl⟩
theorem tx170 : TYok Tryz.prog 170 ⟨⟨.nilFunc, 1, 8, false, [], none, false, false⟩, .fn⟩ := ⟨⟨by kernel_rfl, by kernel_rfl⟩, by kernel_rfl⟩
theorem tx171 : TYok Tryz.prog 171 ⟨⟨.nilFunc, 1, 8, false, [], none, false, false⟩, .fn⟩ := ⟨⟨by kernel_rfl, by kernel_rfl⟩, by kernel_rfl⟩
theorem tx172 : TYok Tryz.prog 172 ⟨⟨(.pointer none), 1, 8, false, [], none, false, false⟩, .ptr⟩ := ⟨⟨by kernel_rfl, by kernel_rfl⟩, by kernel_rfl⟩
theorem tx174 : TYok Tryz.prog 174 ⟨⟨.nilFunc, 1, 8, false, [], none, false, false⟩, .fn⟩ := ⟨⟨by kernel_rfl, by kernel_rfl⟩, by kernel_rfl⟩
theorem tx175 : TYok Tryz.prog 175 ⟨⟨.nilFunc, 1, 8, false, [], none, false, false⟩, .fn⟩ := ⟨⟨by kernel_rfl, by kernel_rfl⟩, by kernel_rfl⟩
theorem tx176 : TYok Tryz.prog 176 ⟨⟨.nilFunc, 1, 8, false, [], none, false, false⟩, .fn⟩ := ⟨⟨by kernel_rfl, by kernel_rfl⟩, by kernel_rfl⟩
theorem tx177 : TYok Tryz.prog 177 ⟨⟨(.agg #[(.pointer none), (.pointer none), (.pointer none), (.string ⟨#[]⟩)]), 4, 40, true, [(0, 1), (1, 1), (2, 1), (3, 1)], none, false, false⟩, .other⟩ := ⟨⟨by kernel_rfl, by kernel_rfl⟩, by kernel_rfl⟩
theorem tx178 : TYok Tryz.prog 178 ⟨⟨(.agg #[(.pointer none), (.pointer none), (.pointer none), (.string ⟨#[]⟩)]), 4, 40, true, [(0, 1), (1, 1), (2, 1), (3, 1)], none, false, false⟩, .other⟩ := ⟨⟨by kernel_rfl, by kernel_rfl⟩, by kernel_rfl⟩
theorem tx182 : TYok Tryz.prog 182 ⟨⟨.nilFunc, 1, 8, false, [], none, false, false⟩, .fn⟩ := ⟨⟨by kernel_rfl, by kernel_rfl⟩, by kernel_rfl⟩
theorem tx183 : TYok Tryz.prog 183 ⟨⟨(.int .u8 0), 1, 1, false, [], none, false, false⟩, .int .u8⟩ := ⟨⟨by kernel_rfl, by kernel_rfl⟩, by kernel_rfl⟩
theorem tx184 : TYok Tryz.prog 184 ⟨⟨(.int .u8 0), 1, 1, false, [], none, false, false⟩, .int .u8⟩ := ⟨⟨by kernel_rfl, by kernel_rfl⟩, by kernel_rfl⟩
theorem tx185 : TYok Tryz.prog 185 ⟨⟨.nilFunc, 1, 8, false, [], none, false, false⟩, .fn⟩ := ⟨⟨by kernel_rfl, by kernel_rfl⟩, by kernel_rfl⟩
theorem tx186 : TYok Tryz.prog 186 ⟨⟨(.pointer none), 1, 8, false, [], none, false, false⟩, .ptr⟩ := ⟨⟨by kernel_rfl, by kernel_rfl⟩, by kernel_rfl⟩
theorem tx187 : TYok Tryz.prog 187 ⟨⟨(.int .i32 0), 1, 4, false, [], none, false, false⟩, .int .i32⟩ := ⟨⟨by kernel_rfl, by kernel_rfl⟩, by kernel_rfl⟩
theorem tx188 : TYok Tryz.prog 188 ⟨⟨(.int .i32 0), 1, 4, false, [], none, false, false⟩, .int .i32⟩ := ⟨⟨by kernel_rfl, by kernel_rfl⟩, by kernel_rfl⟩
theorem tx189 : TYok Tryz.prog 189 ⟨⟨(.agg #[(.int .u64 0), (.int .u64 0), (.int .u32 0), (.int .u8 0), (.int .u8 0), (.int .u8 0), (.int .u8 0), .nilFunc, (.pointer none), (.int .i32 0), (.int .i32 0)]), 11, 48, true, [(0, 1), (1, 1), (2, 1), (3, 1), (4, 1), (5, 1), (6, 1), (7, 1), (8, 1), (9, 1), (10, 1)], none, false, false⟩, .other⟩ := ⟨⟨by kernel_rfl, by kernel_rfl⟩, by kernel_rfl⟩
theorem tx190 : TYok Tryz.prog 190 ⟨⟨(.agg #[(.int .u64 0), (.int .u64 0), (.int .u32 0), (.int .u8 0), (.int .u8 0), (.int .u8 0), (.int .u8 0), .nilFunc, (.pointer none), (.int .i32 0), (.int .i32 0)]), 11, 48, true, [(0, 1), (1, 1), (2, 1), (3, 1), (4, 1), (5, 1), (6, 1), (7, 1), (8, 1), (9, 1), (10, 1)], none, false, false⟩, .other⟩ := ⟨⟨by kernel_rfl, by kernel_rfl⟩, by kernel_rfl⟩
theorem tx191 : TYok Tryz.prog 191 ⟨⟨.nilFunc, 1, 8, false, [], none, false, false⟩, .fn⟩ := ⟨⟨by kernel_rfl, by kernel_rfl⟩, by kernel_rfl⟩
theorem txok : Tys Tryz.prog tx := (Tys_cons tx1 (Tys_cons tx2 (Tys_cons tx3 (Tys_cons tx4 (Tys_cons tx5 (Tys_cons tx6 (Tys_cons tx7 (Tys_cons tx8 (Tys_cons tx9 (Tys_cons tx10 (Tys_cons tx11 (Tys_cons tx12 (Tys_cons tx13 (Tys_cons tx14 (Tys_cons tx15 (Tys_cons tx16 (Tys_cons tx17 (Tys_cons tx18 (Tys_cons tx19 (Tys_cons tx20 (Tys_cons tx21 (Tys_cons tx22 (Tys_cons tx23 (Tys_cons tx24 (Tys_cons tx25 (Tys_cons tx26 (Tys_cons tx27 (Tys_cons tx28 (Tys_cons tx29 (Tys_cons tx31 (Tys_cons tx32 (Tys_cons tx33 (Tys_cons tx34 (Tys_cons tx35 (Tys_cons tx36 (Tys_cons tx37 (Tys_cons tx38 (Tys_cons tx39 (Tys_cons tx40 (Tys_cons tx41 (Tys_cons tx42 (Tys_cons tx43 (Tys_cons tx44 (Tys_cons tx45 (Tys_cons tx46 (Tys_cons tx47 (Tys_cons tx48 (Tys_cons tx49 (Tys_cons tx50 (Tys_cons tx51 (Tys_cons tx52 (Tys_cons tx53 (Tys_cons tx54 (Tys_cons tx55 (Tys_cons tx56 (Tys_cons tx57 (Tys_cons tx58 (Tys_cons tx59 (Tys_cons tx60 (Tys_cons tx61 (Tys_cons tx62 (Tys_cons tx63 (Tys_cons tx64 (Tys_cons tx65 (Tys_cons tx66 (Tys_cons tx67 (Tys_cons tx68 (Tys_cons tx69 (Tys_cons tx70 (Tys_cons tx71 (Tys_cons tx72 (Tys_cons tx73 (Tys_cons tx74 (Tys_cons tx75 (Tys_cons tx76 (Tys_cons tx77 (Tys_cons tx78 (Tys_cons tx79 (Tys_cons tx80 (Tys_cons tx81 (Tys_cons tx82 (Tys_cons tx83 (Tys_cons tx85 (Tys_cons tx86 (Tys_cons tx87 (Tys_cons tx88 (Tys_cons tx89 (Tys_cons tx90 (Tys_cons tx91 (Tys_cons tx92 (Tys_cons tx93 (Tys_cons tx94 (Tys_cons tx95 (Tys_cons tx96 (Tys_cons tx97 (Tys_cons tx98 (Tys_cons tx99 (Tys_cons tx100 (Tys_cons tx101 (Tys_cons tx102 (Tys_cons tx103 (Tys_cons tx104 (Tys_cons tx105 (Tys_cons tx106 (Tys_cons tx107 (Tys_cons tx108 (Tys_cons tx109 (Tys_cons tx110 (Tys_cons tx111 (Tys_cons tx112 (Tys_cons tx113 (Tys_cons tx114 (Tys_cons tx115 (Tys_cons tx116 (Tys_cons tx117 (Tys_cons tx118 (Tys_cons tx119 (Tys_cons tx120 (Tys_cons tx121 (Tys_cons tx122 (Tys_cons tx123 (Tys_cons tx125 (Tys_cons tx126 (Tys_cons tx127 (Tys_cons tx128 (Tys_cons tx129 (Tys_cons tx130 (Tys_cons tx131 (Tys_cons tx132 (Tys_cons tx134 (Tys_cons tx135 (Tys_cons tx136 (Tys_cons tx137 (Tys_cons tx139 (Tys_cons tx140 (Tys_cons tx141 (Tys_cons tx142 (Tys_cons tx143 (Tys_cons tx144 (Tys_cons tx145 (Tys_cons tx146 (Tys_cons tx147 (Tys_cons tx148 (Tys_cons tx149 (Tys_cons tx150 (Tys_cons tx151 (Tys_cons tx152 (Tys_cons tx153 (Tys_cons tx154 (Tys_cons tx155 (Tys_cons tx156 (Tys_cons tx157 (Tys_cons tx158 (Tys_cons tx160 (Tys_cons tx161 (Tys_cons tx162 (Tys_cons tx163 (Tys_cons tx164 (Tys_cons tx165 (Tys_cons tx166 (Tys_cons tx167 (Tys_cons tx168 (Tys_cons tx169 (Tys_cons tx170 (Tys_cons tx171 (Tys_cons tx172 (Tys_cons tx174 (Tys_cons tx175 (Tys_cons tx176 (Tys_cons tx177 (Tys_cons tx178 (Tys_cons tx182 (Tys_cons tx183 (Tys_cons tx184 (Tys_cons tx185 (Tys_cons tx186 (Tys_cons tx187 (Tys_cons tx188 (Tys_cons tx189 (Tys_cons tx190 (Tys_cons tx191 Tys_nil)))))))))))))))))))))))))))))))))))))))))))))))))))))))))))))))))))))))))))))))))))))))))))))))))))))))))))))))))))))))))))))))))))))))))))))))))))))))))))))))))))))))))))))))))))))
theorem mixed : Tryz.prog.follows .mixedOrders = true := by kernel_rfl
theorem gf6 : Goes Tryz.prog 6 := goes_of Tryz.func6 rfl rfl
theorem gf8 : Goes Tryz.prog 8 := goes_of Tryz.func8 rfl rfl
theorem gf10 : Goes Tryz.prog 10 := goes_of Tryz.func10 rfl rfl
theorem gf11 : Goes Tryz.prog 11 := goes_of Tryz.func11 rfl rfl
theorem gf14 : Goes Tryz.prog 14 := goes_of Tryz.func14 rfl rfl
theorem gf16 : Goes Tryz.prog 16 := goes_of Tryz.func16 rfl rfl
theorem gf17 : Goes Tryz.prog 17 := goes_of Tryz.func17 rfl rfl
theorem gf18 : Goes Tryz.prog 18 := goes_of Tryz.func18 rfl rfl
theorem gf19 : Goes Tryz.prog 19 := goes_of Tryz.func19 rfl rfl
theorem gf21 : Goes Tryz.prog 21 := goes_of Tryz.func21 rfl rfl
theorem gf22 : Goes Tryz.prog 22 := goes_of Tryz.func22 rfl rfl
theorem gf23 : Goes Tryz.prog 23 := goes_of Tryz.func23 rfl rfl
theorem gf24 : Goes Tryz.prog 24 := goes_of Tryz.func24 rfl rfl
theorem gf25 : Goes Tryz.prog 25 := goes_of Tryz.func25 rfl rfl
theorem gf26 : Goes Tryz.prog 26 := goes_of Tryz.func26 rfl rfl
theorem gf27 : Goes Tryz.prog 27 := goes_of Tryz.func27 rfl rfl
theorem gf29 : Goes Tryz.prog 29 := goes_of Tryz.func29 rfl rfl
theorem gf32 : Goes Tryz.prog 32 := goes_of Tryz.func32 rfl rfl
theorem gf33 : Goes Tryz.prog 33 := goes_of Tryz.func33 rfl rfl
theorem gf34 : Goes Tryz.prog 34 := goes_of Tryz.func34 rfl rfl
theorem gf35 : Goes Tryz.prog 35 := goes_of Tryz.func35 rfl rfl
theorem gf38 : Goes Tryz.prog 38 := goes_of Tryz.func38 rfl rfl
theorem gf39 : Goes Tryz.prog 39 := goes_of Tryz.func39 rfl rfl
theorem gf40 : Goes Tryz.prog 40 := goes_of Tryz.func40 rfl rfl
theorem gf41 : Goes Tryz.prog 41 := goes_of Tryz.func41 rfl rfl
theorem gf43 : Goes Tryz.prog 43 := goes_of Tryz.func43 rfl rfl
theorem gf44 : Goes Tryz.prog 44 := goes_of Tryz.func44 rfl rfl
theorem gf45 : Goes Tryz.prog 45 := goes_of Tryz.func45 rfl rfl
theorem gf46 : Goes Tryz.prog 46 := goes_of Tryz.func46 rfl rfl
theorem gf47 : Goes Tryz.prog 47 := goes_of Tryz.func47 rfl rfl
theorem gf51 : Goes Tryz.prog 51 := goes_of Tryz.func51 rfl rfl
theorem gf52 : Goes Tryz.prog 52 := goes_of Tryz.func52 rfl rfl
theorem gf53 : Goes Tryz.prog 53 := goes_of Tryz.func53 rfl rfl
theorem gf54 : Goes Tryz.prog 54 := goes_of Tryz.func54 rfl rfl
theorem gf55 : Goes Tryz.prog 55 := goes_of Tryz.func55 rfl rfl
theorem gf56 : Goes Tryz.prog 56 := goes_of Tryz.func56 rfl rfl
theorem gf57 : Goes Tryz.prog 57 := goes_of Tryz.func57 rfl rfl
theorem gf58 : Goes Tryz.prog 58 := goes_of Tryz.func58 rfl rfl
theorem gf60 : Goes Tryz.prog 60 := goes_of Tryz.func60 rfl rfl
theorem gf61 : Goes Tryz.prog 61 := goes_of Tryz.func61 rfl rfl
theorem gf67 : Goes Tryz.prog 67 := goes_of Tryz.func67 rfl rfl
theorem gf68 : Goes Tryz.prog 68 := goes_of Tryz.func68 rfl rfl
theorem gf69 : Goes Tryz.prog 69 := goes_of Tryz.func69 rfl rfl
theorem gf70 : Goes Tryz.prog 70 := goes_of Tryz.func70 rfl rfl
theorem gf71 : Goes Tryz.prog 71 := goes_of Tryz.func71 rfl rfl
theorem gf73 : Goes Tryz.prog 73 := goes_of Tryz.func73 rfl rfl
theorem gf74 : Goes Tryz.prog 74 := goes_of Tryz.func74 rfl rfl
theorem gf75 : Goes Tryz.prog 75 := goes_of Tryz.func75 rfl rfl
theorem gf76 : Goes Tryz.prog 76 := goes_of Tryz.func76 rfl rfl
theorem gf77 : Goes Tryz.prog 77 := goes_of Tryz.func77 rfl rfl
theorem gf78 : Goes Tryz.prog 78 := goes_of Tryz.func78 rfl rfl
theorem gf79 : Goes Tryz.prog 79 := goes_of Tryz.func79 rfl rfl
theorem gf80 : Goes Tryz.prog 80 := goes_of Tryz.func80 rfl rfl
theorem gf81 : Goes Tryz.prog 81 := goes_of Tryz.func81 rfl rfl
theorem gf82 : Goes Tryz.prog 82 := goes_of Tryz.func82 rfl rfl
theorem gf83 : Goes Tryz.prog 83 := goes_of Tryz.func83 rfl rfl
theorem gf84 : Goes Tryz.prog 84 := goes_of Tryz.func84 rfl rfl
theorem gf85 : Goes Tryz.prog 85 := goes_of Tryz.func85 rfl rfl
theorem gf86 : Goes Tryz.prog 86 := goes_of Tryz.func86 rfl rfl
theorem gf97 : Goes Tryz.prog 97 := goes_of Tryz.func97 rfl rfl
theorem gf98 : Goes Tryz.prog 98 := goes_of Tryz.func98 rfl rfl
theorem gf99 : Goes Tryz.prog 99 := goes_of Tryz.func99 rfl rfl
theorem gf100 : Goes Tryz.prog 100 := goes_of Tryz.func100 rfl rfl
theorem gf101 : Goes Tryz.prog 101 := goes_of Tryz.func101 rfl rfl
theorem gf102 : Goes Tryz.prog 102 := goes_of Tryz.func102 rfl rfl
theorem gf110 : Goes Tryz.prog 110 := goes_of Tryz.func110 rfl rfl
theorem gf111 : Goes Tryz.prog 111 := goes_of Tryz.func111 rfl rfl
theorem gf112 : Goes Tryz.prog 112 := goes_of Tryz.func112 rfl rfl
theorem gf113 : Goes Tryz.prog 113 := goes_of Tryz.func113 rfl rfl
theorem gf114 : Goes Tryz.prog 114 := goes_of Tryz.func114 rfl rfl
theorem gf115 : Goes Tryz.prog 115 := goes_of Tryz.func115 rfl rfl
theorem gf116 : Goes Tryz.prog 116 := goes_of Tryz.func116 rfl rfl
theorem gf117 : Goes Tryz.prog 117 := goes_of Tryz.func117 rfl rfl
theorem gf118 : Goes Tryz.prog 118 := goes_of Tryz.func118 rfl rfl
theorem gf119 : Goes Tryz.prog 119 := goes_of Tryz.func119 rfl rfl
theorem gf120 : Goes Tryz.prog 120 := goes_of Tryz.func120 rfl rfl
theorem gf121 : Goes Tryz.prog 121 := goes_of Tryz.func121 rfl rfl
theorem gf122 : Goes Tryz.prog 122 := goes_of Tryz.func122 rfl rfl
theorem gf123 : Goes Tryz.prog 123 := goes_of Tryz.func123 rfl rfl
theorem gf124 : Goes Tryz.prog 124 := goes_of Tryz.func124 rfl rfl
theorem gf125 : Goes Tryz.prog 125 := goes_of Tryz.func125 rfl rfl
theorem gf126 : Goes Tryz.prog 126 := goes_of Tryz.func126 rfl rfl
theorem gf127 : Goes Tryz.prog 127 := goes_of Tryz.func127 rfl rfl
theorem gf128 : Goes Tryz.prog 128 := goes_of Tryz.func128 rfl rfl
theorem gf129 : Goes Tryz.prog 129 := goes_of Tryz.func129 rfl rfl
theorem gf130 : Goes Tryz.prog 130 := goes_of Tryz.func130 rfl rfl
theorem gf131 : Goes Tryz.prog 131 := goes_of Tryz.func131 rfl rfl
theorem gf132 : Goes Tryz.prog 132 := goes_of Tryz.func132 rfl rfl
theorem gf133 : Goes Tryz.prog 133 := goes_of Tryz.func133 rfl rfl
theorem gf134 : Goes Tryz.prog 134 := goes_of Tryz.func134 rfl rfl
theorem gf135 : Goes Tryz.prog 135 := goes_of Tryz.func135 rfl rfl
theorem gf136 : Goes Tryz.prog 136 := goes_of Tryz.func136 rfl rfl
theorem gf137 : Goes Tryz.prog 137 := goes_of Tryz.func137 rfl rfl
theorem gf146 : Goes Tryz.prog 146 := goes_of Tryz.func146 rfl rfl
theorem gf147 : Goes Tryz.prog 147 := goes_of Tryz.func147 rfl rfl
theorem gf148 : Goes Tryz.prog 148 := goes_of Tryz.func148 rfl rfl
theorem gf149 : Goes Tryz.prog 149 := goes_of Tryz.func149 rfl rfl
theorem gf162 : Goes Tryz.prog 162 := goes_of Tryz.func162 rfl rfl
theorem gf163 : Goes Tryz.prog 163 := goes_of Tryz.func163 rfl rfl
theorem gf164 : Goes Tryz.prog 164 := goes_of Tryz.func164 rfl rfl
theorem gf165 : Goes Tryz.prog 165 := goes_of Tryz.func165 rfl rfl
theorem gf166 : Goes Tryz.prog 166 := goes_of Tryz.func166 rfl rfl
theorem gf167 : Goes Tryz.prog 167 := goes_of Tryz.func167 rfl rfl
theorem gf168 : Goes Tryz.prog 168 := goes_of Tryz.func168 rfl rfl
theorem gf169 : Goes Tryz.prog 169 := goes_of Tryz.func169 rfl rfl
theorem gf170 : Goes Tryz.prog 170 := goes_of Tryz.func170 rfl rfl
theorem gf171 : Goes Tryz.prog 171 := goes_of Tryz.func171 rfl rfl
theorem gf172 : Goes Tryz.prog 172 := goes_of Tryz.func172 rfl rfl
theorem gf173 : Goes Tryz.prog 173 := goes_of Tryz.func173 rfl rfl
theorem gf176 : Goes Tryz.prog 176 := goes_of Tryz.func176 rfl rfl
theorem gf183 : Goes Tryz.prog 183 := goes_of Tryz.func183 rfl rfl
theorem gf184 : Goes Tryz.prog 184 := goes_of Tryz.func184 rfl rfl
theorem gf185 : Goes Tryz.prog 185 := goes_of Tryz.func185 rfl rfl
theorem gf186 : Goes Tryz.prog 186 := goes_of Tryz.func186 rfl rfl
theorem gf188 : Goes Tryz.prog 188 := goes_of Tryz.func188 rfl rfl
end Go.Proofs.YtcjkikadolnfgaaGreat


/- Target types as data. -/
set_option linter.unusedSimpArgs false
set_option linter.unusedVariables false
namespace Go.Proofs.YtcjkikadolnfgaaGreat
open Go.Vx Go.Vc Go.RowKit
abbrev G0 : Glob := ⟨fun _ _ => True, fun _ _ _ _ => trivial, fun _ _ => True, fun _ _ => trivial, fun _ => trivial⟩
inductive TG where
  | mk (k n : Int) (ls : List ByteArray) (kids : List TG)
def TG.k : TG → Int | .mk k _ _ _ => k
def TG.n : TG → Int | .mk _ n _ _ => n
def TG.ls : TG → List ByteArray | .mk _ _ l _ => l
def TG.kids : TG → List TG | .mk _ _ _ l => l
theorem g_k (k n : Int) (ls : List ByteArray) (l : List TG) : (TG.mk k n ls l).k = k := rfl
theorem g_n (k n : Int) (ls : List ByteArray) (l : List TG) : (TG.mk k n ls l).n = n := rfl
theorem g_ls (k n : Int) (ls : List ByteArray) (l : List TG) : (TG.mk k n ls l).ls = ls := rfl
theorem g_kids (k n : Int) (ls : List ByteArray) (l : List TG) : (TG.mk k n ls l).kids = l := rfl
def encS (l : List ByteArray) : List D := l.map .str
theorem encS_at (l : List ByteArray) (i : Nat) (hi : i < l.length) : ((encS l).drop (i * 1)).take 1 = [.str l[i]] := by
  unfold encS
  rw [Nat.mul_one, List.drop_eq_getElem_cons (by simpa using hi)]
  simp
theorem encS_len (l : List ByteArray) : (encS l).length = l.length := by simp [encS]
theorem encS_scal (l : List ByteArray) : ∀ d ∈ encS l, scalD d = true := by
  intro d hd
  simp only [encS, List.mem_map] at hd
  obtain ⟨n, _, rfl⟩ := hd
  rfl
theorem IdxC.encS {l : List ByteArray} {j : Int} {K : Go.Vx.SV → Prop} (i : Nat) (hi : i < l.length) (hj : j = (i : Int)) (hk : K (.d (.ptr [.str l[i]] 0))) : IdxC l.length 1 (Go.Proofs.YtcjkikadolnfgaaGreat.encS l) j K :=
  ⟨i, hj, hi, _, encS_at l i hi, hk⟩
abbrev dL (l : List ByteArray) : D := slD 16 l.length (encS l)
mutual
def encG0 : TG → List D
  | .mk k n ls l => [.int .i64 k, .int .i64 n, slD 16 ls.length (encS ls), slD 64 l.length (encGs l)]
def encGs : List TG → List D
  | [] => []
  | t :: r => encG0 t ++ encGs r
end
def encG (t : TG) : List D := [.int .i64 t.k, .int .i64 t.n, slD 16 t.ls.length (encS t.ls), slD 64 t.kids.length (encGs t.kids)]
theorem encG0_eq (t : TG) : encG0 t = encG t := by cases t; rfl
theorem encGs_eq : ∀ l : List TG, encGs l = fl encG l
  | [] => rfl
  | t :: r => by simp only [encGs, fl, encGs_eq r, encG0_eq]
theorem encG_len (t : TG) : (encG t).length = 4 := rfl
theorem encGs_len (l : List TG) : (encGs l).length = l.length * 4 := by rw [encGs_eq, fl_len encG_len]
theorem encGs_app (l m : List TG) : encGs (l ++ m) = encGs l ++ encGs m := by simp only [encGs_eq, fl_app]
theorem encGs_at (l : List TG) (i : Nat) (hi : i < l.length) : ((encGs l).drop (i * 4)).take 4 = encG l[i] := by rw [encGs_eq]; exact fl_at encG_len l i hi
theorem encG_scal (t : TG) : ∀ d ∈ encG t, scalD d = true := by
  intro d hd
  simp only [encG, List.mem_cons, List.not_mem_nil, or_false] at hd
  rcases hd with rfl | rfl | rfl | rfl <;> rfl
theorem encGs_scal (l : List TG) : ∀ d ∈ encGs l, scalD d = true := by
  intro d hd
  rw [encGs_eq] at hd
  obtain ⟨t, _, h⟩ := fl_mem hd
  exact encG_scal t d h
theorem IdxC.encGs {l : List TG} {j : Int} {K : Go.Vx.SV → Prop} (i : Nat) (hi : i < l.length) (hj : j = (i : Int)) (hk : K (.d (.ptr (encG l[i]) 0))) : IdxC l.length 4 (Go.Proofs.YtcjkikadolnfgaaGreat.encGs l) j K :=
  ⟨i, hj, hi, _, encGs_at l i hi, hk⟩
abbrev dG (t : TG) : D := .agg (encG t)
abbrev dGs (l : List TG) : D := slD 64 l.length (encGs l)
theorem szOk_G {t : TG} (h : szOk (dG t)) : t.kids.length * 64 ≤ LB ∧ szOks (encGs t.kids) ∧ t.ls.length * 16 ≤ LB := by
  simp only [dG, encG, szOk, szOks] at h
  have h1 := szOk_sl h.2.2.2.1
  exact ⟨h1.1, h1.2, (szOk_sl h.2.2.1).1⟩
theorem TG.ind {P : TG → Prop} (h : ∀ k n ls l, (∀ t ∈ l, P t) → P (.mk k n ls l)) : ∀ t, P t
  | .mk k n ls l => h k n ls l (TG.indL h l)
where TG.indL {P : TG → Prop} (h : ∀ k n ls l, (∀ t ∈ l, P t) → P (.mk k n ls l)) : ∀ l : List TG, ∀ t ∈ l, P t
  | [], _, ht => by cases ht
  | x :: r, t, ht => by
    rcases List.mem_cons.1 ht with e | ht
    · rw [e]; exact TG.ind h x
    · exact TG.indL h r t ht
mutual
def szG : TG → Nat
  | .mk _ _ _ l => szGs l + 1
def szGs : List TG → Nat
  | [] => 0
  | t :: r => szG t + szGs r
end
theorem szGs_app : ∀ l m : List TG, szGs (l ++ m) = szGs l + szGs m
  | [], m => by simp [szGs]
  | t :: r, m => by simp only [List.cons_append, szGs, szGs_app r m]; omega
theorem szGs_take {l : List TG} {i : Nat} (h : i < l.length) : szGs (l.take (i + 1)) = szGs (l.take i) + szG l[i] := by
  rw [List.take_succ_eq_append_getElem h, szGs_app]; simp [szGs]
theorem szGs_le (l : List TG) (i : Nat) : szGs (l.take i) ≤ szGs l := by
  conv => rhs; rw [← List.take_append_drop i l, szGs_app]
  omega
theorem szG_pos : ∀ t : TG, 0 < szG t
  | .mk _ _ _ _ => by simp [szG]
theorem szG_mem {l : List TG} {t : TG} (h : t ∈ l) : szG t ≤ szGs l := by
  induction l with
  | nil => cases h
  | cons x r ih =>
    simp only [szGs]
    rcases List.mem_cons.1 h with rfl | h
    · omega
    · have := ih h; omega
def bndG (k : Int) : Bool := k == 9 || k == 10 || k == 11
theorem binder_fn (t : TG) : FnR Tryz.prog G0 85 [dG t] (.bool (bndG t.k)) := by
  refine fnQ_of_vc txok mixed [] Tryz.func85 rfl rfl (by simp) fun b => ?_
  (repeat' ((conv => whnf); first | refine And.intro (fun _ => ?_) (fun _ => ?_))) <;> (conv => whnf)
  all_goals simp_all [bndG, retD]
theorem sized_fn : ∀ (t : TG) (n : Nat) (most : Int), (n : Int) ≤ most → n + szG t < 4611686018427387904 → FnR Tryz.prog G0 147 [dG t, .int .i64 n, .int .i64 most] (.int .i64 (min ((n + szG t : Nat) : Int) (most + 1))) := by
  refine TG.ind fun k n ls ks ih q most hq hz => ?_
  refine fnQ_sz fun hs => ?_
  have hl := (szOk_G (t := .mk k n ls ks) hs.1).1
  simp only [g_kids, LB] at hl
  have hsz : szG (.mk k n ls ks) = szGs ks + 1 := by simp only [szG]
  rw [hsz] at hz ⊢
  refine fnQ_of_vc txok mixed [] Tryz.func147 rfl rfl (by simp) fun b => ?_
  conv => whnf
  rw [incD (by omega)]
  simp only [g_kids]
  refine loopH (fun i : Nat => i ≤ ks.length) (fun i => ks.length - i) (fun i => [(14, .d (.int .i64 i)), (1, .d (.int .i64 (min ((q + 1 + szGs (ks.take i) : Nat) : Int) (most + 1))))]) (fun _ => [(0, .blk 28 [.d (.int .i64 k), .d (.int .i64 n), .d (dL ls), .d (dGs ks)])]) 1 0 (by omega) ?_ ?_
  · rw [show min ((q + 1 + szGs (ks.take 0) : Nat) : Int) (most + 1) = ((q + 1 : Nat) : Int) from by simp [szGs]; omega]
    exact weak_of rfl (by repeat ((conv => whnf); first | exact trivial | refine And.intro rfl ?_ | refine And.intro (incD (by omega)) ?_)) (by repeat ((conv => whnf); first | exact trivial | refine And.intro rfl ?_ | refine And.intro (incD (by omega)) ?_))
  intro i hi
  have hle := szGs_le ks i
  conv => whnf
  refine And.intro (fun hb => ?_) (fun hb => ?_)
  · have hil : i < ks.length := by have := of_decide_eq_true hb; omega
    have ht := szGs_take hil
    have hle2 := szGs_le ks (i + 1)
    conv => whnf
    refine IdxC.encGs i hil rfl ?_
    conv => whnf
    refine And.intro (fun h => ?_) (fun h => ?_)
    · have h := of_decide_eq_true h
      conv => whnf
      refine congrArg (D.int .i64) ?_
      omega
    · have h := of_decide_eq_false h
      conv => whnf
      rw [show min ((q + 1 + szGs (ks.take i) : Nat) : Int) (most + 1) = ((q + 1 + szGs (ks.take i) : Nat) : Int) from by omega]
      refine callF (ih ks[i] (by simp) (q + 1 + szGs (ks.take i)) most (by omega) (by omega)) gf147 rfl rfl ?_
      conv => whnf
      rw [incD (by omega)]
      refine again (i + 1) (by omega) (by omega) ?_
      rw [ht, ← Nat.add_assoc]
      exact weak_of rfl (by repeat ((conv => whnf); first | exact trivial | refine And.intro rfl ?_ | refine And.intro (incD (by omega)) ?_)) (by repeat ((conv => whnf); first | exact trivial | refine And.intro rfl ?_ | refine And.intro (incD (by omega)) ?_))
  · have hil : i = ks.length := by have := of_decide_eq_false hb; omega
    subst hil
    rw [List.take_length]
    conv => whnf
    refine congrArg (D.int .i64) ?_
    omega
end Go.Proofs.YtcjkikadolnfgaaGreat


/- Size, RightType, and what they use. -/
set_option linter.unusedSimpArgs false
set_option linter.unusedVariables false
namespace Go.Proofs.YtcjkikadolnfgaaGreat
open Go.Vx Go.Vc Go.RowKit
def sizeG (t : TG) (most : Int) : Int := if most < 0 then 0 else if (szG t : Int) ≤ most then szG t else most + 1
theorem size_fn (t : TG) (most : Int) (hz : szG t < 4611686018427387904) (hm : most < 9223372036854775808) : FnR Tryz.prog G0 100 [dG t, .int .i64 most] (.int .i64 (sizeG t most)) := by
  refine fnQ_of_vc txok mixed [] Tryz.func100 rfl rfl (by simp) fun b => ?_
  conv => whnf
  refine And.intro (fun h => ?_) (fun h => ?_)
  · have h := of_decide_eq_true h
    conv => whnf
    rw [sizeG, if_pos h]
  · have h := of_decide_eq_false h
    conv => whnf
    refine callF (sized_fn t 0 most (by omega) (by omega)) gf147 rfl rfl ?_
    rw [Nat.zero_add]
    conv => whnf
    refine And.intro (fun h2 => ?_) (fun h2 => ?_)
    · have h2 := of_decide_eq_true h2
      conv => whnf
      refine congrArg (D.int .i64) ?_
      rw [sizeG, if_neg h]
      split <;> omega
    · have h2 := of_decide_eq_false h2
      conv => whnf
      refine congrArg (D.int .i64) ?_
      have e : IntKind.i64.wrap (most + 1) = most + 1 := Go.Vc.wrap_small (by omega) (by omega)
      rw [e, sizeG, if_neg h, if_neg (by omega)]
def idxG (p : TG → Bool) : List TG → Int → Int
  | [], _ => -1
  | t :: r, i => if p t then i else idxG p r (i + 1)
theorem idxG_nonneg (p : TG → Bool) : ∀ (l : List TG) (i : Int), 0 ≤ i → (0 ≤ idxG p l i ↔ l.any p = true)
  | [], i, h => by simp [idxG]
  | t :: r, i, h => by
    simp only [idxG, List.any_cons]
    by_cases hp : p t = true
    · rw [if_pos hp, hp]; simp [h]
    · rw [if_neg hp, idxG_nonneg p r (i + 1) (by omega)]; simp [hp]
theorem indexFuncG_fn (f : FuncId) (c : D) (p : TG → Bool) (l : List TG) (hg : Goes Tryz.prog f) (ih : ∀ t ∈ l, FnR Tryz.prog G0 f [dG t, c] (.bool (p t))) : FnR Tryz.prog G0 146 [dGs l, .fn f [] [c]] (.int .i64 (idxG p l 0)) := by
  refine fnQ_sz fun hs => ?_
  have hl := (szOk_sl hs.1).1
  simp only [LB] at hl
  refine fnQ_of_vc txok mixed [] Tryz.func146 rfl rfl (by simp) fun b => ?_
  conv => whnf
  refine loopH (fun i : Nat => i ≤ l.length ∧ idxG p l 0 = idxG p (l.drop i) i) (fun i => l.length - i) (fun i => [(8, .d (.int .i64 i))]) (fun _ => []) 0 0 ⟨by omega, rfl⟩ (weak_of rfl (by repeat ((conv => whnf); first | exact trivial | refine And.intro rfl ?_ | refine And.intro (incD (by omega)) ?_)) (by repeat ((conv => whnf); first | exact trivial | refine And.intro rfl ?_ | refine And.intro (incD (by omega)) ?_))) ?_
  rintro i ⟨hi, hx⟩
  conv => whnf
  refine And.intro (fun hb => ?_) (fun hb => ?_)
  · have hb := of_decide_eq_true hb
    have hil : i < l.length := by omega
    rw [List.drop_eq_getElem_cons hil, idxG] at hx
    conv => whnf
    refine IdxC.encGs i hil rfl ?_
    conv => whnf
    refine callF (ih l[i] (by simp)) hg rfl rfl ?_
    conv => whnf
    refine And.intro (fun he => ?_) (fun he => ?_)
    · conv => whnf
      rw [hx, if_pos he]
    · conv => whnf
      rw [if_neg (by simp [he])] at hx
      exact again (i + 1) (by omega) ⟨by omega, by rw [hx]; rfl⟩ (weak_of rfl (by repeat ((conv => whnf); first | exact trivial | refine And.intro rfl ?_ | refine And.intro (incD (by omega)) ?_)) (by repeat ((conv => whnf); first | exact trivial | refine And.intro rfl ?_ | refine And.intro (incD (by omega)) ?_)))
  · have hb := of_decide_eq_false hb
    conv => whnf
    rw [hx, List.drop_eq_nil_of_le (by omega)]; rfl
theorem containsFuncG_fn (f : FuncId) (c : D) (p : TG → Bool) (l : List TG) (hg : Goes Tryz.prog f) (ih : ∀ t ∈ l, FnR Tryz.prog G0 f [dG t, c] (.bool (p t))) : FnR Tryz.prog G0 97 [dGs l, .fn f [] [c]] (.bool (l.any p)) := by
  refine fnQ_of_vc txok mixed [] Tryz.func97 rfl rfl (by simp) fun b => ?_
  conv => whnf
  refine callF (indexFuncG_fn f c p l hg ih) gf146 rfl rfl ?_
  conv => whnf
  refine congrArg D.bool ?_
  rw [Bool.eq_iff_iff, decide_eq_true_iff]
  exact idxG_nonneg p l 0 (by omega)
def ordS : List ByteArray → Bool
  | a :: b :: r => Op.bytesLess a.toList b.toList && ordS (b :: r)
  | _ => true
theorem ordS_drop {l : List ByteArray} {i : Nat} (h : i + 1 < l.length) : ordS (l.drop i) = (Op.bytesLess (l[i]'(by omega)).toList l[i + 1].toList && ordS (l.drop (i + 1))) := by
  rw [List.drop_eq_getElem_cons (by omega), List.drop_eq_getElem_cons h, ordS]
theorem ordered_fn (l : List ByteArray) : FnR Tryz.prog G0 99 [dL l] (.bool (ordS l)) := by
  refine fnQ_sz fun hs => ?_
  have hl := (szOk_sl hs.1).1
  simp only [LB] at hl
  refine fnQ_of_vc txok mixed [(4, .pure 0 (.pure 1 (.pure 2 (.pure 3 (.take 4 (.pure 5 (.pure 6 (.pure 7 (.take 8 (.pure 9 .done))))))))))] Tryz.func99 rfl rfl (by simp) fun b => ?_
  conv => whnf
  refine loopH (fun i : Nat => (i ≤ l.length ∨ i = 0) ∧ ordS l = ordS (l.drop i)) (fun i => l.length - i) (fun i => [(3, .d (.int .i64 ((i + 1 : Nat) : Int)))]) (fun _ => []) 0 0 ⟨by omega, rfl⟩ (weak_of rfl (by repeat ((conv => whnf); first | exact trivial | refine And.intro rfl ?_ | refine And.intro (incD (by omega)) ?_)) (by repeat ((conv => whnf); first | exact trivial | refine And.intro rfl ?_ | refine And.intro (incD (by omega)) ?_))) ?_
  rintro i ⟨hi, hx⟩
  conv => whnf
  refine And.intro (fun hb => ?_) (fun hb => ?_)
  · have hb : i + 1 < l.length := by have := of_decide_eq_true hb; omega
    rw [ordS_drop hb] at hx
    conv => whnf
    refine And.intro (by kernel_rfl) ?_
    conv => whnf
    have e1 : IntKind.i64.wrap (((i + 1 : Nat) : Int) - 1) = (i : Int) := (Go.Vc.wrap_small (by omega) (by omega)).trans (by omega)
    rw [e1]
    refine IdxC.encS i (by omega) rfl ?_
    conv => whnf
    refine IdxC.encS (i + 1) hb rfl ?_
    conv => whnf
    refine And.intro (fun he => ?_) (fun he => ?_)
    · conv => whnf
      refine congrArg D.bool ?_
      rw [hx]
      simp only [Bool.not_eq_true'] at he
      rw [he]; rfl
    · conv => whnf
      simp only [Bool.not_eq_false'] at he
      rw [he, Bool.true_and] at hx
      rw [incD (by omega)]
      exact again (i + 1) (by omega) ⟨by omega, hx⟩ (weak_of rfl (by repeat ((conv => whnf); first | exact trivial | refine And.intro rfl ?_ | refine And.intro (incD (by omega)) ?_)) (by repeat ((conv => whnf); first | exact trivial | refine And.intro rfl ?_ | refine And.intro (incD (by omega)) ?_)))
  · have hb : ¬ i + 1 < l.length := by have := of_decide_eq_false hb; omega
    conv => whnf
    refine congrArg D.bool ?_
    rw [hx]
    have : (l.drop i).length ≤ 1 := by simp; omega
    match h : l.drop i, this with
    | [], _ => rfl
    | [_], _ => rfl
def shpG (t : TG) : Bool :=
  if t.k = 1 ∨ t.k = 2 ∨ t.k = 3 then t.n == 0 && (t.ls.length : Int) == 0 && (t.kids.length : Int) == 0
  else if t.k = 4 ∨ t.k = 5 then t.n == 0 && (t.ls.length : Int) == 0 && (t.kids.length : Int) == 2
  else if t.k = 6 then (t.ls.length : Int) == 0 && (t.kids.length : Int) == 0
  else if t.k = 7 then t.n == 0 && ordS t.ls && (t.ls.length : Int) == (t.kids.length : Int)
  else if t.k = 8 then t.n == 0 && (t.ls.length : Int) == 0
  else if t.k = 9 ∨ t.k = 10 ∨ t.k = 11 then (t.ls.length : Int) == 0 && (t.kids.length : Int) == 1
  else false
theorem typeShape_fn (t : TG) : FnR Tryz.prog G0 58 [dG t] (.bool (shpG t)) := by
  refine fnQ_of_vc txok mixed [] Tryz.func58 rfl rfl (by simp) fun b => ?_
  (repeat' ((conv => whnf); first | refine And.intro (fun _ => ?_) (fun _ => ?_))) <;> (conv => whnf)
  all_goals try (refine congrArg D.bool ?_; first | (simp only [shpG, *, Bool.or_self, Bool.true_or, Bool.or_true, Bool.false_or, Bool.or_false, Bool.false_and, Bool.and_false, Bool.true_and, Bool.and_true, Bool.and_self, Bool.not_true, Bool.not_false]; done) | (simp_all [shpG]; done) | (simp_all [shpG]; omega))
  all_goals try (refine callF (ordered_fn t.ls) gf99 rfl rfl ?_)
  all_goals try ((repeat' ((conv => whnf); first | refine And.intro (fun _ => ?_) (fun _ => ?_))) <;> (conv => whnf))
  all_goals try (refine congrArg D.bool ?_; first | (simp only [shpG, *, Bool.or_self, Bool.true_or, Bool.or_true, Bool.false_or, Bool.or_false, Bool.false_and, Bool.and_false, Bool.true_and, Bool.and_true, Bool.and_self, Bool.not_true, Bool.not_false]; done) | (simp_all [shpG]; done) | (simp_all [shpG]; omega))
mutual
def allG : TG → Bool
  | .mk k n ls l => shpG (.mk k n ls l) && allGs l
def allGs : List TG → Bool
  | [] => true
  | t :: r => allG t && allGs r
end
theorem allGs_any : ∀ l : List TG, allGs l = !l.any fun t => !allG t
  | [] => rfl
  | t :: r => by simp only [allGs, List.any_cons, allGs_any r, Bool.not_or, Bool.not_not]
abbrev capS : D := .ptr [.fn 58 [] []] 0
theorem everyType_fn : ∀ t : TG, FnR Tryz.prog G0 57 [dG t, .fn 58 [] []] (.bool (allG t)) := by
  refine TG.ind fun k n ls ks ih => ?_
  have hc : ∀ t ∈ ks, FnR Tryz.prog G0 98 [dG t, capS] (.bool (!allG t)) := by
    intro t ht
    refine fnQ_of_vc txok mixed [] Tryz.func98 rfl rfl (by simp) fun b => ?_
    conv => whnf
    refine callF (ih t ht) gf57 rfl rfl ?_
    conv => whnf
    try exact rfl
  refine fnQ_of_vc txok mixed [] Tryz.func57 rfl rfl (by simp) fun b => ?_
  conv => whnf
  refine callF (typeShape_fn (.mk k n ls ks)) gf58 rfl rfl ?_
  conv => whnf
  refine And.intro (fun h => ?_) (fun h => ?_)
  · conv => whnf
    refine pubC (fun i => Nat.beq i 1) ?_
    conv => whnf
    refine callF (containsFuncG_fn 98 capS (fun t => !allG t) ks gf98 hc) gf97 rfl rfl ?_
    conv => whnf
    refine congrArg D.bool ?_
    simp only [allG, allGs_any, h, Bool.true_and]
  · conv => whnf
    refine congrArg D.bool ?_
    simp [allG, h]
mutual
def depG : TG → Nat
  | .mk _ _ _ l => depGs l + 1
def depGs : List TG → Nat
  | [] => 0
  | t :: r => max (depG t) (depGs r)
end
theorem depGs_app : ∀ l m : List TG, depGs (l ++ m) = max (depGs l) (depGs m)
  | [], m => by simp [depGs]
  | t :: r, m => by simp only [List.cons_append, depGs, depGs_app r m]; omega
theorem depGs_take {l : List TG} {i : Nat} (h : i < l.length) : depGs (l.take (i + 1)) = max (depGs (l.take i)) (depG l[i]) := by
  rw [List.take_succ_eq_append_getElem h, depGs_app]; simp [depGs]
theorem depthType_fn : ∀ (t : TG) (at' : Nat), 1 ≤ at' → at' ≤ 100001 → FnR Tryz.prog G0 56 [dG t, .int .i64 at'] (.int .i64 (min (at' + depG t - 1) 100001 : Nat)) := by
  refine TG.ind fun k n ls ks ih q hq0 hq => ?_
  refine fnQ_sz fun hs => ?_
  have hl := (szOk_G (t := .mk k n ls ks) hs.1).1
  simp only [g_kids, LB] at hl
  have hd : depG (.mk k n ls ks) = depGs ks + 1 := by simp only [depG]
  rw [hd]
  refine fnQ_of_vc txok mixed [] Tryz.func56 rfl rfl (by simp) fun b => ?_
  conv => whnf
  refine And.intro (fun h => ?_) (fun h => ?_)
  · have h := of_decide_eq_true h
    conv => whnf
    rw [show min (q + (depGs ks + 1) - 1) 100001 = q from by omega]
  have h := of_decide_eq_false h
  conv => whnf
  simp only [g_kids]
  refine loopH (fun i : Nat => i ≤ ks.length) (fun i => ks.length - i) (fun i => [(15, .d (.int .i64 i)), (5, .d (.int .i64 (min (q + depGs (ks.take i)) 100001 : Nat)))]) (fun _ => [(0, .blk 28 [.d (.int .i64 k), .d (.int .i64 n), .d (dL ls), .d (dGs ks)])]) 1 0 (by omega) ?_ ?_
  · rw [show min (q + depGs (ks.take 0)) 100001 = q from by simp [depGs]; omega]
    exact weak_of rfl (by repeat ((conv => whnf); first | exact trivial | refine And.intro rfl ?_ | refine And.intro (incD (by omega)) ?_)) (by repeat ((conv => whnf); first | exact trivial | refine And.intro rfl ?_ | refine And.intro (incD (by omega)) ?_))
  intro i hi
  conv => whnf
  refine And.intro (fun hb => ?_) (fun hb => ?_)
  · have hil : i < ks.length := by have := of_decide_eq_true hb; omega
    have ht := depGs_take hil
    conv => whnf
    refine IdxC.encGs i hil rfl ?_
    conv => whnf
    rw [incD (by omega)]
    refine callF (ih ks[i] (by simp) (q + 1) (by omega) (by omega)) gf56 rfl rfl ?_
    conv => whnf
    refine maxC rfl rfl rfl ?_
    conv => whnf
    rw [incD (by omega)]
    refine again (i + 1) (by omega) (by omega) ?_
    rw [ht, show (max ((min (q + depGs (ks.take i)) 100001 : Nat) : Int) ((min (q + 1 + depG ks[i] - 1) 100001 : Nat) : Int)) = ((min (q + max (depGs (ks.take i)) (depG ks[i])) 100001 : Nat) : Int) from by omega]
    exact weak_of rfl (by repeat ((conv => whnf); first | exact trivial | refine And.intro rfl ?_ | refine And.intro (incD (by omega)) ?_)) (by repeat ((conv => whnf); first | exact trivial | refine And.intro rfl ?_ | refine And.intro (incD (by omega)) ?_))
  · have hil : i = ks.length := by have := of_decide_eq_false hb; omega
    subst hil
    rw [List.take_length]
    conv => whnf
    rw [show min (q + (depGs ks + 1) - 1) 100001 = min (q + depGs ks) 100001 from by omega]
def rightG (t : TG) : Int := if depG t > 100000 then 4 else if allG t then 0 else 1
theorem rightType_fn (t : TG) : FnR Tryz.prog G0 26 [dG t] (.int .i64 (rightG t)) := by
  refine fnQ_of_vc txok mixed [] Tryz.func26 rfl rfl (by simp) fun b => ?_
  conv => whnf
  refine callF (depthType_fn t 1 (by omega) (by omega)) gf56 rfl rfl ?_
  conv => whnf
  refine And.intro (fun h => ?_) (fun h => ?_)
  · have h : depG t > 100000 := by have := of_decide_eq_true h; omega
    conv => whnf
    rw [rightG, if_pos h]
  have h : ¬ depG t > 100000 := by have := of_decide_eq_false h; omega
  conv => whnf
  refine callF (everyType_fn t) gf57 rfl rfl ?_
  conv => whnf
  refine And.intro (fun h2 => ?_) (fun h2 => ?_)
  · conv => whnf
    rw [rightG, if_neg h, if_neg (by simpa using h2)]
  · conv => whnf
    rw [rightG, if_neg h, if_pos (by simpa using h2)]
end Go.Proofs.YtcjkikadolnfgaaGreat


/- slices.Index, Contains, Equal, Clip, Clone. -/
set_option linter.unusedSimpArgs false
set_option linter.unusedVariables false
namespace Go.Proofs.YtcjkikadolnfgaaGreat
open Go.Vx Go.Vc Go.RowKit
theorem index_fn (l : List Int) (x : Int) : FnR Tryz.prog G0 71 [dI l, .int .i64 x] (.int .i64 (idxFrom l x 0)) := by
  refine fnQ_sz fun hs => ?_
  have hl := (szOk_sl hs.1).1
  simp only [LB] at hl
  refine fnQ_of_vc txok mixed [] Tryz.func71 rfl rfl (by simp) fun b => ?_
  conv => whnf
  refine loopH (fun i : Nat => i ≤ l.length ∧ idxFrom l x 0 = idxFrom (l.drop i) x i) (fun i => l.length - i) (fun i => [(8, .d (.int .i64 i))]) (fun _ => []) 0 0 ⟨by omega, rfl⟩ (weak_of rfl (by repeat ((conv => whnf); first | exact trivial | refine And.intro rfl ?_ | refine And.intro (incD (by omega)) ?_)) (by repeat ((conv => whnf); first | exact trivial | refine And.intro rfl ?_ | refine And.intro (incD (by omega)) ?_))) ?_
  rintro i ⟨hi, hx⟩
  conv => whnf
  refine And.intro (fun hb => ?_) (fun hb => ?_)
  · have hb := of_decide_eq_true hb
    have hil : i < l.length := by omega
    rw [List.drop_eq_getElem_cons hil, idxFrom] at hx
    conv => whnf
    refine IdxC.encI i hil rfl ?_
    conv => whnf
    refine And.intro (fun he => ?_) (fun he => ?_)
    · conv => whnf
      rw [hx, if_pos (eq_of_beq he)]
    · conv => whnf
      rw [if_neg (by simpa using he)] at hx
      exact again (i + 1) (by omega) ⟨by omega, by rw [hx]; rfl⟩ (weak_of rfl (by repeat ((conv => whnf); first | exact trivial | refine And.intro rfl ?_ | refine And.intro (incD (by omega)) ?_)) (by repeat ((conv => whnf); first | exact trivial | refine And.intro rfl ?_ | refine And.intro (incD (by omega)) ?_)))
  · have hb := of_decide_eq_false hb
    conv => whnf
    rw [hx, List.drop_eq_nil_of_le (by omega)]; rfl
theorem contains_fn (l : List Int) (x : Int) : FnR Tryz.prog G0 35 [dI l, .int .i64 x] (.bool (decide (x ∈ l))) := by
  refine fnQ_of_vc txok mixed [] Tryz.func35 rfl rfl (by simp) fun b => ?_
  conv => whnf
  refine callF (index_fn l x) gf71 rfl rfl ?_
  conv => whnf
  refine congrArg D.bool ?_
  rw [decide_eq_decide]
  exact idxFrom_nonneg l x 0 (by omega)
theorem beqB' (a c : ByteArray) : (a.toList == c.toList) = decide (a = c) := by
  rw [Bool.eq_iff_iff, beq_iff_eq, decide_eq_true_iff]
  exact ⟨toList_inj, fun h => by rw [h]⟩
theorem eqS_drop {l m : List ByteArray} {i : Nat} (hl : i < l.length) (hm : i < m.length) : (l.drop i = m.drop i) ↔ (l[i] = m[i] ∧ l.drop (i + 1) = m.drop (i + 1)) := by
  rw [List.drop_eq_getElem_cons hl, List.drop_eq_getElem_cons hm, List.cons.injEq]
theorem equalS_fn (l m : List ByteArray) : FnR Tryz.prog G0 75 [dL l, dL m] (.bool (decide (l = m))) := by
  refine fnQ_sz fun hs => ?_
  have hl := (szOk_sl hs.1).1
  simp only [LB] at hl
  refine fnQ_of_vc txok mixed [(6, .pure 0 (.pure 1 (.pure 2 (.take 3 (.pure 4 (.pure 5 (.pure 6 (.take 7 (.pure 8 .done)))))))))] Tryz.func75 rfl rfl (by simp) fun b => ?_
  conv => whnf
  refine And.intro (fun h => ?_) (fun h => ?_)
  · conv => whnf
    refine congrArg D.bool ?_
    rw [eq_comm, decide_eq_false_iff_not]
    rintro rfl
    simp at h
  have h : l.length = m.length := by simp at h; omega
  conv => whnf
  refine loopH (fun i : Nat => i ≤ l.length ∧ (l = m ↔ l.drop i = m.drop i)) (fun i => l.length - i) (fun i => [(13, .d (.int .i64 i))]) (fun _ => []) 0 0 ⟨by omega, by simp⟩ (weak_of rfl (by repeat ((conv => whnf); first | exact trivial | refine And.intro rfl ?_ | refine And.intro (incD (by omega)) ?_)) (by repeat ((conv => whnf); first | exact trivial | refine And.intro rfl ?_ | refine And.intro (incD (by omega)) ?_))) ?_
  rintro i ⟨hi, hx⟩
  conv => whnf
  refine And.intro (fun hb => ?_) (fun hb => ?_)
  · have hil : i < l.length := by have := of_decide_eq_true hb; omega
    have him : i < m.length := by omega
    rw [eqS_drop hil him] at hx
    conv => whnf
    refine And.intro (by kernel_rfl) ?_
    conv => whnf
    refine IdxC.encS i hil rfl ?_
    conv => whnf
    refine IdxC.encS i him rfl ?_
    conv => whnf
    rw [beqB']
    refine And.intro (fun he => ?_) (fun he => ?_)
    · conv => whnf
      refine congrArg D.bool ?_
      rw [eq_comm, decide_eq_false_iff_not, hx]
      simp at he
      exact fun h' => he h'.1
    · conv => whnf
      simp at he
      exact again (i + 1) (by omega) ⟨by omega, by rw [hx]; simp [he]⟩ (weak_of rfl (by repeat ((conv => whnf); first | exact trivial | refine And.intro rfl ?_ | refine And.intro (incD (by omega)) ?_)) (by repeat ((conv => whnf); first | exact trivial | refine And.intro rfl ?_ | refine And.intro (incD (by omega)) ?_)))
  · have hb : ¬ i < l.length := by have := of_decide_eq_false hb; omega
    conv => whnf
    refine congrArg D.bool ?_
    rw [eq_comm, decide_eq_true_iff, hx, List.drop_eq_nil_of_le (by omega), List.drop_eq_nil_of_le (by omega)]
theorem clip_fn (l : List Int) : FnR Tryz.prog G0 86 [dI l] (.csl (ebn 8 l.length) l.length (encI l)) := by
  refine fnQ_of_vc txok mixed [] Tryz.func86 rfl rfl (by simp) fun b => ?_
  conv => whnf
  refine clipC (el := 3) txok rfl rfl rfl rfl rfl rfl rfl ?_
  conv => whnf
  try exact rfl
theorem clone_tri (l : List TG) : Tri Tryz.prog G0 149 0 1 [.d (dGs l)] [] (fun o H' => o = .ret (.row 0) ∧ H' = [(0, .row 28 64 4 l.length (encGs l))]) := by
  refine tri_sz fun hs => ?_
  have hl := (szOk_sl (hs (.d (dGs l)) (by simp))).1
  refine triNil (args := [.d (dGs l)]) (Q := fun o H' => (o = .ret (.row 0) ∧ H' = [(0, .row 28 64 4 l.length (encGs l))]) ∨ (o = .ret .nl ∧ l = [])) 28 64 4 ?_ ?_
  · refine tri_of_vc (args := [.d (dGs l)]) txok mixed [0] [] Tryz.func149 rfl rfl (by simp) fun b => ?_
    conv => whnf
    intro c hc
    conv => whnf
    refine And.intro (fun h => ?_) (fun h => ?_)
    · conv => whnf
      exact .inr ⟨rfl, List.eq_nil_of_length_eq_zero (hc h)⟩
    · conv => whnf
      refine appR (i := 0) (sz := 4) (n := 0) (m := l.length) (xs := []) (ys := encGs l) txok (fun _ => false) l.length (encGs l) rfl rfl rfl (by kernel_rfl) (encGs_len l) (encGs_scal l) (by simp) (by simp) hl ?_
      conv => whnf
      exact .inl ⟨rfl, rfl⟩
  · rintro o H' (h | ⟨rfl, rfl⟩)
    · exact .inl h
    · exact .inr ⟨rfl, rfl, rfl⟩
end Go.Proofs.YtcjkikadolnfgaaGreat


