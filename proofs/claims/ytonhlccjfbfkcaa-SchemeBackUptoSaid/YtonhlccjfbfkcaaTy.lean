/- What is told of this seat's types: printed by a program of mine, each entry checked by the kernel. -/
import Derived.Test.YtonhlccjfbfkcaaProg
import Derived.Test.YtonhlccjfbfkcaaVcall
import Derived.KernelRfl
namespace Go.Proofs.Ytonhlccjfbfkcaa
open Go.Vc
def ty : List (Nat × TI) := [(1, ⟨.nilFunc, 1, 8, false, [], none, false, false⟩),
  (2, ⟨(.int .i64 0), 1, 8, false, [], none, false, false⟩),
  (3, ⟨(.int .i64 0), 1, 8, false, [], none, false, false⟩),
  (4, ⟨(.bool false), 1, 1, false, [], none, false, false⟩),
  (5, ⟨(.int .u8 0), 1, 1, false, [], none, false, false⟩),
  (6, ⟨(.int .u8 0), 1, 1, false, [], none, false, false⟩),
  (7, ⟨(.agg #[(.int .i64 0), (.int .i64 0), (.bool false), (.int .u8 0)]), 4, 24, true, [(0, 1), (1, 1), (2, 1), (3, 1)], none, false, false⟩),
  (8, ⟨(.agg #[(.int .i64 0), (.int .i64 0), (.bool false), (.int .u8 0)]), 4, 24, true, [(0, 1), (1, 1), (2, 1), (3, 1)], none, false, false⟩),
  (9, ⟨(.string ⟨#[]⟩), 1, 16, false, [], none, true, false⟩),
  (10, ⟨(.string ⟨#[]⟩), 1, 16, false, [], none, true, false⟩),
  (11, ⟨(.string ⟨#[]⟩), 1, 16, false, [], none, true, false⟩),
  (12, ⟨(.int .u64 0), 1, 8, false, [], none, false, false⟩),
  (13, ⟨(.agg #[(.string ⟨#[]⟩), (.int .u64 0)]), 2, 24, true, [(0, 1), (1, 1)], none, false, false⟩),
  (14, ⟨(.agg #[(.string ⟨#[]⟩), (.int .u64 0)]), 2, 24, true, [(0, 1), (1, 1)], none, false, false⟩),
  (15, ⟨(.pointer none), 1, 8, false, [], none, false, false⟩),
  (16, ⟨(.pointer none), 1, 8, false, [], none, false, false⟩),
  (17, ⟨(.pointer none), 1, 8, false, [], none, false, false⟩),
  (18, ⟨(.agg #[(.pointer none)]), 1, 8, true, [(0, 1)], none, false, false⟩),
  (19, ⟨(.agg #[(.pointer none)]), 1, 8, true, [(0, 1)], none, false, false⟩),
  (20, ⟨.nilIface, 1, 16, false, [], none, false, true⟩),
  (21, ⟨(.int .i32 0), 1, 4, false, [], none, false, false⟩),
  (22, ⟨(.slice none 0 0), 1, 24, false, [], some 24, false, false⟩),
  (23, ⟨(.agg #[(.int .i64 0), (.int .i64 0), (.slice none 0 0)]), 3, 40, true, [(0, 1), (1, 1), (2, 1)], none, false, false⟩),
  (24, ⟨(.agg #[(.int .i64 0), (.int .i64 0), (.slice none 0 0)]), 3, 40, true, [(0, 1), (1, 1), (2, 1)], none, false, false⟩),
  (25, ⟨(.slice none 0 0), 1, 24, false, [], some 3, false, false⟩),
  (26, ⟨.nilFunc, 1, 8, false, [], none, false, false⟩),
  (27, ⟨.nilFunc, 1, 8, false, [], none, false, false⟩),
  (28, ⟨(.agg #[(.int .i64 0), (.int .i64 0), (.int .i64 0), (.slice none 0 0)]), 4, 48, true, [(0, 1), (1, 3)], none, false, false⟩),
  (29, ⟨(.agg #[(.int .i64 0), (.int .i64 0), (.int .i64 0), (.slice none 0 0)]), 4, 48, true, [(0, 1), (1, 3)], none, false, false⟩),
  (30, ⟨.nilFunc, 1, 8, false, [], none, false, false⟩),
  (31, ⟨.nilFunc, 1, 8, false, [], none, false, false⟩),
  (32, ⟨.nilFunc, 1, 8, false, [], none, false, false⟩),
  (33, ⟨.nilFunc, 1, 8, false, [], none, false, false⟩),
  (35, ⟨.nilFunc, 1, 8, false, [], none, false, false⟩),
  (36, ⟨.nilFunc, 1, 8, false, [], none, false, false⟩),
  (37, ⟨.nilFunc, 1, 8, false, [], none, false, false⟩),
  (38, ⟨.nilFunc, 1, 8, false, [], none, false, false⟩),
  (39, ⟨.nilFunc, 1, 8, false, [], none, false, false⟩),
  (40, ⟨(.int .i64 0), 1, 8, false, [], none, false, false⟩),
  (42, ⟨.nilFunc, 1, 8, false, [], none, false, false⟩),
  (43, ⟨.nilFunc, 1, 8, false, [], none, false, false⟩),
  (44, ⟨.nilFunc, 1, 8, false, [], none, false, false⟩),
  (46, ⟨.nilFunc, 1, 8, false, [], none, false, false⟩),
  (47, ⟨.nilFunc, 1, 8, false, [], none, false, false⟩),
  (48, ⟨.nilFunc, 1, 8, false, [], none, false, false⟩),
  (49, ⟨.nilFunc, 1, 8, false, [], none, false, false⟩),
  (50, ⟨.nilFunc, 1, 8, false, [], none, false, false⟩),
  (51, ⟨.nilFunc, 1, 8, false, [], none, false, false⟩),
  (52, ⟨.nilFunc, 1, 8, false, [], none, false, false⟩),
  (53, ⟨.nilFunc, 1, 8, false, [], none, false, false⟩),
  (54, ⟨.nilFunc, 1, 8, false, [], none, false, false⟩),
  (55, ⟨.nilFunc, 1, 8, false, [], none, false, false⟩),
  (56, ⟨.nilFunc, 1, 8, false, [], none, false, false⟩),
  (57, ⟨.nilFunc, 1, 8, false, [], none, false, false⟩),
  (58, ⟨.nilFunc, 1, 8, false, [], none, false, false⟩),
  (59, ⟨(.slice none 0 0), 1, 24, false, [], some 4, false, false⟩),
  (60, ⟨(.agg #[(.int .i64 0), (.int .i64 0), (.slice none 0 0), (.int .i64 0), (.int .i64 0), (.slice none 0 0)]), 6, 80, true, [(0, 3), (3, 3)], none, false, false⟩),
  (61, ⟨(.agg #[(.int .i64 0), (.int .i64 0), (.slice none 0 0), (.int .i64 0), (.int .i64 0), (.slice none 0 0)]), 6, 80, true, [(0, 3), (3, 3)], none, false, false⟩),
  (62, ⟨(.slice none 0 0), 1, 24, false, [], some 61, false, false⟩),
  (63, ⟨(.pointer none), 1, 8, false, [], none, false, false⟩),
  (64, ⟨(.agg #[(.slice none 0 0), (.slice none 0 0)]), 2, 48, true, [(0, 1), (1, 1)], none, false, false⟩),
  (65, ⟨(.agg #[(.slice none 0 0), (.slice none 0 0)]), 2, 48, true, [(0, 1), (1, 1)], none, false, false⟩),
  (66, ⟨.nilFunc, 1, 8, false, [], none, false, false⟩),
  (67, ⟨.nilFunc, 1, 8, false, [], none, false, false⟩),
  (68, ⟨.nilFunc, 1, 8, false, [], none, false, false⟩),
  (70, ⟨.nilFunc, 1, 8, false, [], none, false, false⟩),
  (71, ⟨.nilFunc, 1, 8, false, [], none, false, false⟩),
  (72, ⟨.nilFunc, 1, 8, false, [], none, false, false⟩),
  (73, ⟨.nilFunc, 1, 8, false, [], none, false, false⟩),
  (74, ⟨(.pointer none), 1, 8, false, [], none, false, false⟩),
  (75, ⟨(.agg #[(.int .i64 0), (.slice none 0 0)]), 2, 32, true, [(0, 1), (1, 1)], none, false, false⟩),
  (76, ⟨(.agg #[(.int .i64 0), (.slice none 0 0)]), 2, 32, true, [(0, 1), (1, 1)], none, false, false⟩),
  (77, ⟨.nilFunc, 1, 8, false, [], none, false, false⟩),
  (78, ⟨.nilFunc, 1, 8, false, [], none, false, false⟩),
  (79, ⟨.nilFunc, 1, 8, false, [], none, false, false⟩),
  (80, ⟨(.agg #[(.int .i64 0), (.slice none 0 0), (.slice none 0 0)]), 3, 56, true, [(0, 1), (1, 1), (2, 1)], none, false, false⟩),
  (81, ⟨(.agg #[(.int .i64 0), (.slice none 0 0), (.slice none 0 0)]), 3, 56, true, [(0, 1), (1, 1), (2, 1)], none, false, false⟩),
  (82, ⟨.nilFunc, 1, 8, false, [], none, false, false⟩),
  (83, ⟨.nilFunc, 1, 8, false, [], none, false, false⟩),
  (84, ⟨.nilFunc, 1, 8, false, [], none, false, false⟩),
  (85, ⟨.nilFunc, 1, 8, false, [], none, false, false⟩),
  (86, ⟨.nilFunc, 1, 8, false, [], none, false, false⟩),
  (87, ⟨.nilFunc, 1, 8, false, [], none, false, false⟩),
  (88, ⟨(.agg #[(.pointer none), (.pointer none), (.pointer none), (.string ⟨#[]⟩)]), 4, 40, true, [(0, 1), (1, 1), (2, 1), (3, 1)], none, false, false⟩),
  (89, ⟨(.agg #[(.pointer none), (.pointer none), (.pointer none), (.string ⟨#[]⟩)]), 4, 40, true, [(0, 1), (1, 1), (2, 1), (3, 1)], none, false, false⟩),
  (93, ⟨.nilFunc, 1, 8, false, [], none, false, false⟩),
  (94, ⟨(.int .u32 0), 1, 4, false, [], none, false, false⟩),
  (95, ⟨(.int .u8 0), 1, 1, false, [], none, false, false⟩),
  (96, ⟨(.int .u8 0), 1, 1, false, [], none, false, false⟩),
  (97, ⟨.nilFunc, 1, 8, false, [], none, false, false⟩),
  (98, ⟨(.pointer none), 1, 8, false, [], none, false, false⟩),
  (99, ⟨(.int .i32 0), 1, 4, false, [], none, false, false⟩),
  (100, ⟨(.int .i32 0), 1, 4, false, [], none, false, false⟩),
  (101, ⟨(.agg #[(.int .u64 0), (.int .u64 0), (.int .u32 0), (.int .u8 0), (.int .u8 0), (.int .u8 0), (.int .u8 0), .nilFunc, (.pointer none), (.int .i32 0), (.int .i32 0)]), 11, 48, true, [(0, 1), (1, 1), (2, 1), (3, 1), (4, 1), (5, 1), (6, 1), (7, 1), (8, 1), (9, 1), (10, 1)], none, false, false⟩),
  (102, ⟨(.agg #[(.int .u64 0), (.int .u64 0), (.int .u32 0), (.int .u8 0), (.int .u8 0), (.int .u8 0), (.int .u8 0), .nilFunc, (.pointer none), (.int .i32 0), (.int .i32 0)]), 11, 48, true, [(0, 1), (1, 1), (2, 1), (3, 1), (4, 1), (5, 1), (6, 1), (7, 1), (8, 1), (9, 1), (10, 1)], none, false, false⟩)]
theorem tk1 : TIok Try.prog 1 ⟨.nilFunc, 1, 8, false, [], none, false, false⟩ := ⟨by kernel_rfl, by kernel_rfl⟩
theorem tk2 : TIok Try.prog 2 ⟨(.int .i64 0), 1, 8, false, [], none, false, false⟩ := ⟨by kernel_rfl, by kernel_rfl⟩
theorem tk3 : TIok Try.prog 3 ⟨(.int .i64 0), 1, 8, false, [], none, false, false⟩ := ⟨by kernel_rfl, by kernel_rfl⟩
theorem tk4 : TIok Try.prog 4 ⟨(.bool false), 1, 1, false, [], none, false, false⟩ := ⟨by kernel_rfl, by kernel_rfl⟩
theorem tk5 : TIok Try.prog 5 ⟨(.int .u8 0), 1, 1, false, [], none, false, false⟩ := ⟨by kernel_rfl, by kernel_rfl⟩
theorem tk6 : TIok Try.prog 6 ⟨(.int .u8 0), 1, 1, false, [], none, false, false⟩ := ⟨by kernel_rfl, by kernel_rfl⟩
theorem tk7 : TIok Try.prog 7 ⟨(.agg #[(.int .i64 0), (.int .i64 0), (.bool false), (.int .u8 0)]), 4, 24, true, [(0, 1), (1, 1), (2, 1), (3, 1)], none, false, false⟩ := ⟨by kernel_rfl, by kernel_rfl⟩
theorem tk8 : TIok Try.prog 8 ⟨(.agg #[(.int .i64 0), (.int .i64 0), (.bool false), (.int .u8 0)]), 4, 24, true, [(0, 1), (1, 1), (2, 1), (3, 1)], none, false, false⟩ := ⟨by kernel_rfl, by kernel_rfl⟩
theorem tk9 : TIok Try.prog 9 ⟨(.string ⟨#[]⟩), 1, 16, false, [], none, true, false⟩ := ⟨by kernel_rfl, by kernel_rfl⟩
theorem tk10 : TIok Try.prog 10 ⟨(.string ⟨#[]⟩), 1, 16, false, [], none, true, false⟩ := ⟨by kernel_rfl, by kernel_rfl⟩
theorem tk11 : TIok Try.prog 11 ⟨(.string ⟨#[]⟩), 1, 16, false, [], none, true, false⟩ := ⟨by kernel_rfl, by kernel_rfl⟩
theorem tk12 : TIok Try.prog 12 ⟨(.int .u64 0), 1, 8, false, [], none, false, false⟩ := ⟨by kernel_rfl, by kernel_rfl⟩
theorem tk13 : TIok Try.prog 13 ⟨(.agg #[(.string ⟨#[]⟩), (.int .u64 0)]), 2, 24, true, [(0, 1), (1, 1)], none, false, false⟩ := ⟨by kernel_rfl, by kernel_rfl⟩
theorem tk14 : TIok Try.prog 14 ⟨(.agg #[(.string ⟨#[]⟩), (.int .u64 0)]), 2, 24, true, [(0, 1), (1, 1)], none, false, false⟩ := ⟨by kernel_rfl, by kernel_rfl⟩
theorem tk15 : TIok Try.prog 15 ⟨(.pointer none), 1, 8, false, [], none, false, false⟩ := ⟨by kernel_rfl, by kernel_rfl⟩
theorem tk16 : TIok Try.prog 16 ⟨(.pointer none), 1, 8, false, [], none, false, false⟩ := ⟨by kernel_rfl, by kernel_rfl⟩
theorem tk17 : TIok Try.prog 17 ⟨(.pointer none), 1, 8, false, [], none, false, false⟩ := ⟨by kernel_rfl, by kernel_rfl⟩
theorem tk18 : TIok Try.prog 18 ⟨(.agg #[(.pointer none)]), 1, 8, true, [(0, 1)], none, false, false⟩ := ⟨by kernel_rfl, by kernel_rfl⟩
theorem tk19 : TIok Try.prog 19 ⟨(.agg #[(.pointer none)]), 1, 8, true, [(0, 1)], none, false, false⟩ := ⟨by kernel_rfl, by kernel_rfl⟩
theorem tk20 : TIok Try.prog 20 ⟨.nilIface, 1, 16, false, [], none, false, true⟩ := ⟨by kernel_rfl, by kernel_rfl⟩
theorem tk21 : TIok Try.prog 21 ⟨(.int .i32 0), 1, 4, false, [], none, false, false⟩ := ⟨by kernel_rfl, by kernel_rfl⟩
theorem tk22 : TIok Try.prog 22 ⟨(.slice none 0 0), 1, 24, false, [], some 24, false, false⟩ := ⟨by kernel_rfl, by kernel_rfl⟩
theorem tk23 : TIok Try.prog 23 ⟨(.agg #[(.int .i64 0), (.int .i64 0), (.slice none 0 0)]), 3, 40, true, [(0, 1), (1, 1), (2, 1)], none, false, false⟩ := ⟨by kernel_rfl, by kernel_rfl⟩
theorem tk24 : TIok Try.prog 24 ⟨(.agg #[(.int .i64 0), (.int .i64 0), (.slice none 0 0)]), 3, 40, true, [(0, 1), (1, 1), (2, 1)], none, false, false⟩ := ⟨by kernel_rfl, by kernel_rfl⟩
theorem tk25 : TIok Try.prog 25 ⟨(.slice none 0 0), 1, 24, false, [], some 3, false, false⟩ := ⟨by kernel_rfl, by kernel_rfl⟩
theorem tk26 : TIok Try.prog 26 ⟨.nilFunc, 1, 8, false, [], none, false, false⟩ := ⟨by kernel_rfl, by kernel_rfl⟩
theorem tk27 : TIok Try.prog 27 ⟨.nilFunc, 1, 8, false, [], none, false, false⟩ := ⟨by kernel_rfl, by kernel_rfl⟩
theorem tk28 : TIok Try.prog 28 ⟨(.agg #[(.int .i64 0), (.int .i64 0), (.int .i64 0), (.slice none 0 0)]), 4, 48, true, [(0, 1), (1, 3)], none, false, false⟩ := ⟨by kernel_rfl, by kernel_rfl⟩
theorem tk29 : TIok Try.prog 29 ⟨(.agg #[(.int .i64 0), (.int .i64 0), (.int .i64 0), (.slice none 0 0)]), 4, 48, true, [(0, 1), (1, 3)], none, false, false⟩ := ⟨by kernel_rfl, by kernel_rfl⟩
theorem tk30 : TIok Try.prog 30 ⟨.nilFunc, 1, 8, false, [], none, false, false⟩ := ⟨by kernel_rfl, by kernel_rfl⟩
theorem tk31 : TIok Try.prog 31 ⟨.nilFunc, 1, 8, false, [], none, false, false⟩ := ⟨by kernel_rfl, by kernel_rfl⟩
theorem tk32 : TIok Try.prog 32 ⟨.nilFunc, 1, 8, false, [], none, false, false⟩ := ⟨by kernel_rfl, by kernel_rfl⟩
theorem tk33 : TIok Try.prog 33 ⟨.nilFunc, 1, 8, false, [], none, false, false⟩ := ⟨by kernel_rfl, by kernel_rfl⟩
theorem tk35 : TIok Try.prog 35 ⟨.nilFunc, 1, 8, false, [], none, false, false⟩ := ⟨by kernel_rfl, by kernel_rfl⟩
theorem tk36 : TIok Try.prog 36 ⟨.nilFunc, 1, 8, false, [], none, false, false⟩ := ⟨by kernel_rfl, by kernel_rfl⟩
theorem tk37 : TIok Try.prog 37 ⟨.nilFunc, 1, 8, false, [], none, false, false⟩ := ⟨by kernel_rfl, by kernel_rfl⟩
theorem tk38 : TIok Try.prog 38 ⟨.nilFunc, 1, 8, false, [], none, false, false⟩ := ⟨by kernel_rfl, by kernel_rfl⟩
theorem tk39 : TIok Try.prog 39 ⟨.nilFunc, 1, 8, false, [], none, false, false⟩ := ⟨by kernel_rfl, by kernel_rfl⟩
theorem tk40 : TIok Try.prog 40 ⟨(.int .i64 0), 1, 8, false, [], none, false, false⟩ := ⟨by kernel_rfl, by kernel_rfl⟩
theorem tk42 : TIok Try.prog 42 ⟨.nilFunc, 1, 8, false, [], none, false, false⟩ := ⟨by kernel_rfl, by kernel_rfl⟩
theorem tk43 : TIok Try.prog 43 ⟨.nilFunc, 1, 8, false, [], none, false, false⟩ := ⟨by kernel_rfl, by kernel_rfl⟩
theorem tk44 : TIok Try.prog 44 ⟨.nilFunc, 1, 8, false, [], none, false, false⟩ := ⟨by kernel_rfl, by kernel_rfl⟩
theorem tk46 : TIok Try.prog 46 ⟨.nilFunc, 1, 8, false, [], none, false, false⟩ := ⟨by kernel_rfl, by kernel_rfl⟩
theorem tk47 : TIok Try.prog 47 ⟨.nilFunc, 1, 8, false, [], none, false, false⟩ := ⟨by kernel_rfl, by kernel_rfl⟩
theorem tk48 : TIok Try.prog 48 ⟨.nilFunc, 1, 8, false, [], none, false, false⟩ := ⟨by kernel_rfl, by kernel_rfl⟩
theorem tk49 : TIok Try.prog 49 ⟨.nilFunc, 1, 8, false, [], none, false, false⟩ := ⟨by kernel_rfl, by kernel_rfl⟩
theorem tk50 : TIok Try.prog 50 ⟨.nilFunc, 1, 8, false, [], none, false, false⟩ := ⟨by kernel_rfl, by kernel_rfl⟩
theorem tk51 : TIok Try.prog 51 ⟨.nilFunc, 1, 8, false, [], none, false, false⟩ := ⟨by kernel_rfl, by kernel_rfl⟩
theorem tk52 : TIok Try.prog 52 ⟨.nilFunc, 1, 8, false, [], none, false, false⟩ := ⟨by kernel_rfl, by kernel_rfl⟩
theorem tk53 : TIok Try.prog 53 ⟨.nilFunc, 1, 8, false, [], none, false, false⟩ := ⟨by kernel_rfl, by kernel_rfl⟩
theorem tk54 : TIok Try.prog 54 ⟨.nilFunc, 1, 8, false, [], none, false, false⟩ := ⟨by kernel_rfl, by kernel_rfl⟩
theorem tk55 : TIok Try.prog 55 ⟨.nilFunc, 1, 8, false, [], none, false, false⟩ := ⟨by kernel_rfl, by kernel_rfl⟩
theorem tk56 : TIok Try.prog 56 ⟨.nilFunc, 1, 8, false, [], none, false, false⟩ := ⟨by kernel_rfl, by kernel_rfl⟩
theorem tk57 : TIok Try.prog 57 ⟨.nilFunc, 1, 8, false, [], none, false, false⟩ := ⟨by kernel_rfl, by kernel_rfl⟩
theorem tk58 : TIok Try.prog 58 ⟨.nilFunc, 1, 8, false, [], none, false, false⟩ := ⟨by kernel_rfl, by kernel_rfl⟩
theorem tk59 : TIok Try.prog 59 ⟨(.slice none 0 0), 1, 24, false, [], some 4, false, false⟩ := ⟨by kernel_rfl, by kernel_rfl⟩
theorem tk60 : TIok Try.prog 60 ⟨(.agg #[(.int .i64 0), (.int .i64 0), (.slice none 0 0), (.int .i64 0), (.int .i64 0), (.slice none 0 0)]), 6, 80, true, [(0, 3), (3, 3)], none, false, false⟩ := ⟨by kernel_rfl, by kernel_rfl⟩
theorem tk61 : TIok Try.prog 61 ⟨(.agg #[(.int .i64 0), (.int .i64 0), (.slice none 0 0), (.int .i64 0), (.int .i64 0), (.slice none 0 0)]), 6, 80, true, [(0, 3), (3, 3)], none, false, false⟩ := ⟨by kernel_rfl, by kernel_rfl⟩
theorem tk62 : TIok Try.prog 62 ⟨(.slice none 0 0), 1, 24, false, [], some 61, false, false⟩ := ⟨by kernel_rfl, by kernel_rfl⟩
theorem tk63 : TIok Try.prog 63 ⟨(.pointer none), 1, 8, false, [], none, false, false⟩ := ⟨by kernel_rfl, by kernel_rfl⟩
theorem tk64 : TIok Try.prog 64 ⟨(.agg #[(.slice none 0 0), (.slice none 0 0)]), 2, 48, true, [(0, 1), (1, 1)], none, false, false⟩ := ⟨by kernel_rfl, by kernel_rfl⟩
theorem tk65 : TIok Try.prog 65 ⟨(.agg #[(.slice none 0 0), (.slice none 0 0)]), 2, 48, true, [(0, 1), (1, 1)], none, false, false⟩ := ⟨by kernel_rfl, by kernel_rfl⟩
theorem tk66 : TIok Try.prog 66 ⟨.nilFunc, 1, 8, false, [], none, false, false⟩ := ⟨by kernel_rfl, by kernel_rfl⟩
theorem tk67 : TIok Try.prog 67 ⟨.nilFunc, 1, 8, false, [], none, false, false⟩ := ⟨by kernel_rfl, by kernel_rfl⟩
theorem tk68 : TIok Try.prog 68 ⟨.nilFunc, 1, 8, false, [], none, false, false⟩ := ⟨by kernel_rfl, by kernel_rfl⟩
theorem tk70 : TIok Try.prog 70 ⟨.nilFunc, 1, 8, false, [], none, false, false⟩ := ⟨by kernel_rfl, by kernel_rfl⟩
theorem tk71 : TIok Try.prog 71 ⟨.nilFunc, 1, 8, false, [], none, false, false⟩ := ⟨by kernel_rfl, by kernel_rfl⟩
theorem tk72 : TIok Try.prog 72 ⟨.nilFunc, 1, 8, false, [], none, false, false⟩ := ⟨by kernel_rfl, by kernel_rfl⟩
theorem tk73 : TIok Try.prog 73 ⟨.nilFunc, 1, 8, false, [], none, false, false⟩ := ⟨by kernel_rfl, by kernel_rfl⟩
theorem tk74 : TIok Try.prog 74 ⟨(.pointer none), 1, 8, false, [], none, false, false⟩ := ⟨by kernel_rfl, by kernel_rfl⟩
theorem tk75 : TIok Try.prog 75 ⟨(.agg #[(.int .i64 0), (.slice none 0 0)]), 2, 32, true, [(0, 1), (1, 1)], none, false, false⟩ := ⟨by kernel_rfl, by kernel_rfl⟩
theorem tk76 : TIok Try.prog 76 ⟨(.agg #[(.int .i64 0), (.slice none 0 0)]), 2, 32, true, [(0, 1), (1, 1)], none, false, false⟩ := ⟨by kernel_rfl, by kernel_rfl⟩
theorem tk77 : TIok Try.prog 77 ⟨.nilFunc, 1, 8, false, [], none, false, false⟩ := ⟨by kernel_rfl, by kernel_rfl⟩
theorem tk78 : TIok Try.prog 78 ⟨.nilFunc, 1, 8, false, [], none, false, false⟩ := ⟨by kernel_rfl, by kernel_rfl⟩
theorem tk79 : TIok Try.prog 79 ⟨.nilFunc, 1, 8, false, [], none, false, false⟩ := ⟨by kernel_rfl, by kernel_rfl⟩
theorem tk80 : TIok Try.prog 80 ⟨(.agg #[(.int .i64 0), (.slice none 0 0), (.slice none 0 0)]), 3, 56, true, [(0, 1), (1, 1), (2, 1)], none, false, false⟩ := ⟨by kernel_rfl, by kernel_rfl⟩
theorem tk81 : TIok Try.prog 81 ⟨(.agg #[(.int .i64 0), (.slice none 0 0), (.slice none 0 0)]), 3, 56, true, [(0, 1), (1, 1), (2, 1)], none, false, false⟩ := ⟨by kernel_rfl, by kernel_rfl⟩
theorem tk82 : TIok Try.prog 82 ⟨.nilFunc, 1, 8, false, [], none, false, false⟩ := ⟨by kernel_rfl, by kernel_rfl⟩
theorem tk83 : TIok Try.prog 83 ⟨.nilFunc, 1, 8, false, [], none, false, false⟩ := ⟨by kernel_rfl, by kernel_rfl⟩
theorem tk84 : TIok Try.prog 84 ⟨.nilFunc, 1, 8, false, [], none, false, false⟩ := ⟨by kernel_rfl, by kernel_rfl⟩
theorem tk85 : TIok Try.prog 85 ⟨.nilFunc, 1, 8, false, [], none, false, false⟩ := ⟨by kernel_rfl, by kernel_rfl⟩
theorem tk86 : TIok Try.prog 86 ⟨.nilFunc, 1, 8, false, [], none, false, false⟩ := ⟨by kernel_rfl, by kernel_rfl⟩
theorem tk87 : TIok Try.prog 87 ⟨.nilFunc, 1, 8, false, [], none, false, false⟩ := ⟨by kernel_rfl, by kernel_rfl⟩
theorem tk88 : TIok Try.prog 88 ⟨(.agg #[(.pointer none), (.pointer none), (.pointer none), (.string ⟨#[]⟩)]), 4, 40, true, [(0, 1), (1, 1), (2, 1), (3, 1)], none, false, false⟩ := ⟨by kernel_rfl, by kernel_rfl⟩
theorem tk89 : TIok Try.prog 89 ⟨(.agg #[(.pointer none), (.pointer none), (.pointer none), (.string ⟨#[]⟩)]), 4, 40, true, [(0, 1), (1, 1), (2, 1), (3, 1)], none, false, false⟩ := ⟨by kernel_rfl, by kernel_rfl⟩
theorem tk93 : TIok Try.prog 93 ⟨.nilFunc, 1, 8, false, [], none, false, false⟩ := ⟨by kernel_rfl, by kernel_rfl⟩
theorem tk94 : TIok Try.prog 94 ⟨(.int .u32 0), 1, 4, false, [], none, false, false⟩ := ⟨by kernel_rfl, by kernel_rfl⟩
theorem tk95 : TIok Try.prog 95 ⟨(.int .u8 0), 1, 1, false, [], none, false, false⟩ := ⟨by kernel_rfl, by kernel_rfl⟩
theorem tk96 : TIok Try.prog 96 ⟨(.int .u8 0), 1, 1, false, [], none, false, false⟩ := ⟨by kernel_rfl, by kernel_rfl⟩
theorem tk97 : TIok Try.prog 97 ⟨.nilFunc, 1, 8, false, [], none, false, false⟩ := ⟨by kernel_rfl, by kernel_rfl⟩
theorem tk98 : TIok Try.prog 98 ⟨(.pointer none), 1, 8, false, [], none, false, false⟩ := ⟨by kernel_rfl, by kernel_rfl⟩
theorem tk99 : TIok Try.prog 99 ⟨(.int .i32 0), 1, 4, false, [], none, false, false⟩ := ⟨by kernel_rfl, by kernel_rfl⟩
theorem tk100 : TIok Try.prog 100 ⟨(.int .i32 0), 1, 4, false, [], none, false, false⟩ := ⟨by kernel_rfl, by kernel_rfl⟩
theorem tk101 : TIok Try.prog 101 ⟨(.agg #[(.int .u64 0), (.int .u64 0), (.int .u32 0), (.int .u8 0), (.int .u8 0), (.int .u8 0), (.int .u8 0), .nilFunc, (.pointer none), (.int .i32 0), (.int .i32 0)]), 11, 48, true, [(0, 1), (1, 1), (2, 1), (3, 1), (4, 1), (5, 1), (6, 1), (7, 1), (8, 1), (9, 1), (10, 1)], none, false, false⟩ := ⟨by kernel_rfl, by kernel_rfl⟩
theorem tk102 : TIok Try.prog 102 ⟨(.agg #[(.int .u64 0), (.int .u64 0), (.int .u32 0), (.int .u8 0), (.int .u8 0), (.int .u8 0), (.int .u8 0), .nilFunc, (.pointer none), (.int .i32 0), (.int .i32 0)]), 11, 48, true, [(0, 1), (1, 1), (2, 1), (3, 1), (4, 1), (5, 1), (6, 1), (7, 1), (8, 1), (9, 1), (10, 1)], none, false, false⟩ := ⟨by kernel_rfl, by kernel_rfl⟩
theorem tyok : TyOk Try.prog ty := (tyOk_cons tk1 (tyOk_cons tk2 (tyOk_cons tk3 (tyOk_cons tk4 (tyOk_cons tk5 (tyOk_cons tk6 (tyOk_cons tk7 (tyOk_cons tk8 (tyOk_cons tk9 (tyOk_cons tk10 (tyOk_cons tk11 (tyOk_cons tk12 (tyOk_cons tk13 (tyOk_cons tk14 (tyOk_cons tk15 (tyOk_cons tk16 (tyOk_cons tk17 (tyOk_cons tk18 (tyOk_cons tk19 (tyOk_cons tk20 (tyOk_cons tk21 (tyOk_cons tk22 (tyOk_cons tk23 (tyOk_cons tk24 (tyOk_cons tk25 (tyOk_cons tk26 (tyOk_cons tk27 (tyOk_cons tk28 (tyOk_cons tk29 (tyOk_cons tk30 (tyOk_cons tk31 (tyOk_cons tk32 (tyOk_cons tk33 (tyOk_cons tk35 (tyOk_cons tk36 (tyOk_cons tk37 (tyOk_cons tk38 (tyOk_cons tk39 (tyOk_cons tk40 (tyOk_cons tk42 (tyOk_cons tk43 (tyOk_cons tk44 (tyOk_cons tk46 (tyOk_cons tk47 (tyOk_cons tk48 (tyOk_cons tk49 (tyOk_cons tk50 (tyOk_cons tk51 (tyOk_cons tk52 (tyOk_cons tk53 (tyOk_cons tk54 (tyOk_cons tk55 (tyOk_cons tk56 (tyOk_cons tk57 (tyOk_cons tk58 (tyOk_cons tk59 (tyOk_cons tk60 (tyOk_cons tk61 (tyOk_cons tk62 (tyOk_cons tk63 (tyOk_cons tk64 (tyOk_cons tk65 (tyOk_cons tk66 (tyOk_cons tk67 (tyOk_cons tk68 (tyOk_cons tk70 (tyOk_cons tk71 (tyOk_cons tk72 (tyOk_cons tk73 (tyOk_cons tk74 (tyOk_cons tk75 (tyOk_cons tk76 (tyOk_cons tk77 (tyOk_cons tk78 (tyOk_cons tk79 (tyOk_cons tk80 (tyOk_cons tk81 (tyOk_cons tk82 (tyOk_cons tk83 (tyOk_cons tk84 (tyOk_cons tk85 (tyOk_cons tk86 (tyOk_cons tk87 (tyOk_cons tk88 (tyOk_cons tk89 (tyOk_cons tk93 (tyOk_cons tk94 (tyOk_cons tk95 (tyOk_cons tk96 (tyOk_cons tk97 (tyOk_cons tk98 (tyOk_cons tk99 (tyOk_cons tk100 (tyOk_cons tk101 (tyOk_cons tk102 tyOk_nil)))))))))))))))))))))))))))))))))))))))))))))))))))))))))))))))))))))))))))))))))))))))))))))))
theorem mixed : Try.prog.follows .mixedOrders = true := by kernel_rfl
theorem gf2 : Goes Try.prog 2 := goes_of Try.func2 rfl rfl
theorem gf3 : Goes Try.prog 3 := goes_of Try.func3 rfl rfl
theorem gf4 : Goes Try.prog 4 := goes_of Try.func4 rfl rfl
theorem gf5 : Goes Try.prog 5 := goes_of Try.func5 rfl rfl
theorem gf6 : Goes Try.prog 6 := goes_of Try.func6 rfl rfl
theorem gf7 : Goes Try.prog 7 := goes_of Try.func7 rfl rfl
theorem gf8 : Goes Try.prog 8 := goes_of Try.func8 rfl rfl
theorem gf9 : Goes Try.prog 9 := goes_of Try.func9 rfl rfl
theorem gf10 : Goes Try.prog 10 := goes_of Try.func10 rfl rfl
theorem gf11 : Goes Try.prog 11 := goes_of Try.func11 rfl rfl
theorem gf12 : Goes Try.prog 12 := goes_of Try.func12 rfl rfl
theorem gf13 : Goes Try.prog 13 := goes_of Try.func13 rfl rfl
theorem gf14 : Goes Try.prog 14 := goes_of Try.func14 rfl rfl
theorem gf15 : Goes Try.prog 15 := goes_of Try.func15 rfl rfl
theorem gf16 : Goes Try.prog 16 := goes_of Try.func16 rfl rfl
theorem gf17 : Goes Try.prog 17 := goes_of Try.func17 rfl rfl
theorem gf18 : Goes Try.prog 18 := goes_of Try.func18 rfl rfl
theorem gf19 : Goes Try.prog 19 := goes_of Try.func19 rfl rfl
theorem gf20 : Goes Try.prog 20 := goes_of Try.func20 rfl rfl
theorem gf21 : Goes Try.prog 21 := goes_of Try.func21 rfl rfl
theorem gf22 : Goes Try.prog 22 := goes_of Try.func22 rfl rfl
theorem gf23 : Goes Try.prog 23 := goes_of Try.func23 rfl rfl
theorem gf24 : Goes Try.prog 24 := goes_of Try.func24 rfl rfl
theorem gf25 : Goes Try.prog 25 := goes_of Try.func25 rfl rfl
theorem gf26 : Goes Try.prog 26 := goes_of Try.func26 rfl rfl
theorem gf27 : Goes Try.prog 27 := goes_of Try.func27 rfl rfl
theorem gf28 : Goes Try.prog 28 := goes_of Try.func28 rfl rfl
theorem gf29 : Goes Try.prog 29 := goes_of Try.func29 rfl rfl
theorem gf30 : Goes Try.prog 30 := goes_of Try.func30 rfl rfl
theorem gf31 : Goes Try.prog 31 := goes_of Try.func31 rfl rfl
theorem gf32 : Goes Try.prog 32 := goes_of Try.func32 rfl rfl
theorem gf33 : Goes Try.prog 33 := goes_of Try.func33 rfl rfl
theorem gf34 : Goes Try.prog 34 := goes_of Try.func34 rfl rfl
theorem gf35 : Goes Try.prog 35 := goes_of Try.func35 rfl rfl
theorem gf36 : Goes Try.prog 36 := goes_of Try.func36 rfl rfl
theorem gf37 : Goes Try.prog 37 := goes_of Try.func37 rfl rfl
theorem gf38 : Goes Try.prog 38 := goes_of Try.func38 rfl rfl
theorem gf39 : Goes Try.prog 39 := goes_of Try.func39 rfl rfl
theorem gf40 : Goes Try.prog 40 := goes_of Try.func40 rfl rfl
theorem gf41 : Goes Try.prog 41 := goes_of Try.func41 rfl rfl
theorem gf42 : Goes Try.prog 42 := goes_of Try.func42 rfl rfl
theorem gf43 : Goes Try.prog 43 := goes_of Try.func43 rfl rfl
theorem gf44 : Goes Try.prog 44 := goes_of Try.func44 rfl rfl
theorem gf45 : Goes Try.prog 45 := goes_of Try.func45 rfl rfl
theorem gf46 : Goes Try.prog 46 := goes_of Try.func46 rfl rfl
theorem gf47 : Goes Try.prog 47 := goes_of Try.func47 rfl rfl
theorem gf48 : Goes Try.prog 48 := goes_of Try.func48 rfl rfl
theorem gf49 : Goes Try.prog 49 := goes_of Try.func49 rfl rfl
theorem gf50 : Goes Try.prog 50 := goes_of Try.func50 rfl rfl
theorem gf51 : Goes Try.prog 51 := goes_of Try.func51 rfl rfl
theorem gf52 : Goes Try.prog 52 := goes_of Try.func52 rfl rfl
theorem gf53 : Goes Try.prog 53 := goes_of Try.func53 rfl rfl
theorem gf54 : Goes Try.prog 54 := goes_of Try.func54 rfl rfl
theorem gf55 : Goes Try.prog 55 := goes_of Try.func55 rfl rfl
theorem gf56 : Goes Try.prog 56 := goes_of Try.func56 rfl rfl
theorem gf57 : Goes Try.prog 57 := goes_of Try.func57 rfl rfl
theorem gf58 : Goes Try.prog 58 := goes_of Try.func58 rfl rfl
theorem gf59 : Goes Try.prog 59 := goes_of Try.func59 rfl rfl
theorem gf60 : Goes Try.prog 60 := goes_of Try.func60 rfl rfl
theorem gf61 : Goes Try.prog 61 := goes_of Try.func61 rfl rfl
theorem gf62 : Goes Try.prog 62 := goes_of Try.func62 rfl rfl
theorem gf63 : Goes Try.prog 63 := goes_of Try.func63 rfl rfl
theorem gf64 : Goes Try.prog 64 := goes_of Try.func64 rfl rfl
theorem gf65 : Goes Try.prog 65 := goes_of Try.func65 rfl rfl
theorem gf66 : Goes Try.prog 66 := goes_of Try.func66 rfl rfl
theorem gf67 : Goes Try.prog 67 := goes_of Try.func67 rfl rfl
theorem gf68 : Goes Try.prog 68 := goes_of Try.func68 rfl rfl
theorem gf69 : Goes Try.prog 69 := goes_of Try.func69 rfl rfl
theorem gf70 : Goes Try.prog 70 := goes_of Try.func70 rfl rfl
theorem gf71 : Goes Try.prog 71 := goes_of Try.func71 rfl rfl
theorem gf72 : Goes Try.prog 72 := goes_of Try.func72 rfl rfl
end Go.Proofs.Ytonhlccjfbfkcaa
