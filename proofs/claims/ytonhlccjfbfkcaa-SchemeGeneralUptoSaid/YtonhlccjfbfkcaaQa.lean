/- The functions of chapter 12, as they were proved above memory (texts Ty to Tq, joined). -/
import Derived.Test.YtonhlccjfbfkcaaProg
import Derived.Test.YtonhlccjfbfkcaaVcall
import Derived.KernelRfl
import Derived.Test.YtonhlccjfbfkcaaVcl
import Derived.Test.YtonhlccjfbfkcaaVcm
import Derived.Test.YtonhlccjfbfkcaaVcn
set_option linter.unusedVariables false
set_option linter.unusedSimpArgs false
/- What is told of this seat's types: printed by a program of mine, each entry checked by the kernel. -/
namespace Go.Proofs.Ytonhlccjfbfkcaa.Vm
open Go.Vc
def ty : List (Nat × TI) := [(1, ⟨.nilFunc, 1, 8, false, [], none, false, false⟩),
  (2, ⟨(.int .i64 0), 1, 8, false, [], none, false, false⟩),
  (3, ⟨(.int .i64 0), 1, 8, false, [], none, false, false⟩),
  (4, ⟨(.bool false), 1, 1, false, [], none, false, false⟩),
  (5, ⟨(.int .u8 0), 1, 1, false, [], none, false, false⟩),
  (6, ⟨(.int .u8 0), 1, 1, false, [], none, false, false⟩),
  (7, ⟨(.agg #[(.int .i64 0), (.int .i64 0), (.bool false), (.int .u8 0)]), 4, 24, true, [(0, 1), (1, 1), (2, 1), (3, 1)], none, false, false⟩),
  (8, ⟨(.agg #[(.int .i64 0), (.int .i64 0), (.bool false), (.int .u8 0)]), 4, 24, true, [(0, 1), (1, 1), (2, 1), (3, 1)], none, false, false⟩),
  (9, ⟨(.string ⟨#[]⟩), 1, 16, false, [], none, true, false⟩),
  (10, ⟨(.string ⟨#[]⟩), 1, 16, false, [], none, true, false⟩),
  (11, ⟨(.string ⟨#[]⟩), 1, 16, false, [], none, true, false⟩),
  (12, ⟨(.int .u64 0), 1, 8, false, [], none, false, false⟩),
  (13, ⟨(.agg #[(.string ⟨#[]⟩), (.int .u64 0)]), 2, 24, true, [(0, 1), (1, 1)], none, false, false⟩),
  (14, ⟨(.agg #[(.string ⟨#[]⟩), (.int .u64 0)]), 2, 24, true, [(0, 1), (1, 1)], none, false, false⟩),
  (15, ⟨(.pointer none), 1, 8, false, [], none, false, false⟩),
  (16, ⟨(.pointer none), 1, 8, false, [], none, false, false⟩),
  (17, ⟨(.pointer none), 1, 8, false, [], none, false, false⟩),
  (18, ⟨(.agg #[(.pointer none)]), 1, 8, true, [(0, 1)], none, false, false⟩),
  (19, ⟨(.agg #[(.pointer none)]), 1, 8, true, [(0, 1)], none, false, false⟩),
  (20, ⟨.nilIface, 1, 16, false, [], none, false, true⟩),
  (21, ⟨(.int .i32 0), 1, 4, false, [], none, false, false⟩),
  (22, ⟨(.slice none 0 0), 1, 24, false, [], some 24, false, false⟩),
  (23, ⟨(.agg #[(.int .i64 0), (.int .i64 0), (.slice none 0 0)]), 3, 40, true, [(0, 1), (1, 1), (2, 1)], none, false, false⟩),
  (24, ⟨(.agg #[(.int .i64 0), (.int .i64 0), (.slice none 0 0)]), 3, 40, true, [(0, 1), (1, 1), (2, 1)], none, false, false⟩),
  (25, ⟨(.slice none 0 0), 1, 24, false, [], some 3, false, false⟩),
  (26, ⟨.nilFunc, 1, 8, false, [], none, false, false⟩),
  (27, ⟨.nilFunc, 1, 8, false, [], none, false, false⟩),
  (28, ⟨(.agg #[(.int .i64 0), (.int .i64 0), (.int .i64 0), (.slice none 0 0)]), 4, 48, true, [(0, 1), (1, 3)], none, false, false⟩),
  (29, ⟨(.agg #[(.int .i64 0), (.int .i64 0), (.int .i64 0), (.slice none 0 0)]), 4, 48, true, [(0, 1), (1, 3)], none, false, false⟩),
  (30, ⟨.nilFunc, 1, 8, false, [], none, false, false⟩),
  (31, ⟨.nilFunc, 1, 8, false, [], none, false, false⟩),
  (32, ⟨.nilFunc, 1, 8, false, [], none, false, false⟩),
  (33, ⟨.nilFunc, 1, 8, false, [], none, false, false⟩),
  (35, ⟨.nilFunc, 1, 8, false, [], none, false, false⟩),
  (36, ⟨.nilFunc, 1, 8, false, [], none, false, false⟩),
  (37, ⟨.nilFunc, 1, 8, false, [], none, false, false⟩),
  (38, ⟨.nilFunc, 1, 8, false, [], none, false, false⟩),
  (39, ⟨.nilFunc, 1, 8, false, [], none, false, false⟩),
  (40, ⟨(.int .i64 0), 1, 8, false, [], none, false, false⟩),
  (42, ⟨.nilFunc, 1, 8, false, [], none, false, false⟩),
  (43, ⟨.nilFunc, 1, 8, false, [], none, false, false⟩),
  (44, ⟨.nilFunc, 1, 8, false, [], none, false, false⟩),
  (46, ⟨.nilFunc, 1, 8, false, [], none, false, false⟩),
  (47, ⟨.nilFunc, 1, 8, false, [], none, false, false⟩),
  (48, ⟨.nilFunc, 1, 8, false, [], none, false, false⟩),
  (49, ⟨.nilFunc, 1, 8, false, [], none, false, false⟩),
  (50, ⟨.nilFunc, 1, 8, false, [], none, false, false⟩),
  (51, ⟨.nilFunc, 1, 8, false, [], none, false, false⟩),
  (52, ⟨.nilFunc, 1, 8, false, [], none, false, false⟩),
  (53, ⟨.nilFunc, 1, 8, false, [], none, false, false⟩),
  (54, ⟨.nilFunc, 1, 8, false, [], none, false, false⟩),
  (55, ⟨.nilFunc, 1, 8, false, [], none, false, false⟩),
  (56, ⟨.nilFunc, 1, 8, false, [], none, false, false⟩),
  (57, ⟨.nilFunc, 1, 8, false, [], none, false, false⟩),
  (58, ⟨.nilFunc, 1, 8, false, [], none, false, false⟩),
  (59, ⟨(.slice none 0 0), 1, 24, false, [], some 4, false, false⟩),
  (60, ⟨(.agg #[(.int .i64 0), (.int .i64 0), (.slice none 0 0), (.int .i64 0), (.int .i64 0), (.slice none 0 0)]), 6, 80, true, [(0, 3), (3, 3)], none, false, false⟩),
  (61, ⟨(.agg #[(.int .i64 0), (.int .i64 0), (.slice none 0 0), (.int .i64 0), (.int .i64 0), (.slice none 0 0)]), 6, 80, true, [(0, 3), (3, 3)], none, false, false⟩),
  (62, ⟨(.slice none 0 0), 1, 24, false, [], some 61, false, false⟩),
  (63, ⟨(.pointer none), 1, 8, false, [], none, false, false⟩),
  (64, ⟨(.agg #[(.slice none 0 0), (.slice none 0 0)]), 2, 48, true, [(0, 1), (1, 1)], none, false, false⟩),
  (65, ⟨(.agg #[(.slice none 0 0), (.slice none 0 0)]), 2, 48, true, [(0, 1), (1, 1)], none, false, false⟩),
  (66, ⟨.nilFunc, 1, 8, false, [], none, false, false⟩),
  (67, ⟨.nilFunc, 1, 8, false, [], none, false, false⟩),
  (68, ⟨.nilFunc, 1, 8, false, [], none, false, false⟩),
  (70, ⟨.nilFunc, 1, 8, false, [], none, false, false⟩),
  (71, ⟨.nilFunc, 1, 8, false, [], none, false, false⟩),
  (72, ⟨.nilFunc, 1, 8, false, [], none, false, false⟩),
  (73, ⟨.nilFunc, 1, 8, false, [], none, false, false⟩),
  (74, ⟨(.pointer none), 1, 8, false, [], none, false, false⟩),
  (75, ⟨(.agg #[(.int .i64 0), (.slice none 0 0)]), 2, 32, true, [(0, 1), (1, 1)], none, false, false⟩),
  (76, ⟨(.agg #[(.int .i64 0), (.slice none 0 0)]), 2, 32, true, [(0, 1), (1, 1)], none, false, false⟩),
  (77, ⟨.nilFunc, 1, 8, false, [], none, false, false⟩),
  (78, ⟨.nilFunc, 1, 8, false, [], none, false, false⟩),
  (79, ⟨.nilFunc, 1, 8, false, [], none, false, false⟩),
  (80, ⟨(.agg #[(.int .i64 0), (.slice none 0 0), (.slice none 0 0)]), 3, 56, true, [(0, 1), (1, 1), (2, 1)], none, false, false⟩),
  (81, ⟨(.agg #[(.int .i64 0), (.slice none 0 0), (.slice none 0 0)]), 3, 56, true, [(0, 1), (1, 1), (2, 1)], none, false, false⟩),
  (82, ⟨.nilFunc, 1, 8, false, [], none, false, false⟩),
  (83, ⟨.nilFunc, 1, 8, false, [], none, false, false⟩),
  (84, ⟨.nilFunc, 1, 8, false, [], none, false, false⟩),
  (85, ⟨.nilFunc, 1, 8, false, [], none, false, false⟩),
  (86, ⟨.nilFunc, 1, 8, false, [], none, false, false⟩),
  (87, ⟨.nilFunc, 1, 8, false, [], none, false, false⟩),
  (88, ⟨(.agg #[(.pointer none), (.pointer none), (.pointer none), (.string ⟨#[]⟩)]), 4, 40, true, [(0, 1), (1, 1), (2, 1), (3, 1)], none, false, false⟩),
  (89, ⟨(.agg #[(.pointer none), (.pointer none), (.pointer none), (.string ⟨#[]⟩)]), 4, 40, true, [(0, 1), (1, 1), (2, 1), (3, 1)], none, false, false⟩),
  (93, ⟨.nilFunc, 1, 8, false, [], none, false, false⟩),
  (94, ⟨(.int .u32 0), 1, 4, false, [], none, false, false⟩),
  (95, ⟨(.int .u8 0), 1, 1, false, [], none, false, false⟩),
  (96, ⟨(.int .u8 0), 1, 1, false, [], none, false, false⟩),
  (97, ⟨.nilFunc, 1, 8, false, [], none, false, false⟩),
  (98, ⟨(.pointer none), 1, 8, false, [], none, false, false⟩),
  (99, ⟨(.int .i32 0), 1, 4, false, [], none, false, false⟩),
  (100, ⟨(.int .i32 0), 1, 4, false, [], none, false, false⟩),
  (101, ⟨(.agg #[(.int .u64 0), (.int .u64 0), (.int .u32 0), (.int .u8 0), (.int .u8 0), (.int .u8 0), (.int .u8 0), .nilFunc, (.pointer none), (.int .i32 0), (.int .i32 0)]), 11, 48, true, [(0, 1), (1, 1), (2, 1), (3, 1), (4, 1), (5, 1), (6, 1), (7, 1), (8, 1), (9, 1), (10, 1)], none, false, false⟩),
  (102, ⟨(.agg #[(.int .u64 0), (.int .u64 0), (.int .u32 0), (.int .u8 0), (.int .u8 0), (.int .u8 0), (.int .u8 0), .nilFunc, (.pointer none), (.int .i32 0), (.int .i32 0)]), 11, 48, true, [(0, 1), (1, 1), (2, 1), (3, 1), (4, 1), (5, 1), (6, 1), (7, 1), (8, 1), (9, 1), (10, 1)], none, false, false⟩)]
theorem tk1 : TIok Try.prog 1 ⟨.nilFunc, 1, 8, false, [], none, false, false⟩ := ⟨by kernel_rfl, by kernel_rfl⟩
theorem tk2 : TIok Try.prog 2 ⟨(.int .i64 0), 1, 8, false, [], none, false, false⟩ := ⟨by kernel_rfl, by kernel_rfl⟩
theorem tk3 : TIok Try.prog 3 ⟨(.int .i64 0), 1, 8, false, [], none, false, false⟩ := ⟨by kernel_rfl, by kernel_rfl⟩
theorem tk4 : TIok Try.prog 4 ⟨(.bool false), 1, 1, false, [], none, false, false⟩ := ⟨by kernel_rfl, by kernel_rfl⟩
theorem tk5 : TIok Try.prog 5 ⟨(.int .u8 0), 1, 1, false, [], none, false, false⟩ := ⟨by kernel_rfl, by kernel_rfl⟩
theorem tk6 : TIok Try.prog 6 ⟨(.int .u8 0), 1, 1, false, [], none, false, false⟩ := ⟨by kernel_rfl, by kernel_rfl⟩
theorem tk7 : TIok Try.prog 7 ⟨(.agg #[(.int .i64 0), (.int .i64 0), (.bool false), (.int .u8 0)]), 4, 24, true, [(0, 1), (1, 1), (2, 1), (3, 1)], none, false, false⟩ := ⟨by kernel_rfl, by kernel_rfl⟩
theorem tk8 : TIok Try.prog 8 ⟨(.agg #[(.int .i64 0), (.int .i64 0), (.bool false), (.int .u8 0)]), 4, 24, true, [(0, 1), (1, 1), (2, 1), (3, 1)], none, false, false⟩ := ⟨by kernel_rfl, by kernel_rfl⟩
theorem tk9 : TIok Try.prog 9 ⟨(.string ⟨#[]⟩), 1, 16, false, [], none, true, false⟩ := ⟨by kernel_rfl, by kernel_rfl⟩
theorem tk10 : TIok Try.prog 10 ⟨(.string ⟨#[]⟩), 1, 16, false, [], none, true, false⟩ := ⟨by kernel_rfl, by kernel_rfl⟩
theorem tk11 : TIok Try.prog 11 ⟨(.string ⟨#[]⟩), 1, 16, false, [], none, true, false⟩ := ⟨by kernel_rfl, by kernel_rfl⟩
theorem tk12 : TIok Try.prog 12 ⟨(.int .u64 0), 1, 8, false, [], none, false, false⟩ := ⟨by kernel_rfl, by kernel_rfl⟩
theorem tk13 : TIok Try.prog 13 ⟨(.agg #[(.string ⟨#[]⟩), (.int .u64 0)]), 2, 24, true, [(0, 1), (1, 1)], none, false, false⟩ := ⟨by kernel_rfl, by kernel_rfl⟩
theorem tk14 : TIok Try.prog 14 ⟨(.agg #[(.string ⟨#[]⟩), (.int .u64 0)]), 2, 24, true, [(0, 1), (1, 1)], none, false, false⟩ := ⟨by kernel_rfl, by kernel_rfl⟩
theorem tk15 : TIok Try.prog 15 ⟨(.pointer none), 1, 8, false, [], none, false, false⟩ := ⟨by kernel_rfl, by kernel_rfl⟩
theorem tk16 : TIok Try.prog 16 ⟨(.pointer none), 1, 8, false, [], none, false, false⟩ := ⟨by kernel_rfl, by kernel_rfl⟩
theorem tk17 : TIok Try.prog 17 ⟨(.pointer none), 1, 8, false, [], none, false, false⟩ := ⟨by kernel_rfl, by kernel_rfl⟩
theorem tk18 : TIok Try.prog 18 ⟨(.agg #[(.pointer none)]), 1, 8, true, [(0, 1)], none, false, false⟩ := ⟨by kernel_rfl, by kernel_rfl⟩
theorem tk19 : TIok Try.prog 19 ⟨(.agg #[(.pointer none)]), 1, 8, true, [(0, 1)], none, false, false⟩ := ⟨by kernel_rfl, by kernel_rfl⟩
theorem tk20 : TIok Try.prog 20 ⟨.nilIface, 1, 16, false, [], none, false, true⟩ := ⟨by kernel_rfl, by kernel_rfl⟩
theorem tk21 : TIok Try.prog 21 ⟨(.int .i32 0), 1, 4, false, [], none, false, false⟩ := ⟨by kernel_rfl, by kernel_rfl⟩
theorem tk22 : TIok Try.prog 22 ⟨(.slice none 0 0), 1, 24, false, [], some 24, false, false⟩ := ⟨by kernel_rfl, by kernel_rfl⟩
theorem tk23 : TIok Try.prog 23 ⟨(.agg #[(.int .i64 0), (.int .i64 0), (.slice none 0 0)]), 3, 40, true, [(0, 1), (1, 1), (2, 1)], none, false, false⟩ := ⟨by kernel_rfl, by kernel_rfl⟩
theorem tk24 : TIok Try.prog 24 ⟨(.agg #[(.int .i64 0), (.int .i64 0), (.slice none 0 0)]), 3, 40, true, [(0, 1), (1, 1), (2, 1)], none, false, false⟩ := ⟨by kernel_rfl, by kernel_rfl⟩
theorem tk25 : TIok Try.prog 25 ⟨(.slice none 0 0), 1, 24, false, [], some 3, false, false⟩ := ⟨by kernel_rfl, by kernel_rfl⟩
theorem tk26 : TIok Try.prog 26 ⟨.nilFunc, 1, 8, false, [], none, false, false⟩ := ⟨by kernel_rfl, by kernel_rfl⟩
theorem tk27 : TIok Try.prog 27 ⟨.nilFunc, 1, 8, false, [], none, false, false⟩ := ⟨by kernel_rfl, by kernel_rfl⟩
theorem tk28 : TIok Try.prog 28 ⟨(.agg #[(.int .i64 0), (.int .i64 0), (.int .i64 0), (.slice none 0 0)]), 4, 48, true, [(0, 1), (1, 3)], none, false, false⟩ := ⟨by kernel_rfl, by kernel_rfl⟩
theorem tk29 : TIok Try.prog 29 ⟨(.agg #[(.int .i64 0), (.int .i64 0), (.int .i64 0), (.slice none 0 0)]), 4, 48, true, [(0, 1), (1, 3)], none, false, false⟩ := ⟨by kernel_rfl, by kernel_rfl⟩
theorem tk30 : TIok Try.prog 30 ⟨.nilFunc, 1, 8, false, [], none, false, false⟩ := ⟨by kernel_rfl, by kernel_rfl⟩
theorem tk31 : TIok Try.prog 31 ⟨.nilFunc, 1, 8, false, [], none, false, false⟩ := ⟨by kernel_rfl, by kernel_rfl⟩
theorem tk32 : TIok Try.prog 32 ⟨.nilFunc, 1, 8, false, [], none, false, false⟩ := ⟨by kernel_rfl, by kernel_rfl⟩
theorem tk33 : TIok Try.prog 33 ⟨.nilFunc, 1, 8, false, [], none, false, false⟩ := ⟨by kernel_rfl, by kernel_rfl⟩
theorem tk35 : TIok Try.prog 35 ⟨.nilFunc, 1, 8, false, [], none, false, false⟩ := ⟨by kernel_rfl, by kernel_rfl⟩
theorem tk36 : TIok Try.prog 36 ⟨.nilFunc, 1, 8, false, [], none, false, false⟩ := ⟨by kernel_rfl, by kernel_rfl⟩
theorem tk37 : TIok Try.prog 37 ⟨.nilFunc, 1, 8, false, [], none, false, false⟩ := ⟨by kernel_rfl, by kernel_rfl⟩
theorem tk38 : TIok Try.prog 38 ⟨.nilFunc, 1, 8, false, [], none, false, false⟩ := ⟨by kernel_rfl, by kernel_rfl⟩
theorem tk39 : TIok Try.prog 39 ⟨.nilFunc, 1, 8, false, [], none, false, false⟩ := ⟨by kernel_rfl, by kernel_rfl⟩
theorem tk40 : TIok Try.prog 40 ⟨(.int .i64 0), 1, 8, false, [], none, false, false⟩ := ⟨by kernel_rfl, by kernel_rfl⟩
theorem tk42 : TIok Try.prog 42 ⟨.nilFunc, 1, 8, false, [], none, false, false⟩ := ⟨by kernel_rfl, by kernel_rfl⟩
theorem tk43 : TIok Try.prog 43 ⟨.nilFunc, 1, 8, false, [], none, false, false⟩ := ⟨by kernel_rfl, by kernel_rfl⟩
theorem tk44 : TIok Try.prog 44 ⟨.nilFunc, 1, 8, false, [], none, false, false⟩ := ⟨by kernel_rfl, by kernel_rfl⟩
theorem tk46 : TIok Try.prog 46 ⟨.nilFunc, 1, 8, false, [], none, false, false⟩ := ⟨by kernel_rfl, by kernel_rfl⟩
theorem tk47 : TIok Try.prog 47 ⟨.nilFunc, 1, 8, false, [], none, false, false⟩ := ⟨by kernel_rfl, by kernel_rfl⟩
theorem tk48 : TIok Try.prog 48 ⟨.nilFunc, 1, 8, false, [], none, false, false⟩ := ⟨by kernel_rfl, by kernel_rfl⟩
theorem tk49 : TIok Try.prog 49 ⟨.nilFunc, 1, 8, false, [], none, false, false⟩ := ⟨by kernel_rfl, by kernel_rfl⟩
theorem tk50 : TIok Try.prog 50 ⟨.nilFunc, 1, 8, false, [], none, false, false⟩ := ⟨by kernel_rfl, by kernel_rfl⟩
theorem tk51 : TIok Try.prog 51 ⟨.nilFunc, 1, 8, false, [], none, false, false⟩ := ⟨by kernel_rfl, by kernel_rfl⟩
theorem tk52 : TIok Try.prog 52 ⟨.nilFunc, 1, 8, false, [], none, false, false⟩ := ⟨by kernel_rfl, by kernel_rfl⟩
theorem tk53 : TIok Try.prog 53 ⟨.nilFunc, 1, 8, false, [], none, false, false⟩ := ⟨by kernel_rfl, by kernel_rfl⟩
theorem tk54 : TIok Try.prog 54 ⟨.nilFunc, 1, 8, false, [], none, false, false⟩ := ⟨by kernel_rfl, by kernel_rfl⟩
theorem tk55 : TIok Try.prog 55 ⟨.nilFunc, 1, 8, false, [], none, false, false⟩ := ⟨by kernel_rfl, by kernel_rfl⟩
theorem tk56 : TIok Try.prog 56 ⟨.nilFunc, 1, 8, false, [], none, false, false⟩ := ⟨by kernel_rfl, by kernel_rfl⟩
theorem tk57 : TIok Try.prog 57 ⟨.nilFunc, 1, 8, false, [], none, false, false⟩ := ⟨by kernel_rfl, by kernel_rfl⟩
theorem tk58 : TIok Try.prog 58 ⟨.nilFunc, 1, 8, false, [], none, false, false⟩ := ⟨by kernel_rfl, by kernel_rfl⟩
theorem tk59 : TIok Try.prog 59 ⟨(.slice none 0 0), 1, 24, false, [], some 4, false, false⟩ := ⟨by kernel_rfl, by kernel_rfl⟩
theorem tk60 : TIok Try.prog 60 ⟨(.agg #[(.int .i64 0), (.int .i64 0), (.slice none 0 0), (.int .i64 0), (.int .i64 0), (.slice none 0 0)]), 6, 80, true, [(0, 3), (3, 3)], none, false, false⟩ := ⟨by kernel_rfl, by kernel_rfl⟩
theorem tk61 : TIok Try.prog 61 ⟨(.agg #[(.int .i64 0), (.int .i64 0), (.slice none 0 0), (.int .i64 0), (.int .i64 0), (.slice none 0 0)]), 6, 80, true, [(0, 3), (3, 3)], none, false, false⟩ := ⟨by kernel_rfl, by kernel_rfl⟩
theorem tk62 : TIok Try.prog 62 ⟨(.slice none 0 0), 1, 24, false, [], some 61, false, false⟩ := ⟨by kernel_rfl, by kernel_rfl⟩
theorem tk63 : TIok Try.prog 63 ⟨(.pointer none), 1, 8, false, [], none, false, false⟩ := ⟨by kernel_rfl, by kernel_rfl⟩
theorem tk64 : TIok Try.prog 64 ⟨(.agg #[(.slice none 0 0), (.slice none 0 0)]), 2, 48, true, [(0, 1), (1, 1)], none, false, false⟩ := ⟨by kernel_rfl, by kernel_rfl⟩
theorem tk65 : TIok Try.prog 65 ⟨(.agg #[(.slice none 0 0), (.slice none 0 0)]), 2, 48, true, [(0, 1), (1, 1)], none, false, false⟩ := ⟨by kernel_rfl, by kernel_rfl⟩
theorem tk66 : TIok Try.prog 66 ⟨.nilFunc, 1, 8, false, [], none, false, false⟩ := ⟨by kernel_rfl, by kernel_rfl⟩
theorem tk67 : TIok Try.prog 67 ⟨.nilFunc, 1, 8, false, [], none, false, false⟩ := ⟨by kernel_rfl, by kernel_rfl⟩
theorem tk68 : TIok Try.prog 68 ⟨.nilFunc, 1, 8, false, [], none, false, false⟩ := ⟨by kernel_rfl, by kernel_rfl⟩
theorem tk70 : TIok Try.prog 70 ⟨.nilFunc, 1, 8, false, [], none, false, false⟩ := ⟨by kernel_rfl, by kernel_rfl⟩
theorem tk71 : TIok Try.prog 71 ⟨.nilFunc, 1, 8, false, [], none, false, false⟩ := ⟨by kernel_rfl, by kernel_rfl⟩
theorem tk72 : TIok Try.prog 72 ⟨.nilFunc, 1, 8, false, [], none, false, false⟩ := ⟨by kernel_rfl, by kernel_rfl⟩
theorem tk73 : TIok Try.prog 73 ⟨.nilFunc, 1, 8, false, [], none, false, false⟩ := ⟨by kernel_rfl, by kernel_rfl⟩
theorem tk74 : TIok Try.prog 74 ⟨(.pointer none), 1, 8, false, [], none, false, false⟩ := ⟨by kernel_rfl, by kernel_rfl⟩
theorem tk75 : TIok Try.prog 75 ⟨(.agg #[(.int .i64 0), (.slice none 0 0)]), 2, 32, true, [(0, 1), (1, 1)], none, false, false⟩ := ⟨by kernel_rfl, by kernel_rfl⟩
theorem tk76 : TIok Try.prog 76 ⟨(.agg #[(.int .i64 0), (.slice none 0 0)]), 2, 32, true, [(0, 1), (1, 1)], none, false, false⟩ := ⟨by kernel_rfl, by kernel_rfl⟩
theorem tk77 : TIok Try.prog 77 ⟨.nilFunc, 1, 8, false, [], none, false, false⟩ := ⟨by kernel_rfl, by kernel_rfl⟩
theorem tk78 : TIok Try.prog 78 ⟨.nilFunc, 1, 8, false, [], none, false, false⟩ := ⟨by kernel_rfl, by kernel_rfl⟩
theorem tk79 : TIok Try.prog 79 ⟨.nilFunc, 1, 8, false, [], none, false, false⟩ := ⟨by kernel_rfl, by kernel_rfl⟩
theorem tk80 : TIok Try.prog 80 ⟨(.agg #[(.int .i64 0), (.slice none 0 0), (.slice none 0 0)]), 3, 56, true, [(0, 1), (1, 1), (2, 1)], none, false, false⟩ := ⟨by kernel_rfl, by kernel_rfl⟩
theorem tk81 : TIok Try.prog 81 ⟨(.agg #[(.int .i64 0), (.slice none 0 0), (.slice none 0 0)]), 3, 56, true, [(0, 1), (1, 1), (2, 1)], none, false, false⟩ := ⟨by kernel_rfl, by kernel_rfl⟩
theorem tk82 : TIok Try.prog 82 ⟨.nilFunc, 1, 8, false, [], none, false, false⟩ := ⟨by kernel_rfl, by kernel_rfl⟩
theorem tk83 : TIok Try.prog 83 ⟨.nilFunc, 1, 8, false, [], none, false, false⟩ := ⟨by kernel_rfl, by kernel_rfl⟩
theorem tk84 : TIok Try.prog 84 ⟨.nilFunc, 1, 8, false, [], none, false, false⟩ := ⟨by kernel_rfl, by kernel_rfl⟩
theorem tk85 : TIok Try.prog 85 ⟨.nilFunc, 1, 8, false, [], none, false, false⟩ := ⟨by kernel_rfl, by kernel_rfl⟩
theorem tk86 : TIok Try.prog 86 ⟨.nilFunc, 1, 8, false, [], none, false, false⟩ := ⟨by kernel_rfl, by kernel_rfl⟩
theorem tk87 : TIok Try.prog 87 ⟨.nilFunc, 1, 8, false, [], none, false, false⟩ := ⟨by kernel_rfl, by kernel_rfl⟩
theorem tk88 : TIok Try.prog 88 ⟨(.agg #[(.pointer none), (.pointer none), (.pointer none), (.string ⟨#[]⟩)]), 4, 40, true, [(0, 1), (1, 1), (2, 1), (3, 1)], none, false, false⟩ := ⟨by kernel_rfl, by kernel_rfl⟩
theorem tk89 : TIok Try.prog 89 ⟨(.agg #[(.pointer none), (.pointer none), (.pointer none), (.string ⟨#[]⟩)]), 4, 40, true, [(0, 1), (1, 1), (2, 1), (3, 1)], none, false, false⟩ := ⟨by kernel_rfl, by kernel_rfl⟩
theorem tk93 : TIok Try.prog 93 ⟨.nilFunc, 1, 8, false, [], none, false, false⟩ := ⟨by kernel_rfl, by kernel_rfl⟩
theorem tk94 : TIok Try.prog 94 ⟨(.int .u32 0), 1, 4, false, [], none, false, false⟩ := ⟨by kernel_rfl, by kernel_rfl⟩
theorem tk95 : TIok Try.prog 95 ⟨(.int .u8 0), 1, 1, false, [], none, false, false⟩ := ⟨by kernel_rfl, by kernel_rfl⟩
theorem tk96 : TIok Try.prog 96 ⟨(.int .u8 0), 1, 1, false, [], none, false, false⟩ := ⟨by kernel_rfl, by kernel_rfl⟩
theorem tk97 : TIok Try.prog 97 ⟨.nilFunc, 1, 8, false, [], none, false, false⟩ := ⟨by kernel_rfl, by kernel_rfl⟩
theorem tk98 : TIok Try.prog 98 ⟨(.pointer none), 1, 8, false, [], none, false, false⟩ := ⟨by kernel_rfl, by kernel_rfl⟩
theorem tk99 : TIok Try.prog 99 ⟨(.int .i32 0), 1, 4, false, [], none, false, false⟩ := ⟨by kernel_rfl, by kernel_rfl⟩
theorem tk100 : TIok Try.prog 100 ⟨(.int .i32 0), 1, 4, false, [], none, false, false⟩ := ⟨by kernel_rfl, by kernel_rfl⟩
theorem tk101 : TIok Try.prog 101 ⟨(.agg #[(.int .u64 0), (.int .u64 0), (.int .u32 0), (.int .u8 0), (.int .u8 0), (.int .u8 0), (.int .u8 0), .nilFunc, (.pointer none), (.int .i32 0), (.int .i32 0)]), 11, 48, true, [(0, 1), (1, 1), (2, 1), (3, 1), (4, 1), (5, 1), (6, 1), (7, 1), (8, 1), (9, 1), (10, 1)], none, false, false⟩ := ⟨by kernel_rfl, by kernel_rfl⟩
theorem tk102 : TIok Try.prog 102 ⟨(.agg #[(.int .u64 0), (.int .u64 0), (.int .u32 0), (.int .u8 0), (.int .u8 0), (.int .u8 0), (.int .u8 0), .nilFunc, (.pointer none), (.int .i32 0), (.int .i32 0)]), 11, 48, true, [(0, 1), (1, 1), (2, 1), (3, 1), (4, 1), (5, 1), (6, 1), (7, 1), (8, 1), (9, 1), (10, 1)], none, false, false⟩ := ⟨by kernel_rfl, by kernel_rfl⟩
theorem tyok : TyOk Try.prog ty := (tyOk_cons tk1 (tyOk_cons tk2 (tyOk_cons tk3 (tyOk_cons tk4 (tyOk_cons tk5 (tyOk_cons tk6 (tyOk_cons tk7 (tyOk_cons tk8 (tyOk_cons tk9 (tyOk_cons tk10 (tyOk_cons tk11 (tyOk_cons tk12 (tyOk_cons tk13 (tyOk_cons tk14 (tyOk_cons tk15 (tyOk_cons tk16 (tyOk_cons tk17 (tyOk_cons tk18 (tyOk_cons tk19 (tyOk_cons tk20 (tyOk_cons tk21 (tyOk_cons tk22 (tyOk_cons tk23 (tyOk_cons tk24 (tyOk_cons tk25 (tyOk_cons tk26 (tyOk_cons tk27 (tyOk_cons tk28 (tyOk_cons tk29 (tyOk_cons tk30 (tyOk_cons tk31 (tyOk_cons tk32 (tyOk_cons tk33 (tyOk_cons tk35 (tyOk_cons tk36 (tyOk_cons tk37 (tyOk_cons tk38 (tyOk_cons tk39 (tyOk_cons tk40 (tyOk_cons tk42 (tyOk_cons tk43 (tyOk_cons tk44 (tyOk_cons tk46 (tyOk_cons tk47 (tyOk_cons tk48 (tyOk_cons tk49 (tyOk_cons tk50 (tyOk_cons tk51 (tyOk_cons tk52 (tyOk_cons tk53 (tyOk_cons tk54 (tyOk_cons tk55 (tyOk_cons tk56 (tyOk_cons tk57 (tyOk_cons tk58 (tyOk_cons tk59 (tyOk_cons tk60 (tyOk_cons tk61 (tyOk_cons tk62 (tyOk_cons tk63 (tyOk_cons tk64 (tyOk_cons tk65 (tyOk_cons tk66 (tyOk_cons tk67 (tyOk_cons tk68 (tyOk_cons tk70 (tyOk_cons tk71 (tyOk_cons tk72 (tyOk_cons tk73 (tyOk_cons tk74 (tyOk_cons tk75 (tyOk_cons tk76 (tyOk_cons tk77 (tyOk_cons tk78 (tyOk_cons tk79 (tyOk_cons tk80 (tyOk_cons tk81 (tyOk_cons tk82 (tyOk_cons tk83 (tyOk_cons tk84 (tyOk_cons tk85 (tyOk_cons tk86 (tyOk_cons tk87 (tyOk_cons tk88 (tyOk_cons tk89 (tyOk_cons tk93 (tyOk_cons tk94 (tyOk_cons tk95 (tyOk_cons tk96 (tyOk_cons tk97 (tyOk_cons tk98 (tyOk_cons tk99 (tyOk_cons tk100 (tyOk_cons tk101 (tyOk_cons tk102 tyOk_nil)))))))))))))))))))))))))))))))))))))))))))))))))))))))))))))))))))))))))))))))))))))))))))))))
theorem mixed : Try.prog.follows .mixedOrders = true := by kernel_rfl
theorem gf2 : Goes Try.prog 2 := goes_of Try.func2 rfl rfl
theorem gf3 : Goes Try.prog 3 := goes_of Try.func3 rfl rfl
theorem gf4 : Goes Try.prog 4 := goes_of Try.func4 rfl rfl
theorem gf5 : Goes Try.prog 5 := goes_of Try.func5 rfl rfl
theorem gf6 : Goes Try.prog 6 := goes_of Try.func6 rfl rfl
theorem gf7 : Goes Try.prog 7 := goes_of Try.func7 rfl rfl
theorem gf8 : Goes Try.prog 8 := goes_of Try.func8 rfl rfl
theorem gf9 : Goes Try.prog 9 := goes_of Try.func9 rfl rfl
theorem gf10 : Goes Try.prog 10 := goes_of Try.func10 rfl rfl
theorem gf11 : Goes Try.prog 11 := goes_of Try.func11 rfl rfl
theorem gf12 : Goes Try.prog 12 := goes_of Try.func12 rfl rfl
theorem gf13 : Goes Try.prog 13 := goes_of Try.func13 rfl rfl
theorem gf14 : Goes Try.prog 14 := goes_of Try.func14 rfl rfl
theorem gf15 : Goes Try.prog 15 := goes_of Try.func15 rfl rfl
theorem gf16 : Goes Try.prog 16 := goes_of Try.func16 rfl rfl
theorem gf17 : Goes Try.prog 17 := goes_of Try.func17 rfl rfl
theorem gf18 : Goes Try.prog 18 := goes_of Try.func18 rfl rfl
theorem gf19 : Goes Try.prog 19 := goes_of Try.func19 rfl rfl
theorem gf20 : Goes Try.prog 20 := goes_of Try.func20 rfl rfl
theorem gf21 : Goes Try.prog 21 := goes_of Try.func21 rfl rfl
theorem gf22 : Goes Try.prog 22 := goes_of Try.func22 rfl rfl
theorem gf23 : Goes Try.prog 23 := goes_of Try.func23 rfl rfl
theorem gf24 : Goes Try.prog 24 := goes_of Try.func24 rfl rfl
theorem gf25 : Goes Try.prog 25 := goes_of Try.func25 rfl rfl
theorem gf26 : Goes Try.prog 26 := goes_of Try.func26 rfl rfl
theorem gf27 : Goes Try.prog 27 := goes_of Try.func27 rfl rfl
theorem gf28 : Goes Try.prog 28 := goes_of Try.func28 rfl rfl
theorem gf29 : Goes Try.prog 29 := goes_of Try.func29 rfl rfl
theorem gf30 : Goes Try.prog 30 := goes_of Try.func30 rfl rfl
theorem gf31 : Goes Try.prog 31 := goes_of Try.func31 rfl rfl
theorem gf32 : Goes Try.prog 32 := goes_of Try.func32 rfl rfl
theorem gf33 : Goes Try.prog 33 := goes_of Try.func33 rfl rfl
theorem gf34 : Goes Try.prog 34 := goes_of Try.func34 rfl rfl
theorem gf35 : Goes Try.prog 35 := goes_of Try.func35 rfl rfl
theorem gf36 : Goes Try.prog 36 := goes_of Try.func36 rfl rfl
theorem gf37 : Goes Try.prog 37 := goes_of Try.func37 rfl rfl
theorem gf38 : Goes Try.prog 38 := goes_of Try.func38 rfl rfl
theorem gf39 : Goes Try.prog 39 := goes_of Try.func39 rfl rfl
theorem gf40 : Goes Try.prog 40 := goes_of Try.func40 rfl rfl
theorem gf41 : Goes Try.prog 41 := goes_of Try.func41 rfl rfl
theorem gf42 : Goes Try.prog 42 := goes_of Try.func42 rfl rfl
theorem gf43 : Goes Try.prog 43 := goes_of Try.func43 rfl rfl
theorem gf44 : Goes Try.prog 44 := goes_of Try.func44 rfl rfl
theorem gf45 : Goes Try.prog 45 := goes_of Try.func45 rfl rfl
theorem gf46 : Goes Try.prog 46 := goes_of Try.func46 rfl rfl
theorem gf47 : Goes Try.prog 47 := goes_of Try.func47 rfl rfl
theorem gf48 : Goes Try.prog 48 := goes_of Try.func48 rfl rfl
theorem gf49 : Goes Try.prog 49 := goes_of Try.func49 rfl rfl
theorem gf50 : Goes Try.prog 50 := goes_of Try.func50 rfl rfl
theorem gf51 : Goes Try.prog 51 := goes_of Try.func51 rfl rfl
theorem gf52 : Goes Try.prog 52 := goes_of Try.func52 rfl rfl
theorem gf53 : Goes Try.prog 53 := goes_of Try.func53 rfl rfl
theorem gf54 : Goes Try.prog 54 := goes_of Try.func54 rfl rfl
theorem gf55 : Goes Try.prog 55 := goes_of Try.func55 rfl rfl
theorem gf56 : Goes Try.prog 56 := goes_of Try.func56 rfl rfl
theorem gf57 : Goes Try.prog 57 := goes_of Try.func57 rfl rfl
theorem gf58 : Goes Try.prog 58 := goes_of Try.func58 rfl rfl
theorem gf59 : Goes Try.prog 59 := goes_of Try.func59 rfl rfl
theorem gf60 : Goes Try.prog 60 := goes_of Try.func60 rfl rfl
theorem gf61 : Goes Try.prog 61 := goes_of Try.func61 rfl rfl
theorem gf62 : Goes Try.prog 62 := goes_of Try.func62 rfl rfl
theorem gf63 : Goes Try.prog 63 := goes_of Try.func63 rfl rfl
theorem gf64 : Goes Try.prog 64 := goes_of Try.func64 rfl rfl
theorem gf65 : Goes Try.prog 65 := goes_of Try.func65 rfl rfl
theorem gf66 : Goes Try.prog 66 := goes_of Try.func66 rfl rfl
theorem gf67 : Goes Try.prog 67 := goes_of Try.func67 rfl rfl
theorem gf68 : Goes Try.prog 68 := goes_of Try.func68 rfl rfl
theorem gf69 : Goes Try.prog 69 := goes_of Try.func69 rfl rfl
theorem gf70 : Goes Try.prog 70 := goes_of Try.func70 rfl rfl
theorem gf71 : Goes Try.prog 71 := goes_of Try.func71 rfl rfl
theorem gf72 : Goes Try.prog 72 := goes_of Try.func72 rfl rfl
end Go.Proofs.Ytonhlccjfbfkcaa.Vm

/- cmp.Compare, cmp.Or, slices.CompareFunc and types.Cmp: what they come to. -/
namespace Go.Proofs.Ytonhlccjfbfkcaa.Vm
open Go.Vc Go.RowKit

def cmpI (a b : Int) : Int := if a < b then -1 else if a > b then 1 else 0
def orL : List Int → Int
  | [] => 0
  | x :: r => if x ≠ 0 then x else orL r
mutual
def cmpT : Tp → Tp → Int
  | .mk k n ks, .mk k' n' ks' => orL [cmpI k k', cmpI n n', cmpI ks.length ks'.length, cmpL ks ks']
def cmpL : List Tp → List Tp → Int
  | [], [] => 0
  | [], _ :: _ => -1
  | _ :: _, [] => 1
  | a :: r, b :: s => if cmpT a b ≠ 0 then cmpT a b else cmpL r s
end

theorem isNaN_calls (w : World) (a : Int) : Calls Try.prog 72 #[.int .i64 a] w fun e w' => e = .returned (.bool false) ∧ Below w.heap.size w w' := by
  refine calls0 tyok mixed [] Try.func72 rfl rfl (by simp) ?_
  conv => whnf
  intro w1 hw
  exact ⟨by simp [den], hw.bel⟩

theorem compare_calls (w : World) (a b : Int) : Calls Try.prog 67 #[.int .i64 a, .int .i64 b] w fun e w' => e = .returned (.int .i64 (cmpI a b)) ∧ Below w.heap.size w w' := by
  refine calls0 tyok mixed [] Try.func67 rfl rfl (by simp) ?_
  conv => whnf
  refine ⟨gf72, fun w1 hw1 => scalK (isNaN_calls _ _) hw1 ?_⟩
  conv => whnf
  refine ⟨gf72, fun w1 hw1 => scalK (isNaN_calls _ _) hw1 ?_⟩
  conv => whnf
  refine ⟨fun h => (by cases h), fun _ => ?_⟩
  conv => whnf
  refine ⟨fun h => (by cases h), fun _ => ?_⟩
  conv => whnf
  refine ⟨fun h => ?_, fun h => ?_⟩
  · conv => whnf
    intro w2 hw
    exact ⟨by simp only [cmpI, if_pos (of_decide_eq_true h)]; rfl, hw.bel⟩
  · conv => whnf
    refine ⟨fun h' => ?_, fun h' => ?_⟩
    · conv => whnf
      intro w2 hw
      exact ⟨by simp only [cmpI, if_neg (of_decide_eq_false h), if_pos (of_decide_eq_true h')]; rfl, hw.bel⟩
    · conv => whnf
      intro w2 hw
      exact ⟨by simp only [cmpI, if_neg (of_decide_eq_false h), if_neg (of_decide_eq_false h')]; rfl, hw.bel⟩

theorem or_calls (S : Nat → Prop) (w : World) (l : List Int) (A : Option Addr) (c : Nat) (hl : l.length ≤ 17592186044416) (hr : Cells S w A (ints l)) :
    Calls Try.prog 66 #[.slice A l.length c] w fun e w' => e = .returned (.int .i64 (orL l)) ∧ Below w.heap.size w w' := by
  refine calls0 tyok mixed [] Try.func66 rfl rfl (by simp) ?_
  conv => whnf
  refine ⟨fun n st => ∃ i : Nat, i ≤ l.length ∧ n = l.length - i ∧ orL l = orL (l.drop i) ∧ st = ⟨[(8, .v (.int .i64 i)), (7, .v (.int .i64 l.length)), (6, .v (.slice A l.length c)), (3, .v (.int .i64 0))], [], [], [], fun _ => False, w⟩, ⟨l.length, _, ⟨0, Nat.zero_le _, by simp, by simp, rfl⟩, weak_of (preP_refl _) ⟨rfl, rfl, rfl, rfl, trivial⟩ trivial (List.Sublist.refl _) rfl rfl⟩, ?_⟩
  rintro n st ⟨i, hi, hn, hx, rfl⟩
  conv => whnf
  refine ⟨fun h => ?_, fun h => ?_⟩
  · have h := of_decide_eq_true h
    have hil : i < l.length := by omega
    have hd : l.drop i = l[i] :: l.drop (i + 1) := by rw [List.drop_eq_getElem_cons hil]
    obtain ⟨ad, rfl, _, hld⟩ := hr.ld1 (P := Try.prog) tk3 rfl (i := i) (v := .int .i64 l[i]) (by simp [hil])
    conv => whnf
    refine ⟨ad, rfl, by omega, h, ?_⟩
    conv => whnf
    intro w1 hw
    refine ⟨_, hld w1 (hw.samev S), ?_⟩
    conv => whnf
    refine ⟨fun h => ?_, fun h => ?_⟩
    · conv => whnf
      intro w2 hw2
      exact ⟨by rw [hx, hd, orL, if_pos (by simpa using h)]; rfl, hw2.bel⟩
    · conv => whnf
      refine ⟨l.length - (i + 1), _, by omega, ⟨i + 1, hil, rfl, ?_, rfl⟩, weak_of (preP_refl _) ⟨incV (by omega), rfl, rfl, rfl, trivial⟩ trivial (List.Sublist.refl _) rfl rfl⟩
      · rw [hx, hd, orL, if_neg (by simpa using h)]
  · have h := of_decide_eq_false h
    conv => whnf
    intro w2 hw2
    have : i = l.length := by omega
    exact ⟨by rw [hx, this]; simp [orL]; rfl, hw2.bel⟩
end Go.Proofs.Ytonhlccjfbfkcaa.Vm

/- slices.CompareFunc and types.Cmp, types.Same, types.SameScheme: what they come to. -/
namespace Go.Proofs.Ytonhlccjfbfkcaa.Vm
open Go.Vc Go.RowKit

def CmpOk (t : Tp) : Prop := ∀ (S : Nat → Prop) (w : World) (u : Tp) (v v' : Value), RepT S w t v → RepT S w u v' → Calls Try.prog 53 #[v, v'] w fun e w' => e = .returned (.int .i64 (cmpT t u)) ∧ Below w.heap.size w w'

theorem cmpL_drop {l m : List Tp} {i : Nat} (h : i < l.length) (h' : i < m.length) : cmpL (l.drop i) (m.drop i) = if cmpT l[i] m[i] ≠ 0 then cmpT l[i] m[i] else cmpL (l.drop (i + 1)) (m.drop (i + 1)) := by
  rw [List.drop_eq_getElem_cons h, List.drop_eq_getElem_cons h', cmpL]

theorem compareFunc_calls (l m : List Tp) (ih : ∀ t ∈ l, CmpOk t) (S : Nat → Prop) (w : World) (A A' : Option Addr) (c c' : Nat) (hl : l.length ≤ LIM) (_hm : m.length ≤ LIM) (h : RepKs S w l A 0) (h' : RepKs S w m A' 0) :
    Calls Try.prog 68 #[.slice A l.length c, .slice A' m.length c', .func (.func 53) #[] #[]] w fun e w' => e = .returned (.int .i64 (cmpL l m)) ∧ Below w.heap.size w w' := by
  unfold LIM at hl
  refine calls0 tyok mixed [] Try.func68 rfl rfl (by simp) ?_
  conv => whnf
  refine ⟨fun n st => ∃ i : Nat, i ≤ l.length ∧ n = l.length - i ∧ i ≤ m.length ∧ cmpL l m = cmpL (l.drop i) (m.drop i) ∧ st = ⟨[(13, .v (.int .i64 i)), (12, .v (.int .i64 l.length)), (11, .v (.slice A l.length c)), (0, .v (.slice A l.length c)), (1, .v (.slice A' m.length c')), (2, .v (.func (.func 53) #[] #[]))], [], [], [], fun _ => False, w⟩,
    ⟨l.length, _, ⟨0, Nat.zero_le _, by simp, Nat.zero_le _, by simp, rfl⟩, weak_of (preP_refl _) ⟨rfl, rfl, rfl, rfl, rfl, rfl, trivial⟩ trivial (List.Sublist.refl _) rfl rfl⟩, ?_⟩
  rintro n st ⟨i, hi, hn, him, hx, rfl⟩
  conv => whnf
  refine ⟨fun hb => ?_, fun hb => ?_⟩
  · have hb := of_decide_eq_true hb
    have hil : i < l.length := by omega
    obtain ⟨ad, B, d, rfl, hS, hld, k1, k2, k3, k4⟩ := h.ld (P := Try.prog) tk24 rfl rfl (i := i) (t := l[i]) (by simp [hil])
    conv => whnf
    refine ⟨ad, rfl, by omega, hb, ?_⟩
    conv => whnf
    intro w1 hw
    refine ⟨_, hld w1 (hw.samev S), ?_⟩
    conv => whnf
    intro g0
    conv => whnf
    refine ⟨fun hc => ?_, fun hc => ?_⟩
    · have hc := of_decide_eq_true hc
      have him' : i = m.length := by omega
      conv => whnf
      intro w2 hw2
      refine ⟨retI ?_, hw2.bel⟩
      rw [hx, List.drop_eq_getElem_cons hil, List.drop_eq_nil_of_le (show m.length ≤ i by omega)]
      rfl
    · have hc := of_decide_eq_false hc
      have him' : i < m.length := by omega
      obtain ⟨ad', B', d', rfl, hS', hld', k1', k2', k3', k4'⟩ := h'.ld (P := Try.prog) tk24 rfl rfl (i := i) (t := m[i]) (by simp [him'])
      conv => whnf
      refine ⟨ad', rfl, by omega, by omega, ?_⟩
      conv => whnf
      intro w2 hw2
      refine ⟨_, hld' w2 (hw2.samev S), ?_⟩
      conv => whnf
      intro g1
      conv => whnf
      refine ⟨gf53, fun w3 hw3 => scalK (ih l[i] (by simp) S w3 m[i] _ _ (k4.to (hw3.samev S) (fun _ h _ => h)) (k4'.to (hw3.samev S) (fun _ h _ => h))) hw3 ?_⟩
      conv => whnf
      refine ⟨fun he => ?_, fun he => ?_⟩
      · conv => whnf
        intro w4 hw4
        refine ⟨retI ?_, hw4.bel⟩
        rw [hx, cmpL_drop hil him', if_pos (by simpa using he)]
      · conv => whnf
        refine ⟨l.length - (i + 1), _, by omega, ⟨i + 1, hil, rfl, him', ?_, rfl⟩, weak_of trivial ⟨incV (by omega), rfl, rfl, rfl, rfl, rfl, trivial⟩ trivial (List.Sublist.refl _) rfl rfl⟩
        rw [hx, cmpL_drop hil him', if_neg (by simpa using he)]
  · have hb := of_decide_eq_false hb
    have hil : i = l.length := by omega
    have e1 : l.drop i = [] := by rw [hil]; simp
    rw [e1] at hx
    conv => whnf
    refine ⟨fun hc => ?_, fun hc => ?_⟩
    · have hc := of_decide_eq_true hc
      conv => whnf
      intro w4 hw4
      refine ⟨retI ?_, hw4.bel⟩
      rw [hx, List.drop_eq_getElem_cons (show i < m.length by omega)]
      rfl
    · have hc := of_decide_eq_false hc
      conv => whnf
      intro w4 hw4
      refine ⟨retI ?_, hw4.bel⟩
      have e2 : m.drop i = [] := List.drop_eq_nil_of_le (by omega)
      rw [hx, e2]
      rfl

theorem cmp_calls : ∀ t, CmpOk t := by
  refine Tp.ind fun k n ks ih => ?_
  intro S w u v v' hv hu
  obtain ⟨k', n', ks'⟩ := u
  obtain ⟨A, c, rfl, a1, a2, a3⟩ := hv.opn
  obtain ⟨A', c', rfl, b1, b2, b3⟩ := hu.opn
  simp only [Tp.k, Tp.n, Tp.kids] at *
  have a2' := a2
  have b2' := b2
  unfold LIM at a2' b2'
  refine calls0 tyok mixed [(1, ([0, 1], .pure 0 (.take 1 (.pure 2 (.take 3 (.pure 5 (.take 6 (.pure 7 (.take 8 (.pure 10 (.take 11 (.pure 12 (.pure 13 (.take 14 (.pure 15 (.pure 17 (.take 18 (.pure 19 (.take 20 (.run 4 (.run 9 (.run 16 (.run 21 (.run 22 (.run 23 (.pure 24 .done))))))))))))))))))))))))))] Try.func53 rfl rfl (by simp) ?_
  conv => whnf
  intro g0
  conv => whnf
  intro g1
  conv => whnf
  refine ⟨by kernel_rfl, rfl, ?_⟩
  conv => whnf
  refine ⟨gf67, fun w1 hw1 => scalK (compare_calls _ _ _) hw1 ?_⟩
  conv => whnf
  refine ⟨⟨preP_refl _, ⟨rfl, rfl, trivial⟩, fun k hk => ⟨hk, rfl⟩⟩, ?_⟩
  conv => whnf
  refine ⟨gf67, fun w1 hw1 => scalK (compare_calls _ _ _) hw1 ?_⟩
  conv => whnf
  refine ⟨⟨preP_refl _, ⟨rfl, rfl, trivial⟩, fun k hk => ⟨hk, rfl⟩⟩, ?_⟩
  conv => whnf
  refine ⟨gf67, fun w1 hw1 => scalK (compare_calls _ _ _) hw1 ?_⟩
  conv => whnf
  refine ⟨⟨preP_refl _, ⟨rfl, rfl, trivial⟩, fun k hk => ⟨hk, rfl⟩⟩, ?_⟩
  conv => whnf
  refine ⟨gf68, fun w1 hw1 => scalK (compareFunc_calls ks ks' ih S w1 A A' c c' a2 b2 (a3.to (hw1.samev S) (fun _ h _ => h)) (b3.to (hw1.samev S) (fun _ h _ => h))) hw1 ?_⟩
  conv => whnf
  refine ⟨⟨preP_refl _, ⟨rfl, rfl, trivial⟩, fun k hk => ⟨hk, rfl⟩⟩, ?_⟩
  conv => whnf
  intro g2
  conv => whnf
  refine ⟨⟨⟨rfl, rfl, trivial⟩, ⟨rfl, rfl, trivial⟩, fun k hk => ⟨hk, rfl⟩⟩, ?_⟩
  conv => whnf
  refine ⟨gf66, fun w1 hw1 => scalK (or_calls _ w1 [cmpI k k', cmpI n n', cmpI ks.length ks'.length, cmpL ks ks'] _ 4 (by simp) (hw1.own (i := 2) rfl)) hw1 ?_⟩
  conv => whnf
  refine ⟨⟨⟨rfl, rfl, trivial⟩, ⟨rfl, rfl, trivial⟩, fun k hk => ⟨hk, rfl⟩⟩, ?_⟩
  conv => whnf
  intro w2 hw2
  exact ⟨retI (by rw [cmpT]), hw2.bel⟩

theorem same_calls (S : Nat → Prop) (w : World) (t u : Tp) (v v' : Value) (hv : RepT S w t v) (hu : RepT S w u v') : Calls Try.prog 33 #[v, v'] w fun e w' => e = .returned (.bool (cmpT t u == 0)) ∧ Below w.heap.size w w' := by
  obtain ⟨A, c, rfl, a1, a2, a3⟩ := hv.opn
  obtain ⟨A', c', rfl, b1, b2, b3⟩ := hu.opn
  refine calls0 tyok mixed [] Try.func33 rfl rfl (by simp) ?_
  conv => whnf
  intro g0
  conv => whnf
  intro g1
  conv => whnf
  refine ⟨gf53, fun w1 hw1 => scalK (cmp_calls t S w1 u _ _ (hv.to (hw1.samev S) (fun _ h _ => h)) (hu.to (hw1.samev S) (fun _ h _ => h))) hw1 ?_⟩
  conv => whnf
  intro w2 hw2
  exact ⟨retB rfl, hw2.bel⟩
end Go.Proofs.Ytonhlccjfbfkcaa.Vm

/- slices.Index, slices.Contains, types.walk, types.found, types.Metas, types.Gens: what they come to. -/
namespace Go.Proofs.Ytonhlccjfbfkcaa.Vm
open Go.Vc Go.RowKit

/-- The place of a number in a list, from i on; -1: it isn't there. -/
def idxFrom : List Int → Int → Int → Int
  | [], _, _ => -1
  | y :: r, x, i => if x = y then i else idxFrom r x (i + 1)
theorem idxFrom_nonneg : ∀ (l : List Int) (x i : Int), 0 ≤ i → (0 ≤ idxFrom l x i ↔ x ∈ l)
  | [], x, i, h => by simp [idxFrom]
  | y :: r, x, i, h => by
    simp only [idxFrom, List.mem_cons]
    by_cases e : x = y
    · rw [if_pos e]; simp [e, h]
    · rw [if_neg e, idxFrom_nonneg r x (i + 1) (by omega)]; simp [e]

theorem index_calls (S : Nat → Prop) (w : World) (A : Option Addr) (c : Nat) (l : List Int) (x : Int) (hl : l.length ≤ 17592186044416) (hr : Cells S w A (ints l)) :
    Calls Try.prog 56 #[.slice A l.length c, .int .i64 x] w (fun e w' => e = .returned (.int .i64 (idxFrom l x 0)) ∧ Below w.heap.size w w') := by
  refine calls0 tyok mixed [] Try.func56 rfl rfl (by simp) ?_
  conv => whnf
  refine ⟨fun n st => ∃ i : Nat, i ≤ l.length ∧ n = l.length - i ∧ idxFrom l x 0 = idxFrom (l.drop i) x i ∧ st = ⟨[(8, .v (.int .i64 i)), (7, .v (.int .i64 l.length)), (0, .v (.slice A l.length c)), (1, .v (.int .i64 x))], [], [], [], fun _ => False, w⟩, ⟨l.length, _, ⟨0, Nat.zero_le _, by simp, by simp, rfl⟩, weak_of (preP_refl _) ⟨rfl, rfl, rfl, rfl, trivial⟩ trivial (List.Sublist.refl _) rfl rfl⟩, ?_⟩
  rintro n st ⟨i, hi, hn, hx, rfl⟩
  conv => whnf
  refine ⟨fun h => ?_, fun h => ?_⟩
  · have h := of_decide_eq_true h
    have hil : i < l.length := by omega
    have hd : l.drop i = l[i] :: l.drop (i + 1) := by rw [List.drop_eq_getElem_cons hil]
    obtain ⟨ad, rfl, _, hld⟩ := hr.ld1 (P := Try.prog) tk3 rfl (i := i) (v := .int .i64 l[i]) (by simp [hil])
    conv => whnf
    refine ⟨ad, rfl, by omega, h, ?_⟩
    conv => whnf
    intro w1 hw
    refine ⟨_, hld w1 (hw.samev S), ?_⟩
    conv => whnf
    refine ⟨fun h => ?_, fun h => ?_⟩
    · have h := eq_of_beq h
      conv => whnf
      intro w2 hw2
      exact ⟨retI (by rw [hx, hd, idxFrom, if_pos h]), hw2.bel⟩
    · have h : x ≠ l[i] := by simpa using h
      conv => whnf
      refine ⟨l.length - (i + 1), _, by omega, ⟨i + 1, hil, rfl, ?_, rfl⟩, weak_of (preP_refl _) ⟨incV (by omega), rfl, rfl, rfl, trivial⟩ trivial (List.Sublist.refl _) rfl rfl⟩
      rw [hx, hd, idxFrom, if_neg h]; rfl
  · have h := of_decide_eq_false h
    conv => whnf
    intro w2 hw2
    have : i = l.length := by omega
    exact ⟨retI (by rw [hx, this]; simp [idxFrom]), hw2.bel⟩

theorem contains_calls (S : Nat → Prop) (w : World) (A : Option Addr) (c : Nat) (l : List Int) (x : Int) (hl : l.length ≤ 17592186044416) (hr : Cells S w A (ints l)) :
    Calls Try.prog 41 #[.slice A l.length c, .int .i64 x] w (fun e w' => e = .returned (.bool (decide (x ∈ l))) ∧ Below w.heap.size w w') := by
  refine calls0 tyok mixed [] Try.func41 rfl rfl (by simp) ?_
  conv => whnf
  refine ⟨gf56, fun w1 hw1 => scalK (index_calls S w1 A c l x hl (hr.to (hw1.samev S) (fun _ h _ => h))) hw1 ?_⟩
  conv => whnf
  intro w2 hw2
  exact ⟨retB (decide_eq_decide.2 (idxFrom_nonneg l x 0 (by omega))), hw2.bel⟩

mutual
/-- The numbers of the nodes of a kind, each once, behind others. -/
def fnd (kind : Int) : Tp → List Int → List Int
  | .mk k n ks, acc => fndL kind ks (if k = kind ∧ n ∉ acc then acc ++ [n] else acc)
def fndL (kind : Int) : List Tp → List Int → List Int
  | [], acc => acc
  | t :: r, acc => fndL kind r (fnd kind t acc)
end
mutual
theorem fnd_len (kind : Int) : ∀ (t : Tp) (acc : List Int), acc.length ≤ (fnd kind t acc).length
  | .mk k n ks, acc => by
    simp only [fnd]
    refine Nat.le_trans ?_ (fndL_len kind ks _)
    split <;> simp
theorem fndL_len (kind : Int) : ∀ (ts : List Tp) (acc : List Int), acc.length ≤ (fndL kind ts acc).length
  | [], acc => by simp [fndL]
  | t :: r, acc => by
    simp only [fndL]
    exact Nat.le_trans (fnd_len kind t acc) (fndL_len kind r _)
end
theorem fndL_drop {kind : Int} {ks : List Tp} {i : Nat} (h : i < ks.length) (acc : List Int) : fndL kind (ks.drop i) acc = fndL kind (ks.drop (i + 1)) (fnd kind ks[i] acc) := by
  rw [List.drop_eq_getElem_cons h, fndL]
def see1 (kind : Int) (t : Tp) (acc : List Int) : List Int := if t.k = kind ∧ t.n ∉ acc then acc ++ [t.n] else acc

/-- A finder at block g: its kind, what it has got. -/
structure Fdr (w : World) (g : Nat) (kind : Int) (A : Option Addr) (n c : Nat) (acc : List Int) : Prop where
  blk : w.heap[g]? = some (.cells #[.int .i64 kind, .slice A n c] 76 (0, 0))
  row : RowOk w ⟨.slice A n c, 3, 1, ints acc⟩
  ne : rowB (.slice A n c) ≠ some g
/-- What a call leaves that was handed a finder. -/
def FdrPost (w : World) (g : Nat) (kind : Int) (A : Option Addr) (n c : Nat) (acc' : List Int) (e : Ending) (w' : World) : Prop :=
  e = .returned (.tuple #[]) ∧ ∃ A' n' c', Fdr w' g kind A' n' c' acc' ∧ Only (fun k => k = g ∨ rowB (.slice A n c) = some k) w w' ∧ ∀ k, rowB (.slice A' n' c') = some k → rowB (.slice A n c) = some k ∨ w.heap.size ≤ k
theorem Fdr.len {w : World} {g : Nat} {kind : Int} {A : Option Addr} {n c : Nat} {acc : List Int} (h : Fdr w g kind A n c acc) : n = acc.length := by
  obtain ⟨A', n', c', hv, _, hl⟩ := h.row.form
  injection hv with _ e _
  simp at hl
  omega

theorem FdrPost.of {w w' : World} {g : Nat} {kind : Int} {A : Option Addr} {n c : Nat} {acc' : List Int} {T : Tl} {ρ : List Nat} {E : El} {R : List Row} {pub : Nat → Prop} {s : World} {A' : Option Addr} {n' c' : Nat}
    (h : Wd ⟨w, fun k => k = g ∨ rowB (.slice A n c) = some k⟩ ⟨T, ρ, E, R, pub, s⟩ w') (hρ : ρ.getD 0 0 = g) (hE : lk E 0 = some ([.v (.int .i64 kind), .v (.slice A' n' c')], 76)) (hR : ⟨.slice A' n' c', 3, 1, ints acc'⟩ ∈ R) :
    FdrPost w g kind A n c acc' (.returned (.tuple #[])) w' := by
  obtain ⟨r1, r2⟩ := h.row _ hR
  have hne : rowB (.slice A' n' c') ≠ some g := by
    intro hg
    exact (r2 g hg).2.2 0 (by simp only; rw [hE]; rfl) hρ
  refine ⟨rfl, A', n', c', ⟨?_, r1, hne⟩, h.below, fun k hk => ?_⟩
  · have := h.ent 0 _ _ hE
    simp only at this
    rw [hρ] at this
    exact this
  · rcases (r2 k hk).1 with (h1 | h1) | h1
    · subst h1; exact absurd hk hne
    · exact .inl h1
    · exact .inr h1

theorem see_calls (w : World) (g : Nat) (kind : Int) (A : Option Addr) (n c : Nat) (acc : List Int) (S : Nat → Prop) (t : Tp) (v : Value) (hF : Fdr w g kind A n c acc) (ht : RepT S w t v) (hS1 : ¬ S g) (hS2 : ∀ k, rowB (.slice A n c) = some k → ¬ S k)
    (hlen : (see1 kind t acc).length ≤ 8796093022208) :
    Calls Try.prog 59 #[.pointer (some ⟨g, 0, none⟩), v] w (FdrPost w g kind A n c (see1 kind t acc)) := by
  obtain ⟨B, d, rfl, b1, b2, b3⟩ := ht.opn
  have hn := hF.len
  have hacc : acc.length ≤ 8796093022208 := by
    refine Nat.le_trans ?_ hlen
    unfold see1; split <;> simp
  refine calls_of_vcM (b := ⟨w, fun k => k = g ∨ rowB (.slice A n c) = some k⟩) (ρ := [g]) (E := [(0, ([.v (.int .i64 kind), .v (.slice A n c)], 76))]) (Rw := [⟨.slice A n c, 3, 1, ints acc⟩]) (pub := fun k => S k ∧ k < w.heap.size) (s := w)
    (plans := [(1, ([0, 1], .pure 0 (.take 1 (.pure 2 (.pure 3 (.pure 4 (.take 5 (.pure 6 (.pure 7 (.pure 8 (.pure 9 (.pure 10 (.take 11 (.pure 12 (.take 13 (.run 14 (.pure 15 (.pure 16 .done)))))))))))))))))), (2, ([0, 1], .pure 0 (.pure 1 (.pure 2 (.pure 3 (.take 4 (.pure 5 (.take 6 (.run 7 (.run 8 (.pure 9 (.pure 10 (.fin 11 .done)))))))))))))]) tyok mixed (svs := [.own 0 0, .v (.agg #[.int .i64 t.k, .int .i64 t.n, .slice B t.kids.length d])]) Try.func59 rfl rfl (by simp)
    (Wd.start (cs := [.v (.int .i64 kind), .v (.slice A n c)]) (t := 76) rfl hF.blk hF.row hF.ne (pub := fun k => S k ∧ k < w.heap.size) (fun k h => h.2) (fun h => hS1 h.1) (fun k hk h => hS2 k hk h.1)) ?_
  conv => whnf
  intro g1
  conv => whnf
  refine ⟨by kernel_rfl, rfl, ?_⟩
  conv => whnf
  subst hn
  refine ⟨fun he => ?_, fun he => ?_⟩
  · have he' : t.k = kind := eq_of_beq he
    conv => whnf
    refine ⟨gf41, fun w1 hw1 => scalK (contains_calls (fun _ => True) w1 A c acc t.n (by omega) ((hw1.row _ (List.mem_singleton.2 rfl)).1.cells rfl _ (fun _ _ => trivial))) hw1 ?_⟩
    conv => whnf
    refine ⟨⟨⟨rfl, rfl, trivial⟩, ⟨rfl, rfl, trivial⟩, fun k hk => ⟨hk, rfl⟩⟩, ?_⟩
    conv => whnf
    refine ⟨fun hm => ?_, fun hm => ?_⟩
    · have hm' : t.n ∉ acc := by simpa using hm
      have hsee : see1 kind t acc = acc ++ [t.n] := by unfold see1; rw [if_pos ⟨he', hm'⟩]
      rw [hsee] at hlen ⊢
      simp only [List.length_append, List.length_singleton] at hlen
      conv => whnf
      refine ⟨by kernel_rfl, rfl, ?_⟩
      conv => whnf
      intro g2
      conv => whnf
      refine ⟨⟨⟨rfl, rfl, trivial⟩, ⟨rfl, rfl, trivial⟩, fun k hk => ⟨hk, rfl⟩⟩, ?_⟩
      conv => whnf
      refine ⟨nofun, fun w2 hw2 => appendK tyok (t := 25) rfl rfl rfl rfl (by decide) (by decide) hw2 0 (A := A) (n := acc.length) (c := c) (xs := ints acc) rfl rfl (ys := [.int .i64 t.n]) rfl (S := fun _ => True) rfl (hw2.own (i := 2) rfl) (by simp [Value.oneCell']) (by simp; omega) fun A' c' => ?_⟩
      conv => whnf
      refine ⟨⟨⟨rfl, rfl, trivial⟩, ⟨rfl, rfl, trivial⟩, fun k hk => ⟨hk, rfl⟩⟩, ?_⟩
      conv => whnf
      intro w3 hw3
      exact FdrPost.of hw3 rfl rfl (by simp [ints])
    · have hm' : t.n ∈ acc := by simpa using hm
      have hsee : see1 kind t acc = acc := by unfold see1; rw [if_neg (fun h => h.2 hm')]
      rw [hsee]
      conv => whnf
      intro w3 hw3
      exact FdrPost.of hw3 rfl rfl (by simp)
  · have he' : t.k ≠ kind := by simpa using he
    have hsee : see1 kind t acc = acc := by unfold see1; rw [if_neg (fun h => he' h.1)]
    rw [hsee]
    conv => whnf
    intro w3 hw3
    exact FdrPost.of hw3 rfl rfl (by simp)

/-- Behind a call that was handed the finder at own block i, its row being the only one. -/
theorem finderK {N : Nat} {b : Base} {f : FuncId} {args : Array Value} {w : World} (i : Nat) {g : Nat} {kind : Int} {A : Option Addr} {n c : Nat} {acc acc' : List Int} {T : Tl} {ρ : List Nat} {E E0 : El} {R0 : List Row} {pub pub0 : Nat → Prop} {s s0 : World} {dst : Option Tmp} {K : St → Prop}
    (hc : Calls Try.prog f args w (FdrPost w g kind A n c acc')) (hw : Wd b ⟨T, ρ, E, [⟨.slice A n c, 3, 1, ints acc⟩], pub, s⟩ w) (hρ : ρ.getD i 0 = g) (hE : lk E i = some ([.v (.int .i64 kind), .v (.slice A n c)], 76))
    (hk : ∀ A' n' c', n' = acc'.length → putK N dst (.v (.tuple #[])) ⟨T, ρ, (i, ([.v (.int .i64 kind), .v (.slice A' n' c')], 76)) :: E, [⟨.slice A' n' c', 3, 1, ints acc'⟩], pub, s⟩ K) :
    Calls Try.prog f args w fun e w' => ∃ v, e = .returned v ∧ AfterK N b dst ⟨T, ρ, E0, R0, pub0, s0⟩ K v w' := by
  refine hc.mono ?_
  rintro e w' ⟨rfl, A', n', c', hF, ho, hb⟩
  refine ⟨_, rfl, (i, ([.v (.int .i64 kind), .v (.slice A' n' c')], 76)) :: E, [⟨.slice A' n' c', 3, 1, ints acc'⟩], pub, s, ?_, hk A' n' c' hF.len⟩
  subst hρ
  have := Wd.handed hw hE (j := 0) (r := ⟨.slice A n c, 3, 1, ints acc⟩) (r' := ⟨.slice A' n' c', 3, 1, ints acc'⟩) (cs' := [.v (.int .i64 kind), .v (.slice A' n' c')]) rfl ho hF.blk hF.row hb
  exact this
theorem Fdr.of {b : Base} {w : World} (i : Nat) {kind : Int} {A : Option Addr} {n c : Nat} {acc : List Int} {T : Tl} {ρ : List Nat} {E : El} {R : List Row} {pub : Nat → Prop} {s : World} (h : Wd b ⟨T, ρ, E, R, pub, s⟩ w)
    (hE : lk E i = some ([.v (.int .i64 kind), .v (.slice A n c)], 76)) (hR : ⟨.slice A n c, 3, 1, ints acc⟩ ∈ R) : Fdr w (ρ.getD i 0) kind A n c acc := by
  obtain ⟨r1, r2⟩ := h.row _ hR
  exact ⟨h.ent i _ _ hE, r1, fun hg => (r2 _ hg).2.2 i (by simp only; rw [hE]; rfl) rfl⟩

def WalkOk (t : Tp) : Prop := ∀ (w : World) (g : Nat) (kind : Int) (A : Option Addr) (n c : Nat) (acc : List Int) (S : Nat → Prop) (v : Value), Fdr w g kind A n c acc → RepT S w t v → ¬ S g → (∀ k, rowB (.slice A n c) = some k → ¬ S k) →
  (fnd kind t acc).length ≤ 8796093022208 → Calls Try.prog 58 #[v, .func (.func 59) #[.pointer (some ⟨g, 0, none⟩)] #[]] w (FdrPost w g kind A n c (fnd kind t acc))

theorem walk_calls : ∀ t, WalkOk t := by
  refine Tp.ind fun k n0 ks ih => ?_
  intro w g kind A n c acc S v hF ht hS1 hS2 hlen
  obtain ⟨B, d, rfl, b1, b2, b3⟩ := ht.opn
  simp only [Tp.k, Tp.n, Tp.kids] at *
  have b2' := b2
  unfold LIM at b2'
  have hfd : fnd kind (.mk k n0 ks) acc = fndL kind ks (see1 kind (.mk k n0 ks) acc) := rfl
  rw [hfd] at hlen ⊢
  have hM : ∀ q, S q → ¬ (q = g ∨ rowB (.slice A n c) = some q) := by
    rintro q hq (h | h)
    · exact hS1 (by rw [← h]; exact hq)
    · exact hS2 q h hq
  refine calls_of_vcM (b := ⟨w, fun k => k = g ∨ rowB (.slice A n c) = some k⟩) (ρ := [g]) (E := [(0, ([.v (.int .i64 kind), .v (.slice A n c)], 76))]) (Rw := [⟨.slice A n c, 3, 1, ints acc⟩]) (pub := fun k => S k ∧ k < w.heap.size) (s := w)
    (plans := []) tyok mixed (svs := [.v (.agg #[.int .i64 k, .int .i64 n0, .slice B ks.length d]), .fn (.func 59) [.own 0 0] []]) Try.func58 rfl rfl (by simp)
    (Wd.start (cs := [.v (.int .i64 kind), .v (.slice A n c)]) (t := 76) rfl hF.blk hF.row hF.ne (pub := fun k => S k ∧ k < w.heap.size) (fun k h => h.2) (fun h => hS1 h.1) (fun k hk h => hS2 k hk h.1)) ?_
  conv => whnf
  intro g1
  conv => whnf
  refine ⟨gf59, fun w1 hw1 => finderK 0 (see_calls w1 g kind A n c acc S (.mk k n0 ks) _ (Fdr.of 0 hw1 rfl (by simp)) (ht.to (hw1.same0 S hM) (fun _ h _ => h)) hS1 hS2 (Nat.le_trans (fndL_len _ _ _) hlen)) hw1 rfl rfl fun A1 n1 c1 _ => ?_⟩
  conv => whnf
  refine ⟨fun m st => ∃ (i : Nat) (A' : Option Addr) (n' c' : Nat) (acc' : List Int), i ≤ ks.length ∧ m = ks.length - i ∧ fndL kind ks (see1 kind (.mk k n0 ks) acc) = fndL kind (ks.drop i) acc' ∧
      st = ⟨[(12, .v (.int .i64 i)), (11, .v (.int .i64 ks.length)), (10, .v (.slice B ks.length d)), (1, .fn (.func 59) [.own 0 0] [])], [g], [(0, ([.v (.int .i64 kind), .v (.slice A' n' c')], 76))], [⟨.slice A' n' c', 3, 1, ints acc'⟩], fun k => S k ∧ k < w.heap.size, w⟩,
    ⟨ks.length, _, ⟨0, A1, n1, c1, _, Nat.zero_le _, by simp, by simp, rfl⟩, weak_of ⟨rfl, trivial⟩ ⟨rfl, rfl, rfl, rfl, trivial⟩ ⟨⟨rfl, rfl, rfl⟩, trivial⟩ (List.Sublist.refl _) rfl rfl⟩, ?_⟩
  rintro m st ⟨i, A', n', c', acc', hi, hm, hx, rfl⟩
  conv => whnf
  refine ⟨fun hb => ?_, fun hb => ?_⟩
  · have hb := of_decide_eq_true hb
    have hil : i < ks.length := by omega
    obtain ⟨ad, B', d', rfl, hS, hld, k1, k2, k3, k4⟩ := b3.ld (P := Try.prog) tk24 rfl rfl (i := i) (t := ks[i]) (by simp [hil])
    rw [fndL_drop hil] at hx
    conv => whnf
    refine ⟨ad, rfl, by omega, hb, ?_⟩
    conv => whnf
    intro w1 hw
    refine ⟨_, hld w1 (hw.same0 S hM), ?_⟩
    conv => whnf
    intro g2
    conv => whnf
    refine ⟨gf58, fun w2 hw2 => finderK 0 (ih ks[i] (by simp) w2 g kind A' n' c' acc' (fun k => S k ∧ k < w.heap.size) _ (Fdr.of 0 hw2 rfl (by simp)) (k4.to (hw2.same0 S hM) (fun _ h hl => ⟨h, hl⟩)) (fun h => hS1 h.1) (fun q hq h => ?_) ?_) hw2 rfl rfl fun A2 n2 c2 _ => ?_⟩
    · exact ((hw2.row _ (List.mem_singleton.2 rfl)).2 q hq).2.1 h
    · refine Nat.le_trans (fndL_len kind (ks.drop (i + 1)) _) ?_
      rw [← hx]; exact hlen
    conv => whnf
    exact ⟨ks.length - (i + 1), _, by omega, ⟨i + 1, A2, n2, c2, _, hil, rfl, hx, rfl⟩, weak_of ⟨rfl, trivial⟩ ⟨incV (by omega), rfl, rfl, rfl, trivial⟩ ⟨⟨rfl, rfl, rfl⟩, trivial⟩ (List.Sublist.refl _) rfl rfl⟩
  · have hb := of_decide_eq_false hb
    have hil : i = ks.length := by omega
    have e1 : ks.drop i = [] := by rw [hil]; simp
    rw [e1, fndL] at hx
    conv => whnf
    intro w4 hw4
    rw [hx]
    exact FdrPost.of hw4 rfl rfl (by simp)

/-- What is owned that a call has made: a slice of numbers. -/
def OwnI (w : World) (l : List Int) (v : Value) (w' : World) : Prop := ∃ A c, v = .slice A l.length c ∧ RowOk w' ⟨.slice A l.length c, 3, 1, ints l⟩ ∧ ∀ k, rowB (.slice A l.length c) = some k → w.heap.size ≤ k

theorem found_calls (S : Nat → Prop) (w : World) (t : Tp) (v : Value) (kind : Int) (ht : RepT S w t v) (hlen : (fnd kind t []).length ≤ 8796093022208) :
    Calls Try.prog 44 #[v, .int .i64 kind] w (Res w (OwnI w (fnd kind t []))) := by
  obtain ⟨B, d, rfl, b1, b2, b3⟩ := ht.opn
  refine calls0 tyok mixed [] Try.func44 rfl rfl (by simp) ?_
  conv => whnf
  intro g0
  conv => whnf
  intro g1
  conv => whnf
  refine ⟨gf58, fun w1 hw1 => ?_⟩
  have hw2 : Wd ⟨w, fun _ => False⟩ ⟨_, _, _, [⟨.slice none 0 0, 3, 1, ints []⟩], _, _⟩ w1 := hw1.addNil 3 1
  have hge : w.heap.size ≤ g1 := ((hw1.entN 1 _ _ rfl).2.1).elim (fun h => h.elim) id
  refine finderK 1 (acc := []) (walk_calls t w1 g1 kind none 0 0 [] (fun k => S k ∧ k < w.heap.size) _ (Fdr.of 1 hw2 rfl (by simp)) (ht.to (hw1.samev S) (fun _ h hl => ⟨h, hl⟩)) (fun h => by omega) (fun q hq => by cases hq) hlen) hw2 rfl rfl fun A2 n2 c2 hn2 => ?_
  subst hn2
  conv => whnf
  intro w3 hw3
  obtain ⟨r1, r2⟩ := hw3.row _ (List.mem_singleton.2 rfl)
  exact ⟨_, rfl, ⟨_, _, rfl, r1, fun q hq => ((r2 q hq).1).elim (fun h => h.elim) id⟩, hw3.bel⟩
end Go.Proofs.Ytonhlccjfbfkcaa.Vm

/- types.Metas, types.Gens; slices.Clone of types; scheme.gens. -/
namespace Go.Proofs.Ytonhlccjfbfkcaa.Vm
open Go.Vc Go.RowKit

/-- Behind a call that gives a slice of numbers of its own. -/
theorem ownK {N : Nat} {b : Base} {f : FuncId} {args : Array Value} {w : World} {l : List Int} {T : Tl} {ρ : List Nat} {E : El} {R : List Row} {pub : Nat → Prop} {s : World} {dst : Option Tmp} {K : St → Prop}
    (hc : Calls Try.prog f args w (Res w (OwnI w l))) (hw : Wd b ⟨T, ρ, E, R, pub, s⟩ w)
    (hk : ∀ A c, (l.length ≠ 0 → ∃ ad, A = some ad) → putK N dst (.v (.slice A l.length c)) ⟨T, ρ, E, ⟨.slice A l.length c, 3, 1, ints l⟩ :: R, pub, s⟩ K) :
    Calls Try.prog f args w fun e w' => ∃ v, e = .returned v ∧ AfterK N b dst ⟨T, ρ, E, R, pub, s⟩ K v w' := by
  refine hc.mono ?_
  rintro e w' ⟨v, rfl, ⟨A, c, rfl, h1, h2⟩, hb⟩
  exact ⟨_, rfl, E, _, pub, s, hw.add hb h1 h2, hk A c h1.some⟩
/-- Where a function ends with a slice of numbers of its own. -/
theorem ownRet {w w' : World} {l : List Int} {A : Option Addr} {c : Nat} {T : Tl} {ρ : List Nat} {E : El} {R : List Row} {pub : Nat → Prop} {s : World} (hw : Wd ⟨w, fun _ => False⟩ ⟨T, ρ, E, R, pub, s⟩ w')
    (hR : ⟨.slice A l.length c, 3, 1, ints l⟩ ∈ R) : Res w (OwnI w l) (.returned (.slice A l.length c)) w' := by
  obtain ⟨r1, r2⟩ := hw.row _ hR
  exact ⟨_, rfl, ⟨_, _, rfl, r1, fun q hq => ((r2 q hq).1).elim (fun h => h.elim) id⟩, hw.bel⟩

theorem metas_calls (S : Nat → Prop) (w : World) (t : Tp) (v : Value) (ht : RepT S w t v) (hlen : (fnd 7 t []).length ≤ 8796093022208) :
    Calls Try.prog 12 #[v] w (Res w (OwnI w (fnd 7 t []))) := by
  obtain ⟨B, d, rfl, b1, b2, b3⟩ := ht.opn
  refine calls0 tyok mixed [] Try.func12 rfl rfl (by simp) ?_
  conv => whnf
  intro g0
  conv => whnf
  refine ⟨gf44, fun w1 hw1 => ownK (found_calls S w1 t _ 7 (ht.to (hw1.samev S) (fun _ h _ => h)) hlen) hw1 fun A c _ => ?_⟩
  conv => whnf
  intro w2 hw2
  exact ownRet hw2 (by simp)
theorem gens_calls (S : Nat → Prop) (w : World) (t : Tp) (v : Value) (ht : RepT S w t v) (hlen : (fnd 8 t []).length ≤ 8796093022208) :
    Calls Try.prog 14 #[v] w (Res w (OwnI w (fnd 8 t []))) := by
  obtain ⟨B, d, rfl, b1, b2, b3⟩ := ht.opn
  refine calls0 tyok mixed [] Try.func14 rfl rfl (by simp) ?_
  conv => whnf
  intro g0
  conv => whnf
  refine ⟨gf44, fun w1 hw1 => ownK (found_calls S w1 t _ 8 (ht.to (hw1.samev S) (fun _ h _ => h)) hlen) hw1 fun A c _ => ?_⟩
  conv => whnf
  intro w2 hw2
  exact ownRet hw2 (by simp)

/-- What is owned that a call has made: a row of cells of types. -/
def OwnT (w : World) (n : Nat) (xs : List Value) (v : Value) (w' : World) : Prop := ∃ A c, v = .slice A n c ∧ RowOk w' ⟨.slice A n c, 24, 3, xs⟩ ∧ ∀ k, rowB (.slice A n c) = some k → w.heap.size ≤ k
theorem ownTK {N : Nat} {b : Base} {f : FuncId} {args : Array Value} {w : World} {n : Nat} {xs : List Value} {T : Tl} {ρ : List Nat} {E : El} {R : List Row} {pub : Nat → Prop} {s : World} {dst : Option Tmp} {K : St → Prop}
    (hc : Calls Try.prog f args w (Res w (OwnT w n xs))) (hw : Wd b ⟨T, ρ, E, R, pub, s⟩ w)
    (hk : ∀ A c, (n ≠ 0 → ∃ ad, A = some ad) → putK N dst (.v (.slice A n c)) ⟨T, ρ, E, ⟨.slice A n c, 24, 3, xs⟩ :: R, pub, s⟩ K) :
    Calls Try.prog f args w fun e w' => ∃ v, e = .returned v ∧ AfterK N b dst ⟨T, ρ, E, R, pub, s⟩ K v w' := by
  refine hc.mono ?_
  rintro e w' ⟨v, rfl, ⟨A, c, rfl, h1, h2⟩, hb⟩
  exact ⟨_, rfl, E, _, pub, s, hw.add hb h1 h2, hk A c h1.some⟩

theorem eqlNil_run {ty' : TypeId} {e : TypeId} (h : Try.prog.underlying ty' = some (.slice e)) (w : World) (A : Option Addr) (n c : Nat) : (Op.equal ty' (.slice A n c) (.slice none 0 0)).run Try.prog w = .ok (A.isNone) w := by
  unfold Op.equal
  rw [show Op.maxDepth = 9999 + 1 from rfl]
  unfold Op.equalIn
  rw [Sem.run_bind, run_under h]
  cases A <;> rfl

theorem clone_calls (S : Nat → Prop) (w : World) (A : Option Addr) (n c : Nat) (xs : List Value) (hx : xs.length = n * 3) (hn : n ≤ LIM) (hp : ∀ u ∈ xs, u.oneCell' = true) (hc : Cells S w A xs) :
    Calls Try.prog 57 #[.slice A n c] w (Res w (OwnT w n xs)) := by
  unfold LIM at hn
  refine calls0 tyok mixed [] Try.func57 rfl rfl (by simp) ?_
  conv => whnf
  refine ⟨nofun, fun w1 hw1 => ?_⟩
  have hrun : ∀ (d : Option Tmp) (p : String) (a : Array Edge) (g : Option (Nat × Bool)) (T : Tl) (t0 : TypeId), evF [] T (.tmp 3) = .slice A n c → (execOp (evF [] T) { dst := d, op := .binOp .eql 22 (.tmp 3) (.const (.slice none 0 0)) 22, type := t0, pos := p, after := a, guard := g }).run Try.prog w1 = .ok (.value (.bool A.isNone)) w1 := by
    intro d p a g T t0 h3
    have e2 : evF [] T (.const (.slice none 0 0)) = .slice none 0 0 := rfl
    simp only [execOp]
    refine run_val ?_
    rw [h3, e2]
    have : (eqGuard .eql 22 (.tmp 3) (.const (.slice none 0 0)) (.slice A n c) (.slice none 0 0)).run Try.prog w1 = .ok () w1 := rfl
    rw [Sem.run_bind, this]
    simp only [Result.andThen_ok, binOp]
    rw [Sem.run_bind, eqlNil_run (by first | exact Try.underlying22 | rfl)]
    rfl
  rw [hrun _ _ _ _ _ _ rfl]
  refine ⟨_, _, _, _, hw1, ?_⟩
  conv => whnf
  refine ⟨fun h => ?_, fun h => ?_⟩
  · have hA : A = none := by simpa using h
    subst hA
    have hxs : xs = [] := by
      rcases hc with h | ⟨_, h, _⟩
      · exact h
      · cases h
    subst hxs
    have hn0 : n = 0 := by simp at hx; omega
    subst hn0
    conv => whnf
    intro w2 hw2
    exact ⟨_, rfl, ⟨none, 0, rfl, RowOk.nil _ _ _, fun k hk => by cases hk⟩, hw2.bel⟩
  · conv => whnf
    intro g0
    conv => whnf
    refine ⟨nofun, fun w2 hw2 => ?_⟩
    have hw3 := hw2.toRow (i := 0) (sz := 3) (n := 0) rfl rfl (Nat.zero_le _)
    refine appendK (b := ⟨w, fun _ => False⟩) tyok (t := 22) rfl rfl rfl rfl (by decide) (by decide) hw3 0 (xs := []) rfl rfl (B := A) (m := n) (d := c) (ys := xs) rfl (S := S) hx (hc.to (hw2.samev S) (fun _ h _ => h)) hp (by show (0 + n) * 40 ≤ _; omega) fun A' c' => ?_
    conv => whnf
    intro w4 hw4
    obtain ⟨r1, r2⟩ := hw4.row _ (List.mem_singleton.2 rfl)
    simp only [Nat.zero_add, denL, vcEff.rep, List.nil_append] at r1 r2
    exact ⟨_, rfl, ⟨A', c', by simp [den], r1, fun q hq => ((r2 q hq).1).elim (fun h => h.elim) id⟩, hw4.bel⟩
end Go.Proofs.Ytonhlccjfbfkcaa.Vm

/- scheme.turn: a type with nodes of a kind replaced. -/
namespace Go.Proofs.Ytonhlccjfbfkcaa.Vm
open Go.Vc Go.RowKit

mutual
/-- Nodes of a kind replaced, by a table. -/
def sub (kind : Int) (σ : Int → Option Tp) : Tp → Tp
  | .mk k n ks => match (if k = kind then σ n else none) with
    | some u => u
    | none => .mk k n (subL kind σ ks)
def subL (kind : Int) (σ : Int → Option Tp) : List Tp → List Tp
  | [] => []
  | t :: r => sub kind σ t :: subL kind σ r
end
theorem subL_map (kind : Int) (σ : Int → Option Tp) (l : List Tp) : subL kind σ l = l.map (sub kind σ) := by
  induction l with
  | nil => rfl
  | cons t r ih => simp [subL, ih]
/-- The table of two lists. -/
def tbl : List Int → List Tp → Int → Option Tp
  | f :: fs, t :: ts, n => if n = f then some t else tbl fs ts n
  | _, _, _ => none
theorem tbl_idx : ∀ (fs : List Int) (ts : List Tp) (n i : Int), fs.length ≤ ts.length → 0 ≤ i → (idxFrom fs n i < 0 → tbl fs ts n = none) ∧ (0 ≤ idxFrom fs n i → ∃ q : Nat, idxFrom fs n i = i + q ∧ q < fs.length ∧ tbl fs ts n = ts[q]?)
  | [], ts, n, i, _, h => by simp [idxFrom, tbl]
  | f :: fs, [], n, i, hl, h => by simp at hl
  | f :: fs, t :: ts, n, i, hl, h => by
    simp only [idxFrom, tbl]
    by_cases e : n = f
    · rw [if_pos e, if_pos e]
      exact ⟨fun h' => by omega, fun _ => ⟨0, by simp, by simp, by simp⟩⟩
    · rw [if_neg e, if_neg e]
      obtain ⟨h1, h2⟩ := tbl_idx fs ts n (i + 1) (by simpa using hl) (by omega)
      refine ⟨h1, fun h' => ?_⟩
      obtain ⟨q, q1, q2, q3⟩ := h2 h'
      exact ⟨q + 1, by rw [q1]; push_cast; omega, by simp; omega, by rw [q3]; simp⟩

def TurnOk (t : Tp) : Prop := ∀ (S : Nat → Prop) (w : World) (v : Value) (kind : Int) (A : Option Addr) (c : Nat) (fs : List Int) (B : Option Addr) (d : Nat) (ts : List Tp), RepT S w t v → fs.length ≤ 17592186044416 → Cells S w A (ints fs) → fs.length ≤ ts.length → RepKs S w ts B 0 →
  Calls Try.prog 42 #[v, .int .i64 kind, .slice A fs.length c, .slice B ts.length d] w (Res w fun v' w' => RepT (ext S w) w' (sub kind (tbl fs ts) t) v')

theorem turn_calls : ∀ t, TurnOk t := by
  refine Tp.ind fun k n ks ih => ?_
  intro S w v kind A c fs B d ts ht hfl hf hft hts
  obtain ⟨D, e, rfl, b1, b2, b3⟩ := ht.opn
  simp only [Tp.k, Tp.n, Tp.kids] at *
  have b2' := b2
  unfold LIM at b2'
  have hsub : sub kind (tbl fs ts) (.mk k n ks) = match (if k = kind then tbl fs ts n else none) with
    | some u => u
    | none => .mk k n (subL kind (tbl fs ts) ks) := rfl
  rw [hsub]
  refine calls_of_vc (args := [_, _, _, _]) (plans := [(9, ([0, 2], .pure 0 (.take 1 (.pure 2 (.take 3 (.pure 4 (.pure 5 (.pure 6 (.run 7 (.pure 8 (.fin 9 .done))))))))))), (100005, ([], .done))]) tyok mixed Try.func42 rfl rfl (by simp) (fun q => S q ∧ q < w.heap.size) (fun q h => h.2) ?_
  conv => whnf
  intro g0
  conv => whnf
  intro g1
  conv => whnf
  refine ⟨fun st => (if k = kind then tbl fs ts n else none) = none ∧ st = ⟨[(8, .own 1 0), (4, .own 0 0), (1, .v (.int .i64 kind)), (2, .v (.slice A fs.length c)), (3, .v (.slice B ts.length d))], [g0, g1],
    [(1, ([.v (.int .i64 0), .v (.int .i64 0), .v (.slice none 0 0)], 24)), (0, ([.v (.int .i64 k), .v (.int .i64 n), .v (.slice D ks.length e)], 24))], [], fun q => S q ∧ q < w.heap.size, w⟩, ?_, ?_⟩
  · conv => whnf
    refine ⟨fun hk => ?_, fun hk => ?_⟩
    · have hk' : k = kind := eq_of_beq hk
      rw [if_pos hk']
      conv => whnf
      refine ⟨gf56, fun w1 hw1 => scalK (index_calls S w1 A c fs n hfl (hf.to (hw1.samev S) (fun _ h _ => h))) hw1 ?_⟩
      obtain ⟨hx1, hx2⟩ := tbl_idx fs ts n 0 hft (by omega)
      conv => whnf
      refine ⟨fun hg => ?_, fun hg => ?_⟩
      · have hg' : 0 ≤ idxFrom fs n 0 := of_decide_eq_true hg
        obtain ⟨q, q1, q2, q3⟩ := hx2 hg'
        rw [q3]
        simp only [Int.zero_add] at q1
        have hqt : q < ts.length := by omega
        obtain ⟨ad, B', d', rfl, hS, hld, k1, k2, k3, k4⟩ := hts.ld (P := Try.prog) tk24 rfl rfl (i := q) (t := ts[q]) (by simp [hqt])
        conv => whnf
        refine ⟨ad, rfl, hg', by rw [q1]; omega, ?_⟩
        rw [q1]
        conv => whnf
        intro w2 hw2
        refine ⟨_, hld w2 (hw2.samev S), ?_⟩
        conv => whnf
        intro w3 hw3
        rw [List.getElem?_eq_getElem hqt]
        exact ⟨_, rfl, k4.to (hw3.samev S) (fun _ h _ => .inl h), hw3.bel⟩
      · have hg' : idxFrom fs n 0 < 0 := by have := of_decide_eq_false hg; omega
        conv => whnf
        exact ⟨_, ⟨hx1 hg', rfl⟩, weak_of (preP_refl _) ⟨rfl, rfl, rfl, rfl, rfl, trivial⟩ ⟨⟨rfl, rfl, rfl⟩, ⟨rfl, rfl, rfl⟩, trivial⟩ (List.Sublist.refl _) rfl rfl⟩
    · have hk' : k ≠ kind := by simpa using hk
      conv => whnf
      exact ⟨_, ⟨by rw [if_neg hk'], rfl⟩, weak_of (preP_refl _) ⟨rfl, rfl, rfl, rfl, rfl, trivial⟩ ⟨⟨rfl, rfl, rfl⟩, ⟨rfl, rfl, rfl⟩, trivial⟩ (List.Sublist.refl _) rfl rfl⟩
  · rintro st ⟨hno, rfl⟩
    rw [hno]
    conv => whnf
    obtain ⟨xs, hxf, hxc⟩ := b3.cells
    refine ⟨gf57, fun w1 hw1 => ownTK (clone_calls S w1 D ks.length e xs hxf.len b2 (fun u hu => (hxf.plain u hu).1) (hxc.to (hw1.samev S) (fun _ h _ => h))) hw1 fun F f hF => ?_⟩
    conv => whnf
    refine ⟨fun m st => ∃ (i : Nat) (g2 : List Nat) (ys zs : List Value) (pub : Nat → Prop) (s : World), i ≤ ks.length ∧ m = ks.length - i ∧ RepFlat pub s ((ks.take i).map (sub kind (tbl fs ts))) ys ∧ RepFlat pub s (ks.drop i) zs ∧
        (∀ q, S q → q < w.heap.size → pub q) ∧ (∀ q, pub q → ext S w q) ∧
        st = ⟨[(33, .v (.int .i64 i)), (32, .v (.int .i64 ks.length)), (31, .v (.slice F ks.length f)), (8, .own 1 0), (4, .own 0 0), (1, .v (.int .i64 kind)), (2, .v (.slice A fs.length c)), (3, .v (.slice B ts.length d))], [g0, g1],
          [(1, ([.v (.int .i64 0), .v (.int .i64 0), .v (.slice none 0 0)], 24)), (0, ([.v (.int .i64 k), .v (.int .i64 n), .v (.slice F ks.length f)], 24))], [⟨.slice F ks.length f, 24, 3, ys ++ zs⟩], pub, s⟩,
      ⟨ks.length, _, ⟨0, [], [], xs, _, _, Nat.zero_le _, by simp, by simp [RepFlat], ?_, fun q h1 h2 => ⟨h1, h2⟩, fun q h => .inl h.1, rfl⟩, weak_of (preP_refl _) ⟨rfl, rfl, rfl, rfl, rfl, rfl, rfl, rfl, trivial⟩ ⟨⟨rfl, rfl, rfl⟩, ⟨rfl, rfl, rfl⟩, trivial⟩ (List.Sublist.refl _) rfl rfl⟩, ?_⟩
    · simpa using hxf.to (Same.rfl' _ _) (fun q h1 h2 => ⟨h1, h2⟩)
    rintro m st ⟨i, g2, ys, zs, pub, s, hi, hm, hys, hzs, hp1, hp2, rfl⟩
    conv => whnf
    refine ⟨fun hb => ?_, fun hb => ?_⟩
    · have hb := of_decide_eq_true hb
      have hil : i < ks.length := by omega
      have hyl := hys.len
      simp only [List.length_map, List.length_take, Nat.min_eq_left hi] at hyl
      rw [List.drop_eq_getElem_cons hil] at hzs
      obtain ⟨v0, v1, v2, zs', rfl, hz1, hz2⟩ := hzs
      obtain ⟨G, g, e0, e1, e2, e3⟩ := hz1.opn
      injection e0 with e0
      have e' : [v0, v1, v2] = [.int .i64 ks[i].k, .int .i64 ks[i].n, .slice G ks[i].kids.length g] := congrArg Array.toList e0
      injection e' with q0 e'; injection e' with q1 e'; injection e' with q2 e'
      subst q0; subst q1; subst q2
      obtain ⟨ad, rfl⟩ := hF (by omega)
      conv => whnf
      refine ⟨ad, rfl, by omega, hb, ?_⟩
      conv => whnf
      intro w2 hw2
      refine ⟨_, ((hw2.row _ (List.mem_singleton.2 rfl)).1).ld3 tk24 rfl rfl hyl, ?_⟩
      conv => whnf
      intro g3
      conv => whnf
      refine ⟨by kernel_rfl, rfl, ?_⟩
      conv => whnf
      refine ⟨gf42, fun w3 hw3 => resK (ih ks[i] (by simp) pub w3 _ kind A c fs B d ts (hz1.to hw3.same (fun _ h _ => h)) hfl (hf.to (hw3.samev S) (fun q h1 h2 => hp1 q h1 h2)) hft (hts.to (hw3.samev S) (fun q h1 h2 => hp1 q h1 h2))) hw3 fun r w4 hr hb4 hw4 => ?_⟩
      obtain ⟨H, hh, rfl, r1, r2, r3⟩ := hr.opn
      conv => whnf
      refine ⟨⟨⟨rfl, rfl, rfl, trivial⟩, ⟨rfl, rfl, trivial⟩, hw3.heldW hb4⟩, ?_⟩
      conv => whnf
      refine ⟨ad, rfl, by omega, hb, ?_⟩
      conv => whnf
      refine ⟨nofun, fun w5 hw5 => storeK (b := ⟨w, fun _ => False⟩) tyok rfl hw5 0 rfl (i * 3) rfl rfl rfl rfl (by simp [hyl]) (by simp [plainV]) ?_⟩
      rw [ovw_at hyl]
      conv => whnf
      have hpa : Same pub s w4 := hw3.pass hb4
      refine ⟨ks.length - (i + 1), _, by omega, ⟨i + 1, [], ys ++ [.int .i64 (sub kind (tbl fs ts) ks[i]).k, .int .i64 (sub kind (tbl fs ts) ks[i]).n, .slice H (sub kind (tbl fs ts) ks[i]).kids.length hh], zs', extP pub w3 w4, w4, hil, rfl, ?_, hz2.to hpa (fun q h _ => .inl h), fun q h1 h2 => .inl (hp1 q h1 h2), fun q hq => ?_, rfl⟩, weak_of ⟨rfl, rfl, trivial⟩ ⟨incV (by omega), rfl, rfl, rfl, rfl, rfl, rfl, rfl, trivial⟩ ⟨⟨rfl, rfl, rfl⟩, ⟨rfl, rfl, rfl⟩, trivial⟩ ?_ rfl rfl⟩
      · rw [List.take_succ_eq_append_getElem hil, List.map_append]
        exact (hys.to hpa (fun q h _ => .inl h)).app (RepFlat.one (hr.to (Same.rfl' _ _) (fun q h1 h2 => h1.elim .inl (fun h => .inr ⟨h, h2⟩))))
      · rcases hq with hq | hq
        · exact hp2 q hq
        · exact .inr (Nat.le_trans (Nat.le_trans (by exact (hw3.below.size)) hq.1) (Nat.le_refl _))
      · simp
    · have hb := of_decide_eq_false hb
      have hil : i = ks.length := by omega
      subst hil
      simp only [List.take_length, List.drop_length, RepFlat] at hys hzs
      subst hzs
      conv => whnf
      intro w5 hw5
      obtain ⟨r1, r2⟩ := hw5.row _ (List.mem_singleton.2 rfl)
      rw [← subL_map] at hys
      have hl2 : (subL kind (tbl fs ts) ks).length = ks.length := by rw [subL_map]; simp
      refine ⟨_, rfl, ?_, hw5.bel⟩
      have hk5 : RepKs (ext S w) w5 (subL kind (tbl fs ts) ks) F 0 := RepKs.ofCells (S := fun q => pub q) (hys.to hw5.same (fun q h _ => h)) ?_ (fun q h _ => hp2 q h)
      · have := RepT.mk' (t := .mk k n (subL kind (tbl fs ts) ks)) (S := ext S w) (w := w5) (A := F) (c := f) (by simp only [Tp.kids]; rw [hl2]; exact r1.cap) (by simp only [Tp.kids]; rw [hl2]; exact b2) hk5
        simp only [Tp.k, Tp.n, Tp.kids, hl2] at this
        exact this
      · have := r1.cells (A := F) (n := ks.length) (c := f) rfl (ext S w) (fun q hq => .inr (((r2 q hq).1).elim (fun h => h.elim) id))
        simpa using this
end Go.Proofs.Ytonhlccjfbfkcaa.Vm

/- slices.IndexFunc, slices.DeleteFunc at numbers; scheme.gens. -/
namespace Go.Proofs.Ytonhlccjfbfkcaa.Vm
open Go.Vc Go.RowKit

/-- The place of the first number with p, from i on; -1: there is none. -/
def idxP (p : Int → Bool) : List Int → Int → Int
  | [], _ => -1
  | y :: r, i => if p y then i else idxP p r (i + 1)
theorem idxP_spec (p : Int → Bool) : ∀ (l : List Int) (i : Int), 0 ≤ i → (idxP p l i < 0 → (∀ y ∈ l, p y = false) ∧ idxP p l i = -1) ∧ (0 ≤ idxP p l i → ∃ q : Nat, idxP p l i = i + q ∧ ∃ h : q < l.length, p l[q] = true ∧ ∀ y ∈ l.take q, p y = false)
  | [], i, h => by simp [idxP]
  | y :: r, i, h => by
    simp only [idxP]
    by_cases e : p y = true
    · rw [if_pos e]
      exact ⟨fun h' => by omega, fun _ => ⟨0, by simp, by simp, by simpa using e, by simp⟩⟩
    · rw [if_neg e]
      obtain ⟨h1, h2⟩ := idxP_spec p r (i + 1) (by omega)
      refine ⟨fun h' => ⟨fun z hz => ?_, (h1 h').2⟩, fun h' => ?_⟩
      · rcases List.mem_cons.1 hz with rfl | hz
        · simpa using e
        · exact (h1 h').1 z hz
      · obtain ⟨q, q1, q2, q3, q4⟩ := h2 h'
        refine ⟨q + 1, by rw [q1]; push_cast; omega, by simp; omega, by simpa using q3, fun z hz => ?_⟩
        simp only [List.take_succ_cons, List.mem_cons] at hz
        rcases hz with rfl | hz
        · simpa using e
        · exact q4 z hz

/-- A function value that tells p of a number, wherever the blocks of S are as in w. -/
def Pred (S : Nat → Prop) (w : World) (f : FuncId) (a b : Array Value) (p : Int → Bool) : Prop := Goes Try.prog f ∧ ∀ w' x, w.heap.size ≤ w'.heap.size → Same S w w' → Calls Try.prog f (a ++ #[.int .i64 x] ++ b) w' fun e w'' => e = .returned (.bool (p x)) ∧ Below w'.heap.size w' w''

theorem indexFunc_calls (S S2 : Nat → Prop) (w : World) (A : Option Addr) (c : Nat) (l : List Int) (f : FuncId) (a b : Array Value) (p : Int → Bool) (hp : Pred S w f a b p) (hl : l.length ≤ 17592186044416) (hr : Cells S2 w A (ints l)) :
    Calls Try.prog 55 #[.slice A l.length c, .func (.func f) a b] w (fun e w' => e = .returned (.int .i64 (idxP p l 0)) ∧ Below w.heap.size w w') := by
  refine calls0 tyok mixed [] Try.func55 rfl rfl (by simp) ?_
  conv => whnf
  refine ⟨fun n st => ∃ i : Nat, i ≤ l.length ∧ n = l.length - i ∧ idxP p l 0 = idxP p (l.drop i) i ∧ st = ⟨[(8, .v (.int .i64 i)), (7, .v (.int .i64 l.length)), (0, .v (.slice A l.length c)), (1, .v (.func (.func f) a b))], [], [], [], fun _ => False, w⟩, ⟨l.length, _, ⟨0, Nat.zero_le _, by simp, by simp, rfl⟩, weak_of (preP_refl _) ⟨rfl, rfl, rfl, rfl, trivial⟩ trivial (List.Sublist.refl _) rfl rfl⟩, ?_⟩
  rintro n st ⟨i, hi, hn, hx, rfl⟩
  conv => whnf
  refine ⟨fun h => ?_, fun h => ?_⟩
  · have h := of_decide_eq_true h
    have hil : i < l.length := by omega
    have hd : l.drop i = l[i] :: l.drop (i + 1) := by rw [List.drop_eq_getElem_cons hil]
    obtain ⟨ad, rfl, _, hld⟩ := hr.ld1 (P := Try.prog) tk3 rfl (i := i) (v := .int .i64 l[i]) (by simp [hil])
    conv => whnf
    refine ⟨ad, rfl, by omega, h, ?_⟩
    conv => whnf
    intro w1 hw
    refine ⟨_, hld w1 (hw.samev S2), ?_⟩
    conv => whnf
    refine ⟨hp.1, fun w2 hw2 => scalK (hp.2 w2 l[i] hw2.bel.size (hw2.samev S)) hw2 ?_⟩
    conv => whnf
    refine ⟨fun h => ?_, fun h => ?_⟩
    · have h : p l[i] = true := by simpa using h
      conv => whnf
      intro w2 hw2
      exact ⟨retI (by rw [hx, hd, idxP, if_pos h]), hw2.bel⟩
    · have h : p l[i] = false := by simpa using h
      conv => whnf
      refine ⟨l.length - (i + 1), _, by omega, ⟨i + 1, hil, rfl, ?_, rfl⟩, weak_of (preP_refl _) ⟨incV (by omega), rfl, rfl, rfl, trivial⟩ trivial (List.Sublist.refl _) rfl rfl⟩
      rw [hx, hd, idxP, if_neg (by simp [h])]; rfl
  · have h := of_decide_eq_false h
    conv => whnf
    intro w2 hw2
    have : i = l.length := by omega
    exact ⟨retI (by rw [hx, this]; simp [idxP]), hw2.bel⟩

/-- What a call leaves that was handed a row of numbers and cuts it. -/
def CutPost (w : World) (A : Option Addr) (n c : Nat) (l' : List Int) (e : Ending) (w' : World) : Prop :=
  e = .returned (.slice A l'.length c) ∧ RowOk w' ⟨.slice A l'.length c, 3, 1, ints l'⟩ ∧ Only (fun k => rowB (.slice A n c) = some k) w w'

theorem ovw_ints {l : List Int} {i : Nat} {x : Int} (h : i < l.length) : ovw (ints l) (i * 1) [.int .i64 x] = ints (l.set i x) := by
  unfold ovw ints
  rw [List.set_eq_take_append_cons_drop]
  simp [h]
theorem rowB_slice (A : Option Addr) (n c n' c' : Nat) : rowB (.slice A n c) = rowB (.slice A n' c') := by cases A <;> rfl

theorem deleteFunc_calls (S : Nat → Prop) (w : World) (A : Option Addr) (c : Nat) (l : List Int) (f : FuncId) (a b : Array Value) (p : Int → Bool) (hp : Pred S w f a b p) (hl : l.length ≤ 8796093022208) (hr : RowOk w ⟨.slice A l.length c, 3, 1, ints l⟩)
    (hS : ∀ k, rowB (.slice A l.length c) = some k → ¬ S k) :
    Calls Try.prog 39 #[.slice A l.length c, .func (.func f) a b] w (CutPost w A l.length c (l.filter fun x => !p x)) := by
  have hcl : l.length ≤ c := hr.cap
  refine calls_of_vcM (b := ⟨w, fun k => rowB (.slice A l.length c) = some k⟩) (ρ := []) (E := []) (Rw := [⟨.slice A l.length c, 3, 1, ints l⟩]) (pub := fun k => S k ∧ k < w.heap.size) (s := w)
    (plans := []) tyok mixed (svs := [.v (.slice A l.length c), .v (.func (.func f) a b)]) Try.func39 rfl rfl (by simp)
    (Wd.startR hr (pub := fun k => S k ∧ k < w.heap.size) (fun k h => h.2) (fun k hk h => hS k hk h.1)) ?_
  have hsame : ∀ {st : St} {w1 : World}, Wd ⟨w, fun k => rowB (.slice A l.length c) = some k⟩ st w1 → Same S w w1 := fun h => h.same0 S (fun q hq h' => hS q h' hq)
  conv => whnf
  refine ⟨gf55, fun w1 hw1 => scalK (indexFunc_calls S (fun _ => True) w1 A c l f a b p ⟨hp.1, fun w' x h1 h2 => hp.2 w' x (Nat.le_trans hw1.below.size h1) (fun q hq hq2 => by rw [h2 q hq (Nat.lt_of_lt_of_le hq2 hw1.below.size)]; exact hsame hw1 q hq hq2)⟩ (by omega) ((hw1.row _ (List.mem_singleton.2 rfl)).1.cells rfl _ (fun _ _ => trivial))) hw1 ?_⟩
  obtain ⟨hx1, hx2⟩ := idxP_spec p l 0 (by omega)
  conv => whnf
  refine ⟨fun h => ?_, fun h => ?_⟩
  · have h : idxP p l 0 = -1 := eq_of_beq h
    have hall := (hx1 (by omega)).1
    have hf : (l.filter fun x => !p x) = l := List.filter_eq_self.2 fun x hx => by simp [hall x hx]
    conv => whnf
    intro w2 hw2
    rw [hf]
    exact ⟨rfl, (hw2.row _ (List.mem_singleton.2 rfl)).1, hw2.below⟩
  · have h : idxP p l 0 ≠ -1 := by simpa using h
    have h0 : 0 ≤ idxP p l 0 := by
      rcases Int.lt_or_le (idxP p l 0) 0 with h' | h'
      · exact absurd (hx1 h').2 h
      · exact h'
    obtain ⟨q, q1, q2, q3, q4⟩ := hx2 h0
    simp only [Int.zero_add] at q1
    rw [q1]
    conv => whnf
    refine ⟨fun m st => ∃ (i j : Nat) (r : List Int), i < j ∧ j ≤ l.length ∧ m = l.length - j ∧ r.length = l.length ∧ r.take i = (l.take j).filter (fun x => !p x) ∧ r.drop j = l.drop j ∧
        st = ⟨[(6, .v (.int .i64 j)), (5, .v (.int .i64 i)), (0, .v (.slice A l.length c)), (1, .v (.func (.func f) a b))], [], [], [⟨.slice A l.length c, 3, 1, ints r⟩], fun k => S k ∧ k < w.heap.size, w⟩,
      ⟨l.length - (q + 1), _, ⟨q, q + 1, l, by omega, by omega, rfl, rfl, ?_, rfl, rfl⟩, weak_of (preP_refl _) ⟨incV (by omega), rfl, rfl, rfl, trivial⟩ trivial (List.Sublist.refl _) rfl rfl⟩, ?_⟩
    · rw [List.take_succ_eq_append_getElem q2, List.filter_append, List.filter_eq_self.2 fun x hx => by simp [q4 x hx]]
      simp [q3]
    rintro m st ⟨i, j, r, hij, hj, hm, hr1, hr2, hr3, rfl⟩
    conv => whnf
    refine ⟨fun h => ?_, fun h => ?_⟩
    · have h := of_decide_eq_true h
      have hjl : j < l.length := by omega
      have hrj : r[j]? = some l[j] := by
        have := congrArg (fun z => z[0]?) hr3
        simpa [hjl] using this
      obtain ⟨ad, rfl⟩ := RowOk.some hr (by omega)
      conv => whnf
      refine ⟨ad, rfl, by omega, h, ?_⟩
      conv => whnf
      intro w1 hw1
      obtain ⟨ad', e', _, hld⟩ := ((hw1.row _ (List.mem_singleton.2 rfl)).1.cells rfl (fun _ => True) (fun _ _ => trivial)).ld1 (P := Try.prog) tk3 rfl (i := j) (v := .int .i64 l[j]) (by simp [hrj])
      injection e' with e'; subst e'
      refine ⟨_, hld w1 (Same.rfl' _ _), ?_⟩
      conv => whnf
      refine ⟨hp.1, fun w2 hw2 => scalK (hp.2 w2 l[j] hw2.below.size (hsame hw2)) hw2 ?_⟩
      conv => whnf
      refine ⟨fun h => ?_, fun h => ?_⟩
      · have h : p l[j] = false := by simpa using h
        conv => whnf
        refine ⟨ad, rfl, by omega, by omega, ?_⟩
        conv => whnf
        refine ⟨nofun, fun w3 hw3 => storeK (b := ⟨w, fun k => rowB (.slice (some ad) l.length c) = some k⟩) tyok rfl hw3 0 rfl (i * 1) rfl (u := .int .i64 l[j]) (l := [.int .i64 l[j]]) rfl rfl rfl (by simp [hr1]; omega) (by simp [plainV]) ?_⟩
        rw [ovw_ints (by omega)]
        conv => whnf
        refine ⟨l.length - (j + 1), _, by omega, ⟨i + 1, j + 1, r.set i l[j], by omega, hjl, rfl, by simp [hr1], ?_, ?_, rfl⟩, weak_of (preP_refl _) ⟨incV (by omega), incV (by omega), rfl, rfl, trivial⟩ trivial (List.Sublist.refl _) rfl rfl⟩
        · rw [List.take_succ_eq_append_getElem (by simp; omega), List.take_succ_eq_append_getElem hjl, List.filter_append, ← hr2, List.take_set_of_le (by omega)]
          simp [h]
        · rw [List.drop_set_of_lt (by omega), ← List.drop_drop, hr3, List.drop_drop]
      · have h : p l[j] = true := by simpa using h
        conv => whnf
        refine ⟨l.length - (j + 1), _, by omega, ⟨i, j + 1, r, by omega, hjl, rfl, hr1, ?_, ?_, rfl⟩, weak_of (preP_refl _) ⟨incV (by omega), rfl, rfl, rfl, trivial⟩ trivial (List.Sublist.refl _) rfl rfl⟩
        · rw [List.take_succ_eq_append_getElem hjl, List.filter_append, ← hr2]
          simp [h]
        · rw [← List.drop_drop, hr3, List.drop_drop]
    · have h := of_decide_eq_false h
      have hjl : j = l.length := by omega
      subst hjl
      rw [List.take_length] at hr2
      conv => whnf
      refine ⟨nofun, fun w1 hw1 => valK hw1 (exec_sliceL tyok (t := 25) rfl rfl rfl (A := A) (n := l.length) (c := c) (k := .i64) (j := i) rfl rfl (by omega)) ?_⟩
      conv => whnf
      refine ⟨nofun, fun w2 hw2 => clearK tyok (t := 25) (z := .int .i64 0) rfl rfl rfl rfl rfl rfl hw2 0 rfl (j := i) (by omega) rfl fun ys hys => ?_⟩
      conv => whnf
      refine ⟨nofun, fun w3 hw3 => valK hw3 (exec_sliceH tyok (t := 25) rfl rfl rfl (A := A) (n := l.length) (c := c) (k := .i64) (j := i) rfl rfl (by omega)) ?_⟩
      conv => whnf
      intro w4 hw4
      have hli : i = (l.filter fun x => !p x).length := by rw [← hr2]; simp; omega
      have hrow := ((hw4.row _ (List.mem_singleton.2 rfl)).1).cut (m := i) (by omega)
      have e2 : List.take (i * 1) (List.take i (ints r) ++ ys) = ints (l.filter fun x => !p x) := by
        rw [Nat.mul_one, List.take_append_of_le_length (by simp; omega), List.take_take, Nat.min_self, ← List.map_take, hr2]
      rw [e2] at hrow
      rw [hli] at hrow ⊢
      exact ⟨rfl, hrow, hw4.below⟩
end Go.Proofs.Ytonhlccjfbfkcaa.Vm

/- scheme.gens, scheme.Generalise. -/
namespace Go.Proofs.Ytonhlccjfbfkcaa.Vm
open Go.Vc Go.RowKit

/-- k generic variables, from n on. -/
def genL (n : Int) (k : Nat) : List Tp := (List.range k).map fun i : Nat => .mk 8 (n + (i : Int)) []
def genC (n : Int) (k : Nat) : List Value := (List.range k).flatMap fun i : Nat => [.int .i64 8, .int .i64 (n + (i : Int)), .slice none 0 0]
theorem genL_length (n : Int) (k : Nat) : (genL n k).length = k := by simp [genL]
theorem genC_flat (S : Nat → Prop) (w : World) (n : Int) : ∀ k, RepFlat S w (genL n k) (genC n k)
  | 0 => rfl
  | k + 1 => by
    have h := genC_flat S w n k
    unfold genL genC at *
    rw [List.range_succ, List.map_append, List.flatMap_append]
    refine h.app (RepFlat.one ?_)
    have := RepT.mk' (t := .mk 8 (n + (k : Int)) []) (S := S) (w := w) (A := none) (c := 0) (by simp [Tp.kids]) (by simp [Tp.kids]) (by simp [Tp.kids, RepKs])
    exact this

theorem sgens_calls (w : World) (n : Int) (k : Nat) (h0 : 0 ≤ n) (hn : n ≤ 1152921504606846976) (hk : k ≤ LIM) :
    Calls Try.prog 43 #[.int .i64 n, .int .i64 k] w (Res w (OwnT w k (genC n k))) := by
  unfold LIM at hk
  refine calls0 tyok mixed [] Try.func43 rfl rfl (by simp) ?_
  conv => whnf
  refine ⟨fun m st => ∃ (i : Nat) (A : Option Addr) (c : Nat), i ≤ k ∧ m = k - i ∧ st = ⟨[(8, .v (.int .i64 i)), (7, .v (.int .i64 k)), (5, .v (.slice A i c)), (0, .v (.int .i64 n)), (1, .v (.int .i64 k))], [], [], [⟨.slice A i c, 24, 3, genC n i⟩], fun _ => False, w⟩,
    ⟨k, _, ⟨0, none, 0, Nat.zero_le _, by simp, rfl⟩, Weak.trans (weak_nil 24 3) (weak_of (preP_refl _) ⟨rfl, rfl, rfl, rfl, rfl, trivial⟩ trivial (List.Sublist.refl _) rfl rfl)⟩, ?_⟩
  rintro m st ⟨i, A, c, hi, hm, rfl⟩
  conv => whnf
  refine ⟨fun h => ?_, fun h => ?_⟩
  · have h := of_decide_eq_true h
    have hik : i < k := by omega
    have hw : IntKind.i64.wrap (n + (i : Int)) = n + (i : Int) := Go.Vc.wrap_small (by omega) (by omega)
    conv => whnf
    rw [hw]
    intro g
    conv => whnf
    refine ⟨nofun, fun w2 hw2 => appendK (b := ⟨w, fun _ => False⟩) tyok (t := 22) rfl rfl rfl rfl (by decide) (by decide) hw2 0 rfl rfl (m := 1) (d := 1) (ys := [.int .i64 8, .int .i64 (n + (i : Int)), .slice none 0 0]) rfl (S := fun _ => True) rfl (hw2.own (i := 0) rfl) (by simp [Value.oneCell']) (by show (i + 1) * 40 ≤ _; omega) fun A' c' => ?_⟩
    conv => whnf
    refine ⟨k - (i + 1), _, by omega, ⟨i + 1, A', c', hik, rfl, rfl⟩, weak_of (by trivial) ⟨incV (by omega), rfl, rfl, rfl, rfl, trivial⟩ (by trivial) ?_ rfl rfl⟩
    have e : genC n (i + 1) = genC n i ++ [.int .i64 8, .int .i64 (n + (i : Int)), .slice none 0 0] := by
      unfold genC; rw [List.range_succ, List.flatMap_append]; simp
    rw [e]
    exact List.Sublist.refl _
  · have h := of_decide_eq_false h
    have hik : i = k := by omega
    subst hik
    conv => whnf
    intro w4 hw4
    obtain ⟨r1, r2⟩ := hw4.row _ (List.mem_singleton.2 rfl)
    exact ⟨_, rfl, ⟨A, c, rfl, r1, fun q hq => ((r2 q hq).1).elim (fun h => h.elim) id⟩, hw4.bel⟩

theorem keep_pred (S : Nat → Prop) (w : World) (ad : Addr) (A : Option Addr) (c : Nat) (keep : List Int) (hl : keep.length ≤ 17592186044416) (hS : S ad.block) (hc : w.cell? ad = some (.slice A keep.length c)) (hr : Cells S w A (ints keep)) :
    Pred S w 40 #[] #[.pointer (some ad)] (fun x => decide (x ∈ keep)) := by
  refine ⟨gf40, fun w' x hsz hs => ?_⟩
  refine calls0 (args := [.int .i64 x, .pointer (some ad)]) tyok mixed [] Try.func40 rfl rfl (by simp) ?_
  conv => whnf
  intro w1 hw1
  refine ⟨.slice A keep.length c, run_loadVar1 tk25 ((hw1.samev S).cell hS (hs.cell hS hc)) rfl, ?_⟩
  conv => whnf
  refine ⟨gf41, fun w2 hw2 => scalK (contains_calls S w2 A c keep x hl ((hr.to hs (fun _ h _ => h)).to (hw2.samev S) (fun _ h _ => h))) hw2 ?_⟩
  conv => whnf
  intro w3 hw3
  exact ⟨rfl, hw3.bel⟩
end Go.Proofs.Ytonhlccjfbfkcaa.Vm

/- scheme.Generalise. -/
namespace Go.Proofs.Ytonhlccjfbfkcaa.Vm
open Go.Vc Go.RowKit

/-- Behind a call that was handed row number j, and has cut it. -/
theorem cutK {N : Nat} {b : Base} {f : FuncId} {args : Array Value} {w : World} {A : Option Addr} {n c : Nat} {l' : List Int} {xs : List Value} {T : Tl} {ρ : List Nat} {E E0 : El} {R R0 : List Row} {pub pub0 : Nat → Prop} {s s0 : World} {dst : Option Tmp} {K : St → Prop}
    (hc : Calls Try.prog f args w (CutPost w A n c l')) (hw : Wd b ⟨T, ρ, E, R, pub, s⟩ w) (j : Nat) (hj : R[j]? = some ⟨.slice A n c, 3, 1, xs⟩)
    (hk : putK N dst (.v (.slice A l'.length c)) ⟨T, ρ, E, R.set j ⟨.slice A l'.length c, 3, 1, ints l'⟩, pub, s⟩ K) :
    Calls Try.prog f args w fun e w' => ∃ v, e = .returned v ∧ AfterK N b dst ⟨T, ρ, E0, R0, pub0, s0⟩ K v w' := by
  refine hc.mono ?_
  rintro e w' ⟨rfl, h1, h2⟩
  exact ⟨_, rfl, E, _, pub, s, hw.grow hj h2.grown h1 (.inr (.inl (rowB_slice _ _ _ _ _))), hk⟩

/-- A type generalised: what is open and not kept, and the generic variables that were there. -/
def openMs (t : Tp) (keep : List Int) : List Int := (fnd 7 t []).filter fun x => !decide (x ∈ keep)
def genAll (t : Tp) (keep : List Int) : Sc :=
  ⟨(openMs t keep).length + (fnd 8 t []).length, sub 7 (tbl (openMs t keep) (genL 0 (openMs t keep).length)) (sub 8 (tbl (fnd 8 t []) (genL (openMs t keep).length (fnd 8 t []).length)) t)⟩

theorem generalise_calls (S : Nat → Prop) (w : World) (t : Tp) (v : Value) (A : Option Addr) (c : Nat) (keep : List Int) (ht : RepT S w t v) (hk : keep.length ≤ 17592186044416) (hkeep : Cells S w A (ints keep))
    (h7 : (fnd 7 t []).length ≤ LIM) (h8 : (fnd 8 t []).length ≤ LIM) :
    Calls Try.prog 11 #[v, .slice A keep.length c] w (Res w fun v' w' => RepS (ext S w) w' (genAll t keep) v') := by
  have h7' := h7
  have h8' := h8
  unfold LIM at h7' h8'
  have hml : (openMs t keep).length ≤ (fnd 7 t []).length := List.length_filter_le _ _
  obtain ⟨B, d, rfl, b1, b2, b3⟩ := ht.opn
  refine calls_of_vc (args := [_, _]) (plans := [(3, ([0], .take 0 (.pure 1 (.pure 2 (.pure 3 (.pure 4 (.pure 5 (.run 6 (.fin 7 (.fin 8 .done)))))))))), (4, ([0], .pure 0 (.pure 1 (.pure 2 (.pure 3 (.pure 4 (.take 5 (.pure 6 (.pure 7 (.pure 8 (.run 9 (.fin 10 (.pure 11 (.fin 12 .done))))))))))))))]) tyok mixed Try.func11 rfl rfl (by simp) (fun q => S q ∧ q < w.heap.size) (fun q h => h.2) ?_
  conv => whnf
  intro g0
  conv => whnf
  intro g1
  conv => whnf
  intro g2
  conv => whnf
  refine ⟨gf12, fun w1 hw1 => ownK (metas_calls S w1 t _ (ht.to (hw1.samev S) (fun _ h _ => h)) (by omega)) hw1 fun M0 m0 _ => ?_⟩
  conv => whnf
  refine ⟨gf39, fun w2 hw2 => cutK (deleteFunc_calls (fun q => (S q ∧ q < w.heap.size) ∨ q = g1) w2 M0 m0 (fnd 7 t []) _ _ _ _
    (keep_pred _ w2 ⟨g1, 0, none⟩ A c keep hk (.inr rfl) (hw2.cellAt (i := 1) rfl rfl rfl) (hkeep.to (hw2.samev S) (fun q h1 h2 => .inl ⟨h1, h2⟩))) (by omega) (hw2.row _ (List.mem_singleton.2 rfl)).1 ?_) hw2 0 rfl ?_⟩
  · intro q hq
    obtain ⟨k1, k2, k3⟩ := (hw2.row _ (List.mem_singleton.2 rfl)).2 q hq
    rintro (h | rfl)
    · exact k2 h
    · exact k3 1 rfl rfl
  conv => whnf
  refine ⟨gf14, fun w3 hw3 => resN (gens_calls S w3 t _ (ht.to (hw3.samev S) (fun _ h _ => h)) (by omega)) hw3 fun v w4 p4 hv st4 => ?_⟩
  obtain ⟨G, gc, rfl, hG1, hG2⟩ := hv
  have hGc := hG1.nw hG2 st4
  have fr4 := st4.fr (S := S) (fun k h => .inl h.1)
  have up4 : ∀ q, S q → q < w.heap.size → p4 q := fun q h1 h2 => st4.up q ⟨h1, h2⟩
  clear hG1 hG2
  conv => whnf
  refine ⟨by kernel_rfl, rfl, ?_⟩
  conv => whnf
  refine ⟨gf43, fun w5 hw5 => resN (sgens_calls w5 (openMs t keep).length (fnd 8 t []).length (by omega) (by omega) (by omega)) hw5 fun v w6 p6 hv st6 => ?_⟩
  obtain ⟨D, dd, rfl, hD1, hD2⟩ := hv
  have hDk : RepKs p6 w6 (genL (openMs t keep).length (fnd 8 t []).length) D 0 := RepKs.ofCells (genC_flat (fun _ => False) w6 _ _) (hD1.nw hD2 st6) (fun q h _ => h.elim)
  have hGc := hGc.mv st6
  have fr6 := st6.fr fr4
  have up6 : ∀ q, S q → q < w.heap.size → p6 q := fun q h1 h2 => st6.up q (up4 q h1 h2)
  conv => whnf
  refine ⟨⟨⟨rfl, rfl, rfl, trivial⟩, ⟨rfl, trivial⟩, st6.held⟩, ?_⟩
  conv => whnf
  refine ⟨gf42, fun w7 hw7 => ?_⟩
  have key7 := turn_calls t p6 w7 _ 8 G gc (fnd 8 t []) D dd (genL (openMs t keep).length (fnd 8 t []).length) (ht.to (hw7.samev S) up6) (by omega) (hGc.to hw7.same (fun _ h _ => h)) (by rw [genL_length]; omega) (hDk.to hw7.same (fun _ h _ => h))
  rw [genL_length] at key7
  refine resN key7 hw7 fun r w8 p8 hr st8 => ?_
  generalize ht1 : sub 8 (tbl (fnd 8 t []) (genL (openMs t keep).length (fnd 8 t []).length)) t = t1 at hr
  have hr := hr.nw st8
  have fr8 := st8.fr fr6
  obtain ⟨H, hh, rfl, r1, r2, r3⟩ := hr.opn
  conv => whnf
  refine ⟨by kernel_rfl, rfl, ?_⟩
  conv => whnf
  refine ⟨gf43, fun w9 hw9 => resN (sgens_calls w9 0 (openMs t keep).length (by omega) (by omega) (by omega)) hw9 fun v w10 p10 hv st10 => ?_⟩
  obtain ⟨D', dd', rfl, hD1', hD2'⟩ := hv
  have hDk' : RepKs p10 w10 (genL 0 (openMs t keep).length) D' 0 := RepKs.ofCells (genC_flat (fun _ => False) w10 _ _) (hD1'.nw hD2' st10) (fun q h _ => h.elim)
  have hr := hr.mv st10
  have fr10 := st10.fr fr8
  conv => whnf
  refine ⟨⟨⟨rfl, rfl, rfl, trivial⟩, ⟨rfl, trivial⟩, st10.held⟩, ?_⟩
  conv => whnf
  refine ⟨gf42, fun w11 hw11 => ?_⟩
  obtain ⟨p12, hw12, st12, hMc⟩ := hw11.pubN (j := 0) (A := M0) (n := (openMs t keep).length) (c := m0) (e := 3) (sz := 1) (xs := ints (openMs t keep)) rfl
  have key12 := turn_calls t1 p12 w11 _ 7 M0 m0 (openMs t keep) D' dd' (genL 0 (openMs t keep).length) (hr.mv st12) (by omega) hMc (by rw [genL_length]; omega) (hDk'.mv st12)
  rw [genL_length] at key12
  refine resN key12 hw12 fun r' w13 p13 hr' st13 => ?_
  have hr' := hr'.nw st13
  have fr13 := st13.fr (st12.fr fr10)
  obtain ⟨H', hh', rfl, r1', r2', r3'⟩ := hr'.opn
  conv => whnf
  intro w14 hw14
  have hge : genAll t keep = ⟨(openMs t keep).length + (fnd 8 t []).length, sub 7 (tbl (openMs t keep) (genL 0 (openMs t keep).length)) t1⟩ := by unfold genAll; rw [ht1]
  rw [hge]
  refine ⟨_, rfl, ⟨H', hh', ?_, r1', r2', r3'.to hw14.same (fun k h1 h2 => mine0 (fr13 k h1))⟩, hw14.bel⟩
  have hwr : IntKind.i64.wrap (((openMs t keep).length : Int) + ((fnd 8 t []).length : Int)) = ((openMs t keep).length : Int) + ((fnd 8 t []).length : Int) := Go.Vc.wrap_small (by omega) (by omega)
  show Value.agg #[.int .i64 (IntKind.i64.wrap (((openMs t keep).length : Int) + ((fnd 8 t []).length : Int))), _, _, _] = _
  rw [hwr]
  rfl
end Go.Proofs.Ytonhlccjfbfkcaa.Vm

/- types.Right, types.RightScheme; the reference's. -/
namespace Go.Proofs.Ytonhlccjfbfkcaa.Vm
open Go.Vc Go.RowKit

mutual
/-- Is a type right? -/
def rightT : Tp → Bool
  | .mk k n ks => if k = 1 ∨ k = 2 ∨ k = 3 then decide (n = 0) && decide (ks.length = 0) else if k = 4 ∨ k = 5 then decide (n = 0) && decide (ks.length = 2) && rightL ks
    else if k = 6 ∨ k = 7 ∨ k = 8 then decide (0 ≤ n) && decide (ks.length = 0) else false
def rightL : List Tp → Bool
  | [] => true
  | t :: r => rightT t && rightL r
end
theorem knL {A B X Y : Prop} (h : ¬ A) (k : B → Y) : (A → X) ∧ (B → Y) := ⟨fun a => absurd a h, k⟩
theorem knR {A B X Y : Prop} (h : ¬ B) (k : A → X) : (A → X) ∧ (B → Y) := ⟨k, fun a => absurd a h⟩
def RightOk (f : FuncId) (t : Tp) : Prop := ∀ (S : Nat → Prop) (w : World) (v : Value), RepT S w t v → Calls Try.prog f #[v] w (fun e w' => e = .returned (.bool (rightT t)) ∧ Below w.heap.size w w')

theorem right_calls : ∀ t, RightOk 31 t := by
  refine Tp.ind fun k n ks ih => ?_
  intro S w v ht
  obtain ⟨B, d, rfl, b1, b2, b3⟩ := ht.opn
  simp only [Tp.k, Tp.n, Tp.kids] at *
  refine calls0 tyok mixed [] Try.func31 rfl rfl (by simp) ?_
  conv => whnf
  intro g0
  conv => whnf
  by_cases h1 : k = 1 ∨ k = 2 ∨ k = 3
  · have hr : rightT (.mk k n ks) = (decide (n = 0) && decide (ks.length = 0)) := by unfold rightT; rw [if_pos h1]
    rw [hr]
    rcases h1 with rfl | rfl | rfl
    all_goals
      repeat ((first | (refine knL ?_ ?_; (focus (simp; done)); intro _) | (refine knR ?_ ?_; (focus (simp; done)); intro _) | (refine knL ?_ ?_; (focus (simp [*]; done)); intro _) | (refine knR ?_ ?_; (focus (simp [*]; done)); intro _) | fail); conv => whnf)
      refine ⟨fun hn => ?_, fun hn => ?_⟩
      · have hn : n = 0 := eq_of_beq hn
        conv => whnf
        intro w2 hw2
        exact ⟨retB (by simp only [hn, decide_true, Bool.true_and]; rw [Bool.eq_iff_iff]; simp), hw2.bel⟩
      · have hn : n ≠ 0 := by simpa using hn
        conv => whnf
        intro w2 hw2
        exact ⟨retB (by simp [hn]), hw2.bel⟩
  by_cases h2 : k = 4 ∨ k = 5
  · have hr : rightT (.mk k n ks) = (decide (n = 0) && decide (ks.length = 2) && rightL ks) := by unfold rightT; rw [if_neg h1, if_pos h2]
    rw [hr]
    rcases h2 with rfl | rfl
    all_goals
      clear h1
      repeat ((first | (refine knL ?_ ?_; (focus (simp; done)); intro _) | (refine knR ?_ ?_; (focus (simp; done)); intro _) | (refine knL ?_ ?_; (focus (simp [*]; done)); intro _) | (refine knR ?_ ?_; (focus (simp [*]; done)); intro _) | fail); conv => whnf)
      refine ⟨fun hn => ?_, fun hn => ?_⟩
      · have hn : n = 0 := eq_of_beq hn
        conv => whnf
        refine ⟨fun hl => ?_, fun hl => ?_⟩
        · have hl : ((ks.length : Nat) : Int) = 2 := eq_of_beq hl
          obtain ⟨x, y, rfl⟩ : ∃ x y, ks = [x, y] := by
            match ks, hl with
            | [x, y], _ => exact ⟨x, y, rfl⟩
            | [], h => simp at h
            | [_], h => simp at h
            | _ :: _ :: _ :: _, h => simp at h; omega
          obtain ⟨ad, B1, d1, rfl, _, hld1, _, _, _, k1⟩ := b3.ld (P := Try.prog) tk24 rfl rfl (i := 0) (t := x) rfl
          obtain ⟨_, B2, d2, e, _, hld2, _, _, _, k2⟩ := b3.ld (P := Try.prog) tk24 rfl rfl (i := 1) (t := y) rfl
          injection e with e; subst e
          have i1 := ih x (by simp)
          have i2 := ih y (by simp)
          conv => whnf
          refine ⟨ad, rfl, by omega, by simp, ?_⟩
          conv => whnf
          intro w1 hw1
          refine ⟨_, hld1 w1 (hw1.samev S), ?_⟩
          conv => whnf
          refine ⟨gf31, fun w1 hw1 => scalK (i1 S w1 _ (k1.to (hw1.samev S) (fun _ h _ => h))) hw1 ?_⟩
          conv => whnf
          refine ⟨fun hx => ?_, fun hx => ?_⟩
          · have hx : rightT x = true := hx
            conv => whnf
            refine ⟨ad, rfl, by omega, by simp, ?_⟩
            conv => whnf
            intro w1 hw1
            refine ⟨_, hld2 w1 (hw1.samev S), ?_⟩
            conv => whnf
            refine ⟨gf31, fun w1 hw1 => scalK (i2 S w1 _ (k2.to (hw1.samev S) (fun _ h _ => h))) hw1 ?_⟩
            conv => whnf
            intro w2 hw2
            exact ⟨retB (by simp [hn, hx, rightL]), hw2.bel⟩
          · have hx : rightT x = false := by simpa using hx
            conv => whnf
            intro w2 hw2
            exact ⟨retB (by simp [hx, rightL]), hw2.bel⟩
        · have hl : ((ks.length : Nat) : Int) ≠ 2 := by simpa using hl
          have hl' : ks.length ≠ 2 := by omega
          conv => whnf
          intro w2 hw2
          exact ⟨retB (by simp [hl']), hw2.bel⟩
      · have hn : n ≠ 0 := by simpa using hn
        conv => whnf
        intro w2 hw2
        exact ⟨retB (by simp [hn]), hw2.bel⟩
  by_cases h3 : k = 6 ∨ k = 7 ∨ k = 8
  · have hr : rightT (.mk k n ks) = (decide (0 ≤ n) && decide (ks.length = 0)) := by unfold rightT; rw [if_neg h1, if_neg h2, if_pos h3]
    rw [hr]
    rcases h3 with rfl | rfl | rfl
    all_goals
      clear h1 h2
      repeat ((first | (refine knL ?_ ?_; (focus (simp; done)); intro _) | (refine knR ?_ ?_; (focus (simp; done)); intro _) | (refine knL ?_ ?_; (focus (simp [*]; done)); intro _) | (refine knR ?_ ?_; (focus (simp [*]; done)); intro _) | fail); conv => whnf)
      refine ⟨fun hn => ?_, fun hn => ?_⟩
      · have hn : 0 ≤ n := of_decide_eq_true hn
        conv => whnf
        intro w2 hw2
        exact ⟨retB (by simp only [hn, decide_true, Bool.true_and]; rw [Bool.eq_iff_iff]; simp), hw2.bel⟩
      · have hn := of_decide_eq_false hn
        conv => whnf
        intro w2 hw2
        exact ⟨retB (by simp [hn]), hw2.bel⟩
  · have hr : rightT (.mk k n ks) = false := by unfold rightT; rw [if_neg h1, if_neg h2, if_neg h3]
    rw [hr]
    have e1 : k ≠ 1 := by omega
    have e2 : k ≠ 2 := by omega
    have e3 : k ≠ 3 := by omega
    have e4 : k ≠ 4 := by omega
    have e5 : k ≠ 5 := by omega
    have e6 : k ≠ 6 := by omega
    have e7 : k ≠ 7 := by omega
    have e8 : k ≠ 8 := by omega
    clear h1 h2 h3 hr ih
    repeat ((first | (refine knL ?_ ?_; (focus (simp; done)); intro _) | (refine knR ?_ ?_; (focus (simp; done)); intro _) | (refine knL ?_ ?_; (focus (simp [*]; done)); intro _) | (refine knR ?_ ?_; (focus (simp [*]; done)); intro _) | fail); conv => whnf)
    intro w2 hw2
    exact ⟨rfl, hw2.bel⟩
theorem rright_calls : ∀ t, RightOk 9 t := by
  refine Tp.ind fun k n ks ih => ?_
  intro S w v ht
  obtain ⟨B, d, rfl, b1, b2, b3⟩ := ht.opn
  simp only [Tp.k, Tp.n, Tp.kids] at *
  refine calls0 tyok mixed [] Try.func9 rfl rfl (by simp) ?_
  conv => whnf
  intro g0
  conv => whnf
  by_cases h1 : k = 1 ∨ k = 2 ∨ k = 3
  · have hr : rightT (.mk k n ks) = (decide (n = 0) && decide (ks.length = 0)) := by unfold rightT; rw [if_pos h1]
    rw [hr]
    rcases h1 with rfl | rfl | rfl
    all_goals
      repeat ((first | (refine knL ?_ ?_; (focus (simp; done)); intro _) | (refine knR ?_ ?_; (focus (simp; done)); intro _) | (refine knL ?_ ?_; (focus (simp [*]; done)); intro _) | (refine knR ?_ ?_; (focus (simp [*]; done)); intro _) | fail); conv => whnf)
      refine ⟨fun hn => ?_, fun hn => ?_⟩
      · have hn : n = 0 := eq_of_beq hn
        conv => whnf
        intro w2 hw2
        exact ⟨retB (by simp only [hn, decide_true, Bool.true_and]; rw [Bool.eq_iff_iff]; simp), hw2.bel⟩
      · have hn : n ≠ 0 := by simpa using hn
        conv => whnf
        intro w2 hw2
        exact ⟨retB (by simp [hn]), hw2.bel⟩
  by_cases h2 : k = 4 ∨ k = 5
  · have hr : rightT (.mk k n ks) = (decide (n = 0) && decide (ks.length = 2) && rightL ks) := by unfold rightT; rw [if_neg h1, if_pos h2]
    rw [hr]
    rcases h2 with rfl | rfl
    all_goals
      clear h1
      repeat ((first | (refine knL ?_ ?_; (focus (simp; done)); intro _) | (refine knR ?_ ?_; (focus (simp; done)); intro _) | (refine knL ?_ ?_; (focus (simp [*]; done)); intro _) | (refine knR ?_ ?_; (focus (simp [*]; done)); intro _) | fail); conv => whnf)
      refine ⟨fun hn => ?_, fun hn => ?_⟩
      · have hn : n = 0 := eq_of_beq hn
        conv => whnf
        refine ⟨fun hl => ?_, fun hl => ?_⟩
        · have hl : ((ks.length : Nat) : Int) = 2 := eq_of_beq hl
          obtain ⟨x, y, rfl⟩ : ∃ x y, ks = [x, y] := by
            match ks, hl with
            | [x, y], _ => exact ⟨x, y, rfl⟩
            | [], h => simp at h
            | [_], h => simp at h
            | _ :: _ :: _ :: _, h => simp at h; omega
          obtain ⟨ad, B1, d1, rfl, _, hld1, _, _, _, k1⟩ := b3.ld (P := Try.prog) tk24 rfl rfl (i := 0) (t := x) rfl
          obtain ⟨_, B2, d2, e, _, hld2, _, _, _, k2⟩ := b3.ld (P := Try.prog) tk24 rfl rfl (i := 1) (t := y) rfl
          injection e with e; subst e
          have i1 := ih x (by simp)
          have i2 := ih y (by simp)
          conv => whnf
          refine ⟨ad, rfl, by omega, by simp, ?_⟩
          conv => whnf
          intro w1 hw1
          refine ⟨_, hld1 w1 (hw1.samev S), ?_⟩
          conv => whnf
          refine ⟨gf9, fun w1 hw1 => scalK (i1 S w1 _ (k1.to (hw1.samev S) (fun _ h _ => h))) hw1 ?_⟩
          conv => whnf
          refine ⟨fun hx => ?_, fun hx => ?_⟩
          · have hx : rightT x = true := hx
            conv => whnf
            refine ⟨ad, rfl, by omega, by simp, ?_⟩
            conv => whnf
            intro w1 hw1
            refine ⟨_, hld2 w1 (hw1.samev S), ?_⟩
            conv => whnf
            refine ⟨gf9, fun w1 hw1 => scalK (i2 S w1 _ (k2.to (hw1.samev S) (fun _ h _ => h))) hw1 ?_⟩
            conv => whnf
            intro w2 hw2
            exact ⟨retB (by simp [hn, hx, rightL]), hw2.bel⟩
          · have hx : rightT x = false := by simpa using hx
            conv => whnf
            intro w2 hw2
            exact ⟨retB (by simp [hx, rightL]), hw2.bel⟩
        · have hl : ((ks.length : Nat) : Int) ≠ 2 := by simpa using hl
          have hl' : ks.length ≠ 2 := by omega
          conv => whnf
          intro w2 hw2
          exact ⟨retB (by simp [hl']), hw2.bel⟩
      · have hn : n ≠ 0 := by simpa using hn
        conv => whnf
        intro w2 hw2
        exact ⟨retB (by simp [hn]), hw2.bel⟩
  by_cases h3 : k = 6 ∨ k = 7 ∨ k = 8
  · have hr : rightT (.mk k n ks) = (decide (0 ≤ n) && decide (ks.length = 0)) := by unfold rightT; rw [if_neg h1, if_neg h2, if_pos h3]
    rw [hr]
    rcases h3 with rfl | rfl | rfl
    all_goals
      clear h1 h2
      repeat ((first | (refine knL ?_ ?_; (focus (simp; done)); intro _) | (refine knR ?_ ?_; (focus (simp; done)); intro _) | (refine knL ?_ ?_; (focus (simp [*]; done)); intro _) | (refine knR ?_ ?_; (focus (simp [*]; done)); intro _) | fail); conv => whnf)
      refine ⟨fun hn => ?_, fun hn => ?_⟩
      · have hn : 0 ≤ n := of_decide_eq_true hn
        conv => whnf
        intro w2 hw2
        exact ⟨retB (by simp only [hn, decide_true, Bool.true_and]; rw [Bool.eq_iff_iff]; simp), hw2.bel⟩
      · have hn := of_decide_eq_false hn
        conv => whnf
        intro w2 hw2
        exact ⟨retB (by simp [hn]), hw2.bel⟩
  · have hr : rightT (.mk k n ks) = false := by unfold rightT; rw [if_neg h1, if_neg h2, if_neg h3]
    rw [hr]
    have e1 : k ≠ 1 := by omega
    have e2 : k ≠ 2 := by omega
    have e3 : k ≠ 3 := by omega
    have e4 : k ≠ 4 := by omega
    have e5 : k ≠ 5 := by omega
    have e6 : k ≠ 6 := by omega
    have e7 : k ≠ 7 := by omega
    have e8 : k ≠ 8 := by omega
    clear h1 h2 h3 hr ih
    repeat ((first | (refine knL ?_ ?_; (focus (simp; done)); intro _) | (refine knR ?_ ?_; (focus (simp; done)); intro _) | (refine knL ?_ ?_; (focus (simp [*]; done)); intro _) | (refine knR ?_ ?_; (focus (simp [*]; done)); intro _) | fail); conv => whnf)
    intro w2 hw2
    exact ⟨rfl, hw2.bel⟩
end Go.Proofs.Ytonhlccjfbfkcaa.Vm

/- The reference's number, Cmp, Same, In; the law's in. -/
namespace Go.Proofs.Ytonhlccjfbfkcaa.Vm
open Go.Vc Go.RowKit

theorem number_calls (w : World) (a b : Int) : Calls Try.prog 65 #[.int .i64 a, .int .i64 b] w fun e w' => e = .returned (.int .i64 (cmpI a b)) ∧ Below w.heap.size w w' := by
  refine calls0 tyok mixed [] Try.func65 rfl rfl (by simp) ?_
  conv => whnf
  refine ⟨fun h => ?_, fun h => ?_⟩
  · have h := of_decide_eq_true h
    conv => whnf
    intro w2 hw2
    exact ⟨retI (by simp only [cmpI, if_pos h]), hw2.bel⟩
  · have h := of_decide_eq_false h
    conv => whnf
    refine ⟨fun h' => ?_, fun h' => ?_⟩
    · have h' := of_decide_eq_true h'
      conv => whnf
      intro w2 hw2
      exact ⟨retI (by simp only [cmpI, if_neg h, if_pos h']), hw2.bel⟩
    · have h' := of_decide_eq_false h'
      conv => whnf
      intro w2 hw2
      exact ⟨retI (by simp only [cmpI, if_neg h, if_neg h']), hw2.bel⟩

theorem cmpI_zero {a b : Int} : cmpI a b = 0 ↔ a = b := by
  unfold cmpI; split <;> (try split) <;> omega

def RCmpOk (t : Tp) : Prop := ∀ (S : Nat → Prop) (w : World) (u : Tp) (v v' : Value), RepT S w t v → RepT S w u v' → Calls Try.prog 51 #[v, v'] w fun e w' => e = .returned (.int .i64 (cmpT t u)) ∧ Below w.heap.size w w'

theorem rcmp_calls : ∀ t, RCmpOk t := by
  refine Tp.ind fun k n ks ih => ?_
  intro S w u v v' hv hu
  obtain ⟨k', n', ks'⟩ := u
  obtain ⟨A, c, rfl, a1, a2, a3⟩ := hv.opn
  obtain ⟨A', c', rfl, b1, b2, b3⟩ := hu.opn
  simp only [Tp.k, Tp.n, Tp.kids] at *
  have a2' := a2
  have b2' := b2
  unfold LIM at a2' b2'
  have hc : cmpT (.mk k n ks) (.mk k' n' ks') = orL [cmpI k k', cmpI n n', cmpI ks.length ks'.length, cmpL ks ks'] := by rw [cmpT]
  rw [hc]
  refine calls0 tyok mixed [(13, ([0, 1], .pure 0 (.take 1 (.pure 2 (.pure 3 (.take 4 (.pure 5 (.take 6 (.pure 7 (.pure 8 (.take 9 (.run 10 (.pure 11 .done)))))))))))))] Try.func51 rfl rfl (by simp) ?_
  conv => whnf
  intro g0
  conv => whnf
  intro g1
  conv => whnf
  refine ⟨gf65, fun w1 hw1 => scalK (number_calls _ _ _) hw1 ?_⟩
  conv => whnf
  refine ⟨fun h => ?_, fun h => ?_⟩
  · have h : cmpI k k' ≠ 0 := by simpa using h
    conv => whnf
    intro w2 hw2
    exact ⟨retI (by simp [orL, h]), hw2.bel⟩
  have h1 : cmpI k k' = 0 := by simpa using h
  conv => whnf
  refine ⟨gf65, fun w1 hw1 => scalK (number_calls _ _ _) hw1 ?_⟩
  conv => whnf
  refine ⟨fun h => ?_, fun h => ?_⟩
  · have h : cmpI n n' ≠ 0 := by simpa using h
    conv => whnf
    intro w2 hw2
    exact ⟨retI (by simp [orL, h, h1]), hw2.bel⟩
  have h2 : cmpI n n' = 0 := by simpa using h
  conv => whnf
  refine ⟨gf65, fun w1 hw1 => scalK (number_calls _ _ _) hw1 ?_⟩
  conv => whnf
  refine ⟨fun h => ?_, fun h => ?_⟩
  · have h : cmpI ks.length ks'.length ≠ 0 := by simpa using h
    conv => whnf
    intro w2 hw2
    exact ⟨retI (by simp [orL, h, h1, h2]), hw2.bel⟩
  have h3 : cmpI ks.length ks'.length = 0 := by simpa using h
  have hlen : ks.length = ks'.length := by have := cmpI_zero.1 h3; omega
  have ho : orL [cmpI k k', cmpI n n', cmpI ks.length ks'.length, cmpL ks ks'] = cmpL ks ks' := by simp [orL, h1, h2, h3]; exact fun h => h.symm
  rw [ho]
  clear ho hc
  conv => whnf
  refine ⟨fun m st => ∃ i : Nat, i ≤ ks.length ∧ m = ks.length - i ∧ cmpL ks ks' = cmpL (ks.drop i) (ks'.drop i) ∧ st = ⟨[(8, .v (.int .i64 i)), (2, .own 0 0), (3, .own 1 0)], [g0, g1],
      [(1, ([.v (.int .i64 k'), .v (.int .i64 n'), .v (.slice A' ks'.length c')], 24)), (0, ([.v (.int .i64 k), .v (.int .i64 n), .v (.slice A ks.length c)], 24))], [], fun _ => False, w⟩,
    ⟨ks.length, _, ⟨0, Nat.zero_le _, by simp, by simp, rfl⟩, weak_of (preP_refl _) ⟨rfl, rfl, rfl, trivial⟩ ⟨⟨rfl, rfl, rfl⟩, ⟨rfl, rfl, rfl⟩, trivial⟩ (List.Sublist.refl _) rfl rfl⟩, ?_⟩
  rintro m st ⟨i, hi, hm, hx, rfl⟩
  conv => whnf
  refine ⟨fun hb => ?_, fun hb => ?_⟩
  · have hb := of_decide_eq_true hb
    have hil : i < ks.length := by omega
    have him : i < ks'.length := by omega
    obtain ⟨ad, B, d, rfl, _, hld, _, _, _, k4⟩ := a3.ld (P := Try.prog) tk24 rfl rfl (i := i) (t := ks[i]) (by simp [hil])
    obtain ⟨ad', B', d', rfl, _, hld', _, _, _, k4'⟩ := b3.ld (P := Try.prog) tk24 rfl rfl (i := i) (t := ks'[i]) (by simp [him])
    conv => whnf
    refine ⟨by kernel_rfl, rfl, ?_⟩
    conv => whnf
    refine ⟨ad, rfl, by omega, hb, ?_⟩
    conv => whnf
    refine ⟨_, fun w1 h1 => hld w1 (same_of_below h1.1.below S), ?_⟩
    conv => whnf
    refine ⟨ad', rfl, by omega, by omega, ?_⟩
    conv => whnf
    refine ⟨_, fun w1 h1 => hld' w1 (same_of_below h1.1.below S), ?_⟩
    conv => whnf
    refine ⟨gf51, fun w1 hw1 => scalK (ih ks[i] (by simp) S w1 ks'[i] _ _ (k4.to (hw1.samev S) (fun _ h _ => h)) (k4'.to (hw1.samev S) (fun _ h _ => h))) hw1 ?_⟩
    conv => whnf
    refine ⟨⟨⟨rfl, rfl, trivial⟩, ⟨rfl, rfl, trivial⟩, fun k hk => ⟨hk, rfl⟩⟩, ?_⟩
    conv => whnf
    refine ⟨fun he => ?_, fun he => ?_⟩
    · have he : cmpT ks[i] ks'[i] ≠ 0 := by simpa using he
      conv => whnf
      intro w4 hw4
      refine ⟨retI ?_, hw4.bel⟩
      rw [hx, cmpL_drop hil him, if_pos he]
    · have he : cmpT ks[i] ks'[i] = 0 := by simpa using he
      conv => whnf
      refine ⟨ks.length - (i + 1), _, by omega, ⟨i + 1, hil, rfl, ?_, rfl⟩, weak_of (preP_refl _) ⟨incV (by omega), rfl, rfl, trivial⟩ ⟨⟨rfl, rfl, rfl⟩, ⟨rfl, rfl, rfl⟩, trivial⟩ (List.Sublist.refl _) rfl rfl⟩
      rw [hx, cmpL_drop hil him, if_neg (by simpa using he)]
  · have hb := of_decide_eq_false hb
    conv => whnf
    intro w4 hw4
    refine ⟨retI ?_, hw4.bel⟩
    rw [hx, List.drop_eq_nil_of_le (by omega), List.drop_eq_nil_of_le (by omega)]
    rfl

theorem rsame_calls (S : Nat → Prop) (w : World) (t u : Tp) (v v' : Value) (hv : RepT S w t v) (hu : RepT S w u v') : Calls Try.prog 30 #[v, v'] w fun e w' => e = .returned (.bool (cmpT t u == 0)) ∧ Below w.heap.size w w' := by
  obtain ⟨A, c, rfl, a1, a2, a3⟩ := hv.opn
  obtain ⟨A', c', rfl, b1, b2, b3⟩ := hu.opn
  refine calls0 tyok mixed [] Try.func30 rfl rfl (by simp) ?_
  conv => whnf
  intro g0
  conv => whnf
  intro g1
  conv => whnf
  refine ⟨gf51, fun w1 hw1 => scalK (rcmp_calls t S w1 u _ _ (hv.to (hw1.samev S) (fun _ h _ => h)) (hu.to (hw1.samev S) (fun _ h _ => h))) hw1 ?_⟩
  conv => whnf
  intro w2 hw2
  exact ⟨retB rfl, hw2.bel⟩

def InOk (f : FuncId) : Prop := ∀ (S : Nat → Prop) (w : World) (A : Option Addr) (c : Nat) (l : List Int) (x : Int), l.length ≤ 17592186044416 → Cells S w A (ints l) →
    Calls Try.prog f #[.slice A l.length c, .int .i64 x] w (fun e w' => e = .returned (.bool (decide (x ∈ l))) ∧ Below w.heap.size w w')
theorem rin_calls : InOk 69 := by
  intro S w A c l x hl hr
  refine calls0 tyok mixed [] Try.func69 rfl rfl (by simp) ?_
  conv => whnf
  refine ⟨fun n st => ∃ i : Nat, i ≤ l.length ∧ n = l.length - i ∧ (x ∈ l ↔ x ∈ l.drop i) ∧ st = ⟨[(5, .v (.int .i64 i)), (0, .v (.slice A l.length c)), (1, .v (.int .i64 x))], [], [], [], fun _ => False, w⟩, ⟨l.length, _, ⟨0, Nat.zero_le _, by simp, by simp, rfl⟩, weak_of (preP_refl _) ⟨rfl, rfl, rfl, trivial⟩ trivial (List.Sublist.refl _) rfl rfl⟩, ?_⟩
  rintro n st ⟨i, hi, hn, hx, rfl⟩
  conv => whnf
  refine ⟨fun h => ?_, fun h => ?_⟩
  · have h := of_decide_eq_true h
    have hil : i < l.length := by omega
    have hd : l.drop i = l[i] :: l.drop (i + 1) := by rw [List.drop_eq_getElem_cons hil]
    obtain ⟨ad, rfl, _, hld⟩ := hr.ld1 (P := Try.prog) tk3 rfl (i := i) (v := .int .i64 l[i]) (by simp [hil])
    conv => whnf
    refine ⟨ad, rfl, by omega, h, ?_⟩
    conv => whnf
    intro w1 hw
    refine ⟨_, hld w1 (hw.samev S), ?_⟩
    conv => whnf
    refine ⟨fun h => ?_, fun h => ?_⟩
    · have h : l[i] = x := eq_of_beq h
      conv => whnf
      intro w2 hw2
      exact ⟨retB (by symm; exact decide_eq_true (hx.2 (by rw [hd, h]; simp))), hw2.bel⟩
    · have h : l[i] ≠ x := by simpa using h
      conv => whnf
      refine ⟨l.length - (i + 1), _, by omega, ⟨i + 1, hil, rfl, ?_, rfl⟩, weak_of (preP_refl _) ⟨incV (by omega), rfl, rfl, trivial⟩ trivial (List.Sublist.refl _) rfl rfl⟩
      rw [hx, hd, List.mem_cons]; exact ⟨fun h' => h'.resolve_left (Ne.symm h), .inr⟩
  · have h := of_decide_eq_false h
    conv => whnf
    intro w2 hw2
    have : i = l.length := by omega
    exact ⟨retB (by symm; apply decide_eq_false; rw [hx, this]; simp), hw2.bel⟩
theorem lin_calls : InOk 13 := by
  intro S w A c l x hl hr
  refine calls0 tyok mixed [] Try.func13 rfl rfl (by simp) ?_
  conv => whnf
  refine ⟨fun n st => ∃ i : Nat, i ≤ l.length ∧ n = l.length - i ∧ (x ∈ l ↔ x ∈ l.drop i) ∧ st = ⟨[(5, .v (.int .i64 i)), (0, .v (.slice A l.length c)), (1, .v (.int .i64 x))], [], [], [], fun _ => False, w⟩, ⟨l.length, _, ⟨0, Nat.zero_le _, by simp, by simp, rfl⟩, weak_of (preP_refl _) ⟨rfl, rfl, rfl, trivial⟩ trivial (List.Sublist.refl _) rfl rfl⟩, ?_⟩
  rintro n st ⟨i, hi, hn, hx, rfl⟩
  conv => whnf
  refine ⟨fun h => ?_, fun h => ?_⟩
  · have h := of_decide_eq_true h
    have hil : i < l.length := by omega
    have hd : l.drop i = l[i] :: l.drop (i + 1) := by rw [List.drop_eq_getElem_cons hil]
    obtain ⟨ad, rfl, _, hld⟩ := hr.ld1 (P := Try.prog) tk3 rfl (i := i) (v := .int .i64 l[i]) (by simp [hil])
    conv => whnf
    refine ⟨ad, rfl, by omega, h, ?_⟩
    conv => whnf
    intro w1 hw
    refine ⟨_, hld w1 (hw.samev S), ?_⟩
    conv => whnf
    refine ⟨fun h => ?_, fun h => ?_⟩
    · have h : l[i] = x := eq_of_beq h
      conv => whnf
      intro w2 hw2
      exact ⟨retB (by symm; exact decide_eq_true (hx.2 (by rw [hd, h]; simp))), hw2.bel⟩
    · have h : l[i] ≠ x := by simpa using h
      conv => whnf
      refine ⟨l.length - (i + 1), _, by omega, ⟨i + 1, hil, rfl, ?_, rfl⟩, weak_of (preP_refl _) ⟨incV (by omega), rfl, rfl, trivial⟩ trivial (List.Sublist.refl _) rfl rfl⟩
      rw [hx, hd, List.mem_cons]; exact ⟨fun h' => h'.resolve_left (Ne.symm h), .inr⟩
  · have h := of_decide_eq_false h
    conv => whnf
    intro w2 hw2
    have : i = l.length := by omega
    exact ⟨retB (by symm; apply decide_eq_false; rw [hx, this]; simp), hw2.bel⟩
end Go.Proofs.Ytonhlccjfbfkcaa.Vm

/- The reference's found, Gens; RightScheme, of both. -/
namespace Go.Proofs.Ytonhlccjfbfkcaa.Vm
open Go.Vc Go.RowKit

/-- What a call leaves that was handed a row of numbers and gives it back grown. -/
def GrowPost (w : World) (A : Option Addr) (n c : Nat) (l' : List Int) (e : Ending) (w' : World) : Prop :=
  ∃ A' c', e = .returned (.slice A' l'.length c') ∧ RowOk w' ⟨.slice A' l'.length c', 3, 1, ints l'⟩ ∧ Only (fun k => rowB (.slice A n c) = some k) w w' ∧ ∀ k, rowB (.slice A' l'.length c') = some k → rowB (.slice A n c) = some k ∨ w.heap.size ≤ k
theorem growK {N : Nat} {b : Base} {f : FuncId} {args : Array Value} {w : World} {A : Option Addr} {n c : Nat} {l' : List Int} {xs : List Value} {T : Tl} {ρ : List Nat} {E E0 : El} {R R0 : List Row} {pub pub0 : Nat → Prop} {s s0 : World} {dst : Option Tmp} {K : St → Prop}
    (hc : Calls Try.prog f args w (GrowPost w A n c l')) (hw : Wd b ⟨T, ρ, E, R, pub, s⟩ w) (j : Nat) (hj : R[j]? = some ⟨.slice A n c, 3, 1, xs⟩)
    (hk : ∀ A' c', putK N dst (.v (.slice A' l'.length c')) ⟨T, ρ, E, R.set j ⟨.slice A' l'.length c', 3, 1, ints l'⟩, pub, s⟩ K) :
    Calls Try.prog f args w fun e w' => ∃ v, e = .returned v ∧ AfterK N b dst ⟨T, ρ, E0, R0, pub0, s0⟩ K v w' := by
  refine hc.mono ?_
  rintro e w' ⟨A', c', rfl, h1, h2, h3⟩
  refine ⟨_, rfl, E, _, pub, s, hw.grow hj h2.grown h1 ?_, hk A' c'⟩
  cases hA : rowB (.slice A' l'.length c') with
  | none => exact .inl rfl
  | some k => exact (h3 k hA).elim (fun h => .inr (.inl h.symm)) (fun h => .inr (.inr ⟨k, rfl, h⟩))
theorem GrowPost.of {w w' : World} {A A' : Option Addr} {n c c' : Nat} {l' : List Int} {T : Tl} {ρ : List Nat} {E : El} {R : List Row} {pub : Nat → Prop} {s : World}
    (h : Wd ⟨w, fun k => rowB (.slice A n c) = some k⟩ ⟨T, ρ, E, R, pub, s⟩ w') (hR : ⟨.slice A' l'.length c', 3, 1, ints l'⟩ ∈ R) : GrowPost w A n c l' (.returned (.slice A' l'.length c')) w' := by
  obtain ⟨r1, r2⟩ := h.row _ hR
  exact ⟨A', c', rfl, r1, h.below, fun k hk => (r2 k hk).1⟩

def RFoundOk (t : Tp) : Prop := ∀ (S : Nat → Prop) (w : World) (v : Value) (kind : Int) (A : Option Addr) (c : Nat) (acc : List Int), RepT S w t v → RowOk w ⟨.slice A acc.length c, 3, 1, ints acc⟩ → (∀ k, rowB (.slice A acc.length c) = some k → ¬ S k) →
  (fnd kind t acc).length ≤ 8796093022208 → Calls Try.prog 60 #[v, .int .i64 kind, .slice A acc.length c] w (GrowPost w A acc.length c (fnd kind t acc))

theorem rfound_calls : ∀ t, RFoundOk t := by
  refine Tp.ind fun k n ks ih => ?_
  intro S w v kind A c acc ht hrow hS hlen
  obtain ⟨B, d, rfl, b1, b2, b3⟩ := ht.opn
  simp only [Tp.k, Tp.n, Tp.kids] at *
  have b2' := b2
  unfold LIM at b2'
  have hfd : fnd kind (.mk k n ks) acc = fndL kind ks (see1 kind (.mk k n ks) acc) := rfl
  rw [hfd] at hlen ⊢
  have hM : ∀ q, S q → ¬ (rowB (.slice A acc.length c) = some q) := fun q hq h => hS q h hq
  have hslen : (see1 kind (.mk k n ks) acc).length ≤ 8796093022208 := Nat.le_trans (fndL_len kind ks _) hlen
  refine calls_of_vcM (b := ⟨w, fun k => rowB (.slice A acc.length c) = some k⟩) (ρ := []) (E := []) (Rw := [⟨.slice A acc.length c, 3, 1, ints acc⟩]) (pub := fun k => S k ∧ k < w.heap.size) (s := w)
    (plans := [(100003, ([], .done))]) tyok mixed (svs := [.v (.agg #[.int .i64 k, .int .i64 n, .slice B ks.length d]), .v (.int .i64 kind), .v (.slice A acc.length c)]) Try.func60 rfl rfl (by simp)
    (Wd.startR hrow (pub := fun k => S k ∧ k < w.heap.size) (fun k h => h.2) (fun k hk h => hS k hk h.1)) ?_
  conv => whnf
  intro g0
  conv => whnf
  refine ⟨fun st => ∃ A1 c1, st = ⟨[(2, .v (.slice A1 (see1 kind (.mk k n ks) acc).length c1)), (1, .v (.int .i64 kind)), (3, .own 0 0)], [g0], [(0, ([.v (.int .i64 k), .v (.int .i64 n), .v (.slice B ks.length d)], 24))],
      [⟨.slice A1 (see1 kind (.mk k n ks) acc).length c1, 3, 1, ints (see1 kind (.mk k n ks) acc)⟩], fun k => S k ∧ k < w.heap.size, w⟩, ?_, ?_⟩
  · conv => whnf
    refine ⟨fun he => ?_, fun he => ?_⟩
    · have he' : k = kind := eq_of_beq he
      have hacc : acc.length ≤ 8796093022208 := by
        refine Nat.le_trans ?_ hslen
        unfold see1; split <;> simp
      conv => whnf
      refine ⟨gf69, fun w1 hw1 => scalK (rin_calls (fun _ => True) w1 A c acc n (by omega) ((hw1.row _ (List.mem_singleton.2 rfl)).1.cells rfl _ (fun _ _ => trivial))) hw1 ?_⟩
      conv => whnf
      refine ⟨fun hm => ?_, fun hm => ?_⟩
      · have hm' : n ∉ acc := by simpa using hm
        have hsee : see1 kind (.mk k n ks) acc = acc ++ [n] := by unfold see1; rw [if_pos ⟨he', hm'⟩]; rfl
        rw [hsee] at hslen ⊢
        simp only [List.length_append, List.length_singleton] at hslen ⊢
        conv => whnf
        intro g1
        conv => whnf
        refine ⟨nofun, fun w2 hw2 => appendK (b := ⟨w, fun k => rowB (.slice A acc.length c) = some k⟩) tyok (t := 25) rfl rfl rfl rfl (by decide) (by decide) hw2 0 (A := A) (n := acc.length) (c := c) (xs := ints acc) rfl rfl (ys := [.int .i64 n]) rfl (S := fun _ => True) rfl (hw2.own (i := 1) rfl) (by simp [Value.oneCell']) (by simp; omega) fun A' c' => ?_⟩
        conv => whnf
        refine ⟨_, ⟨A', c', rfl⟩, weak_of ⟨rfl, trivial⟩ ⟨rfl, rfl, rfl, trivial⟩ ⟨⟨rfl, rfl, rfl⟩, trivial⟩ ?_ rfl rfl⟩
        simp [ints]
      · have hm' : n ∈ acc := by simpa using hm
        have hsee : see1 kind (.mk k n ks) acc = acc := by unfold see1; rw [if_neg (fun h => h.2 hm')]
        rw [hsee]
        conv => whnf
        exact ⟨_, ⟨A, c, rfl⟩, weak_of (preP_refl _) ⟨rfl, rfl, rfl, trivial⟩ ⟨⟨rfl, rfl, rfl⟩, trivial⟩ (List.Sublist.refl _) rfl rfl⟩
    · have he' : k ≠ kind := by simpa using he
      have hsee : see1 kind (.mk k n ks) acc = acc := by unfold see1; rw [if_neg (fun h => he' h.1)]
      rw [hsee]
      conv => whnf
      exact ⟨_, ⟨A, c, rfl⟩, weak_of (preP_refl _) ⟨rfl, rfl, rfl, trivial⟩ ⟨⟨rfl, rfl, rfl⟩, trivial⟩ (List.Sublist.refl _) rfl rfl⟩
  · rintro st ⟨A1, c1, rfl⟩
    generalize see1 kind (.mk k n ks) acc = acc1 at *
    conv => whnf
    refine ⟨fun m st => ∃ (i : Nat) (A' : Option Addr) (c' : Nat) (acc' : List Int), i ≤ ks.length ∧ m = ks.length - i ∧ fndL kind ks acc1 = fndL kind (ks.drop i) acc' ∧
      st = ⟨[(7, .v (.int .i64 i)), (2, .v (.slice A' acc'.length c')), (1, .v (.int .i64 kind)), (3, .own 0 0)], [g0], [(0, ([.v (.int .i64 k), .v (.int .i64 n), .v (.slice B ks.length d)], 24))], [⟨.slice A' acc'.length c', 3, 1, ints acc'⟩], fun k => S k ∧ k < w.heap.size, w⟩,
      ⟨ks.length, _, ⟨0, A1, c1, _, Nat.zero_le _, by simp, by simp, rfl⟩, weak_of (preP_refl _) ⟨rfl, rfl, rfl, rfl, trivial⟩ ⟨⟨rfl, rfl, rfl⟩, trivial⟩ (List.Sublist.refl _) rfl rfl⟩, ?_⟩
    rintro m st ⟨i, A', c', acc', hi, hm, hx, rfl⟩
    conv => whnf
    refine ⟨fun hb => ?_, fun hb => ?_⟩
    · have hb := of_decide_eq_true hb
      have hil : i < ks.length := by omega
      obtain ⟨ad, B', d', rfl, _, hld, k1, k2, k3, k4⟩ := b3.ld (P := Try.prog) tk24 rfl rfl (i := i) (t := ks[i]) (by simp [hil])
      rw [fndL_drop hil] at hx
      conv => whnf
      refine ⟨ad, rfl, by omega, hb, ?_⟩
      conv => whnf
      intro w1 hw
      refine ⟨_, hld w1 (hw.same0 S hM), ?_⟩
      conv => whnf
      refine ⟨gf60, fun w2 hw2 => growK (ih ks[i] (by simp) (fun k => S k ∧ k < w.heap.size) w2 _ kind A' c' acc' (k4.to (hw2.same0 S hM) (fun _ h hl => ⟨h, hl⟩)) (hw2.row _ (List.mem_singleton.2 rfl)).1 (fun q hq => ((hw2.row _ (List.mem_singleton.2 rfl)).2 q hq).2.1) ?_) hw2 0 rfl fun A2 c2 => ?_⟩
      · refine Nat.le_trans (fndL_len kind (ks.drop (i + 1)) _) ?_
        rw [← hx]; exact hlen
      conv => whnf
      exact ⟨ks.length - (i + 1), _, by omega, ⟨i + 1, A2, c2, _, hil, rfl, hx, rfl⟩, weak_of (preP_refl _) ⟨incV (by omega), rfl, rfl, rfl, trivial⟩ ⟨⟨rfl, rfl, rfl⟩, trivial⟩ (List.Sublist.refl _) rfl rfl⟩
    · have hb := of_decide_eq_false hb
      have hil : i = ks.length := by omega
      have e1 : ks.drop i = [] := by rw [hil]; simp
      rw [e1, fndL] at hx
      conv => whnf
      intro w4 hw4
      rw [hx]
      exact GrowPost.of hw4 (by simp)

theorem rgens_calls (S : Nat → Prop) (w : World) (t : Tp) (v : Value) (ht : RepT S w t v) (hlen : (fnd 8 t []).length ≤ 8796093022208) :
    Calls Try.prog 48 #[v] w (Res w (OwnI w (fnd 8 t []))) := by
  obtain ⟨B, d, rfl, b1, b2, b3⟩ := ht.opn
  refine calls0 tyok mixed [] Try.func48 rfl rfl (by simp) ?_
  conv => whnf
  intro g0
  conv => whnf
  refine ⟨gf60, fun w1 hw1 => growK (rfound_calls t S w1 _ 8 none 0 [] (ht.to (hw1.samev S) (fun _ h _ => h)) (RowOk.nil _ _ _) (fun q hq => by cases hq) hlen) (hw1.addNil 3 1) 0 rfl fun A c => ?_⟩
  conv => whnf
  intro w2 hw2
  exact ownRet hw2 (by simp)
end Go.Proofs.Ytonhlccjfbfkcaa.Vm

/- RightScheme, of both. -/
namespace Go.Proofs.Ytonhlccjfbfkcaa.Vm
open Go.Vc Go.RowKit

/-- Do the numbers of a list count up from i on? -/
def isUp : List Int → Int → Bool
  | [], _ => true
  | x :: r, i => decide (x = i) && isUp r (i + 1)
def rightS (s : Sc) : Bool := rightT s.t && (isUp (fnd 8 s.t []) 0 && decide ((((fnd 8 s.t []).length : Nat) : Int) = s.g))
theorem isUp_drop {l : List Int} {i : Nat} (h : i < l.length) : isUp (l.drop i) i = (decide (l[i] = (i : Int)) && isUp (l.drop (i + 1)) ((i + 1 : Nat) : Int)) := by
  rw [List.drop_eq_getElem_cons h, isUp]; rfl

theorem rightScheme_calls (S : Nat → Prop) (w : World) (s : Sc) (v : Value) (hs : RepS S w s v) (hlen : (fnd 8 s.t []).length ≤ 8796093022208) :
    Calls Try.prog 22 #[v] w (fun e w' => e = .returned (.bool (rightS s)) ∧ Below w.heap.size w w') := by
  obtain ⟨B, d, rfl, b1, b2, b3⟩ := hs
  have ht := RepS.typ b1 b2 b3
  refine calls0 tyok mixed [] Try.func22 rfl rfl (by simp) ?_
  conv => whnf
  intro g0
  conv => whnf
  refine ⟨gf31, fun w1 hw1 => scalK (right_calls s.t S w1 _ (ht.to (hw1.samev S) (fun _ h _ => h))) hw1 ?_⟩
  conv => whnf
  refine ⟨fun hr => ?_, fun hr => ?_⟩
  · have hr : rightT s.t = false := by simpa using hr
    conv => whnf
    intro w2 hw2
    exact ⟨retB (by simp [rightS, hr]), hw2.bel⟩
  have hr : rightT s.t = true := by simpa using hr
  have hres : rightS s = (isUp (fnd 8 s.t []) 0 && decide ((((fnd 8 s.t []).length : Nat) : Int) = s.g)) := by simp [rightS, hr]
  rw [hres]
  conv => whnf
  refine ⟨gf14, fun w3 hw3 => resN (gens_calls S w3 s.t _ (ht.to (hw3.samev S) (fun _ h _ => h)) hlen) hw3 fun v w4 p4 hv st4 => ?_⟩
  generalize fnd 8 s.t [] = gs at *
  obtain ⟨G, gc, rfl, hG1, hG2⟩ := hv
  have hGc := hG1.nw hG2 st4
  conv => whnf
  refine ⟨fun m st => ∃ i : Nat, i ≤ gs.length ∧ m = gs.length - i ∧ isUp gs 0 = isUp (gs.drop i) i ∧ st = ⟨[(15, .v (.int .i64 i)), (14, .v (.int .i64 gs.length)), (13, .v (.slice G gs.length gc)), (3, .v (.slice G gs.length gc)), (1, .own 0 0)], [g0],
      [(0, ([.v (.int .i64 s.g), .v (.int .i64 s.t.k), .v (.int .i64 s.t.n), .v (.slice B s.t.kids.length d)], 29))], [], p4, w4⟩,
    ⟨gs.length, _, ⟨0, Nat.zero_le _, by simp, by simp, rfl⟩, weak_of (preP_refl _) ⟨rfl, rfl, rfl, rfl, rfl, trivial⟩ ⟨⟨rfl, rfl, rfl⟩, trivial⟩ (List.Sublist.refl _) rfl rfl⟩, ?_⟩
  rintro m st ⟨i, hi, hm, hx, rfl⟩
  conv => whnf
  refine ⟨fun hb => ?_, fun hb => ?_⟩
  · have hb := of_decide_eq_true hb
    have hil : i < gs.length := by omega
    obtain ⟨ad, rfl, _, hld⟩ := hGc.ld1 (P := Try.prog) tk3 rfl (i := i) (v := .int .i64 gs[i]) (by simp [hil])
    conv => whnf
    refine ⟨ad, rfl, by omega, hb, ?_⟩
    conv => whnf
    intro w1 hw
    refine ⟨_, hld w1 hw.same, ?_⟩
    conv => whnf
    refine ⟨fun h => ?_, fun h => ?_⟩
    · have h : gs[i] ≠ i := by simpa using h
      conv => whnf
      intro w2 hw2
      exact ⟨retB (by rw [hx, isUp_drop hil]; simp [h]), hw2.bel⟩
    · have h : gs[i] = i := by simpa using h
      conv => whnf
      refine ⟨gs.length - (i + 1), _, by omega, ⟨i + 1, hil, rfl, ?_, rfl⟩, weak_of (preP_refl _) ⟨incV (by omega), rfl, rfl, rfl, rfl, trivial⟩ ⟨⟨rfl, rfl, rfl⟩, trivial⟩ (List.Sublist.refl _) rfl rfl⟩
      rw [hx, isUp_drop hil]; simp [h]
  · have hb := of_decide_eq_false hb
    conv => whnf
    intro w2 hw2
    have : i = gs.length := by omega
    subst this
    exact ⟨retB (by rw [hx]; simp [isUp]; rw [Bool.eq_iff_iff]; simp), hw2.bel⟩

theorem rrightScheme_calls (S : Nat → Prop) (w : World) (s : Sc) (v : Value) (hs : RepS S w s v) (hlen : (fnd 8 s.t []).length ≤ 8796093022208) :
    Calls Try.prog 45 #[v] w (fun e w' => e = .returned (.bool (rightS s)) ∧ Below w.heap.size w w') := by
  obtain ⟨B, d, rfl, b1, b2, b3⟩ := hs
  have ht := RepS.typ b1 b2 b3
  refine calls0 tyok mixed [] Try.func45 rfl rfl (by simp) ?_
  conv => whnf
  intro g0
  conv => whnf
  refine ⟨gf9, fun w1 hw1 => scalK (rright_calls s.t S w1 _ (ht.to (hw1.samev S) (fun _ h _ => h))) hw1 ?_⟩
  conv => whnf
  refine ⟨fun hr => ?_, fun hr => ?_⟩
  · have hr : rightT s.t = false := by simpa using hr
    conv => whnf
    intro w2 hw2
    exact ⟨retB (by simp [rightS, hr]), hw2.bel⟩
  have hr : rightT s.t = true := by simpa using hr
  have hres : rightS s = (isUp (fnd 8 s.t []) 0 && decide ((((fnd 8 s.t []).length : Nat) : Int) = s.g)) := by simp [rightS, hr]
  rw [hres]
  conv => whnf
  refine ⟨gf48, fun w3 hw3 => resN (rgens_calls S w3 s.t _ (ht.to (hw3.samev S) (fun _ h _ => h)) hlen) hw3 fun v w4 p4 hv st4 => ?_⟩
  generalize fnd 8 s.t [] = gs at *
  obtain ⟨G, gc, rfl, hG1, hG2⟩ := hv
  have hGc := hG1.nw hG2 st4
  conv => whnf
  refine ⟨fun hg => ?_, fun hg => ?_⟩
  · have hg : ((gs.length : Nat) : Int) ≠ s.g := by simpa using hg
    conv => whnf
    intro w2 hw2
    exact ⟨retB (by simp [hg]), hw2.bel⟩
  have hg : ((gs.length : Nat) : Int) = s.g := by simpa using hg
  conv => whnf
  refine ⟨fun m st => ∃ i : Nat, i ≤ gs.length ∧ m = gs.length - i ∧ isUp gs 0 = isUp (gs.drop i) i ∧ st = ⟨[(4, .v (.int .i64 i)), (3, .v (.slice G gs.length gc)), (1, .own 0 0)], [g0],
      [(0, ([.v (.int .i64 s.g), .v (.int .i64 s.t.k), .v (.int .i64 s.t.n), .v (.slice B s.t.kids.length d)], 29))], [], p4, w4⟩,
    ⟨gs.length, _, ⟨0, Nat.zero_le _, by simp, by simp, rfl⟩, weak_of (preP_refl _) ⟨rfl, rfl, rfl, trivial⟩ ⟨⟨rfl, rfl, rfl⟩, trivial⟩ (List.Sublist.refl _) rfl rfl⟩, ?_⟩
  rintro m st ⟨i, hi, hm, hx, rfl⟩
  conv => whnf
  refine ⟨fun hb => ?_, fun hb => ?_⟩
  · have hb := of_decide_eq_true hb
    have hil : i < gs.length := by omega
    obtain ⟨ad, rfl, _, hld⟩ := hGc.ld1 (P := Try.prog) tk3 rfl (i := i) (v := .int .i64 gs[i]) (by simp [hil])
    conv => whnf
    refine ⟨ad, rfl, by omega, hb, ?_⟩
    conv => whnf
    intro w1 hw
    refine ⟨_, hld w1 hw.same, ?_⟩
    conv => whnf
    refine ⟨fun h => ?_, fun h => ?_⟩
    · have h : gs[i] ≠ i := by simpa using h
      conv => whnf
      intro w2 hw2
      exact ⟨retB (by rw [hx, isUp_drop hil]; simp [h]), hw2.bel⟩
    · have h : gs[i] = i := by simpa using h
      conv => whnf
      refine ⟨gs.length - (i + 1), _, by omega, ⟨i + 1, hil, rfl, ?_, rfl⟩, weak_of (preP_refl _) ⟨incV (by omega), rfl, rfl, trivial⟩ ⟨⟨rfl, rfl, rfl⟩, trivial⟩ (List.Sublist.refl _) rfl rfl⟩
      rw [hx, isUp_drop hil]; simp [h]
  · have hb := of_decide_eq_false hb
    conv => whnf
    intro w2 hw2
    have : i = gs.length := by omega
    subst this
    exact ⟨retB (by rw [hx]; simp [isUp, hg]), hw2.bel⟩
end Go.Proofs.Ytonhlccjfbfkcaa.Vm

/- Matching: what it is, and what a round of the work list keeps. -/
namespace Go.Proofs.Ytonhlccjfbfkcaa.Vm
open Go.Vc Go.RowKit

theorem orL_zero : ∀ l : List Int, orL l = 0 ↔ ∀ x ∈ l, x = 0
  | [] => by simp [orL]
  | x :: r => by
    simp only [orL]
    split
    · rename_i h; simp [h]
    · rename_i h
      have h : x = 0 := by simpa using h
      rw [orL_zero r]; simp [h]
mutual
theorem cmpT_zero : ∀ t u : Tp, cmpT t u = 0 ↔ t = u
  | .mk k n ks, .mk k' n' ks' => by
    rw [cmpT, orL_zero]
    simp only [List.mem_cons, List.not_mem_nil, or_false, forall_eq_or_imp, forall_eq, cmpI_zero, cmpL_zero ks ks', Tp.mk.injEq]
    constructor
    · rintro ⟨h1, h2, _, h4⟩; exact ⟨h1, h2, h4⟩
    · rintro ⟨h1, h2, h4⟩; exact ⟨h1, h2, by rw [h4], h4⟩
theorem cmpL_zero : ∀ l m : List Tp, cmpL l m = 0 ↔ l = m
  | [], [] => by simp [cmpL]
  | [], _ :: _ => by simp [cmpL]
  | _ :: _, [] => by simp [cmpL]
  | a :: r, b :: s => by
    rw [cmpL]
    have h1 := cmpT_zero a b
    have h2 := cmpL_zero r s
    by_cases h : cmpT a b = 0
    · rw [if_neg (by simpa using h), h2, h1.1 h]; simp
    · rw [if_pos h]
      constructor
      · intro h'; exact absurd h' h
      · intro h'; injection h' with e1 e2; exact h1.2 e1
end

/-- Generic variables put in for. -/
def gsub (l : List Tp) : Tp → Tp := sub 8 (fun n => if 0 ≤ n then l[n.toNat]? else none)
theorem gsub_gen {l : List Tp} {n : Int} {ks : List Tp} (h0 : 0 ≤ n) (h1 : n.toNat < l.length) : gsub l (.mk 8 n ks) = l[n.toNat] := by
  unfold gsub
  rw [sub]
  simp only [if_true, if_pos h0, List.getElem?_eq_getElem h1]
theorem gsub_node {l : List Tp} {k n : Int} {ks : List Tp} (h : k ≠ 8) : gsub l (.mk k n ks) = .mk k n (ks.map (gsub l)) := by
  unfold gsub
  rw [sub]
  simp only [if_neg h, subL_map]
mutual
/-- All generic variables are below g. -/
def gok (g : Nat) : Tp → Prop
  | .mk k n ks => (k = 8 → 0 ≤ n ∧ n < (g : Int)) ∧ gokL g ks
def gokL (g : Nat) : List Tp → Prop
  | [] => True
  | t :: r => gok g t ∧ gokL g r
end
theorem gokL_mem {g : Nat} : ∀ {l : List Tp}, gokL g l → ∀ t ∈ l, gok g t
  | t' :: r, h, t, ht => by
    rcases List.mem_cons.1 ht with rfl | ht
    · exact h.1
    · exact gokL_mem h.2 t ht
mutual
theorem fnd_sub (kind : Int) : ∀ (t : Tp) (acc : List Int), ∀ x ∈ acc, x ∈ fnd kind t acc
  | .mk k n ks, acc, x, hx => by
    simp only [fnd]
    refine fndL_sub kind ks _ x ?_
    split
    · simp [hx]
    · exact hx
theorem fndL_sub (kind : Int) : ∀ (ts : List Tp) (acc : List Int), ∀ x ∈ acc, x ∈ fndL kind ts acc
  | [], acc, x, hx => by simpa [fndL] using hx
  | t :: r, acc, x, hx => by
    simp only [fndL]
    exact fndL_sub kind r _ x (fnd_sub kind t acc x hx)
end
mutual
theorem gok_of (g : Nat) : ∀ (t : Tp) (acc : List Int), (∀ x ∈ fnd 8 t acc, 0 ≤ x ∧ x < (g : Int)) → gok g t
  | .mk k n ks, acc, h => by
    simp only [fnd] at h
    refine ⟨fun hk => ?_, gokL_of g ks _ h⟩
    refine h n (fndL_sub 8 ks _ n ?_)
    split
    · simp
    · rename_i hc
      rcases Decidable.em (n ∈ acc) with h' | h'
      · exact h'
      · exact absurd ⟨hk, h'⟩ hc
theorem gokL_of (g : Nat) : ∀ (ts : List Tp) (acc : List Int), (∀ x ∈ fndL 8 ts acc, 0 ≤ x ∧ x < (g : Int)) → gokL g ts
  | [], _, _ => trivial
  | t :: r, acc, h => by
    simp only [fndL] at h
    exact ⟨gok_of g t acc fun x hx => h x (fndL_sub 8 r _ x hx), gokL_of g r _ h⟩
end
theorem isUp_mem : ∀ {l : List Int} {i : Int}, isUp l i = true → ∀ x ∈ l, i ≤ x ∧ x < i + l.length
  | [], _, _, x, hx => by cases hx
  | y :: r, i, h, x, hx => by
    simp only [isUp, Bool.and_eq_true, decide_eq_true_eq] at h
    rcases List.mem_cons.1 hx with rfl | hx
    · simp; omega
    · have := isUp_mem h.2 x hx; simp; omega
theorem rightS_gok {s : Sc} (h : rightS s = true) : ∃ g : Nat, s.g = g ∧ g = (fnd 8 s.t []).length ∧ gok g s.t := by
  simp only [rightS, Bool.and_eq_true, decide_eq_true_eq] at h
  refine ⟨(fnd 8 s.t []).length, h.2.2.symm, rfl, gok_of _ s.t [] fun x hx => ?_⟩
  have := isUp_mem h.2.1 x hx
  omega

/-- What a match comes to. -/
def MatchIs (a b : Sc) : Option (List Tp) → Prop
  | none => ¬ (rightS a = true ∧ rightS b = true) ∨ ∀ l : List Tp, (l.length : Int) = a.g → gsub l a.t ≠ b.t
  | some l => rightS a = true ∧ rightS b = true ∧ (l.length : Int) = a.g ∧ gsub l a.t = b.t

/-- What a round keeps: what is bound, and what is still to be matched. -/
structure MInv (g : Nat) (t u : Tp) (xs : List Tp) (bs : List Bool) (todo : List (Tp × Tp)) : Prop where
  hx : xs.length = g
  hb : bs.length = g
  ok : ∀ pq ∈ todo, gok g pq.1
  iff : ∀ l : List Tp, l.length = g → (((∀ i : Nat, bs[i]? = some true → l[i]? = xs[i]?) ∧ ∀ pq ∈ todo, gsub l pq.1 = pq.2) ↔ gsub l t = u)

theorem MInv.init {g : Nat} {t u : Tp} (h : gok g t) : MInv g t u (List.replicate g zeroT) (List.replicate g false) [(t, u)] := by
  refine ⟨by simp, by simp, by simpa using h, fun l hl => ?_⟩
  simp only [List.mem_singleton, forall_eq]
  constructor
  · exact fun h => h.2
  · refine fun h => ⟨fun i hi => ?_, h⟩
    have := List.getElem?_replicate (a := false) (n := g) (i := i)
    rw [this] at hi
    split at hi <;> simp at hi
theorem MInv.bind {g : Nat} {t u : Tp} {xs : List Tp} {bs : List Bool} {n : Int} {ks : List Tp} {q : Tp} {todo : List (Tp × Tp)} (h : MInv g t u xs bs ((.mk 8 n ks, q) :: todo)) (hq : bs[n.toNat]? = some true → xs[n.toNat]? = some q) :
    MInv g t u (xs.set n.toNat q) (bs.set n.toNat true) todo := by
  obtain ⟨h0, h1⟩ := (h.ok _ (List.mem_cons_self ..)).1 rfl
  have hn : n.toNat < g := by omega
  refine ⟨by simp [h.hx], by simp [h.hb], fun pq hp => h.ok pq (List.mem_cons_of_mem _ hp), fun l hl => ?_⟩
  rw [← h.iff l hl]
  have hg : gsub l (.mk 8 n ks) = l[n.toNat]'(by omega) := gsub_gen h0 (by omega)
  simp only [List.mem_cons, forall_eq_or_imp, hg]
  have hln : l[n.toNat]? = some (l[n.toNat]'(by omega)) := List.getElem?_eq_getElem _
  constructor
  · rintro ⟨h2, h3⟩
    have hq' : l[n.toNat]'(by omega) = q := by
      have := h2 n.toNat (by simp [h.hb, hn])
      rw [hln, List.getElem?_set_self (by rw [h.hx]; exact hn)] at this
      injection this
    refine ⟨fun i hi => ?_, hq', h3⟩
    by_cases e : i = n.toNat
    · subst e; rw [hq hi, hln, hq']
    · have := h2 i (by rw [List.getElem?_set_ne (Ne.symm e)]; exact hi)
      rwa [List.getElem?_set_ne (Ne.symm e)] at this
  · rintro ⟨h2, h3, h4⟩
    refine ⟨fun i hi => ?_, h4⟩
    by_cases e : i = n.toNat
    · subst e; rw [hln, h3, List.getElem?_set_self (by rw [h.hx]; exact hn)]
    · rw [List.getElem?_set_ne (Ne.symm e)] at hi ⊢
      exact h2 i hi
theorem MInv.failB {g : Nat} {t u : Tp} {xs : List Tp} {bs : List Bool} {n : Int} {ks : List Tp} {q x : Tp} {todo : List (Tp × Tp)} (h : MInv g t u xs bs ((.mk 8 n ks, q) :: todo)) (hb : bs[n.toNat]? = some true) (hx : xs[n.toNat]? = some x) (hne : x ≠ q) (l : List Tp) (hl : l.length = g) : gsub l t ≠ u := by
  intro he
  obtain ⟨h0, h1⟩ := (h.ok _ (List.mem_cons_self ..)).1 rfl
  obtain ⟨h2, h3⟩ := (h.iff l hl).2 he
  have h4 := h3 _ (List.mem_cons_self ..)
  simp only at h4
  rw [gsub_gen h0 (by omega)] at h4
  have h5 := h2 _ hb
  rw [hx, List.getElem?_eq_getElem (by omega), h4] at h5
  injection h5 with h5
  exact hne h5.symm
theorem map_eq_zip {l : List Tp} : ∀ {ks ks' : List Tp}, ks.length = ks'.length → (ks.map (gsub l) = ks' ↔ ∀ pq ∈ ks.zip ks', gsub l pq.1 = pq.2)
  | [], [], _ => by simp
  | a :: r, b :: s, h => by
    simp only [List.length_cons, Nat.add_right_cancel_iff] at h
    simp only [List.map_cons, List.cons.injEq, List.zip_cons_cons, List.mem_cons, forall_eq_or_imp, map_eq_zip h]
  | [], _ :: _, h => by simp at h
  | _ :: _, [], h => by simp at h
theorem MInv.node {g : Nat} {t u : Tp} {xs : List Tp} {bs : List Bool} {k n : Int} {ks ks' : List Tp} {todo : List (Tp × Tp)} (h : MInv g t u xs bs ((.mk k n ks, .mk k n ks') :: todo)) (hk : k ≠ 8) (hl : ks.length = ks'.length) :
    MInv g t u xs bs (todo ++ ks.zip ks') := by
  refine ⟨h.hx, h.hb, fun pq hp => ?_, fun l hlg => ?_⟩
  · rcases List.mem_append.1 hp with hp | hp
    · exact h.ok pq (List.mem_cons_of_mem _ hp)
    · have h1 : gokL g ks := (h.ok _ (List.mem_cons_self ..)).2
      exact gokL_mem h1 _ (List.of_mem_zip hp).1
  · rw [← h.iff l hlg]
    simp only [List.mem_append, List.mem_cons, forall_eq_or_imp, gsub_node hk, Tp.mk.injEq, true_and, map_eq_zip hl]
    constructor
    · rintro ⟨h1, h2⟩; exact ⟨h1, fun pq hp => h2 pq (.inr hp), fun pq hp => h2 pq (.inl hp)⟩
    · rintro ⟨h1, h2, h3⟩; exact ⟨h1, fun pq hp => hp.elim (h3 pq) (h2 pq)⟩
theorem MInv.failN {g : Nat} {t u : Tp} {xs : List Tp} {bs : List Bool} {p q : Tp} {todo : List (Tp × Tp)} (h : MInv g t u xs bs ((p, q) :: todo)) (hk : p.k ≠ 8) (hne : p.k ≠ q.k ∨ p.n ≠ q.n ∨ p.kids.length ≠ q.kids.length) (l : List Tp) (hl : l.length = g) : gsub l t ≠ u := by
  intro he
  obtain ⟨h2, h3⟩ := (h.iff l hl).2 he
  have h4 := h3 _ (List.mem_cons_self ..)
  obtain ⟨k, n, ks⟩ := p
  obtain ⟨k', n', ks'⟩ := q
  simp only [Tp.k, Tp.n, Tp.kids] at *
  rw [gsub_node hk] at h4
  injection h4 with e1 e2 e3
  have := congrArg List.length e3
  simp at this
  omega
theorem MInv.done {g : Nat} {t u : Tp} {xs : List Tp} {bs : List Bool} (h : MInv g t u xs bs []) : gsub xs t = u := (h.iff xs h.hx).1 ⟨fun _ _ => rfl, by simp⟩

/-- Pairs as a list of types. -/
def flat2 : List (Tp × Tp) → List Tp
  | [] => []
  | (a, b) :: r => a :: b :: flat2 r
theorem flat2_append : ∀ l m, flat2 (l ++ m) = flat2 l ++ flat2 m
  | [], m => rfl
  | (a, b) :: r, m => by simp [flat2, flat2_append r m]
theorem flat2_length : ∀ l, (flat2 l).length = l.length * 2
  | [] => rfl
  | (a, b) :: r => by simp [flat2, flat2_length r]; omega
/-- How many nodes the patterns have. -/
def szP : List (Tp × Tp) → Nat
  | [] => 0
  | (a, _) :: r => szT a + szP r
theorem szP_append : ∀ l m, szP (l ++ m) = szP l + szP m
  | [], m => by simp [szP]
  | (a, b) :: r, m => by simp only [List.cons_append, szP, szP_append r m]; omega
theorem szP_zip : ∀ {l m : List Tp}, l.length = m.length → szP (l.zip m) = szL l
  | [], [], _ => rfl
  | a :: r, b :: s, h => by
    simp only [List.length_cons, Nat.add_right_cancel_iff] at h
    simp only [List.zip_cons_cons, szP, szL, szP_zip h]
  | [], _ :: _, h => by simp at h
  | _ :: _, [], h => by simp at h
theorem szP_len : ∀ l, l.length ≤ szP l
  | [] => Nat.zero_le _
  | (a, b) :: r => by have := szP_len r; have := szT_pos a; simp only [szP, List.length_cons]; omega
end Go.Proofs.Ytonhlccjfbfkcaa.Vm

/- scheme.Match: what it comes to. -/
namespace Go.Proofs.Ytonhlccjfbfkcaa.Vm
open Go.Vc Go.RowKit

mutual
theorem fnd_sz (kind : Int) : ∀ (t : Tp) (acc : List Int), (fnd kind t acc).length ≤ acc.length + szT t
  | .mk k n ks, acc => by
    simp only [fnd, szT]
    have := fndL_sz kind ks (if k = kind ∧ n ∉ acc then acc ++ [n] else acc)
    have h2 : (if k = kind ∧ n ∉ acc then acc ++ [n] else acc).length ≤ acc.length + 1 := by split <;> simp
    omega
theorem fndL_sz (kind : Int) : ∀ (ts : List Tp) (acc : List Int), (fndL kind ts acc).length ≤ acc.length + szL ts
  | [], acc => by simp [fndL]
  | t :: r, acc => by
    simp only [fndL, szL]
    have := fndL_sz kind r (fnd kind t acc)
    have := fnd_sz kind t acc
    omega
end
theorem mk_k (k n : Int) (l : List Tp) : (Tp.mk k n l).k = k := rfl
theorem mk_n (k n : Int) (l : List Tp) : (Tp.mk k n l).n = n := rfl
theorem mk_kids (k n : Int) (l : List Tp) : (Tp.mk k n l).kids = l := rfl
/-- A match's answer in memory. -/
def MatchR (S : Nat → Prop) (w' : World) : Option (List Tp) → Value → Prop
  | none, v => v = .tuple #[.slice none 0 0, .bool false]
  | some l, v => ∃ A c, v = .tuple #[.slice A l.length c, .bool true] ∧ l.length ≤ c ∧ RepKs S w' l A 0
def MatchP (S : Nat → Prop) (w : World) (a b : Sc) (v : Value) (w' : World) : Prop := ∃ r, MatchIs a b r ∧ MatchR (ext S w) w' r v

theorem match_calls (S : Nat → Prop) (w : World) (a b : Sc) (va vb : Value) (ha : RepS S w a va) (hb : RepS S w b vb) (hna : szT a.t ≤ 1073741824) (hnb : szT b.t ≤ 1073741824) :
    Calls Try.prog 15 #[va, vb] w (Res w (MatchP S w a b)) := by
  obtain ⟨ag, t⟩ := a
  obtain ⟨bg, u⟩ := b
  have hfa := fnd_sz 8 t []
  have hfb := fnd_sz 8 u []
  have ha' := ha
  have hb' := hb
  obtain ⟨A, ca, rfl, a1, a2, a3⟩ := ha
  obtain ⟨B, cb, rfl, b1, b2, b3⟩ := hb
  simp only [List.length_nil, Nat.zero_add] at *
  have failed : ∀ {w4 : World}, MatchIs ⟨ag, t⟩ ⟨bg, u⟩ none → Below w.heap.size w w4 → Res w (MatchP S w ⟨ag, t⟩ ⟨bg, u⟩) (.returned (.tuple #[.slice none 0 0, .bool false])) w4 := fun h hb => ⟨_, rfl, ⟨none, h, rfl⟩, hb⟩
  refine calls_of_vc (args := [_, _]) (plans := [(11, ([3], .pure 0 (.pure 1 (.pure 2 (.take 3 (.pure 4 (.run 5 (.pure 6 (.pure 7 (.pure 8 (.pure 9 (.take 10 (.pure 11 (.pure 13 (.take 14 (.run 12 (.run 15 (.pure 16 (.pure 17 .done))))))))))))))))))),
    (13, ([3], .pure 0 (.pure 1 (.pure 2 (.take 3 (.pure 4 (.pure 5 (.pure 6 (.take 7 (.pure 8 (.take 9 (.pure 10 (.run 11 (.pure 12 (.fin 13 .done))))))))))))))),
    (19, ([3, 4], .pure 0 (.take 1 (.pure 2 (.pure 3 (.take 4 (.pure 5 (.pure 6 (.take 7 (.pure 8 (.run 9 (.run 10 (.pure 11 .done)))))))))))))
    , (100013, ([], .done))]) tyok mixed Try.func15 rfl rfl (by simp) (fun q => S q ∧ q < w.heap.size) (fun q h => h.2) ?_
  conv => whnf
  intro g0
  conv => whnf
  intro g1
  conv => whnf
  refine ⟨gf22, fun w1 hw1 => scalK (rightScheme_calls S w1 ⟨ag, t⟩ _ (ha'.to (hw1.samev S) (fun _ h _ => h)) (by simp only; omega)) hw1 ?_⟩
  rcases hra : rightS ⟨ag, t⟩ with _ | _
  · conv => whnf
    refine ⟨nofun, fun _ => ?_⟩
    conv => whnf
    intro w2 hw2
    exact failed (.inl (by simp [hra])) hw2.bel
  conv => whnf
  refine ⟨fun _ => ?_, nofun⟩
  conv => whnf
  refine ⟨gf22, fun w1 hw1 => scalK (rightScheme_calls S w1 ⟨bg, u⟩ _ (hb'.to (hw1.samev S) (fun _ h _ => h)) (by simp only; omega)) hw1 ?_⟩
  rcases hrb : rightS ⟨bg, u⟩ with _ | _
  · conv => whnf
    refine ⟨fun _ => ?_, nofun⟩
    conv => whnf
    intro w2 hw2
    exact failed (.inl (by simp [hrb])) hw2.bel
  obtain ⟨g, hg, hgl, hok⟩ := rightS_gok hra
  simp only at hg hgl hok
  subst hg
  have hg30 : g ≤ 1073741824 := by omega
  conv => whnf
  refine ⟨nofun, fun _ => ?_⟩
  conv => whnf
  refine ⟨nofun, fun w2 hw2 => makeK tyok (t := 22) rfl rfl rfl hw2 (n := g) rfl rfl (by show 40 * g ≤ _; omega) (by simp only [maxLen]; omega) fun ad6 => ?_⟩
  conv => whnf
  refine ⟨nofun, fun w2 hw2 => makeK tyok (t := 59) rfl rfl rfl hw2 (n := g) rfl rfl (by show 1 * g ≤ _; omega) (by simp only [maxLen]; omega) fun ad7 => ?_⟩
  conv => whnf
  intro g2
  conv => whnf
  have hz6 : RepFlat (fun q => S q ∧ q < w.heap.size) w (List.replicate g zeroT) (madeCells #[.int .i64 0, .int .i64 0, .slice none 0 0] (g * 3)).toList := zeros_flat _ w g
  have hz7 : (madeCells #[.bool false] (g * 1)).toList = (List.replicate g false).map Value.bool := by rw [zeros_one, List.map_replicate]
  have hu0 : RepT (fun q => S q ∧ q < w.heap.size) w u (.agg #[.int .i64 u.k, .int .i64 u.n, .slice B u.kids.length cb]) := (RepS.typ (s := ⟨bg, u⟩) b1 b2 b3).to (Same.rfl' _ _) (fun _ h hl => ⟨h, hl⟩)
  have ht0 : RepT (fun q => S q ∧ q < w.heap.size) w t (.agg #[.int .i64 t.k, .int .i64 t.n, .slice A t.kids.length ca]) := (RepS.typ (s := ⟨(g : Int), t⟩) a1 a2 a3).to (Same.rfl' _ _) (fun _ h hl => ⟨h, hl⟩)
  refine ⟨fun m st => ∃ (xs : List Tp) (bs : List Bool) (todo : List (Tp × Tp)) (c6 c8 : List Value) (A8 : Option Addr) (d8 : Nat), MInv g t u xs bs todo ∧ m = szP todo ∧ szP todo ≤ szT t ∧ (todo.length ≠ 0 → ∃ ad, A8 = some ad) ∧
      RepFlat (fun q => S q ∧ q < w.heap.size) w xs c6 ∧ RepFlat (fun q => S q ∧ q < w.heap.size) w (flat2 todo) c8 ∧
      st = ⟨[(9, .kb true), (8, .v (.slice A8 todo.length d8)), (7, .v (.slice (some ad7) g g)), (6, .v (.slice (some ad6) g g))], [g0, g1, g2], [],
        [⟨.slice A8 todo.length d8, 61, 6, c8⟩, ⟨.slice (some ad7) g g, 4, 1, bs.map Value.bool⟩, ⟨.slice (some ad6) g g, 24, 3, c6⟩], fun q => S q ∧ q < w.heap.size, w⟩,
    ⟨szP [(t, u)], _, ⟨List.replicate g zeroT, List.replicate g false, [(t, u)], (madeCells #[.int .i64 0, .int .i64 0, .slice none 0 0] (g * 3)).toList, [.int .i64 t.k, .int .i64 t.n, .slice A t.kids.length ca, .int .i64 u.k, .int .i64 u.n, .slice B u.kids.length cb], some ⟨g2, 0, none⟩, 1, MInv.init hok, rfl, by simp [szP], fun _ => ⟨_, rfl⟩, hz6, ?_, rfl⟩,
      Weak.trans (weak_row (i := 2) (sz := 6) (n := 1) rfl rfl (by decide)) (weak_of (preP_refl _) ⟨rfl, rfl, rfl, rfl, trivial⟩ trivial ?_ rfl rfl)⟩, ?_⟩
  · exact (RepFlat.one ht0).app (RepFlat.one hu0)
  · rw [← hz7]
    exact List.Sublist.refl _
  rintro m st ⟨xs, bs, todo, c6, c8, A8, d8, hM, hm, hms, hA8, hc6, hc8, rfl⟩
  conv => whnf
  rcases todo with _ | ⟨⟨p, q⟩, rest⟩
  · refine ⟨fun h => (by have := of_decide_eq_true h; simp at this), fun _ => ?_⟩
    conv => whnf
    refine ⟨nofun, fun _ => ?_⟩
    conv => whnf
    intro w4 hw4
    have hxl := hM.hx
    obtain ⟨r1, r2⟩ := hw4.row ⟨.slice (some ad6) g g, 24, 3, c6⟩ (by simp)
    refine ⟨_, rfl, ⟨some xs, ⟨hra, hrb, by simp [hxl], hM.done⟩, some ad6, g, ?_, by omega, ?_⟩, hw4.bel⟩
    · rw [hxl]; rfl
    · refine RepKs.ofCells (S := ext S w) (hc6.to hw4.same (fun q h _ => .inl h.1)) (r1.cells rfl (ext S w) (fun q hq => .inr (((r2 q hq).1).elim (fun h => h.elim) id))) (fun q h _ => h)
  · refine ⟨fun _ => ?_, fun h => (by have := of_decide_eq_false h; simp at this)⟩
    conv => whnf
    obtain ⟨ad8, rfl⟩ := hA8 (by simp)
    have htl := szP_len ((p, q) :: rest)
    simp only [List.length_cons] at htl
    refine ⟨ad8, rfl, by omega, by simp, ?_⟩
    conv => whnf
    simp only [flat2] at hc8
    obtain ⟨p0, p1, p2, c8', rfl, hp, q0, q1, q2, c8, rfl, hq, hc8⟩ := hc8
    obtain ⟨PA, pc, ep, pk1, pk2, pk3⟩ := hp.opn
    injection ep with ep
    have ep' : [p0, p1, p2] = [.int .i64 p.k, .int .i64 p.n, .slice PA p.kids.length pc] := congrArg Array.toList ep
    injection ep' with e0 ep'; injection ep' with e1 ep'; injection ep' with e2 ep'
    subst e0; subst e1; subst e2
    obtain ⟨QA, qc, eq, qk1, qk2, qk3⟩ := hq.opn
    injection eq with eq
    have eq' : [q0, q1, q2] = [.int .i64 q.k, .int .i64 q.n, .slice QA q.kids.length qc] := congrArg Array.toList eq
    injection eq' with e0 eq'; injection eq' with e1 eq'; injection eq' with e2 eq'
    subst e0; subst e1; subst e2
    clear ep eq
    intro w1 hw1
    refine ⟨.agg #[.int .i64 p.k, .int .i64 p.n, .slice PA p.kids.length pc, .int .i64 q.k, .int .i64 q.n, .slice QA q.kids.length qc], (hw1.row _ (List.mem_cons_self ..)).1.ldA (k := 0) tk61 rfl (l := [.int .i64 p.k, .int .i64 p.n, .slice PA p.kids.length pc, .int .i64 q.k, .int .i64 q.n, .slice QA q.kids.length qc]) rfl ?_, ?_⟩
    · intro j v hj
      rw [Nat.zero_add]
      have : j < 6 := by
        rcases Nat.lt_or_ge j 6 with h | h
        · exact h
        · rw [List.getElem?_eq_none (by simp; omega)] at hj; cases hj
      rw [show ∀ c : List Value, (Value.int .i64 p.k :: .int .i64 p.n :: .slice PA p.kids.length pc :: .int .i64 q.k :: .int .i64 q.n :: .slice QA q.kids.length qc :: c) = [.int .i64 p.k, .int .i64 p.n, .slice PA p.kids.length pc, .int .i64 q.k, .int .i64 q.n, .slice QA q.kids.length qc] ++ c from fun c => rfl, List.getElem?_append_left (by simp; omega)]
      exact hj
    conv => whnf
    intro g3
    conv => whnf
    refine ⟨nofun, fun w2 hw2 => tailK tyok (t := 62) rfl rfl rfl hw2 0 rfl (k := .i64) (j := 1) (by simp) rfl rfl fun A9 hA9 => ?_⟩
    conv => whnf
    have failM : ∀ {w4 : World}, (∀ l : List Tp, l.length = g → gsub l t ≠ u) → Below w.heap.size w w4 → Res w (MatchP S w ⟨g, t⟩ ⟨bg, u⟩) (.returned (.tuple #[.slice none 0 0, .bool false])) w4 :=
      fun h hb => failed (.inr fun l hl => h l (by have := hl; simp only at this; omega)) hb
    have hbl := hM.hb
    have hxl := hM.hx
    refine ⟨fun h8 => ?_, fun h8 => ?_⟩
    · have h8 : p.k = 8 := eq_of_beq h8
      obtain ⟨pk, pn, pks⟩ := p
      simp only [mk_k, mk_n, mk_kids] at *
      subst h8
      obtain ⟨hn0, hn1⟩ := (hM.ok _ (List.mem_cons_self ..)).1 rfl
      obtain ⟨n, rfl⟩ : ∃ n : Nat, pn = n := ⟨pn.toNat, by omega⟩
      have hng : n < g := by omega
      obtain ⟨ys, v0, v1, v2, zs, rfl, hys, hxn, hset⟩ := hc6.atI (i := n) (by omega)
      have hbn : bs[n]? = some (bs[n]'(by omega)) := List.getElem?_eq_getElem _
      have hxn' : xs[n]? = some (xs[n]'(by omega)) := List.getElem?_eq_getElem _
      conv => whnf
      refine ⟨fun st => (bs[n]? = some true → xs[n]? = some q) ∧ st = ⟨[(10, .own 3 0), (9, .kb true), (8, .v (.slice A9 rest.length (d8 - 1))), (7, .v (.slice (some ad7) g g)), (6, .v (.slice (some ad6) g g))], [g0, g1, g2, g3],
          [(3, ([.v (.int .i64 8), .v (.int .i64 n), .v (.slice PA pks.length pc), .v (.int .i64 q.k), .v (.int .i64 q.n), .v (.slice QA q.kids.length qc)], 61))],
          [⟨.slice A9 rest.length (d8 - 1), 61, 6, c8⟩, ⟨.slice (some ad7) g g, 4, 1, bs.map Value.bool⟩, ⟨.slice (some ad6) g g, 24, 3, ys ++ v0 :: v1 :: v2 :: zs⟩], fun q => S q ∧ q < w.heap.size, w⟩, ?_, ?_⟩
      · conv => whnf
        refine ⟨by kernel_rfl, rfl, ?_⟩
        conv => whnf
        refine ⟨ad7, rfl, hn0, hn1, ?_⟩
        conv => whnf
        intro w3 hw3
        refine ⟨.bool (bs[n]'(by omega)), (hw3.row ⟨.slice (some ad7) g g, 4, 1, bs.map Value.bool⟩ (by simp)).1.ldV (k := n * 1) tk4 rfl (by simp [hbn]), ?_⟩
        conv => whnf
        refine ⟨⟨⟨rfl, rfl, rfl, rfl, trivial⟩, ⟨rfl, trivial⟩, fun k hk => ⟨hk, rfl⟩⟩, ?_⟩
        conv => whnf
        refine ⟨fun hb => ?_, fun hb => ?_⟩
        · have hb : bs[n]'(by omega) = true := hb
          conv => whnf
          refine ⟨ad6, rfl, hn0, hn1, ?_⟩
          conv => whnf
          intro w4 hw4
          refine ⟨.agg #[v0, v1, v2], ((hw4.row ⟨.slice (some ad6) g g, 24, 3, ys ++ v0 :: v1 :: v2 :: zs⟩ (by simp)).1).ld3 tk24 rfl rfl hys, ?_⟩
          conv => whnf
          refine ⟨⟨⟨rfl, rfl, rfl, rfl, trivial⟩, ⟨rfl, trivial⟩, fun k hk => ⟨hk, rfl⟩⟩, ?_⟩
          conv => whnf
          refine ⟨gf33, fun w5 hw5 => scalK (same_calls (fun q => S q ∧ q < w.heap.size) w5 (xs[n]'(by omega)) q _ _ (hxn.to hw5.same (fun _ h _ => h)) (hq.to hw5.same (fun _ h _ => h))) hw5 ?_⟩
          conv => whnf
          refine ⟨⟨⟨rfl, rfl, rfl, rfl, trivial⟩, ⟨rfl, trivial⟩, fun k hk => ⟨hk, rfl⟩⟩, ?_⟩
          conv => whnf
          refine ⟨fun hs => ?_, fun hs => ?_⟩
          · have hs : xs[n]'(by omega) ≠ q := fun h => by rw [(cmpT_zero _ _).2 h] at hs; cases hs
            conv => whnf
            refine ⟨fun _ => ?_, nofun⟩
            conv => whnf
            intro w6 hw6
            exact failM (hM.failB (n := (n : Int)) (by rw [Int.toNat_natCast, hbn, hb]) (by rw [Int.toNat_natCast]; exact hxn') hs) hw6.bel
          · have hs : xs[n]'(by omega) = q := (cmpT_zero _ _).1 (by simpa using hs)
            conv => whnf
            exact ⟨_, ⟨fun h => by rw [hxn', hs], rfl⟩, weak_of (preP_refl _) ⟨rfl, rfl, rfl, rfl, rfl, trivial⟩ ⟨⟨rfl, rfl, rfl⟩, trivial⟩ (List.Sublist.refl _) rfl rfl⟩
        · have hb : bs[n]'(by omega) = false := by simpa using hb
          conv => whnf
          refine ⟨_, ⟨fun h => ?_, rfl⟩, weak_of (preP_refl _) ⟨rfl, rfl, rfl, rfl, rfl, trivial⟩ ⟨⟨rfl, rfl, rfl⟩, trivial⟩ (List.Sublist.refl _) rfl rfl⟩
          rw [hbn, hb] at h; cases h
      · rintro st ⟨hq1, rfl⟩
        conv => whnf
        refine ⟨by kernel_rfl, rfl, ?_⟩
        conv => whnf
        refine ⟨ad6, rfl, hn0, hn1, ?_⟩
        conv => whnf
        refine ⟨nofun, fun w5 hw5 => storeK (b := ⟨w, fun _ => False⟩) tyok rfl hw5 2 rfl (n * 3) rfl (u := .agg #[.int .i64 q.k, .int .i64 q.n, .slice QA q.kids.length qc]) (l := [.int .i64 q.k, .int .i64 q.n, .slice QA q.kids.length qc]) rfl rfl rfl (by simp [hys] <;> omega) (by simp [plainV]) ?_⟩
        rw [ovw_at hys]
        conv => whnf
        refine ⟨⟨⟨rfl, rfl, rfl, rfl, trivial⟩, ⟨rfl, trivial⟩, fun k hk => ⟨hk, rfl⟩⟩, ?_⟩
        conv => whnf
        refine ⟨ad7, rfl, hn0, hn1, ?_⟩
        conv => whnf
        refine ⟨nofun, fun w5 hw5 => storeK (b := ⟨w, fun _ => False⟩) tyok rfl hw5 1 rfl (n * 1) rfl (u := .bool true) (l := [.bool true]) rfl rfl rfl (by simp <;> omega) (by simp [plainV]) ?_⟩
        rw [show ovw (bs.map Value.bool) (n * 1) [.bool true] = (bs.set n true).map Value.bool from ovw_set (by omega)]
        conv => whnf
        refine ⟨szP rest, _, ?_, ⟨xs.set n q, bs.set n true, rest, _, c8, A9, d8 - 1, MInv.bind (n := (n : Int)) hM (by simpa using hq1), rfl, ?_, hA9, hset q _ _ _ hq, hc8, rfl⟩, weak_of ⟨rfl, rfl, rfl, trivial⟩ ⟨rfl, rfl, rfl, rfl, trivial⟩ trivial (List.Sublist.refl _) rfl rfl⟩
        · rw [hm]; simp only [szP]; have := szT_pos (.mk 8 (n : Int) pks); omega
        · refine Nat.le_trans ?_ hms; simp only [szP]; omega
    · have h8 : p.k ≠ 8 := by simpa using h8
      conv => whnf
      refine ⟨fun e1 => ?_, fun e1 => ?_⟩
      rotate_left
      · have e1 : p.k ≠ q.k := by simpa using e1
        conv => whnf
        refine ⟨fun _ => ?_, nofun⟩
        conv => whnf
        intro w6 hw6
        exact failM (hM.failN h8 (.inl e1)) hw6.bel
      have e1 : p.k = q.k := by simpa using e1
      conv => whnf
      refine ⟨fun e2 => ?_, fun e2 => ?_⟩
      rotate_left
      · have e2 : p.n ≠ q.n := by simpa using e2
        conv => whnf
        refine ⟨fun _ => ?_, nofun⟩
        conv => whnf
        intro w6 hw6
        exact failM (hM.failN h8 (.inr (.inl e2))) hw6.bel
      have e2 : p.n = q.n := by simpa using e2
      conv => whnf
      refine ⟨fun e3 => ?_, fun e3 => ?_⟩
      · have e3 : p.kids.length ≠ q.kids.length := by have : ¬ ((p.kids.length : Nat) : Int) = q.kids.length := by simpa using e3
                                                      omega
        conv => whnf
        refine ⟨fun _ => ?_, nofun⟩
        conv => whnf
        intro w6 hw6
        exact failM (hM.failN h8 (.inr (.inr e3))) hw6.bel
      have e3 : p.kids.length = q.kids.length := by have : ((p.kids.length : Nat) : Int) = q.kids.length := by simpa using e3
                                                    omega
      have hM' : MInv g t u xs bs (rest ++ p.kids.zip q.kids) := by
        refine MInv.node (k := p.k) (n := p.n) (ks := p.kids) (ks' := q.kids) ?_ h8 e3
        rw [Tp.eta, e1, e2, Tp.eta]
        exact hM
      have hszp : szP ((p, q) :: rest) = szL p.kids + 1 + szP rest := by
        obtain ⟨_, _, _⟩ := p
        rfl
      have hkl := szL_len p.kids
      have hrl := szP_len rest
      conv => whnf
      refine ⟨fun m st => ∃ (i : Nat) (A8 : Option Addr) (d8 : Nat) (c8 : List Value), i ≤ p.kids.length ∧ m = p.kids.length - i ∧ ((rest ++ (p.kids.zip q.kids).take i).length ≠ 0 → ∃ ad, A8 = some ad) ∧
          RepFlat (fun q => S q ∧ q < w.heap.size) w (flat2 (rest ++ (p.kids.zip q.kids).take i)) c8 ∧
          st = ⟨[(106, .v (.int .i64 i)), (105, .v (.int .i64 p.kids.length)), (104, .v (.slice PA p.kids.length pc)), (10, .own 3 0), (9, .kb true), (8, .v (.slice A8 (rest ++ (p.kids.zip q.kids).take i).length d8)), (7, .v (.slice (some ad7) g g)), (6, .v (.slice (some ad6) g g))], [g0, g1, g2, g3],
            [(3, ([.v (.int .i64 p.k), .v (.int .i64 p.n), .v (.slice PA p.kids.length pc), .v (.int .i64 q.k), .v (.int .i64 q.n), .v (.slice QA q.kids.length qc)], 61))],
            [⟨.slice A8 (rest ++ (p.kids.zip q.kids).take i).length d8, 61, 6, c8⟩, ⟨.slice (some ad7) g g, 4, 1, bs.map Value.bool⟩, ⟨.slice (some ad6) g g, 24, 3, c6⟩], fun q => S q ∧ q < w.heap.size, w⟩,
        ⟨p.kids.length, _, ⟨0, A9, d8 - 1, c8, Nat.zero_le _, by simp, by simpa using hA9, by simpa using hc8, rfl⟩, weak_of (preP_refl _) ⟨rfl, rfl, rfl, rfl, rfl, ?_, rfl, rfl, trivial⟩ ⟨⟨rfl, rfl, rfl⟩, trivial⟩ ?_ rfl rfl⟩, ?_⟩
      · simp only [List.take_zero, List.append_nil]; rfl
      · simp only [List.take_zero, List.append_nil]; exact List.Sublist.refl _
      clear hA9 hc8 hA8
      rintro m' st ⟨i, A8, d8, c8, hi, hm', hA8, hc8, rfl⟩
      conv => whnf
      refine ⟨fun hb => ?_, fun hb => ?_⟩
      · have hb := of_decide_eq_true hb
        have hil : i < p.kids.length := by omega
        have hiq : i < q.kids.length := by omega
        obtain ⟨adp, PB, pd, rfl, _, hldp, _, _, _, k4⟩ := pk3.ld (P := Try.prog) tk24 rfl rfl (i := i) (t := p.kids[i]) (by simp [hil])
        obtain ⟨adq, QB, qd, rfl, _, hldq, _, _, _, k4'⟩ := qk3.ld (P := Try.prog) tk24 rfl rfl (i := i) (t := q.kids[i]) (by simp [hiq])
        conv => whnf
        refine ⟨adp, rfl, by omega, hb, ?_⟩
        conv => whnf
        intro w1 hw1
        refine ⟨_, hldp w1 hw1.same, ?_⟩
        conv => whnf
        intro g4
        conv => whnf
        refine ⟨by kernel_rfl, rfl, ?_⟩
        conv => whnf
        refine ⟨adq, rfl, by omega, by omega, ?_⟩
        conv => whnf
        refine ⟨_, fun w1 h1 => hldq w1 (fun k hk _ => h1.2 k hk), ?_⟩
        conv => whnf
        intro g5
        conv => whnf
        refine ⟨⟨⟨rfl, rfl, rfl, rfl, rfl, trivial⟩, ⟨rfl, rfl, trivial⟩, fun k hk => ⟨hk, rfl⟩⟩, ?_⟩
        conv => whnf
        have hlen : (rest ++ (p.kids.zip q.kids).take i).length = rest.length + i := by simp; omega
        refine ⟨nofun, fun w2 hw2 => appendK' (b := ⟨w, fun _ => False⟩) tyok (t := 62) rfl rfl rfl rfl (by decide) (by decide) hw2 0 rfl rfl (m := 1) (d := 1) (ys := [.int .i64 p.kids[i].k, .int .i64 p.kids[i].n, .slice PB p.kids[i].kids.length pd, .int .i64 q.kids[i].k, .int .i64 q.kids[i].n, .slice QB q.kids[i].kids.length qd]) rfl (S := fun _ => True) rfl (hw2.own (i := 5) rfl) (by simp [Value.oneCell']) (by rw [hlen]; show (rest.length + i + 1) * 80 ≤ _; omega) fun A' c' hA' => ?_⟩
        conv => whnf
        refine ⟨⟨⟨rfl, rfl, rfl, rfl, rfl, trivial⟩, ⟨rfl, rfl, trivial⟩, fun k hk => ⟨hk, rfl⟩⟩, ?_⟩
        conv => whnf
        have hz : (p.kids.zip q.kids).take (i + 1) = (p.kids.zip q.kids).take i ++ [(p.kids[i], q.kids[i])] := by
          rw [List.take_succ_eq_append_getElem (by simp; omega)]; simp
        have hzl : (rest ++ (p.kids.zip q.kids).take (i + 1)).length = (rest ++ (p.kids.zip q.kids).take i).length + 1 := by rw [hz]; simp; omega
        refine ⟨p.kids.length - (i + 1), _, by omega, ⟨i + 1, A', c', c8 ++ [.int .i64 p.kids[i].k, .int .i64 p.kids[i].n, .slice PB p.kids[i].kids.length pd, .int .i64 q.kids[i].k, .int .i64 q.kids[i].n, .slice QB q.kids[i].kids.length qd], hil, rfl, by rw [hzl]; exact hA', ?_, rfl⟩, weak_of ⟨rfl, rfl, rfl, rfl, trivial⟩ ⟨incV (by omega), rfl, rfl, rfl, rfl, ?_, rfl, rfl, trivial⟩ ⟨⟨rfl, rfl, rfl⟩, trivial⟩ ?_ rfl rfl⟩
        · rw [hz, ← List.append_assoc, flat2_append]
          exact hc8.app ((RepFlat.one k4).app (RepFlat.one k4'))
        · rw [hzl]; rfl
        · rw [hzl]; exact List.Sublist.refl _
      · have hb := of_decide_eq_false hb
        have hil : i = p.kids.length := by omega
        have hz : (p.kids.zip q.kids).take i = p.kids.zip q.kids := List.take_of_length_le (by simp; omega)
        rw [hz] at hA8 hc8
        conv => whnf
        refine ⟨szP (rest ++ p.kids.zip q.kids), _, ?_, ⟨xs, bs, rest ++ p.kids.zip q.kids, c6, c8, A8, d8, hM', rfl, ?_, hA8, hc6, hc8, rfl⟩, weak_of ⟨rfl, rfl, rfl, trivial⟩ ⟨rfl, ?_, rfl, rfl, trivial⟩ trivial ?_ rfl rfl⟩
        · rw [hm, hszp, szP_append, szP_zip e3]; omega
        · refine Nat.le_trans ?_ hms; rw [hszp, szP_append, szP_zip e3]; omega
        · rw [hz]; rfl
        · rw [hz]; exact List.Sublist.refl _
end Go.Proofs.Ytonhlccjfbfkcaa.Vm

/- scheme.AtLeast, scheme.Alike, types.SameScheme; the law's fn, meta, gen, int0. -/
namespace Go.Proofs.Ytonhlccjfbfkcaa.Vm
open Go.Vc Go.RowKit

theorem MatchIs.none_some {a b : Sc} {l : List Tp} (h : MatchIs a b none) (h' : MatchIs a b (some l)) : False := by
  obtain ⟨h1, h2, h3, h4⟩ := h'
  rcases h with h | h
  · exact h ⟨h1, h2⟩
  · exact h l h3 h4
/-- Is a scheme at least as general as another one? -/
def Least (a b : Sc) : Prop := ∃ l, MatchIs a b (some l)
open Classical in
noncomputable def atL (a b : Sc) : Bool := decide (Least a b)
open Classical in
theorem atL_true {a b : Sc} : atL a b = true ↔ Least a b := by unfold atL; exact @decide_eq_true_iff _ _
theorem atL_some {a b : Sc} {l : List Tp} (h : MatchIs a b (some l)) : atL a b = true := atL_true.2 ⟨l, h⟩
theorem atL_none {a b : Sc} (h : MatchIs a b none) : atL a b = false := by
  rcases e : atL a b with _ | _
  · rfl
  · obtain ⟨l, h'⟩ := atL_true.1 e
    exact (h.none_some h').elim

def LeastOk (f : FuncId) : Prop := ∀ (S : Nat → Prop) (w : World) (a b : Sc) (va vb : Value), RepS S w a va → RepS S w b vb → szT a.t ≤ 1073741824 → szT b.t ≤ 1073741824 →
  Calls Try.prog f #[va, vb] w (fun e w' => e = .returned (.bool (atL a b)) ∧ Below w.heap.size w w')
theorem atLeast_calls : LeastOk 18 := by
  intro S w a b va vb ha hb hna hnb
  have ha' := ha
  have hb' := hb
  obtain ⟨A, ca, rfl, a1, a2, a3⟩ := ha
  obtain ⟨B, cb, rfl, b1, b2, b3⟩ := hb
  refine calls0 tyok mixed [] Try.func18 rfl rfl (by simp) ?_
  conv => whnf
  intro g0
  conv => whnf
  intro g1
  conv => whnf
  refine ⟨gf15, fun w1 hw1 => resN (match_calls S w1 a b _ _ (ha'.to (hw1.samev S) (fun _ h _ => h)) (hb'.to (hw1.samev S) (fun _ h _ => h)) hna hnb) hw1 fun v w2 p2 hv st2 => ?_⟩
  obtain ⟨r, hr, hv⟩ := hv
  rcases r with _ | l
  · have hv : v = _ := hv
    subst hv
    conv => whnf
    intro w3 hw3
    exact ⟨retB (atL_none hr).symm, hw3.bel⟩
  · obtain ⟨D, d, rfl, _, _⟩ := hv
    conv => whnf
    intro w3 hw3
    exact ⟨retB (atL_some hr).symm, hw3.bel⟩

def AlikeOk (f : FuncId) : Prop := ∀ (S : Nat → Prop) (w : World) (a b : Sc) (va vb : Value), RepS S w a va → RepS S w b vb → szT a.t ≤ 1073741824 → szT b.t ≤ 1073741824 →
  Calls Try.prog f #[va, vb] w (fun e w' => e = .returned (.bool (atL a b && atL b a)) ∧ Below w.heap.size w w')
theorem alike_calls : AlikeOk 20 := by
  intro S w a b va vb ha hb hna hnb
  have ha' := ha
  have hb' := hb
  obtain ⟨A, ca, rfl, a1, a2, a3⟩ := ha
  obtain ⟨B, cb, rfl, b1, b2, b3⟩ := hb
  refine calls0 tyok mixed [] Try.func20 rfl rfl (by simp) ?_
  conv => whnf
  intro g0
  conv => whnf
  intro g1
  conv => whnf
  refine ⟨gf18, fun w1 hw1 => scalK (atLeast_calls S w1 a b _ _ (ha'.to (hw1.samev S) (fun _ h _ => h)) (hb'.to (hw1.samev S) (fun _ h _ => h)) hna hnb) hw1 ?_⟩
  rcases atL a b with _ | _
  · conv => whnf
    refine ⟨nofun, fun _ => ?_⟩
    conv => whnf
    intro w3 hw3
    exact ⟨rfl, hw3.bel⟩
  · conv => whnf
    refine ⟨fun _ => ?_, nofun⟩
    conv => whnf
    refine ⟨gf18, fun w1 hw1 => scalK (atLeast_calls S w1 b a _ _ (hb'.to (hw1.samev S) (fun _ h _ => h)) (ha'.to (hw1.samev S) (fun _ h _ => h)) hnb hna) hw1 ?_⟩
    conv => whnf
    intro w3 hw3
    exact ⟨rfl, hw3.bel⟩

def sameS (a b : Sc) : Bool := a.g == b.g && cmpT a.t b.t == 0
theorem sameS_iff {a b : Sc} : sameS a b = true ↔ a = b := by
  obtain ⟨_, _⟩ := a
  obtain ⟨_, _⟩ := b
  simp [sameS, cmpT_zero]
theorem sameScheme_calls (S : Nat → Prop) (w : World) (a b : Sc) (va vb : Value) (ha : RepS S w a va) (hb : RepS S w b vb) :
    Calls Try.prog 25 #[va, vb] w (fun e w' => e = .returned (.bool (sameS a b)) ∧ Below w.heap.size w w') := by
  obtain ⟨A, ca, rfl, a1, a2, a3⟩ := ha
  obtain ⟨B, cb, rfl, b1, b2, b3⟩ := hb
  have ta := RepS.typ a1 a2 a3
  have tb := RepS.typ b1 b2 b3
  refine calls0 tyok mixed [] Try.func25 rfl rfl (by simp) ?_
  conv => whnf
  intro g0
  conv => whnf
  intro g1
  conv => whnf
  refine ⟨fun h => ?_, fun h => ?_⟩
  · have h : a.g = b.g := eq_of_beq h
    conv => whnf
    refine ⟨gf33, fun w1 hw1 => scalK (same_calls S w1 a.t b.t _ _ (ta.to (hw1.samev S) (fun _ h _ => h)) (tb.to (hw1.samev S) (fun _ h _ => h))) hw1 ?_⟩
    conv => whnf
    intro w3 hw3
    exact ⟨retB (by simp [h, sameS]), hw3.bel⟩
  · have h : a.g ≠ b.g := by simpa using h
    conv => whnf
    intro w3 hw3
    exact ⟨retB (by simp [h, sameS]), hw3.bel⟩

/-- An own block's cells, when the call is at its end. -/
theorem ownCells {S : Nat → Prop} {w w' : World} {T : Tl} {ρ : List Nat} {E : El} {R : List Row} {pub : Nat → Prop} {s : World} (h : Wd ⟨w, fun _ => False⟩ ⟨T, ρ, E, R, pub, s⟩ w') {i g : Nat} {cs : List SV} {t : TypeId} (hg : ρ.getD i 0 = g) (hi : lk E i = some (cs, t)) : Cells (ext S w) w' (some ⟨g, 0, none⟩) (denL ρ cs) := by
  subst hg
  refine .inr ⟨_, rfl, .inr (((h.entN i cs t hi).2.1).elim (fun h => h.elim) id), fun j v hj => ?_⟩
  rw [add_own, cell_own (h.ent i cs t hi), List.getElem?_toArray, Nat.zero_add]
  exact hj

theorem fn_calls (S : Nat → Prop) (w : World) (a b : Tp) (va vb : Value) (ha : RepT S w a va) (hb : RepT S w b vb) :
    Calls Try.prog 35 #[va, vb] w (Res w fun v w' => RepT (ext S w) w' (.mk 4 0 [a, b]) v) := by
  have ha' := ha
  have hb' := hb
  obtain ⟨A, ca, rfl, a1, a2, a3⟩ := ha.opn
  obtain ⟨B, cb, rfl, b1, b2, b3⟩ := hb.opn
  refine calls0 tyok mixed [] Try.func35 rfl rfl (by simp) ?_
  conv => whnf
  intro g0
  conv => whnf
  intro g1
  conv => whnf
  intro g2
  conv => whnf
  intro g3
  conv => whnf
  intro w3 hw3
  refine ⟨_, rfl, ?_, hw3.bel⟩
  have hc := ownCells (S := S) hw3 (i := 3) rfl rfl
  have hk : RepKs (ext S w) w3 [a, b] (some ⟨g3, 0, none⟩) 0 := RepKs.ofCells (S := S) ((RepFlat.one (ha'.to (hw3.samev S) (fun _ h _ => h))).app (RepFlat.one (hb'.to (hw3.samev S) (fun _ h _ => h)))) hc (fun q h _ => .inl h)
  exact RepT.mk' (t := .mk 4 0 [a, b]) (c := 2) (by simp [Tp.kids]) (by simp [Tp.kids, LIM]) hk
theorem leaf_rep (S : Nat → Prop) (w : World) (k n : Int) : RepT S w (.mk k n []) (.agg #[.int .i64 k, .int .i64 n, .slice none 0 0]) :=
  RepT.mk' (t := .mk k n []) (S := S) (w := w) (A := none) (c := 0) (by simp [Tp.kids]) (by simp [Tp.kids]) (by simp [Tp.kids, RepKs])
theorem meta_calls (w : World) (n : Int) : Calls Try.prog 36 #[.int .i64 n] w (fun e w' => e = .returned (.agg #[.int .i64 7, .int .i64 n, .slice none 0 0]) ∧ Below w.heap.size w w') := by
  refine calls0 tyok mixed [] Try.func36 rfl rfl (by simp) ?_
  conv => whnf
  intro g0
  conv => whnf
  intro w3 hw3
  exact ⟨rfl, hw3.bel⟩
theorem gen_calls (w : World) (n : Int) : Calls Try.prog 37 #[.int .i64 n] w (fun e w' => e = .returned (.agg #[.int .i64 8, .int .i64 n, .slice none 0 0]) ∧ Below w.heap.size w w') := by
  refine calls0 tyok mixed [] Try.func37 rfl rfl (by simp) ?_
  conv => whnf
  intro g0
  conv => whnf
  intro w3 hw3
  exact ⟨rfl, hw3.bel⟩
theorem int0_calls (w : World) : Calls Try.prog 38 #[] w (fun e w' => e = .returned (.agg #[.int .i64 1, .int .i64 0, .slice none 0 0]) ∧ Below w.heap.size w w') := by
  refine calls0 (args := []) tyok mixed [] Try.func38 rfl rfl (by simp) ?_
  conv => whnf
  intro g0
  conv => whnf
  intro w3 hw3
  exact ⟨rfl, hw3.bel⟩
end Go.Proofs.Ytonhlccjfbfkcaa.Vm

/- scheme.Instantiate, scheme.Canonical. -/
namespace Go.Proofs.Ytonhlccjfbfkcaa.Vm
open Go.Vc Go.RowKit

def leafC (k n : Int) (l : List Nat) : List Value := l.flatMap fun i : Nat => [.int .i64 k, .int .i64 (n + (i : Int)), .slice none 0 0]
def metaL (n : Int) (k : Nat) : List Tp := (List.range k).map fun i : Nat => .mk 7 (n + (i : Int)) []
theorem metaL_length (n : Int) (k : Nat) : (metaL n k).length = k := by simp [metaL]
theorem leafC_flat (S : Nat → Prop) (w : World) (k n : Int) : ∀ l : List Nat, RepFlat S w (l.map fun i : Nat => Tp.mk k (n + (i : Int)) []) (leafC k n l)
  | [] => rfl
  | i :: r => ⟨_, _, _, _, rfl, leaf_rep S w k _, leafC_flat S w k n r⟩
theorem leafC_length (k n : Int) : ∀ l : List Nat, (leafC k n l).length = l.length * 3
  | [] => rfl
  | i :: r => by have := leafC_length k n r; unfold leafC at *; simp only [List.flatMap_cons, List.length_append, List.length_cons, List.length_nil, this]; omega
theorem genC_leaf (n : Int) (k : Nat) : genC n k = leafC 8 n (List.range' 0 k) := by unfold genC leafC; rw [List.range_eq_range']

/-- A scheme with new metas for its generic variables. -/
def instT (s : Sc) (next : Int) : Tp := sub 8 (tbl (fnd 8 s.t []) (metaL next (fnd 8 s.t []).length)) s.t
def instOk (s : Sc) (next : Int) : Bool := rightS s && (decide (0 ≤ next) && decide (next ≤ 2147483647))
def InstP (S : Nat → Prop) (w : World) (s : Sc) (next : Int) (v : Value) (w' : World) : Prop :=
  (instOk s next = false ∧ v = .tuple #[.agg #[.int .i64 0, .int .i64 0, .slice none 0 0], .int .i64 0, .int .i64 1]) ∨
  (instOk s next = true ∧ ∃ v0, v = .tuple #[v0, .int .i64 (next + s.g), .int .i64 0] ∧ RepT (ext S w) w' (instT s next) v0)

theorem instantiate_calls (S : Nat → Prop) (w : World) (s : Sc) (v : Value) (next : Int) (hs : RepS S w s v) (hn : szT s.t ≤ 1073741824) :
    Calls Try.prog 24 #[v, .int .i64 next] w (Res w (InstP S w s next)) := by
  have hs' := hs
  have hf := fnd_sz 8 s.t []
  simp only [List.length_nil, Nat.zero_add] at hf
  obtain ⟨A, ca, rfl, a1, a2, a3⟩ := hs
  have ta := RepS.typ a1 a2 a3
  have bad : ∀ {w4 : World}, instOk s next = false → Below w.heap.size w w4 → Res w (InstP S w s next) (.returned (.tuple #[.agg #[.int .i64 0, .int .i64 0, .slice none 0 0], .int .i64 0, .int .i64 1])) w4 := fun h hb => ⟨_, rfl, .inl ⟨h, rfl⟩, hb⟩
  refine calls_of_vc (args := [_, _]) (plans := [(9, ([0], .pure 0 (.take 1 (.pure 2 (.take 3 (.pure 5 (.pure 7 (.pure 8 (.take 9 (.pure 10 (.run 4 (.run 6 (.run 11 (.pure 12 (.pure 13 .done)))))))))))))))]) tyok mixed Try.func24 rfl rfl (by simp) (fun q => S q ∧ q < w.heap.size) (fun q h => h.2) ?_
  conv => whnf
  intro g0
  conv => whnf
  intro g1
  conv => whnf
  refine ⟨gf22, fun w1 hw1 => scalK (rightScheme_calls S w1 s _ (hs'.to (hw1.samev S) (fun _ h _ => h)) (by omega)) hw1 ?_⟩
  rcases hra : rightS s with _ | _
  · conv => whnf
    refine ⟨nofun, fun _ => ?_⟩
    conv => whnf
    intro w2 hw2
    exact bad (by simp [instOk, hra]) hw2.bel
  conv => whnf
  refine ⟨fun _ => ?_, nofun⟩
  conv => whnf
  refine ⟨fun h0 => ?_, fun h0 => ?_⟩
  rotate_left
  · have h0 : next < 0 := by simpa using h0
    conv => whnf
    intro w2 hw2
    exact bad (by simp [instOk, hra]; omega) hw2.bel
  have h0 : 0 ≤ next := by simpa using h0
  conv => whnf
  refine ⟨fun h1 => ?_, fun h1 => ?_⟩
  · have h1 : next > 2147483647 := by simpa using h1
    conv => whnf
    intro w2 hw2
    exact bad (by simp [instOk, hra]; omega) hw2.bel
  have h1 : next ≤ 2147483647 := by simpa using h1
  have hio : instOk s next = true := by simp [instOk, hra, h0, h1]
  obtain ⟨g, hg, hgl, hok⟩ := rightS_gok hra
  rw [hg]
  conv => whnf
  refine ⟨gf43, fun w1 hw1 => ownTK (sgens_calls w1 next g h0 (by omega) (by unfold LIM; omega)) hw1 fun D d hD => ?_⟩
  rw [genC_leaf]
  conv => whnf
  refine ⟨fun m st => ∃ i : Nat, i ≤ g ∧ m = g - i ∧ st = ⟨[(27, .v (.int .i64 i)), (26, .v (.int .i64 g)), (7, .v (.slice D g d)), (2, .own 0 0), (4, .own 1 0), (1, .v (.int .i64 next))], [g0, g1],
      [(1, ([.v (.int .i64 0), .v (.int .i64 0), .v (.slice none 0 0)], 24)), (0, ([.v (.int .i64 g), .v (.int .i64 s.t.k), .v (.int .i64 s.t.n), .v (.slice A s.t.kids.length ca)], 29))],
      [⟨.slice D g d, 24, 3, leafC 7 next (List.range i) ++ leafC 8 next (List.range' i (g - i))⟩], fun q => S q ∧ q < w.heap.size, w⟩,
    ⟨g, _, ⟨0, Nat.zero_le _, by simp, rfl⟩, weak_of (preP_refl _) ⟨rfl, rfl, rfl, rfl, rfl, rfl, trivial⟩ ⟨⟨rfl, rfl, rfl⟩, ⟨rfl, rfl, rfl⟩, trivial⟩ (List.Sublist.refl _) rfl rfl⟩, ?_⟩
  rintro m st ⟨i, hi, hm, rfl⟩
  conv => whnf
  refine ⟨fun hb => ?_, fun hb => ?_⟩
  · have hb := of_decide_eq_true hb
    have hig : i < g := by omega
    obtain ⟨ad, rfl⟩ := hD (by omega)
    have hcell : leafC 8 next (List.range' i (g - i)) = .int .i64 8 :: .int .i64 (next + (i : Int)) :: .slice none 0 0 :: leafC 8 next (List.range' (i + 1) (g - (i + 1))) := by
      rw [show g - i = (g - (i + 1)) + 1 from by omega, List.range'_succ]; rfl
    have hlen : (leafC 7 next (List.range i)).length = i * 3 := by rw [leafC_length]; simp
    rw [hcell]
    conv => whnf
    refine ⟨ad, rfl, by omega, hb, ?_⟩
    conv => whnf
    refine ⟨nofun, fun w2 hw2 => storeK (b := ⟨w, fun _ => False⟩) tyok rfl hw2 0 rfl (i * 3) rfl (u := .int .i64 7) (l := [.int .i64 7]) rfl rfl rfl (by simp [hlen]) (by simp [plainV]) ?_⟩
    have hov : ovw (leafC 7 next (List.range i) ++ .int .i64 8 :: .int .i64 (next + (i : Int)) :: .slice none 0 0 :: leafC 8 next (List.range' (i + 1) (g - (i + 1)))) (i * 3) [.int .i64 7] = leafC 7 next (List.range (i + 1)) ++ leafC 8 next (List.range' (i + 1) (g - (i + 1))) := by
      rw [ovw_one hlen]
      unfold leafC
      rw [List.range_succ, List.flatMap_append, List.append_assoc]
      rfl
    rw [hov]
    conv => whnf
    exact ⟨g - (i + 1), _, by omega, ⟨i + 1, hig, rfl, rfl⟩, weak_of (preP_refl _) ⟨incV (by omega), rfl, rfl, rfl, rfl, rfl, trivial⟩ ⟨⟨rfl, rfl, rfl⟩, ⟨rfl, rfl, rfl⟩, trivial⟩ (List.Sublist.refl _) rfl rfl⟩
  · have hb := of_decide_eq_false hb
    have hig : i = g := by omega
    subst hig
    have hrow : leafC 7 next (List.range i) ++ leafC 8 next (List.range' i (i - i)) = leafC 7 next (List.range i) := by rw [Nat.sub_self]; simp [leafC]
    rw [hrow]
    conv => whnf
    refine ⟨by kernel_rfl, rfl, ?_⟩
    conv => whnf
    refine ⟨gf14, fun w3 hw3 => resN (gens_calls S w3 s.t _ (ta.to (hw3.samev S) (fun _ h _ => h)) (by omega)) hw3 fun v w4 p4 hv st4 => ?_⟩
    obtain ⟨G, gc, rfl, hG1, hG2⟩ := hv
    have hGc := hG1.nw hG2 st4
    have fr4 := st4.fr (S := S) (fun k h => .inl h.1)
    have up4 : ∀ q, S q → q < w.heap.size → p4 q := fun q h1 h2 => st4.up q ⟨h1, h2⟩
    clear hG1 hG2
    conv => whnf
    refine ⟨⟨⟨rfl, rfl, trivial⟩, ⟨rfl, trivial⟩, st4.held⟩, ?_⟩
    conv => whnf
    refine ⟨gf42, fun w5 hw5 => ?_⟩
    obtain ⟨p6, hw6, st6, hDc⟩ := hw5.pubN (j := 0) (A := D) (n := i) (c := d) (e := 24) (sz := 3) (xs := leafC 7 next (List.range i)) rfl
    have hDk : RepKs p6 w5 (metaL next i) D 0 := RepKs.ofCells (leafC_flat (fun _ => False) w5 7 next _) hDc (fun q h _ => h.elim)
    have fr6 := st6.fr fr4
    have key := turn_calls s.t p6 w5 _ 8 G gc (fnd 8 s.t []) D d (metaL next i) (ta.to (hw5.samev S) (fun q h1 h2 => st6.up q (up4 q h1 h2))) (by omega) (hGc.mv st6) (by rw [metaL_length]; omega) hDk
    rw [metaL_length] at key
    refine resN key hw6 fun r w7 p7 hr st7 => ?_
    have hr := hr.nw st7
    have fr7 := st7.fr fr6
    obtain ⟨H, hh, rfl, r1, r2, r3⟩ := hr.opn
    conv => whnf
    refine ⟨⟨⟨rfl, rfl, trivial⟩, ⟨rfl, trivial⟩, HeldW.trans (st4.held (T := []) (ρ := []) (E := []) (R := [])) (HeldW.trans (st6.held (T := []) (ρ := []) (E := []) (R := [])) st7.held)⟩, ?_⟩
    conv => whnf
    refine ⟨⟨⟨rfl, rfl, trivial⟩, ⟨rfl, trivial⟩, HeldW.trans (st4.held (T := []) (ρ := []) (E := []) (R := [])) (HeldW.trans (st6.held (T := []) (ρ := []) (E := []) (R := [])) st7.held)⟩, ?_⟩
    conv => whnf
    intro w9 hw9
    have hit : instT s next = sub 8 (tbl (fnd 8 s.t []) (metaL next i)) s.t := by unfold instT; rw [← hgl]
    refine ⟨_, rfl, .inr ⟨hio, .agg #[.int .i64 (sub 8 (tbl (fnd 8 s.t []) (metaL next i)) s.t).k, .int .i64 (sub 8 (tbl (fnd 8 s.t []) (metaL next i)) s.t).n, .slice H (sub 8 (tbl (fnd 8 s.t []) (metaL next i)) s.t).kids.length hh], ?_, by rw [hit]; exact RepT.mk' r1 r2 (r3.to hw9.same (fun k h1 h2 => mine0 (fr7 k h1)))⟩, hw9.bel⟩
    have hwr : IntKind.i64.wrap (next + (i : Int)) = next + (i : Int) := Go.Vc.wrap_small (by omega) (by omega)
    rw [hg]
    show Value.tuple #[_, .int .i64 (IntKind.i64.wrap (next + (i : Int))), _] = _
    rw [hwr]
    rfl
/-- A scheme in its canonical form. -/
def canon (s : Sc) : Sc := ⟨(fnd 8 s.t []).length, sub 8 (tbl (fnd 8 s.t []) (genL 0 (fnd 8 s.t []).length)) s.t⟩
theorem canonical_calls (S : Nat → Prop) (w : World) (s : Sc) (v : Value) (hs : RepS S w s v) (hn : szT s.t ≤ 1073741824) :
    Calls Try.prog 26 #[v] w (Res w fun v' w' => RepS (ext S w) w' (canon s) v') := by
  have hf := fnd_sz 8 s.t []
  simp only [List.length_nil, Nat.zero_add] at hf
  obtain ⟨A, ca, rfl, a1, a2, a3⟩ := hs
  have ta := RepS.typ a1 a2 a3
  refine calls_of_vc (args := [_]) (plans := [(2, ([0], .pure 0 (.pure 1 (.pure 2 (.take 3 (.pure 4 (.pure 5 (.pure 6 (.run 7 (.fin 8 (.pure 9 (.fin 10 .done))))))))))))]) tyok mixed Try.func26 rfl rfl (by simp) (fun q => S q ∧ q < w.heap.size) (fun q h => h.2) ?_
  conv => whnf
  intro g0
  conv => whnf
  intro g1
  conv => whnf
  refine ⟨gf14, fun w3 hw3 => resN (gens_calls S w3 s.t _ (ta.to (hw3.samev S) (fun _ h _ => h)) (by omega)) hw3 fun v w4 p4 hv st4 => ?_⟩
  obtain ⟨G, gc, rfl, hG1, hG2⟩ := hv
  have hGc := hG1.nw hG2 st4
  have fr4 := st4.fr (S := S) (fun k h => .inl h.1)
  have up4 : ∀ q, S q → q < w.heap.size → p4 q := fun q h1 h2 => st4.up q ⟨h1, h2⟩
  clear hG1 hG2
  conv => whnf
  refine ⟨by kernel_rfl, rfl, ?_⟩
  conv => whnf
  refine ⟨gf43, fun w5 hw5 => resN (sgens_calls w5 0 (fnd 8 s.t []).length (by omega) (by omega) (by unfold LIM; omega)) hw5 fun v w6 p6 hv st6 => ?_⟩
  obtain ⟨D, dd, rfl, hD1, hD2⟩ := hv
  have hDk : RepKs p6 w6 (genL 0 (fnd 8 s.t []).length) D 0 := RepKs.ofCells (genC_flat (fun _ => False) w6 _ _) (hD1.nw hD2 st6) (fun q h _ => h.elim)
  have hGc := hGc.mv st6
  have fr6 := st6.fr fr4
  conv => whnf
  refine ⟨⟨⟨rfl, rfl, trivial⟩, ⟨rfl, trivial⟩, st6.held⟩, ?_⟩
  conv => whnf
  refine ⟨gf42, fun w7 hw7 => ?_⟩
  have key7 := turn_calls s.t p6 w7 _ 8 G gc (fnd 8 s.t []) D dd (genL 0 (fnd 8 s.t []).length) (ta.to (hw7.samev S) (fun q h1 h2 => st6.up q (up4 q h1 h2))) (by omega) (hGc.to hw7.same (fun _ h _ => h)) (by rw [genL_length]; omega) (hDk.to hw7.same (fun _ h _ => h))
  rw [genL_length] at key7
  refine resN key7 hw7 fun r w8 p8 hr st8 => ?_
  have hr := hr.nw st8
  have fr8 := st8.fr fr6
  obtain ⟨H, hh, rfl, r1, r2, r3⟩ := hr.opn
  conv => whnf
  intro w9 hw9
  exact ⟨_, rfl, ⟨H, hh, rfl, r1, r2, r3.to hw9.same (fun k h1 h2 => mine0 (fr8 k h1))⟩, hw9.bel⟩
end Go.Proofs.Ytonhlccjfbfkcaa.Vm

/- The law's alive. -/
namespace Go.Proofs.Ytonhlccjfbfkcaa.Vm
open Go.Vc Go.RowKit

abbrev mt (n : Int) : Tp := .mk 7 n []
abbrev gn (n : Int) : Tp := .mk 8 n []
abbrev it : Tp := .mk 1 0 []
abbrev fnT (a b : Tp) : Tp := .mk 4 0 [a, b]
theorem alive1 : genAll (fnT (mt 3) (fnT (mt 1) (mt 3))) [1] = ⟨1, fnT (gn 0) (fnT (mt 1) (gn 0))⟩ := by
  simp [genAll, openMs, fnd, fndL, sub, subL, tbl, genL, List.range, List.range.loop]
theorem alive2 : instOk ⟨2, fnT (gn 0) (fnT (gn 1) (gn 0))⟩ 7 = true := by
  simp [instOk, rightS, rightT, rightL, fnd, fndL, isUp]
theorem alive3 : instT ⟨2, fnT (gn 0) (fnT (gn 1) (gn 0))⟩ 7 = fnT (mt 7) (fnT (mt 8) (mt 7)) := by
  simp [instT, fnd, fndL, sub, subL, tbl, metaL, List.range, List.range.loop]
theorem alive4 : atL ⟨1, fnT (gn 0) (gn 0)⟩ ⟨0, fnT it it⟩ = true := by
  refine atL_some (l := [it]) ⟨?_, ?_, rfl, ?_⟩
  · simp [rightS, rightT, rightL, fnd, fndL, isUp]
  · simp [rightS, rightT, rightL, fnd, fndL, isUp]
  · simp [gsub, sub, subL]
theorem alive5 : atL ⟨0, fnT it it⟩ ⟨1, fnT (gn 0) (gn 0)⟩ = false := by
  refine atL_none (.inr fun l hl => ?_)
  simp [gsub, sub, subL]

theorem _root_.Go.Vc.RepT.opn' {S : Nat → Prop} {w : World} {t : Tp} {A : Option Addr} {n c : Nat} {a b : Value} (h : RepT S w t (.agg #[a, b, .slice A n c])) : RepKs S w t.kids A 0 := by
  obtain ⟨A', c', e, _, _, h3⟩ := h.opn
  injection e with e
  have e' : [a, b, .slice A n c] = [.int .i64 t.k, .int .i64 t.n, .slice A' t.kids.length c'] := congrArg Array.toList e
  injection e' with _ e'; injection e' with _ e'; injection e' with e' _; injection e' with e1 _ _
  rw [e1]; exact h3
theorem alive_calls (w : World) : Calls Try.prog 10 #[] w (fun e w' => e = .returned (.bool true) ∧ Below w.heap.size w w') := by
  refine calls0 (args := []) tyok mixed [(5, ([1, 2, 3, 4], .pure 0 (.take 1 (.pure 2 (.pure 3 (.pure 4 (.take 5 (.run 6 (.run 7 (.run 8 (.run 9 (.run 10 (.run 11 (.pure 12 (.pure 13 (.pure 14 (.pure 15 (.pure 16 (.pure 17 (.pure 18 (.pure 19 (.pure 20 (.pure 21 (.take 22 (.run 23 (.run 24 (.run 25 (.run 26 (.run 27 (.run 28 (.pure 29 (.pure 30 (.take 31 (.take 32 (.run 33 (.pure 34 (.pure 35 (.take 36 (.take 37 (.run 38 (.pure 39 (.pure 40 (.pure 41 .done)))))))))))))))))))))))))))))))))))))))))))] Try.func10 rfl rfl (by simp) ?_
  conv => whnf
  refine ⟨gf36, fun w1 hw1 => scalK (meta_calls w1 3) hw1 ?_⟩
  conv => whnf
  refine ⟨gf36, fun w1 hw1 => scalK (meta_calls w1 1) hw1 ?_⟩
  conv => whnf
  refine ⟨gf36, fun w1 hw1 => scalK (meta_calls w1 3) hw1 ?_⟩
  conv => whnf
  refine ⟨gf35, fun w1 hw1 => resN (fn_calls (fun _ => False) w1 (mt 1) (mt 3) _ _ (leaf_rep _ _ _ _) (leaf_rep _ _ _ _)) hw1 fun v1 w2 p2 hv1 st2 => ?_⟩
  have hv1 : RepT p2 w2 _ _ := hv1.to (Same.rfl' _ _) (fun k h hl => h.elim False.elim fun h => st2.new k h hl)
  conv => whnf
  refine ⟨gf35, fun w3 hw3 => resN (fn_calls p2 w3 (mt 3) (fnT (mt 1) (mt 3)) _ _ (leaf_rep _ _ _ _) (hv1.to hw3.same (fun _ h _ => h))) hw3 fun v2 w4 p4 hv2 st4 => ?_⟩
  have hv2 := hv2.nw st4
  conv => whnf
  intro g0
  conv => whnf
  refine ⟨gf11, fun w5 hw5 => ?_⟩
  obtain ⟨p6, hw6, st6, hc6⟩ := hw5.pubE (i := 0) rfl rfl
  refine resN (generalise_calls p6 w5 (fnT (mt 3) (fnT (mt 1) (mt 3))) v2 _ 1 [1] (hv2.mv st6) (by decide) hc6 (by simp [fnd, fndL, LIM]) (by simp [fnd, fndL, LIM])) hw6 fun v3 w7 p7 hv3 st7 => ?_
  rw [alive1] at hv3
  have hv3 := hv3.nw st7
  obtain ⟨A3, c3, rfl, h31, h32, h33⟩ := hv3
  have h3 := RepS.typ h31 h32 h33
  conv => whnf
  intro g1
  conv => whnf
  refine ⟨gf37, fun w1 hw1 => scalK (gen_calls w1 0) hw1 ?_⟩
  conv => whnf
  refine ⟨gf37, fun w1 hw1 => scalK (gen_calls w1 1) hw1 ?_⟩
  conv => whnf
  refine ⟨gf37, fun w1 hw1 => scalK (gen_calls w1 0) hw1 ?_⟩
  conv => whnf
  refine ⟨gf35, fun w8 hw8 => resN (fn_calls p7 w8 (gn 1) (gn 0) _ _ (leaf_rep _ _ _ _) (leaf_rep _ _ _ _)) hw8 fun v4 w9 p9 hv4 st9 => ?_⟩
  have h3 := h3.mv st9
  have hv4 := hv4.nw st9
  conv => whnf
  refine ⟨gf35, fun w8 hw8 => resN (fn_calls p9 w8 (gn 0) (fnT (gn 1) (gn 0)) _ _ (leaf_rep _ _ _ _) (hv4.to hw8.same (fun _ h _ => h))) hw8 fun v5 w11 p11 hv5 st11 => ?_⟩
  have h3 := h3.mv st11
  have hv5 := hv5.nw st11
  obtain ⟨A5, c5, rfl, h51, h52, h53⟩ := hv5.opn
  conv => whnf
  refine ⟨gf24, fun w8 hw8 => resN (instantiate_calls p11 w8 ⟨2, fnT (gn 0) (fnT (gn 1) (gn 0))⟩ _ 7 ⟨A5, c5, rfl, h51, h52, h53.to hw8.same (fun _ h _ => h)⟩ (by decide)) hw8 fun v6 w13 p13 hv6 st13 => ?_⟩
  have h3 := h3.mv st13
  rcases hv6 with ⟨h, _⟩ | ⟨_, v6, rfl, hv6⟩
  · rw [alive2] at h; cases h
  rw [alive3] at hv6
  have hv6 := hv6.nw st13
  obtain ⟨A6, c6, rfl, h61, h62, h63⟩ := hv6.opn
  conv => whnf
  intro g2
  conv => whnf
  refine ⟨gf37, fun w1 hw1 => scalK (gen_calls w1 0) hw1 ?_⟩
  conv => whnf
  refine ⟨gf37, fun w1 hw1 => scalK (gen_calls w1 0) hw1 ?_⟩
  conv => whnf
  refine ⟨gf35, fun w8 hw8 => resN (fn_calls p13 w8 (gn 0) (gn 0) _ _ (leaf_rep _ _ _ _) (leaf_rep _ _ _ _)) hw8 fun v7 w15 p15 hv7 st15 => ?_⟩
  have h3 := h3.mv st15
  have hv6 := hv6.mv st15
  have hv7 := hv7.nw st15
  obtain ⟨A7, c7, rfl, h71, h72, h73⟩ := hv7.opn
  conv => whnf
  intro g3
  conv => whnf
  refine ⟨gf38, fun w1 hw1 => scalK (int0_calls w1) hw1 ?_⟩
  conv => whnf
  refine ⟨gf38, fun w1 hw1 => scalK (int0_calls w1) hw1 ?_⟩
  conv => whnf
  refine ⟨gf35, fun w8 hw8 => resN (fn_calls p15 w8 it it _ _ (leaf_rep _ _ _ _) (leaf_rep _ _ _ _)) hw8 fun v8 w17 p17 hv8 st17 => ?_⟩
  have h3 := h3.mv st17
  have hv6 := hv6.mv st17
  have hv7 := hv7.mv st17
  have hv8 := hv8.nw st17
  obtain ⟨A8, c8, rfl, h81, h82, h83⟩ := hv8.opn
  conv => whnf
  intro g4
  conv => whnf
  refine ⟨by kernel_rfl, rfl, ?_⟩
  conv => whnf
  refine ⟨fun _ => ?_, nofun⟩
  conv => whnf
  refine ⟨gf37, fun w1 hw1 => scalK (gen_calls w1 0) hw1 ?_⟩
  conv => whnf
  refine ⟨⟨⟨rfl, rfl, rfl, rfl, rfl, trivial⟩, ⟨rfl, rfl, rfl, rfl, trivial⟩, fun k hk => ⟨hk, rfl⟩⟩, ?_⟩
  conv => whnf
  refine ⟨gf36, fun w1 hw1 => scalK (meta_calls w1 1) hw1 ?_⟩
  conv => whnf
  refine ⟨⟨⟨rfl, rfl, rfl, rfl, rfl, trivial⟩, ⟨rfl, rfl, rfl, rfl, trivial⟩, fun k hk => ⟨hk, rfl⟩⟩, ?_⟩
  conv => whnf
  refine ⟨gf37, fun w1 hw1 => scalK (gen_calls w1 0) hw1 ?_⟩
  conv => whnf
  refine ⟨⟨⟨rfl, rfl, rfl, rfl, rfl, trivial⟩, ⟨rfl, rfl, rfl, rfl, trivial⟩, fun k hk => ⟨hk, rfl⟩⟩, ?_⟩
  conv => whnf
  refine ⟨gf35, fun w8 hw8 => resN (fn_calls p17 w8 (mt 1) (gn 0) _ _ (leaf_rep _ _ _ _) (leaf_rep _ _ _ _)) hw8 fun v9 w19 p19 hv9 st19 => ?_⟩
  have h3 := h3.mv st19
  have hv6 := hv6.mv st19
  have hv7 := hv7.mv st19
  have hv8 := hv8.mv st19
  have hv9 := hv9.nw st19
  conv => whnf
  refine ⟨⟨⟨rfl, rfl, rfl, rfl, rfl, trivial⟩, ⟨rfl, rfl, rfl, rfl, trivial⟩, st19.held⟩, ?_⟩
  conv => whnf
  refine ⟨gf35, fun w8 hw8 => resN (fn_calls p19 w8 (gn 0) (fnT (mt 1) (gn 0)) _ _ (leaf_rep _ _ _ _) (hv9.to hw8.same (fun _ h _ => h))) hw8 fun va w21 p21 hva st21 => ?_⟩
  have h3 := h3.mv st21
  have hv6 := hv6.mv st21
  have hv7 := hv7.mv st21
  have hv8 := hv8.mv st21
  have hva := hva.nw st21
  have held1 := HeldW.trans (st19.held (T := []) (ρ := []) (E := []) (R := [])) (st21.held (T := []) (ρ := []) (E := []) (R := []))
  conv => whnf
  refine ⟨⟨⟨rfl, rfl, rfl, rfl, rfl, trivial⟩, ⟨rfl, rfl, rfl, rfl, trivial⟩, HeldW.trans (st19.held (T := []) (ρ := []) (E := []) (R := [])) st21.held⟩, ?_⟩
  conv => whnf
  refine ⟨gf30, fun w8 hw8 => scalK (rsame_calls p21 w8 (fnT (gn 0) (fnT (mt 1) (gn 0))) (fnT (gn 0) (fnT (mt 1) (gn 0))) _ _ (h3.to hw8.same (fun _ h _ => h)) (hva.to hw8.same (fun _ h _ => h))) hw8 ?_⟩
  rw [show (cmpT (fnT (gn 0) (fnT (mt 1) (gn 0))) (fnT (gn 0) (fnT (mt 1) (gn 0))) == 0) = true from by simp [cmpT_zero]]
  conv => whnf
  refine ⟨⟨⟨rfl, rfl, rfl, rfl, rfl, trivial⟩, ⟨rfl, rfl, rfl, rfl, trivial⟩, HeldW.trans (st19.held (T := []) (ρ := []) (E := []) (R := [])) st21.held⟩, ?_⟩
  conv => whnf
  refine ⟨fun _ => ?_, nofun⟩
  conv => whnf
  refine ⟨fun _ => ?_, nofun⟩
  conv => whnf
  refine ⟨fun _ => ?_, nofun⟩
  conv => whnf
  refine ⟨gf36, fun w1 hw1 => scalK (meta_calls w1 7) hw1 ?_⟩
  conv => whnf
  refine ⟨⟨⟨rfl, rfl, rfl, rfl, rfl, trivial⟩, ⟨rfl, rfl, rfl, rfl, trivial⟩, HeldW.trans (st19.held (T := []) (ρ := []) (E := []) (R := [])) st21.held⟩, ?_⟩
  conv => whnf
  refine ⟨gf36, fun w1 hw1 => scalK (meta_calls w1 8) hw1 ?_⟩
  conv => whnf
  refine ⟨⟨⟨rfl, rfl, rfl, rfl, rfl, trivial⟩, ⟨rfl, rfl, rfl, rfl, trivial⟩, HeldW.trans (st19.held (T := []) (ρ := []) (E := []) (R := [])) st21.held⟩, ?_⟩
  conv => whnf
  refine ⟨gf36, fun w1 hw1 => scalK (meta_calls w1 7) hw1 ?_⟩
  conv => whnf
  refine ⟨⟨⟨rfl, rfl, rfl, rfl, rfl, trivial⟩, ⟨rfl, rfl, rfl, rfl, trivial⟩, HeldW.trans (st19.held (T := []) (ρ := []) (E := []) (R := [])) st21.held⟩, ?_⟩
  conv => whnf
  refine ⟨gf35, fun w8 hw8 => resN (fn_calls p21 w8 (mt 8) (mt 7) _ _ (leaf_rep _ _ _ _) (leaf_rep _ _ _ _)) hw8 fun vb w23 p23 hvb st23 => ?_⟩
  have hv6 := hv6.mv st23
  have hv7 := hv7.mv st23
  have hv8 := hv8.mv st23
  have hvb := hvb.nw st23
  conv => whnf
  refine ⟨⟨⟨rfl, rfl, rfl, rfl, rfl, trivial⟩, ⟨rfl, rfl, rfl, rfl, trivial⟩, HeldW.trans (HeldW.trans (st19.held (T := []) (ρ := []) (E := []) (R := [])) (st21.held (T := []) (ρ := []) (E := []) (R := []))) st23.held⟩, ?_⟩
  conv => whnf
  refine ⟨gf35, fun w8 hw8 => resN (fn_calls p23 w8 (mt 7) (fnT (mt 8) (mt 7)) _ _ (leaf_rep _ _ _ _) (hvb.to hw8.same (fun _ h _ => h))) hw8 fun vc w25 p25 hvc st25 => ?_⟩
  have hv6 := hv6.mv st25
  have hv7 := hv7.mv st25
  have hv8 := hv8.mv st25
  have hvc := hvc.nw st25
  have held2 := HeldW.trans held1 (HeldW.trans (st23.held (T := []) (ρ := []) (E := []) (R := [])) (st25.held (T := []) (ρ := []) (E := []) (R := [])))
  conv => whnf
  refine ⟨⟨⟨rfl, rfl, rfl, rfl, rfl, trivial⟩, ⟨rfl, rfl, rfl, rfl, trivial⟩, held2⟩, ?_⟩
  conv => whnf
  refine ⟨gf30, fun w8 hw8 => scalK (rsame_calls p25 w8 (fnT (mt 7) (fnT (mt 8) (mt 7))) (fnT (mt 7) (fnT (mt 8) (mt 7))) _ _ (hv6.to hw8.same (fun _ h _ => h)) (hvc.to hw8.same (fun _ h _ => h))) hw8 ?_⟩
  rw [show (cmpT (fnT (mt 7) (fnT (mt 8) (mt 7))) (fnT (mt 7) (fnT (mt 8) (mt 7))) == 0) = true from by simp [cmpT_zero]]
  conv => whnf
  refine ⟨⟨⟨rfl, rfl, rfl, rfl, rfl, trivial⟩, ⟨rfl, rfl, rfl, rfl, trivial⟩, held2⟩, ?_⟩
  conv => whnf
  refine ⟨fun _ => ?_, nofun⟩
  conv => whnf
  refine ⟨gf18, fun w8 hw8 => scalK (atLeast_calls p25 w8 ⟨1, fnT (gn 0) (gn 0)⟩ ⟨0, fnT it it⟩ _ _ ⟨A7, c7, rfl, h71, h72, (hv7.opn').to hw8.same (fun _ h _ => h)⟩ ⟨A8, c8, rfl, h81, h82, (hv8.opn').to hw8.same (fun _ h _ => h)⟩ (by decide) (by decide)) hw8 ?_⟩
  rw [alive4]
  conv => whnf
  refine ⟨⟨⟨rfl, rfl, rfl, rfl, rfl, trivial⟩, ⟨rfl, rfl, rfl, rfl, trivial⟩, held2⟩, ?_⟩
  conv => whnf
  refine ⟨fun _ => ?_, nofun⟩
  conv => whnf
  refine ⟨gf18, fun w8 hw8 => scalK (atLeast_calls p25 w8 ⟨0, fnT it it⟩ ⟨1, fnT (gn 0) (gn 0)⟩ _ _ ⟨A8, c8, rfl, h81, h82, (hv8.opn').to hw8.same (fun _ h _ => h)⟩ ⟨A7, c7, rfl, h71, h72, (hv7.opn').to hw8.same (fun _ h _ => h)⟩ (by decide) (by decide)) hw8 ?_⟩
  rw [alive5]
  conv => whnf
  refine ⟨⟨⟨rfl, rfl, rfl, rfl, rfl, trivial⟩, ⟨rfl, rfl, rfl, rfl, trivial⟩, held2⟩, ?_⟩
  conv => whnf
  intro w9 hw9
  exact ⟨rfl, hw9.bel⟩
end Go.Proofs.Ytonhlccjfbfkcaa.Vm

