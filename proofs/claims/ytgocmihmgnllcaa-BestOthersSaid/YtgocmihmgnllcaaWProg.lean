/-
  What every walk of this program needs.
-/
import Derived.Test.YtgocmihmgnllcaaJq
import Derived.Test.YtgocmihmgnllcaaRows
namespace Go.Proofs.Ytgocmihmgnllcaa
set_option linter.unusedSimpArgs false
set_option linter.unusedVariables false
open Go.RowKit Go.Pm
theorem mixed : Try.prog.follows .mixedOrders = true := Checked.mixed Try.checked
def etab : List (Nat × (TypeId × Nat × Nat)) := [(22, (39, 17, 136)), (25, (3, 1, 8)), (33, (44, 2, 32)), (34, (31, 1, 4)), (35, (54, 2, 32)), (46, (48, 18, 144)), (52, (5, 1, 1))]
theorem etab_ok : tabOkE Try.prog etab = true := by decide +kernel
def ftab : List (Nat × List (Nat × Nat × Bool)) := [(7, [(0, 1, false), (1, 1, false), (2, 1, false), (3, 1, false)]), (8, [(0, 1, false), (1, 1, false), (2, 1, false), (3, 1, false)]), (13, [(0, 1, false), (1, 1, false)]), (14, [(0, 1, false), (1, 1, false)]), (18, [(0, 1, false)]), (19, [(0, 1, false)]), (36, [(0, 1, false), (1, 1, false), (2, 1, false), (3, 1, false), (4, 1, false), (5, 1, false), (6, 1, false), (7, 1, false), (8, 1, false), (9, 1, false), (10, 1, false), (11, 1, false), (12, 1, false)]), (37, [(0, 1, false), (1, 1, false), (2, 1, false), (3, 1, false), (4, 1, false), (5, 1, false), (6, 1, false), (7, 1, false), (8, 1, false), (9, 1, false), (10, 1, false), (11, 1, false), (12, 1, false)]), (38, [(0, 1, false), (1, 1, false), (2, 1, false), (3, 1, false), (4, 13, true)]), (39, [(0, 1, false), (1, 1, false), (2, 1, false), (3, 1, false), (4, 13, true)]), (43, [(0, 1, false), (1, 1, false)]), (44, [(0, 1, false), (1, 1, false)]), (47, [(0, 17, true), (17, 1, false)]), (48, [(0, 17, true), (17, 1, false)]), (53, [(0, 1, false), (1, 1, false)]), (54, [(0, 1, false), (1, 1, false)]), (71, [(0, 1, false), (1, 1, false), (2, 1, false), (3, 1, false)]), (72, [(0, 1, false), (1, 1, false), (2, 1, false), (3, 1, false)]), (74, [(0, 0, true)]), (75, [(0, 0, true)]), (82, [(0, 1, false), (1, 1, false), (2, 1, false), (3, 1, false), (4, 1, false), (5, 1, false), (6, 1, false), (7, 1, false), (8, 1, false), (9, 1, false), (10, 1, false)]), (83, [(0, 1, false), (1, 1, false), (2, 1, false), (3, 1, false), (4, 1, false), (5, 1, false), (6, 1, false), (7, 1, false), (8, 1, false), (9, 1, false), (10, 1, false)])]
theorem ftab_ok : tabOkF Try.prog ftab = true := by decide +kernel
def stab : List (Nat × Nat) := [(0, 1), (1, 1), (2, 1), (3, 1), (4, 1), (5, 1), (6, 1), (7, 4), (8, 4), (9, 1), (10, 1), (11, 1), (12, 1), (13, 2), (14, 2), (15, 1), (16, 1), (17, 1), (18, 1), (19, 1), (20, 1), (21, 1), (22, 1), (23, 1), (24, 1), (25, 1), (26, 1), (27, 1), (28, 1), (29, 1), (30, 1), (31, 1), (32, 1), (33, 1), (34, 1), (35, 1), (36, 13), (37, 13), (38, 17), (39, 17), (40, 1), (41, 1), (42, 1), (43, 2), (44, 2), (45, 1), (46, 1), (47, 18), (48, 18), (49, 1), (50, 1), (51, 1), (52, 1), (53, 2), (54, 2), (55, 1), (56, 1), (57, 1), (58, 1), (59, 1), (60, 1), (61, 1), (62, 1), (63, 1), (64, 1), (65, 1), (66, 1), (67, 1), (68, 1), (69, 1), (70, 1), (71, 4), (72, 4), (73, 0), (74, 0), (75, 0), (76, 1), (77, 1), (78, 1), (79, 1), (80, 1), (81, 1), (82, 11), (83, 11), (84, 1)]
theorem stab_ok : tabOkS Try.prog stab = true := by decide +kernel
def atab : List (Nat × (Nat × Nat × Bool)) := [(73, (0, 1, false))]
theorem atab_ok : tabOkA Try.prog atab = true := by decide +kernel
def mtab : List (Nat × (IntKind × Value)) := [(64, (.u32, .int .i64 0))]
theorem mtab_ok : tabOkM Try.prog mtab := by unfold tabOkM mtab; repeat (first | exact .nil | refine .cons (by kernel_rfl) ?_)
end Go.Proofs.Ytgocmihmgnllcaa
