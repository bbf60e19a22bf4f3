/-
  WProg, Tq1, Tq2, Tq3, Tq4, Tq5, Tq6, Tq7, Tq8, Tq9: merged.
-/
import Derived.Test.YtnhabkipjmgaaaaGreatZRibVoid2
import Derived.Test.YtnhabkipjmgaaaaGreatRows
namespace Go.Proofs.YtnhabkipjmgaaaaGreat
set_option linter.unusedSimpArgs false
set_option linter.unusedVariables false
open Go.RowKit Go.Pm
theorem mixed : Tryz.prog.follows .mixedOrders = true := Checked.mixed Tryz.checked
def etab : List (Nat × (TypeId × Nat × Nat)) := [(22, (41, 2, 16)), (23, (135, 2, 32)), (26, (24, 1, 4)), (27, (104, 2, 32)), (50, (52, 17, 176)), (66, (108, 16, 136)), (102, (5, 1, 1)), (165, (193, 3, 24)), (196, (102, 1, 24))]
theorem etab_ok : tabOkE Tryz.prog etab = true := by decide +kernel
def ftab : List (Nat × List (Nat × Nat × Bool)) := [(7, [(0, 1, false), (1, 1, false), (2, 1, false), (3, 1, false)]), (8, [(0, 1, false), (1, 1, false), (2, 1, false), (3, 1, false)]), (13, [(0, 1, false), (1, 1, false)]), (14, [(0, 1, false), (1, 1, false)]), (18, [(0, 1, false)]), (19, [(0, 1, false)]), (28, [(0, 1, false), (1, 1, false), (2, 1, false), (3, 1, false), (4, 1, false), (5, 1, false), (6, 1, false), (7, 1, false), (8, 1, false), (9, 1, false), (10, 1, false), (11, 1, false), (12, 1, false)]), (29, [(0, 1, false), (1, 1, false), (2, 1, false), (3, 1, false), (4, 1, false), (5, 1, false), (6, 1, false), (7, 1, false), (8, 1, false), (9, 1, false), (10, 1, false), (11, 1, false), (12, 1, false)]), (30, [(0, 1, false), (1, 1, false), (2, 13, true), (15, 1, false)]), (31, [(0, 1, false), (1, 1, false), (2, 13, true), (15, 1, false)]), (40, [(0, 1, false), (1, 1, false)]), (41, [(0, 1, false), (1, 1, false)]), (51, [(0, 1, false), (1, 16, true)]), (52, [(0, 1, false), (1, 16, true)]), (67, [(0, 1, false), (1, 1, false)]), (68, [(0, 1, false), (1, 1, false)]), (71, [(0, 1, false), (1, 1, false), (2, 1, false)]), (72, [(0, 1, false), (1, 1, false), (2, 1, false)]), (75, [(0, 1, false), (1, 1, false), (2, 1, false)]), (76, [(0, 1, false), (1, 1, false), (2, 1, false)]), (81, [(0, 1, false), (1, 1, false)]), (82, [(0, 1, false), (1, 1, false)]), (103, [(0, 1, false), (1, 1, false)]), (104, [(0, 1, false), (1, 1, false)]), (107, [(0, 2, true), (2, 13, true), (15, 1, false)]), (108, [(0, 2, true), (2, 13, true), (15, 1, false)]), (113, [(0, 13, true), (13, 1, false), (14, 1, false)]), (114, [(0, 13, true), (13, 1, false), (14, 1, false)]), (116, [(0, 1, false), (1, 1, false), (2, 1, false)]), (117, [(0, 1, false), (1, 1, false), (2, 1, false)]), (130, [(0, 2, true), (2, 1, false), (3, 2, true), (5, 2, true)]), (131, [(0, 2, true), (2, 1, false), (3, 2, true), (5, 2, true)]), (134, [(0, 1, false), (1, 1, false)]), (135, [(0, 1, false), (1, 1, false)]), (166, [(0, 1, false)]), (167, [(0, 1, false)]), (175, [(0, 1, false)]), (176, [(0, 1, false)]), (192, [(0, 2, true), (2, 1, false)]), (193, [(0, 2, true), (2, 1, false)]), (210, [(0, 1, false), (1, 1, false), (2, 1, false), (3, 1, false)]), (211, [(0, 1, false), (1, 1, false), (2, 1, false), (3, 1, false)]), (213, [(0, 0, true)]), (214, [(0, 0, true)]), (221, [(0, 1, false), (1, 1, false), (2, 1, false), (3, 1, false), (4, 1, false), (5, 1, false), (6, 1, false), (7, 1, false), (8, 1, false), (9, 1, false), (10, 1, false)]), (222, [(0, 1, false), (1, 1, false), (2, 1, false), (3, 1, false), (4, 1, false), (5, 1, false), (6, 1, false), (7, 1, false), (8, 1, false), (9, 1, false), (10, 1, false)])]
theorem ftab_ok : tabOkF Tryz.prog ftab = true := by decide +kernel
def stab : List (Nat × Nat) := [(0, 1), (1, 1), (2, 1), (3, 1), (4, 1), (5, 1), (6, 1), (7, 4), (8, 4), (9, 1), (10, 1), (11, 1), (12, 1), (13, 2), (14, 2), (15, 1), (16, 1), (17, 1), (18, 1), (19, 1), (20, 1), (21, 1), (22, 1), (23, 1), (24, 1), (25, 1), (26, 1), (27, 1), (28, 13), (29, 13), (30, 16), (31, 16), (32, 1), (33, 1), (34, 1), (35, 1), (36, 1), (37, 1), (38, 1), (39, 1), (40, 2), (41, 2), (42, 1), (43, 1), (44, 1), (45, 1), (46, 1), (47, 1), (48, 1), (49, 1), (50, 1), (51, 17), (52, 17), (53, 1), (54, 1), (55, 1), (56, 1), (57, 1), (58, 1), (59, 1), (60, 1), (61, 1), (62, 1), (63, 1), (64, 1), (65, 1), (66, 1), (67, 2), (68, 2), (69, 1), (70, 1), (71, 3), (72, 3), (73, 1), (74, 1), (75, 3), (76, 3), (77, 1), (78, 1), (79, 1), (80, 1), (81, 2), (82, 2), (83, 1), (84, 1), (85, 1), (86, 1), (87, 1), (88, 1), (89, 1), (90, 1), (91, 1), (92, 1), (93, 1), (94, 1), (95, 1), (96, 1), (97, 1), (98, 1), (99, 1), (100, 1), (101, 1), (102, 1), (103, 2), (104, 2), (105, 1), (106, 1), (107, 16), (108, 16), (109, 1), (110, 1), (111, 1), (112, 1), (113, 15), (114, 15), (115, 1), (116, 3), (117, 3), (118, 1), (119, 1), (120, 1), (121, 1), (122, 1), (123, 1), (124, 1), (125, 1), (126, 1), (127, 1), (128, 1), (129, 2), (130, 7), (131, 7), (132, 1), (133, 1), (134, 2), (135, 2), (136, 1), (137, 1), (138, 1), (139, 1), (140, 1), (141, 1), (142, 1), (143, 1), (144, 1), (145, 1), (146, 1), (147, 1), (148, 1), (149, 1), (150, 1), (151, 1), (152, 1), (153, 1), (154, 1), (155, 1), (156, 1), (157, 1), (158, 1), (159, 1), (160, 1), (161, 1), (162, 1), (163, 1), (164, 1), (165, 1), (166, 1), (167, 1), (168, 1), (169, 1), (170, 1), (171, 1), (172, 1), (173, 1), (174, 1), (175, 1), (176, 1), (177, 1), (178, 1), (179, 1), (180, 1), (181, 1), (182, 1), (183, 1), (184, 1), (185, 1), (186, 1), (187, 1), (188, 1), (189, 1), (190, 1), (191, 1), (192, 3), (193, 3), (194, 1), (195, 1), (196, 1), (197, 1), (198, 1), (199, 1), (200, 1), (201, 1), (202, 1), (203, 1), (204, 1), (205, 1), (206, 1), (207, 1), (208, 1), (209, 1), (210, 4), (211, 4), (212, 0), (213, 0), (214, 0), (215, 1), (216, 1), (217, 1), (218, 1), (219, 1), (220, 1), (221, 11), (222, 11), (223, 1)]
theorem stab_ok : tabOkS Tryz.prog stab = true := by decide +kernel
def atab : List (Nat × (Nat × Nat × Bool)) := [(129, (2, 1, false)), (212, (0, 1, false))]
theorem atab_ok : tabOkA Tryz.prog atab = true := by decide +kernel
def mtab : List (Nat × (IntKind × Value)) := [(74, (.i64, .pointer none))]
theorem mtab_ok : tabOkM Tryz.prog mtab := by unfold tabOkM mtab; repeat (first | exact .nil | refine .cons (by kernel_rfl) ?_)
theorem p_move {p : Prop} (h : p := by first | exact pe_move xR | fail) : p := h
theorem p_assign {p : Prop} (h : p := by first | exact pe_assign xR | fail) : p := h
theorem p_nilCheck {p : Prop} (h : p := by first | exact pe_nilP xR | exact pe_nilF xR | fail) : p := h
theorem p_fieldAddr {p : Prop} (h : p := by first | exact pe_fa xR (tabF ftab_ok xR) | exact pe_faE xR (tabF ftab_ok xR) | fail) : p := h
theorem p_extract {p : Prop} (h : p := by first | exact pe_extract xR xR | fail) : p := h
theorem p_c_len {p : Prop} (h : p := by first | exact pe_len xR xR | fail) : p := h
theorem p_c_cap {p : Prop} (h : p := by first | exact pe_cap xR xR | fail) : p := h
theorem p_c_min {p : Prop} (h : p := by first | exact pe_min xR xR | fail) : p := h
theorem p_c_max {p : Prop} (h : p := by first | exact pe_max xR xR | fail) : p := h
theorem p_pick {p : Prop} (h : p := by first | exact pe_pickT xR xR | exact pe_pickF xR xR | fail) : p := h
theorem p_bin_eql {p : Prop} (h : p := by first | exact pe_eql xR xR | exact pe_eqS xR xR xR | exact pe_eqP xR xR xR | exact pe_eqB xR xR xR | exact pe_eq2 xR xR xC | fail) : p := h
theorem p_bin_neq {p : Prop} (h : p := by first | exact pe_neq xR xR | exact pe_ne2 xR xR xC | exact pe_neS xR xR xR | exact pe_neP xR xR xR | exact pe_neB xR xR xR | fail) : p := h
theorem p_bin_lss {p : Prop} (h : p := by first | exact pe_lss xR xR | fail) : p := h
theorem p_bin_leq {p : Prop} (h : p := by first | exact pe_leq xR xR | fail) : p := h
theorem p_bin_gtr {p : Prop} (h : p := by first | exact pe_gtr xR xR | fail) : p := h
theorem p_bin_geq {p : Prop} (h : p := by first | exact pe_geq xR xR | fail) : p := h
theorem p_index {p : Prop} (h : p := by first | exact pe_indexA xR xR (tabA atab_ok xR) xI xO xR | fail) : p := h
theorem p_un_not {p : Prop} (h : p := by first | exact pe_notT xR | exact pe_notF xR | exact pe_notD xR | exact pe_notB xR | fail) : p := h
theorem p_field {p : Prop} (h : p := by first | exact pe_fieldC xR (tabF ftab_ok xR) xR | exact pe_fieldR xR (tabF ftab_ok xR) xG | fail) : p := h
theorem p_build {p : Prop} (h : p := by first | exact pe_build xR xN xK | fail) : p := h
theorem p_makeFunc {p : Prop} (h : p := by first | exact pe_func xR xR | fail) : p := h
theorem p_bin_rem {p : Prop} (h : p := by first | exact pe_rem xR xR xO xO | fail) : p := h
theorem p_bin_shr {p : Prop} (h : p := by first | exact pe_shr xR xR xI (by decide) | fail) : p := h
theorem p_bin_and {p : Prop} (h : p := by first | exact pe_and xR xR rfl | fail) : p := h
theorem p_bin_or {p : Prop} (h : p := by first | exact pe_or xR xR rfl | fail) : p := h
theorem p_bin_xor {p : Prop} (h : p := by first | exact pe_xor xR xR rfl | fail) : p := h
theorem p_bin_andNot {p : Prop} (h : p := by first | exact pe_andNot xR xR rfl | fail) : p := h
theorem p_load {p : Prop} (h : p := by first | exact pe_ld xR xT xC xR | exact pe_ldW xR xT xW | exact pe_ldS xR xT (tabS stab_ok xR) xG xC | exact pe_ldK xR xH xC | exact pe_ldKC xR xH xR xC | exact pe_ldKS xR xH (tabS stab_ok xR) xG xC | exact pe_el xR xV xL xR xC xH | exact pe_elC xR xV xL xR xC xH xR | exact pe_elF xR xV xL xR xC xH xR | exact pe_elS xR xV xL xR (tabS stab_ok xR) xH xG xC | fail) : p := h
theorem p_slice {p : Prop} (h : p := by first | exact pe_sl0 xR (tabE etab_ok xR) (by first | exact rfl | exact ⟨_, _, by rfl, xI⟩) xO xO | exact pe_sl xR (tabE etab_ok xR) (by first | exact rfl | exact ⟨_, _, by rfl, xI⟩) (by first | exact rfl | exact ⟨_, _, by rfl, xI⟩) xO xO | fail) : p := h
theorem p_indexAddr {p : Prop} (h : p := by first | exact pe_ixL xR xR (tabE etab_ok xR) xI xO | exact pe_ix xR xR (tabE etab_ok xR) xV xI xO | exact pe_ixA xR xR (tabA atab_ok xR) xI xO | fail) : p := h
theorem p_bin_add_i64 {p : Prop} (h : p := by first | exact pe_add xR xR (w_i64 xO xO) | fail) : p := h
theorem p_bin_sub_i64 {p : Prop} (h : p := by first | exact pe_sub xR xR (w_i64 xO xO) | fail) : p := h
theorem p_bin_mul_i64 {p : Prop} (h : p := by first | exact pe_mul xR xR (w_i64 xO xO) | fail) : p := h
theorem p_un_neg_i64 {p : Prop} (h : p := by first | exact pe_neg xR (w_i64 xO xO) | fail) : p := h
theorem p_convert_i64 {p : Prop} (h : p := by first | exact pe_conv xR xR xR (w_i64 xO xO) | fail) : p := h
theorem p_bin_quo_i64 {p : Prop} (h : p := by first | exact pe_quo xR xR xO xO (w_i64 xO xO) | fail) : p := h
theorem p_bin_shl_i64 {p : Prop} (h : p := by first | exact pe_shl xR xR xI (by decide) (w_i64 xO xO) | fail) : p := h
theorem p_bin_add_u32 {p : Prop} (h : p := by first | exact pe_add xR xR (w_u32 xO xO) | exact pe_add xR xR m_u32 | fail) : p := h
theorem p_bin_sub_u32 {p : Prop} (h : p := by first | exact pe_sub xR xR (w_u32 xO xO) | exact pe_sub xR xR m_u32 | fail) : p := h
theorem p_bin_mul_u32 {p : Prop} (h : p := by first | exact pe_mul xR xR (w_u32 xO xO) | exact pe_mul xR xR m_u32 | fail) : p := h
theorem p_un_neg_u32 {p : Prop} (h : p := by first | exact pe_neg xR (w_u32 xO xO) | exact pe_neg xR m_u32 | fail) : p := h
theorem p_convert_u32 {p : Prop} (h : p := by first | exact pe_conv xR xR xR (w_u32 xO xO) | exact pe_conv xR xR xR m_u32 | fail) : p := h
theorem p_bin_quo_u32 {p : Prop} (h : p := by first | exact pe_quo xR xR xO xO (w_u32 xO xO) | exact pe_quo xR xR xO xO m_u32 | fail) : p := h
theorem p_bin_shl_u32 {p : Prop} (h : p := by first | exact pe_shl xR xR xI (by decide) (w_u32 xO xO) | exact pe_shl xR xR xI (by decide) m_u32 | fail) : p := h
theorem p_bin_add_u16 {p : Prop} (h : p := by first | exact pe_add xR xR (w_u16 xO xO) | exact pe_add xR xR m_u16 | fail) : p := h
theorem p_bin_sub_u16 {p : Prop} (h : p := by first | exact pe_sub xR xR (w_u16 xO xO) | exact pe_sub xR xR m_u16 | fail) : p := h
theorem p_bin_mul_u16 {p : Prop} (h : p := by first | exact pe_mul xR xR (w_u16 xO xO) | exact pe_mul xR xR m_u16 | fail) : p := h
theorem p_un_neg_u16 {p : Prop} (h : p := by first | exact pe_neg xR (w_u16 xO xO) | exact pe_neg xR m_u16 | fail) : p := h
theorem p_convert_u16 {p : Prop} (h : p := by first | exact pe_conv xR xR xR (w_u16 xO xO) | exact pe_conv xR xR xR m_u16 | fail) : p := h
theorem p_bin_quo_u16 {p : Prop} (h : p := by first | exact pe_quo xR xR xO xO (w_u16 xO xO) | exact pe_quo xR xR xO xO m_u16 | fail) : p := h
theorem p_bin_shl_u16 {p : Prop} (h : p := by first | exact pe_shl xR xR xI (by decide) (w_u16 xO xO) | exact pe_shl xR xR xI (by decide) m_u16 | fail) : p := h
theorem p_bin_add_u8 {p : Prop} (h : p := by first | exact pe_add xR xR (w_u8 xO xO) | exact pe_add xR xR m_u8 | fail) : p := h
theorem p_bin_sub_u8 {p : Prop} (h : p := by first | exact pe_sub xR xR (w_u8 xO xO) | exact pe_sub xR xR m_u8 | fail) : p := h
theorem p_bin_mul_u8 {p : Prop} (h : p := by first | exact pe_mul xR xR (w_u8 xO xO) | exact pe_mul xR xR m_u8 | fail) : p := h
theorem p_un_neg_u8 {p : Prop} (h : p := by first | exact pe_neg xR (w_u8 xO xO) | exact pe_neg xR m_u8 | fail) : p := h
theorem p_convert_u8 {p : Prop} (h : p := by first | exact pe_conv xR xR xR (w_u8 xO xO) | exact pe_conv xR xR xR m_u8 | fail) : p := h
theorem p_bin_quo_u8 {p : Prop} (h : p := by first | exact pe_quo xR xR xO xO (w_u8 xO xO) | exact pe_quo xR xR xO xO m_u8 | fail) : p := h
theorem p_bin_shl_u8 {p : Prop} (h : p := by first | exact pe_shl xR xR xI (by decide) (w_u8 xO xO) | exact pe_shl xR xR xI (by decide) m_u8 | fail) : p := h
theorem p_bin_add_u64 {p : Prop} (h : p := by first | exact pe_add xR xR (w_u64 xO xO) | exact pe_add xR xR m_u64 | fail) : p := h
theorem p_bin_sub_u64 {p : Prop} (h : p := by first | exact pe_sub xR xR (w_u64 xO xO) | exact pe_sub xR xR m_u64 | fail) : p := h
theorem p_bin_mul_u64 {p : Prop} (h : p := by first | exact pe_mul xR xR (w_u64 xO xO) | exact pe_mul xR xR m_u64 | fail) : p := h
theorem p_un_neg_u64 {p : Prop} (h : p := by first | exact pe_neg xR (w_u64 xO xO) | exact pe_neg xR m_u64 | fail) : p := h
theorem p_convert_u64 {p : Prop} (h : p := by first | exact pe_conv xR xR xR (w_u64 xO xO) | exact pe_conv xR xR xR m_u64 | fail) : p := h
theorem p_bin_quo_u64 {p : Prop} (h : p := by first | exact pe_quo xR xR xO xO (w_u64 xO xO) | exact pe_quo xR xR xO xO m_u64 | fail) : p := h
theorem p_bin_shl_u64 {p : Prop} (h : p := by first | exact pe_shl xR xR xI (by decide) (w_u64 xO xO) | exact pe_shl xR xR xI (by decide) m_u64 | fail) : p := h
theorem p_bin_add_r {p : Prop} (h : p := by first | exact pe_add xR xR rfl | fail) : p := h
theorem p_bin_sub_r {p : Prop} (h : p := by first | exact pe_sub xR xR rfl | fail) : p := h
theorem p_bin_mul_r {p : Prop} (h : p := by first | exact pe_mul xR xR rfl | fail) : p := h
theorem p_un_neg_r {p : Prop} (h : p := by first | exact pe_neg xR rfl | fail) : p := h
theorem p_convert_r {p : Prop} (h : p := by first | exact pe_conv xR xR xR rfl | fail) : p := h
theorem p_bin_quo_r {p : Prop} (h : p := by first | exact pe_quo xR xR xO xO rfl | fail) : p := h
theorem p_bin_shl_r {p : Prop} (h : p := by first | exact pe_shl xR xR xI (by decide) rfl | fail) : p := h
section
variable {P : Program} {n : Nat} {W : World} {K : Hl} {F : Fp} {k : List It} {tm : TM} {L S M : List HP} {T : TypeId} {pos : String} {af : Array Edge} {gd : Option (Nat × Bool)} {ops : Array Oper} {rest nx : List Oper} {d : Tmp} {v : Value}
theorem L_move {x : Operand} (h : JL P n W K F ops k rest ((d, v) :: tm) L) (hp : PE P K L ⟨some d, .move x, T, pos, af, gd⟩ (tget tm) v := by exact p_move) (hn : Nat.blt d n = true := by rfl) (hg : wantF ops ⟨some d, .move x, T, pos, af, gd⟩ (tget tm) = some true := by rfl) : JL P n W K F ops k (⟨some d, .move x, T, pos, af, gd⟩ :: rest) tm L := JL_p rfl hn hg hp h
theorem D_move {x : Operand} (h : JD P n W K F ops k nx rest ((d, v) :: tm) S M) (hp : PE P K S ⟨some d, .move x, T, pos, af, gd⟩ (tget tm) v := by exact p_move) (hg : wantF ops ⟨some d, .move x, T, pos, af, gd⟩ (tget tm) = some true := by rfl) : JD P n W K F ops k nx (⟨some d, .move x, T, pos, af, gd⟩ :: rest) tm S M := JD_p rfl hg rfl hp h
theorem L_assign {x : Operand} (h : JL P n W K F ops k rest ((d, v) :: tm) L) (hp : PE P K L ⟨some d, .assign x, T, pos, af, gd⟩ (tget tm) v := by exact p_assign) (hn : Nat.blt d n = true := by rfl) (hg : wantF ops ⟨some d, .assign x, T, pos, af, gd⟩ (tget tm) = some true := by rfl) : JL P n W K F ops k (⟨some d, .assign x, T, pos, af, gd⟩ :: rest) tm L := JL_p rfl hn hg hp h
theorem D_assign {x : Operand} (h : JD P n W K F ops k nx rest ((d, v) :: tm) S M) (hp : PE P K S ⟨some d, .assign x, T, pos, af, gd⟩ (tget tm) v := by exact p_assign) (hg : wantF ops ⟨some d, .assign x, T, pos, af, gd⟩ (tget tm) = some true := by rfl) : JD P n W K F ops k nx (⟨some d, .assign x, T, pos, af, gd⟩ :: rest) tm S M := JD_p rfl hg rfl hp h
theorem L_nilCheck {x : Operand} (h : JL P n W K F ops k rest ((d, v) :: tm) L) (hp : PE P K L ⟨some d, .nilCheck x, T, pos, af, gd⟩ (tget tm) v := by exact p_nilCheck) (hn : Nat.blt d n = true := by rfl) (hg : wantF ops ⟨some d, .nilCheck x, T, pos, af, gd⟩ (tget tm) = some true := by rfl) : JL P n W K F ops k (⟨some d, .nilCheck x, T, pos, af, gd⟩ :: rest) tm L := JL_p rfl hn hg hp h
theorem D_nilCheck {x : Operand} (h : JD P n W K F ops k nx rest ((d, v) :: tm) S M) (hp : PE P K S ⟨some d, .nilCheck x, T, pos, af, gd⟩ (tget tm) v := by exact p_nilCheck) (hg : wantF ops ⟨some d, .nilCheck x, T, pos, af, gd⟩ (tget tm) = some true := by rfl) : JD P n W K F ops k nx (⟨some d, .nilCheck x, T, pos, af, gd⟩ :: rest) tm S M := JD_p rfl hg rfl hp h
theorem L_fieldAddr {t : TypeId} {x : Operand} {f : Nat} (h : JL P n W K F ops k rest ((d, v) :: tm) L) (hp : PE P K L ⟨some d, .fieldAddr t x f, T, pos, af, gd⟩ (tget tm) v := by exact p_fieldAddr) (hn : Nat.blt d n = true := by rfl) (hg : wantF ops ⟨some d, .fieldAddr t x f, T, pos, af, gd⟩ (tget tm) = some true := by rfl) : JL P n W K F ops k (⟨some d, .fieldAddr t x f, T, pos, af, gd⟩ :: rest) tm L := JL_p rfl hn hg hp h
theorem D_fieldAddr {t : TypeId} {x : Operand} {f : Nat} (h : JD P n W K F ops k nx rest ((d, v) :: tm) S M) (hp : PE P K S ⟨some d, .fieldAddr t x f, T, pos, af, gd⟩ (tget tm) v := by exact p_fieldAddr) (hg : wantF ops ⟨some d, .fieldAddr t x f, T, pos, af, gd⟩ (tget tm) = some true := by rfl) : JD P n W K F ops k nx (⟨some d, .fieldAddr t x f, T, pos, af, gd⟩ :: rest) tm S M := JD_p rfl hg rfl hp h
theorem L_extract {x : Operand} {i : Nat} (h : JL P n W K F ops k rest ((d, v) :: tm) L) (hp : PE P K L ⟨some d, .extract x i, T, pos, af, gd⟩ (tget tm) v := by exact p_extract) (hn : Nat.blt d n = true := by rfl) (hg : wantF ops ⟨some d, .extract x i, T, pos, af, gd⟩ (tget tm) = some true := by rfl) : JL P n W K F ops k (⟨some d, .extract x i, T, pos, af, gd⟩ :: rest) tm L := JL_p rfl hn hg hp h
theorem D_extract {x : Operand} {i : Nat} (h : JD P n W K F ops k nx rest ((d, v) :: tm) S M) (hp : PE P K S ⟨some d, .extract x i, T, pos, af, gd⟩ (tget tm) v := by exact p_extract) (hg : wantF ops ⟨some d, .extract x i, T, pos, af, gd⟩ (tget tm) = some true := by rfl) : JD P n W K F ops k nx (⟨some d, .extract x i, T, pos, af, gd⟩ :: rest) tm S M := JD_p rfl hg rfl hp h
theorem L_c_len {xs : Array Operand} {ts : Array TypeId} (h : JL P n W K F ops k rest ((d, v) :: tm) L) (hp : PE P K L ⟨some d, .call ⟨.builtin .len, xs, ts⟩, T, pos, af, gd⟩ (tget tm) v := by exact p_c_len) (hn : Nat.blt d n = true := by rfl) (hg : wantF ops ⟨some d, .call ⟨.builtin .len, xs, ts⟩, T, pos, af, gd⟩ (tget tm) = some true := by rfl) : JL P n W K F ops k (⟨some d, .call ⟨.builtin .len, xs, ts⟩, T, pos, af, gd⟩ :: rest) tm L := JL_p rfl hn hg hp h
theorem D_c_len {xs : Array Operand} {ts : Array TypeId} (h : JD P n W K F ops k nx rest ((d, v) :: tm) S M) (hp : PE P K S ⟨some d, .call ⟨.builtin .len, xs, ts⟩, T, pos, af, gd⟩ (tget tm) v := by exact p_c_len) (hg : wantF ops ⟨some d, .call ⟨.builtin .len, xs, ts⟩, T, pos, af, gd⟩ (tget tm) = some true := by rfl) : JD P n W K F ops k nx (⟨some d, .call ⟨.builtin .len, xs, ts⟩, T, pos, af, gd⟩ :: rest) tm S M := JD_p rfl hg rfl hp h
theorem L_c_cap {xs : Array Operand} {ts : Array TypeId} (h : JL P n W K F ops k rest ((d, v) :: tm) L) (hp : PE P K L ⟨some d, .call ⟨.builtin .cap, xs, ts⟩, T, pos, af, gd⟩ (tget tm) v := by exact p_c_cap) (hn : Nat.blt d n = true := by rfl) (hg : wantF ops ⟨some d, .call ⟨.builtin .cap, xs, ts⟩, T, pos, af, gd⟩ (tget tm) = some true := by rfl) : JL P n W K F ops k (⟨some d, .call ⟨.builtin .cap, xs, ts⟩, T, pos, af, gd⟩ :: rest) tm L := JL_p rfl hn hg hp h
theorem D_c_cap {xs : Array Operand} {ts : Array TypeId} (h : JD P n W K F ops k nx rest ((d, v) :: tm) S M) (hp : PE P K S ⟨some d, .call ⟨.builtin .cap, xs, ts⟩, T, pos, af, gd⟩ (tget tm) v := by exact p_c_cap) (hg : wantF ops ⟨some d, .call ⟨.builtin .cap, xs, ts⟩, T, pos, af, gd⟩ (tget tm) = some true := by rfl) : JD P n W K F ops k nx (⟨some d, .call ⟨.builtin .cap, xs, ts⟩, T, pos, af, gd⟩ :: rest) tm S M := JD_p rfl hg rfl hp h
theorem L_c_min {xs : Array Operand} {ts : Array TypeId} (h : JL P n W K F ops k rest ((d, v) :: tm) L) (hp : PE P K L ⟨some d, .call ⟨.builtin .min, xs, ts⟩, T, pos, af, gd⟩ (tget tm) v := by exact p_c_min) (hn : Nat.blt d n = true := by rfl) (hg : wantF ops ⟨some d, .call ⟨.builtin .min, xs, ts⟩, T, pos, af, gd⟩ (tget tm) = some true := by rfl) : JL P n W K F ops k (⟨some d, .call ⟨.builtin .min, xs, ts⟩, T, pos, af, gd⟩ :: rest) tm L := JL_p rfl hn hg hp h
theorem D_c_min {xs : Array Operand} {ts : Array TypeId} (h : JD P n W K F ops k nx rest ((d, v) :: tm) S M) (hp : PE P K S ⟨some d, .call ⟨.builtin .min, xs, ts⟩, T, pos, af, gd⟩ (tget tm) v := by exact p_c_min) (hg : wantF ops ⟨some d, .call ⟨.builtin .min, xs, ts⟩, T, pos, af, gd⟩ (tget tm) = some true := by rfl) : JD P n W K F ops k nx (⟨some d, .call ⟨.builtin .min, xs, ts⟩, T, pos, af, gd⟩ :: rest) tm S M := JD_p rfl hg rfl hp h
theorem L_c_max {xs : Array Operand} {ts : Array TypeId} (h : JL P n W K F ops k rest ((d, v) :: tm) L) (hp : PE P K L ⟨some d, .call ⟨.builtin .max, xs, ts⟩, T, pos, af, gd⟩ (tget tm) v := by exact p_c_max) (hn : Nat.blt d n = true := by rfl) (hg : wantF ops ⟨some d, .call ⟨.builtin .max, xs, ts⟩, T, pos, af, gd⟩ (tget tm) = some true := by rfl) : JL P n W K F ops k (⟨some d, .call ⟨.builtin .max, xs, ts⟩, T, pos, af, gd⟩ :: rest) tm L := JL_p rfl hn hg hp h
theorem D_c_max {xs : Array Operand} {ts : Array TypeId} (h : JD P n W K F ops k nx rest ((d, v) :: tm) S M) (hp : PE P K S ⟨some d, .call ⟨.builtin .max, xs, ts⟩, T, pos, af, gd⟩ (tget tm) v := by exact p_c_max) (hg : wantF ops ⟨some d, .call ⟨.builtin .max, xs, ts⟩, T, pos, af, gd⟩ (tget tm) = some true := by rfl) : JD P n W K F ops k nx (⟨some d, .call ⟨.builtin .max, xs, ts⟩, T, pos, af, gd⟩ :: rest) tm S M := JD_p rfl hg rfl hp h
theorem L_pick {c x y : Operand} (h : JL P n W K F ops k rest ((d, v) :: tm) L) (hp : PE P K L ⟨some d, .pick c x y, T, pos, af, gd⟩ (tget tm) v := by exact p_pick) (hn : Nat.blt d n = true := by rfl) (hg : wantF ops ⟨some d, .pick c x y, T, pos, af, gd⟩ (tget tm) = some true := by rfl) : JL P n W K F ops k (⟨some d, .pick c x y, T, pos, af, gd⟩ :: rest) tm L := JL_p rfl hn hg hp h
theorem D_pick {c x y : Operand} (h : JD P n W K F ops k nx rest ((d, v) :: tm) S M) (hp : PE P K S ⟨some d, .pick c x y, T, pos, af, gd⟩ (tget tm) v := by exact p_pick) (hg : wantF ops ⟨some d, .pick c x y, T, pos, af, gd⟩ (tget tm) = some true := by rfl) : JD P n W K F ops k nx (⟨some d, .pick c x y, T, pos, af, gd⟩ :: rest) tm S M := JD_p rfl hg rfl hp h
theorem L_bin_eql {t u : TypeId} {x y : Operand} (h : JL P n W K F ops k rest ((d, v) :: tm) L) (hp : PE P K L ⟨some d, .binOp .eql t x y u, T, pos, af, gd⟩ (tget tm) v := by exact p_bin_eql) (hn : Nat.blt d n = true := by rfl) (hg : wantF ops ⟨some d, .binOp .eql t x y u, T, pos, af, gd⟩ (tget tm) = some true := by rfl) : JL P n W K F ops k (⟨some d, .binOp .eql t x y u, T, pos, af, gd⟩ :: rest) tm L := JL_p rfl hn hg hp h
theorem D_bin_eql {t u : TypeId} {x y : Operand} (h : JD P n W K F ops k nx rest ((d, v) :: tm) S M) (hp : PE P K S ⟨some d, .binOp .eql t x y u, T, pos, af, gd⟩ (tget tm) v := by exact p_bin_eql) (hg : wantF ops ⟨some d, .binOp .eql t x y u, T, pos, af, gd⟩ (tget tm) = some true := by rfl) : JD P n W K F ops k nx (⟨some d, .binOp .eql t x y u, T, pos, af, gd⟩ :: rest) tm S M := JD_p rfl hg rfl hp h
theorem L_bin_neq {t u : TypeId} {x y : Operand} (h : JL P n W K F ops k rest ((d, v) :: tm) L) (hp : PE P K L ⟨some d, .binOp .neq t x y u, T, pos, af, gd⟩ (tget tm) v := by exact p_bin_neq) (hn : Nat.blt d n = true := by rfl) (hg : wantF ops ⟨some d, .binOp .neq t x y u, T, pos, af, gd⟩ (tget tm) = some true := by rfl) : JL P n W K F ops k (⟨some d, .binOp .neq t x y u, T, pos, af, gd⟩ :: rest) tm L := JL_p rfl hn hg hp h
theorem D_bin_neq {t u : TypeId} {x y : Operand} (h : JD P n W K F ops k nx rest ((d, v) :: tm) S M) (hp : PE P K S ⟨some d, .binOp .neq t x y u, T, pos, af, gd⟩ (tget tm) v := by exact p_bin_neq) (hg : wantF ops ⟨some d, .binOp .neq t x y u, T, pos, af, gd⟩ (tget tm) = some true := by rfl) : JD P n W K F ops k nx (⟨some d, .binOp .neq t x y u, T, pos, af, gd⟩ :: rest) tm S M := JD_p rfl hg rfl hp h
theorem L_bin_lss {t u : TypeId} {x y : Operand} (h : JL P n W K F ops k rest ((d, v) :: tm) L) (hp : PE P K L ⟨some d, .binOp .lss t x y u, T, pos, af, gd⟩ (tget tm) v := by exact p_bin_lss) (hn : Nat.blt d n = true := by rfl) (hg : wantF ops ⟨some d, .binOp .lss t x y u, T, pos, af, gd⟩ (tget tm) = some true := by rfl) : JL P n W K F ops k (⟨some d, .binOp .lss t x y u, T, pos, af, gd⟩ :: rest) tm L := JL_p rfl hn hg hp h
theorem D_bin_lss {t u : TypeId} {x y : Operand} (h : JD P n W K F ops k nx rest ((d, v) :: tm) S M) (hp : PE P K S ⟨some d, .binOp .lss t x y u, T, pos, af, gd⟩ (tget tm) v := by exact p_bin_lss) (hg : wantF ops ⟨some d, .binOp .lss t x y u, T, pos, af, gd⟩ (tget tm) = some true := by rfl) : JD P n W K F ops k nx (⟨some d, .binOp .lss t x y u, T, pos, af, gd⟩ :: rest) tm S M := JD_p rfl hg rfl hp h
theorem L_bin_leq {t u : TypeId} {x y : Operand} (h : JL P n W K F ops k rest ((d, v) :: tm) L) (hp : PE P K L ⟨some d, .binOp .leq t x y u, T, pos, af, gd⟩ (tget tm) v := by exact p_bin_leq) (hn : Nat.blt d n = true := by rfl) (hg : wantF ops ⟨some d, .binOp .leq t x y u, T, pos, af, gd⟩ (tget tm) = some true := by rfl) : JL P n W K F ops k (⟨some d, .binOp .leq t x y u, T, pos, af, gd⟩ :: rest) tm L := JL_p rfl hn hg hp h
theorem D_bin_leq {t u : TypeId} {x y : Operand} (h : JD P n W K F ops k nx rest ((d, v) :: tm) S M) (hp : PE P K S ⟨some d, .binOp .leq t x y u, T, pos, af, gd⟩ (tget tm) v := by exact p_bin_leq) (hg : wantF ops ⟨some d, .binOp .leq t x y u, T, pos, af, gd⟩ (tget tm) = some true := by rfl) : JD P n W K F ops k nx (⟨some d, .binOp .leq t x y u, T, pos, af, gd⟩ :: rest) tm S M := JD_p rfl hg rfl hp h
theorem L_bin_gtr {t u : TypeId} {x y : Operand} (h : JL P n W K F ops k rest ((d, v) :: tm) L) (hp : PE P K L ⟨some d, .binOp .gtr t x y u, T, pos, af, gd⟩ (tget tm) v := by exact p_bin_gtr) (hn : Nat.blt d n = true := by rfl) (hg : wantF ops ⟨some d, .binOp .gtr t x y u, T, pos, af, gd⟩ (tget tm) = some true := by rfl) : JL P n W K F ops k (⟨some d, .binOp .gtr t x y u, T, pos, af, gd⟩ :: rest) tm L := JL_p rfl hn hg hp h
theorem D_bin_gtr {t u : TypeId} {x y : Operand} (h : JD P n W K F ops k nx rest ((d, v) :: tm) S M) (hp : PE P K S ⟨some d, .binOp .gtr t x y u, T, pos, af, gd⟩ (tget tm) v := by exact p_bin_gtr) (hg : wantF ops ⟨some d, .binOp .gtr t x y u, T, pos, af, gd⟩ (tget tm) = some true := by rfl) : JD P n W K F ops k nx (⟨some d, .binOp .gtr t x y u, T, pos, af, gd⟩ :: rest) tm S M := JD_p rfl hg rfl hp h
theorem L_bin_geq {t u : TypeId} {x y : Operand} (h : JL P n W K F ops k rest ((d, v) :: tm) L) (hp : PE P K L ⟨some d, .binOp .geq t x y u, T, pos, af, gd⟩ (tget tm) v := by exact p_bin_geq) (hn : Nat.blt d n = true := by rfl) (hg : wantF ops ⟨some d, .binOp .geq t x y u, T, pos, af, gd⟩ (tget tm) = some true := by rfl) : JL P n W K F ops k (⟨some d, .binOp .geq t x y u, T, pos, af, gd⟩ :: rest) tm L := JL_p rfl hn hg hp h
theorem D_bin_geq {t u : TypeId} {x y : Operand} (h : JD P n W K F ops k nx rest ((d, v) :: tm) S M) (hp : PE P K S ⟨some d, .binOp .geq t x y u, T, pos, af, gd⟩ (tget tm) v := by exact p_bin_geq) (hg : wantF ops ⟨some d, .binOp .geq t x y u, T, pos, af, gd⟩ (tget tm) = some true := by rfl) : JD P n W K F ops k nx (⟨some d, .binOp .geq t x y u, T, pos, af, gd⟩ :: rest) tm S M := JD_p rfl hg rfl hp h
theorem L_index {t : TypeId} {x i : Operand} (h : JL P n W K F ops k rest ((d, v) :: tm) L) (hp : PE P K L ⟨some d, .index t x i, T, pos, af, gd⟩ (tget tm) v := by exact p_index) (hn : Nat.blt d n = true := by rfl) (hg : wantF ops ⟨some d, .index t x i, T, pos, af, gd⟩ (tget tm) = some true := by rfl) : JL P n W K F ops k (⟨some d, .index t x i, T, pos, af, gd⟩ :: rest) tm L := JL_p rfl hn hg hp h
theorem D_index {t : TypeId} {x i : Operand} (h : JD P n W K F ops k nx rest ((d, v) :: tm) S M) (hp : PE P K S ⟨some d, .index t x i, T, pos, af, gd⟩ (tget tm) v := by exact p_index) (hg : wantF ops ⟨some d, .index t x i, T, pos, af, gd⟩ (tget tm) = some true := by rfl) : JD P n W K F ops k nx (⟨some d, .index t x i, T, pos, af, gd⟩ :: rest) tm S M := JD_p rfl hg rfl hp h
theorem L_bin_add_i64 {t u : TypeId} {x y : Operand} (h : JL P n W K F ops k rest ((d, v) :: tm) L) (hp : PE P K L ⟨some d, .binOp .add t x y u, T, pos, af, gd⟩ (tget tm) v := by exact p_bin_add_i64) (hn : Nat.blt d n = true := by rfl) (hg : wantF ops ⟨some d, .binOp .add t x y u, T, pos, af, gd⟩ (tget tm) = some true := by rfl) : JL P n W K F ops k (⟨some d, .binOp .add t x y u, T, pos, af, gd⟩ :: rest) tm L := JL_p rfl hn hg hp h
theorem D_bin_add_i64 {t u : TypeId} {x y : Operand} (h : JD P n W K F ops k nx rest ((d, v) :: tm) S M) (hp : PE P K S ⟨some d, .binOp .add t x y u, T, pos, af, gd⟩ (tget tm) v := by exact p_bin_add_i64) (hg : wantF ops ⟨some d, .binOp .add t x y u, T, pos, af, gd⟩ (tget tm) = some true := by rfl) : JD P n W K F ops k nx (⟨some d, .binOp .add t x y u, T, pos, af, gd⟩ :: rest) tm S M := JD_p rfl hg rfl hp h
theorem L_bin_add_u32 {t u : TypeId} {x y : Operand} (h : JL P n W K F ops k rest ((d, v) :: tm) L) (hp : PE P K L ⟨some d, .binOp .add t x y u, T, pos, af, gd⟩ (tget tm) v := by exact p_bin_add_u32) (hn : Nat.blt d n = true := by rfl) (hg : wantF ops ⟨some d, .binOp .add t x y u, T, pos, af, gd⟩ (tget tm) = some true := by rfl) : JL P n W K F ops k (⟨some d, .binOp .add t x y u, T, pos, af, gd⟩ :: rest) tm L := JL_p rfl hn hg hp h
theorem D_bin_add_u32 {t u : TypeId} {x y : Operand} (h : JD P n W K F ops k nx rest ((d, v) :: tm) S M) (hp : PE P K S ⟨some d, .binOp .add t x y u, T, pos, af, gd⟩ (tget tm) v := by exact p_bin_add_u32) (hg : wantF ops ⟨some d, .binOp .add t x y u, T, pos, af, gd⟩ (tget tm) = some true := by rfl) : JD P n W K F ops k nx (⟨some d, .binOp .add t x y u, T, pos, af, gd⟩ :: rest) tm S M := JD_p rfl hg rfl hp h
theorem L_bin_add_u16 {t u : TypeId} {x y : Operand} (h : JL P n W K F ops k rest ((d, v) :: tm) L) (hp : PE P K L ⟨some d, .binOp .add t x y u, T, pos, af, gd⟩ (tget tm) v := by exact p_bin_add_u16) (hn : Nat.blt d n = true := by rfl) (hg : wantF ops ⟨some d, .binOp .add t x y u, T, pos, af, gd⟩ (tget tm) = some true := by rfl) : JL P n W K F ops k (⟨some d, .binOp .add t x y u, T, pos, af, gd⟩ :: rest) tm L := JL_p rfl hn hg hp h
theorem D_bin_add_u16 {t u : TypeId} {x y : Operand} (h : JD P n W K F ops k nx rest ((d, v) :: tm) S M) (hp : PE P K S ⟨some d, .binOp .add t x y u, T, pos, af, gd⟩ (tget tm) v := by exact p_bin_add_u16) (hg : wantF ops ⟨some d, .binOp .add t x y u, T, pos, af, gd⟩ (tget tm) = some true := by rfl) : JD P n W K F ops k nx (⟨some d, .binOp .add t x y u, T, pos, af, gd⟩ :: rest) tm S M := JD_p rfl hg rfl hp h
theorem L_bin_add_u8 {t u : TypeId} {x y : Operand} (h : JL P n W K F ops k rest ((d, v) :: tm) L) (hp : PE P K L ⟨some d, .binOp .add t x y u, T, pos, af, gd⟩ (tget tm) v := by exact p_bin_add_u8) (hn : Nat.blt d n = true := by rfl) (hg : wantF ops ⟨some d, .binOp .add t x y u, T, pos, af, gd⟩ (tget tm) = some true := by rfl) : JL P n W K F ops k (⟨some d, .binOp .add t x y u, T, pos, af, gd⟩ :: rest) tm L := JL_p rfl hn hg hp h
theorem D_bin_add_u8 {t u : TypeId} {x y : Operand} (h : JD P n W K F ops k nx rest ((d, v) :: tm) S M) (hp : PE P K S ⟨some d, .binOp .add t x y u, T, pos, af, gd⟩ (tget tm) v := by exact p_bin_add_u8) (hg : wantF ops ⟨some d, .binOp .add t x y u, T, pos, af, gd⟩ (tget tm) = some true := by rfl) : JD P n W K F ops k nx (⟨some d, .binOp .add t x y u, T, pos, af, gd⟩ :: rest) tm S M := JD_p rfl hg rfl hp h
theorem L_bin_add_u64 {t u : TypeId} {x y : Operand} (h : JL P n W K F ops k rest ((d, v) :: tm) L) (hp : PE P K L ⟨some d, .binOp .add t x y u, T, pos, af, gd⟩ (tget tm) v := by exact p_bin_add_u64) (hn : Nat.blt d n = true := by rfl) (hg : wantF ops ⟨some d, .binOp .add t x y u, T, pos, af, gd⟩ (tget tm) = some true := by rfl) : JL P n W K F ops k (⟨some d, .binOp .add t x y u, T, pos, af, gd⟩ :: rest) tm L := JL_p rfl hn hg hp h
theorem D_bin_add_u64 {t u : TypeId} {x y : Operand} (h : JD P n W K F ops k nx rest ((d, v) :: tm) S M) (hp : PE P K S ⟨some d, .binOp .add t x y u, T, pos, af, gd⟩ (tget tm) v := by exact p_bin_add_u64) (hg : wantF ops ⟨some d, .binOp .add t x y u, T, pos, af, gd⟩ (tget tm) = some true := by rfl) : JD P n W K F ops k nx (⟨some d, .binOp .add t x y u, T, pos, af, gd⟩ :: rest) tm S M := JD_p rfl hg rfl hp h
theorem L_bin_add_r {t u : TypeId} {x y : Operand} (h : JL P n W K F ops k rest ((d, v) :: tm) L) (hp : PE P K L ⟨some d, .binOp .add t x y u, T, pos, af, gd⟩ (tget tm) v := by exact p_bin_add_r) (hn : Nat.blt d n = true := by rfl) (hg : wantF ops ⟨some d, .binOp .add t x y u, T, pos, af, gd⟩ (tget tm) = some true := by rfl) : JL P n W K F ops k (⟨some d, .binOp .add t x y u, T, pos, af, gd⟩ :: rest) tm L := JL_p rfl hn hg hp h
theorem D_bin_add_r {t u : TypeId} {x y : Operand} (h : JD P n W K F ops k nx rest ((d, v) :: tm) S M) (hp : PE P K S ⟨some d, .binOp .add t x y u, T, pos, af, gd⟩ (tget tm) v := by exact p_bin_add_r) (hg : wantF ops ⟨some d, .binOp .add t x y u, T, pos, af, gd⟩ (tget tm) = some true := by rfl) : JD P n W K F ops k nx (⟨some d, .binOp .add t x y u, T, pos, af, gd⟩ :: rest) tm S M := JD_p rfl hg rfl hp h
theorem L_bin_sub_i64 {t u : TypeId} {x y : Operand} (h : JL P n W K F ops k rest ((d, v) :: tm) L) (hp : PE P K L ⟨some d, .binOp .sub t x y u, T, pos, af, gd⟩ (tget tm) v := by exact p_bin_sub_i64) (hn : Nat.blt d n = true := by rfl) (hg : wantF ops ⟨some d, .binOp .sub t x y u, T, pos, af, gd⟩ (tget tm) = some true := by rfl) : JL P n W K F ops k (⟨some d, .binOp .sub t x y u, T, pos, af, gd⟩ :: rest) tm L := JL_p rfl hn hg hp h
theorem D_bin_sub_i64 {t u : TypeId} {x y : Operand} (h : JD P n W K F ops k nx rest ((d, v) :: tm) S M) (hp : PE P K S ⟨some d, .binOp .sub t x y u, T, pos, af, gd⟩ (tget tm) v := by exact p_bin_sub_i64) (hg : wantF ops ⟨some d, .binOp .sub t x y u, T, pos, af, gd⟩ (tget tm) = some true := by rfl) : JD P n W K F ops k nx (⟨some d, .binOp .sub t x y u, T, pos, af, gd⟩ :: rest) tm S M := JD_p rfl hg rfl hp h
theorem L_bin_sub_u32 {t u : TypeId} {x y : Operand} (h : JL P n W K F ops k rest ((d, v) :: tm) L) (hp : PE P K L ⟨some d, .binOp .sub t x y u, T, pos, af, gd⟩ (tget tm) v := by exact p_bin_sub_u32) (hn : Nat.blt d n = true := by rfl) (hg : wantF ops ⟨some d, .binOp .sub t x y u, T, pos, af, gd⟩ (tget tm) = some true := by rfl) : JL P n W K F ops k (⟨some d, .binOp .sub t x y u, T, pos, af, gd⟩ :: rest) tm L := JL_p rfl hn hg hp h
theorem D_bin_sub_u32 {t u : TypeId} {x y : Operand} (h : JD P n W K F ops k nx rest ((d, v) :: tm) S M) (hp : PE P K S ⟨some d, .binOp .sub t x y u, T, pos, af, gd⟩ (tget tm) v := by exact p_bin_sub_u32) (hg : wantF ops ⟨some d, .binOp .sub t x y u, T, pos, af, gd⟩ (tget tm) = some true := by rfl) : JD P n W K F ops k nx (⟨some d, .binOp .sub t x y u, T, pos, af, gd⟩ :: rest) tm S M := JD_p rfl hg rfl hp h
theorem L_bin_sub_u16 {t u : TypeId} {x y : Operand} (h : JL P n W K F ops k rest ((d, v) :: tm) L) (hp : PE P K L ⟨some d, .binOp .sub t x y u, T, pos, af, gd⟩ (tget tm) v := by exact p_bin_sub_u16) (hn : Nat.blt d n = true := by rfl) (hg : wantF ops ⟨some d, .binOp .sub t x y u, T, pos, af, gd⟩ (tget tm) = some true := by rfl) : JL P n W K F ops k (⟨some d, .binOp .sub t x y u, T, pos, af, gd⟩ :: rest) tm L := JL_p rfl hn hg hp h
theorem D_bin_sub_u16 {t u : TypeId} {x y : Operand} (h : JD P n W K F ops k nx rest ((d, v) :: tm) S M) (hp : PE P K S ⟨some d, .binOp .sub t x y u, T, pos, af, gd⟩ (tget tm) v := by exact p_bin_sub_u16) (hg : wantF ops ⟨some d, .binOp .sub t x y u, T, pos, af, gd⟩ (tget tm) = some true := by rfl) : JD P n W K F ops k nx (⟨some d, .binOp .sub t x y u, T, pos, af, gd⟩ :: rest) tm S M := JD_p rfl hg rfl hp h
theorem L_bin_sub_u8 {t u : TypeId} {x y : Operand} (h : JL P n W K F ops k rest ((d, v) :: tm) L) (hp : PE P K L ⟨some d, .binOp .sub t x y u, T, pos, af, gd⟩ (tget tm) v := by exact p_bin_sub_u8) (hn : Nat.blt d n = true := by rfl) (hg : wantF ops ⟨some d, .binOp .sub t x y u, T, pos, af, gd⟩ (tget tm) = some true := by rfl) : JL P n W K F ops k (⟨some d, .binOp .sub t x y u, T, pos, af, gd⟩ :: rest) tm L := JL_p rfl hn hg hp h
theorem D_bin_sub_u8 {t u : TypeId} {x y : Operand} (h : JD P n W K F ops k nx rest ((d, v) :: tm) S M) (hp : PE P K S ⟨some d, .binOp .sub t x y u, T, pos, af, gd⟩ (tget tm) v := by exact p_bin_sub_u8) (hg : wantF ops ⟨some d, .binOp .sub t x y u, T, pos, af, gd⟩ (tget tm) = some true := by rfl) : JD P n W K F ops k nx (⟨some d, .binOp .sub t x y u, T, pos, af, gd⟩ :: rest) tm S M := JD_p rfl hg rfl hp h
theorem L_bin_sub_u64 {t u : TypeId} {x y : Operand} (h : JL P n W K F ops k rest ((d, v) :: tm) L) (hp : PE P K L ⟨some d, .binOp .sub t x y u, T, pos, af, gd⟩ (tget tm) v := by exact p_bin_sub_u64) (hn : Nat.blt d n = true := by rfl) (hg : wantF ops ⟨some d, .binOp .sub t x y u, T, pos, af, gd⟩ (tget tm) = some true := by rfl) : JL P n W K F ops k (⟨some d, .binOp .sub t x y u, T, pos, af, gd⟩ :: rest) tm L := JL_p rfl hn hg hp h
theorem D_bin_sub_u64 {t u : TypeId} {x y : Operand} (h : JD P n W K F ops k nx rest ((d, v) :: tm) S M) (hp : PE P K S ⟨some d, .binOp .sub t x y u, T, pos, af, gd⟩ (tget tm) v := by exact p_bin_sub_u64) (hg : wantF ops ⟨some d, .binOp .sub t x y u, T, pos, af, gd⟩ (tget tm) = some true := by rfl) : JD P n W K F ops k nx (⟨some d, .binOp .sub t x y u, T, pos, af, gd⟩ :: rest) tm S M := JD_p rfl hg rfl hp h
theorem L_bin_sub_r {t u : TypeId} {x y : Operand} (h : JL P n W K F ops k rest ((d, v) :: tm) L) (hp : PE P K L ⟨some d, .binOp .sub t x y u, T, pos, af, gd⟩ (tget tm) v := by exact p_bin_sub_r) (hn : Nat.blt d n = true := by rfl) (hg : wantF ops ⟨some d, .binOp .sub t x y u, T, pos, af, gd⟩ (tget tm) = some true := by rfl) : JL P n W K F ops k (⟨some d, .binOp .sub t x y u, T, pos, af, gd⟩ :: rest) tm L := JL_p rfl hn hg hp h
theorem D_bin_sub_r {t u : TypeId} {x y : Operand} (h : JD P n W K F ops k nx rest ((d, v) :: tm) S M) (hp : PE P K S ⟨some d, .binOp .sub t x y u, T, pos, af, gd⟩ (tget tm) v := by exact p_bin_sub_r) (hg : wantF ops ⟨some d, .binOp .sub t x y u, T, pos, af, gd⟩ (tget tm) = some true := by rfl) : JD P n W K F ops k nx (⟨some d, .binOp .sub t x y u, T, pos, af, gd⟩ :: rest) tm S M := JD_p rfl hg rfl hp h
theorem L_bin_mul_i64 {t u : TypeId} {x y : Operand} (h : JL P n W K F ops k rest ((d, v) :: tm) L) (hp : PE P K L ⟨some d, .binOp .mul t x y u, T, pos, af, gd⟩ (tget tm) v := by exact p_bin_mul_i64) (hn : Nat.blt d n = true := by rfl) (hg : wantF ops ⟨some d, .binOp .mul t x y u, T, pos, af, gd⟩ (tget tm) = some true := by rfl) : JL P n W K F ops k (⟨some d, .binOp .mul t x y u, T, pos, af, gd⟩ :: rest) tm L := JL_p rfl hn hg hp h
theorem D_bin_mul_i64 {t u : TypeId} {x y : Operand} (h : JD P n W K F ops k nx rest ((d, v) :: tm) S M) (hp : PE P K S ⟨some d, .binOp .mul t x y u, T, pos, af, gd⟩ (tget tm) v := by exact p_bin_mul_i64) (hg : wantF ops ⟨some d, .binOp .mul t x y u, T, pos, af, gd⟩ (tget tm) = some true := by rfl) : JD P n W K F ops k nx (⟨some d, .binOp .mul t x y u, T, pos, af, gd⟩ :: rest) tm S M := JD_p rfl hg rfl hp h
theorem L_bin_mul_u32 {t u : TypeId} {x y : Operand} (h : JL P n W K F ops k rest ((d, v) :: tm) L) (hp : PE P K L ⟨some d, .binOp .mul t x y u, T, pos, af, gd⟩ (tget tm) v := by exact p_bin_mul_u32) (hn : Nat.blt d n = true := by rfl) (hg : wantF ops ⟨some d, .binOp .mul t x y u, T, pos, af, gd⟩ (tget tm) = some true := by rfl) : JL P n W K F ops k (⟨some d, .binOp .mul t x y u, T, pos, af, gd⟩ :: rest) tm L := JL_p rfl hn hg hp h
theorem D_bin_mul_u32 {t u : TypeId} {x y : Operand} (h : JD P n W K F ops k nx rest ((d, v) :: tm) S M) (hp : PE P K S ⟨some d, .binOp .mul t x y u, T, pos, af, gd⟩ (tget tm) v := by exact p_bin_mul_u32) (hg : wantF ops ⟨some d, .binOp .mul t x y u, T, pos, af, gd⟩ (tget tm) = some true := by rfl) : JD P n W K F ops k nx (⟨some d, .binOp .mul t x y u, T, pos, af, gd⟩ :: rest) tm S M := JD_p rfl hg rfl hp h
theorem L_bin_mul_u16 {t u : TypeId} {x y : Operand} (h : JL P n W K F ops k rest ((d, v) :: tm) L) (hp : PE P K L ⟨some d, .binOp .mul t x y u, T, pos, af, gd⟩ (tget tm) v := by exact p_bin_mul_u16) (hn : Nat.blt d n = true := by rfl) (hg : wantF ops ⟨some d, .binOp .mul t x y u, T, pos, af, gd⟩ (tget tm) = some true := by rfl) : JL P n W K F ops k (⟨some d, .binOp .mul t x y u, T, pos, af, gd⟩ :: rest) tm L := JL_p rfl hn hg hp h
theorem D_bin_mul_u16 {t u : TypeId} {x y : Operand} (h : JD P n W K F ops k nx rest ((d, v) :: tm) S M) (hp : PE P K S ⟨some d, .binOp .mul t x y u, T, pos, af, gd⟩ (tget tm) v := by exact p_bin_mul_u16) (hg : wantF ops ⟨some d, .binOp .mul t x y u, T, pos, af, gd⟩ (tget tm) = some true := by rfl) : JD P n W K F ops k nx (⟨some d, .binOp .mul t x y u, T, pos, af, gd⟩ :: rest) tm S M := JD_p rfl hg rfl hp h
theorem L_bin_mul_u8 {t u : TypeId} {x y : Operand} (h : JL P n W K F ops k rest ((d, v) :: tm) L) (hp : PE P K L ⟨some d, .binOp .mul t x y u, T, pos, af, gd⟩ (tget tm) v := by exact p_bin_mul_u8) (hn : Nat.blt d n = true := by rfl) (hg : wantF ops ⟨some d, .binOp .mul t x y u, T, pos, af, gd⟩ (tget tm) = some true := by rfl) : JL P n W K F ops k (⟨some d, .binOp .mul t x y u, T, pos, af, gd⟩ :: rest) tm L := JL_p rfl hn hg hp h
theorem D_bin_mul_u8 {t u : TypeId} {x y : Operand} (h : JD P n W K F ops k nx rest ((d, v) :: tm) S M) (hp : PE P K S ⟨some d, .binOp .mul t x y u, T, pos, af, gd⟩ (tget tm) v := by exact p_bin_mul_u8) (hg : wantF ops ⟨some d, .binOp .mul t x y u, T, pos, af, gd⟩ (tget tm) = some true := by rfl) : JD P n W K F ops k nx (⟨some d, .binOp .mul t x y u, T, pos, af, gd⟩ :: rest) tm S M := JD_p rfl hg rfl hp h
theorem L_bin_mul_u64 {t u : TypeId} {x y : Operand} (h : JL P n W K F ops k rest ((d, v) :: tm) L) (hp : PE P K L ⟨some d, .binOp .mul t x y u, T, pos, af, gd⟩ (tget tm) v := by exact p_bin_mul_u64) (hn : Nat.blt d n = true := by rfl) (hg : wantF ops ⟨some d, .binOp .mul t x y u, T, pos, af, gd⟩ (tget tm) = some true := by rfl) : JL P n W K F ops k (⟨some d, .binOp .mul t x y u, T, pos, af, gd⟩ :: rest) tm L := JL_p rfl hn hg hp h
theorem D_bin_mul_u64 {t u : TypeId} {x y : Operand} (h : JD P n W K F ops k nx rest ((d, v) :: tm) S M) (hp : PE P K S ⟨some d, .binOp .mul t x y u, T, pos, af, gd⟩ (tget tm) v := by exact p_bin_mul_u64) (hg : wantF ops ⟨some d, .binOp .mul t x y u, T, pos, af, gd⟩ (tget tm) = some true := by rfl) : JD P n W K F ops k nx (⟨some d, .binOp .mul t x y u, T, pos, af, gd⟩ :: rest) tm S M := JD_p rfl hg rfl hp h
theorem L_bin_mul_r {t u : TypeId} {x y : Operand} (h : JL P n W K F ops k rest ((d, v) :: tm) L) (hp : PE P K L ⟨some d, .binOp .mul t x y u, T, pos, af, gd⟩ (tget tm) v := by exact p_bin_mul_r) (hn : Nat.blt d n = true := by rfl) (hg : wantF ops ⟨some d, .binOp .mul t x y u, T, pos, af, gd⟩ (tget tm) = some true := by rfl) : JL P n W K F ops k (⟨some d, .binOp .mul t x y u, T, pos, af, gd⟩ :: rest) tm L := JL_p rfl hn hg hp h
theorem D_bin_mul_r {t u : TypeId} {x y : Operand} (h : JD P n W K F ops k nx rest ((d, v) :: tm) S M) (hp : PE P K S ⟨some d, .binOp .mul t x y u, T, pos, af, gd⟩ (tget tm) v := by exact p_bin_mul_r) (hg : wantF ops ⟨some d, .binOp .mul t x y u, T, pos, af, gd⟩ (tget tm) = some true := by rfl) : JD P n W K F ops k nx (⟨some d, .binOp .mul t x y u, T, pos, af, gd⟩ :: rest) tm S M := JD_p rfl hg rfl hp h
theorem L_un_not {t : TypeId} {x : Operand} (h : JL P n W K F ops k rest ((d, v) :: tm) L) (hp : PE P K L ⟨some d, .unOp .not t x, T, pos, af, gd⟩ (tget tm) v := by exact p_un_not) (hn : Nat.blt d n = true := by rfl) (hg : wantF ops ⟨some d, .unOp .not t x, T, pos, af, gd⟩ (tget tm) = some true := by rfl) : JL P n W K F ops k (⟨some d, .unOp .not t x, T, pos, af, gd⟩ :: rest) tm L := JL_p rfl hn hg hp h
theorem D_un_not {t : TypeId} {x : Operand} (h : JD P n W K F ops k nx rest ((d, v) :: tm) S M) (hp : PE P K S ⟨some d, .unOp .not t x, T, pos, af, gd⟩ (tget tm) v := by exact p_un_not) (hg : wantF ops ⟨some d, .unOp .not t x, T, pos, af, gd⟩ (tget tm) = some true := by rfl) : JD P n W K F ops k nx (⟨some d, .unOp .not t x, T, pos, af, gd⟩ :: rest) tm S M := JD_p rfl hg rfl hp h
theorem L_convert_i64 {t u : TypeId} {x : Operand} (h : JL P n W K F ops k rest ((d, v) :: tm) L) (hp : PE P K L ⟨some d, .convert t u x, T, pos, af, gd⟩ (tget tm) v := by exact p_convert_i64) (hn : Nat.blt d n = true := by rfl) (hg : wantF ops ⟨some d, .convert t u x, T, pos, af, gd⟩ (tget tm) = some true := by rfl) : JL P n W K F ops k (⟨some d, .convert t u x, T, pos, af, gd⟩ :: rest) tm L := JL_p rfl hn hg hp h
theorem D_convert_i64 {t u : TypeId} {x : Operand} (h : JD P n W K F ops k nx rest ((d, v) :: tm) S M) (hp : PE P K S ⟨some d, .convert t u x, T, pos, af, gd⟩ (tget tm) v := by exact p_convert_i64) (hg : wantF ops ⟨some d, .convert t u x, T, pos, af, gd⟩ (tget tm) = some true := by rfl) : JD P n W K F ops k nx (⟨some d, .convert t u x, T, pos, af, gd⟩ :: rest) tm S M := JD_p rfl hg rfl hp h
theorem L_convert_u32 {t u : TypeId} {x : Operand} (h : JL P n W K F ops k rest ((d, v) :: tm) L) (hp : PE P K L ⟨some d, .convert t u x, T, pos, af, gd⟩ (tget tm) v := by exact p_convert_u32) (hn : Nat.blt d n = true := by rfl) (hg : wantF ops ⟨some d, .convert t u x, T, pos, af, gd⟩ (tget tm) = some true := by rfl) : JL P n W K F ops k (⟨some d, .convert t u x, T, pos, af, gd⟩ :: rest) tm L := JL_p rfl hn hg hp h
theorem D_convert_u32 {t u : TypeId} {x : Operand} (h : JD P n W K F ops k nx rest ((d, v) :: tm) S M) (hp : PE P K S ⟨some d, .convert t u x, T, pos, af, gd⟩ (tget tm) v := by exact p_convert_u32) (hg : wantF ops ⟨some d, .convert t u x, T, pos, af, gd⟩ (tget tm) = some true := by rfl) : JD P n W K F ops k nx (⟨some d, .convert t u x, T, pos, af, gd⟩ :: rest) tm S M := JD_p rfl hg rfl hp h
theorem L_convert_u16 {t u : TypeId} {x : Operand} (h : JL P n W K F ops k rest ((d, v) :: tm) L) (hp : PE P K L ⟨some d, .convert t u x, T, pos, af, gd⟩ (tget tm) v := by exact p_convert_u16) (hn : Nat.blt d n = true := by rfl) (hg : wantF ops ⟨some d, .convert t u x, T, pos, af, gd⟩ (tget tm) = some true := by rfl) : JL P n W K F ops k (⟨some d, .convert t u x, T, pos, af, gd⟩ :: rest) tm L := JL_p rfl hn hg hp h
theorem D_convert_u16 {t u : TypeId} {x : Operand} (h : JD P n W K F ops k nx rest ((d, v) :: tm) S M) (hp : PE P K S ⟨some d, .convert t u x, T, pos, af, gd⟩ (tget tm) v := by exact p_convert_u16) (hg : wantF ops ⟨some d, .convert t u x, T, pos, af, gd⟩ (tget tm) = some true := by rfl) : JD P n W K F ops k nx (⟨some d, .convert t u x, T, pos, af, gd⟩ :: rest) tm S M := JD_p rfl hg rfl hp h
theorem L_convert_u8 {t u : TypeId} {x : Operand} (h : JL P n W K F ops k rest ((d, v) :: tm) L) (hp : PE P K L ⟨some d, .convert t u x, T, pos, af, gd⟩ (tget tm) v := by exact p_convert_u8) (hn : Nat.blt d n = true := by rfl) (hg : wantF ops ⟨some d, .convert t u x, T, pos, af, gd⟩ (tget tm) = some true := by rfl) : JL P n W K F ops k (⟨some d, .convert t u x, T, pos, af, gd⟩ :: rest) tm L := JL_p rfl hn hg hp h
theorem D_convert_u8 {t u : TypeId} {x : Operand} (h : JD P n W K F ops k nx rest ((d, v) :: tm) S M) (hp : PE P K S ⟨some d, .convert t u x, T, pos, af, gd⟩ (tget tm) v := by exact p_convert_u8) (hg : wantF ops ⟨some d, .convert t u x, T, pos, af, gd⟩ (tget tm) = some true := by rfl) : JD P n W K F ops k nx (⟨some d, .convert t u x, T, pos, af, gd⟩ :: rest) tm S M := JD_p rfl hg rfl hp h
theorem L_convert_u64 {t u : TypeId} {x : Operand} (h : JL P n W K F ops k rest ((d, v) :: tm) L) (hp : PE P K L ⟨some d, .convert t u x, T, pos, af, gd⟩ (tget tm) v := by exact p_convert_u64) (hn : Nat.blt d n = true := by rfl) (hg : wantF ops ⟨some d, .convert t u x, T, pos, af, gd⟩ (tget tm) = some true := by rfl) : JL P n W K F ops k (⟨some d, .convert t u x, T, pos, af, gd⟩ :: rest) tm L := JL_p rfl hn hg hp h
theorem D_convert_u64 {t u : TypeId} {x : Operand} (h : JD P n W K F ops k nx rest ((d, v) :: tm) S M) (hp : PE P K S ⟨some d, .convert t u x, T, pos, af, gd⟩ (tget tm) v := by exact p_convert_u64) (hg : wantF ops ⟨some d, .convert t u x, T, pos, af, gd⟩ (tget tm) = some true := by rfl) : JD P n W K F ops k nx (⟨some d, .convert t u x, T, pos, af, gd⟩ :: rest) tm S M := JD_p rfl hg rfl hp h
theorem L_convert_r {t u : TypeId} {x : Operand} (h : JL P n W K F ops k rest ((d, v) :: tm) L) (hp : PE P K L ⟨some d, .convert t u x, T, pos, af, gd⟩ (tget tm) v := by exact p_convert_r) (hn : Nat.blt d n = true := by rfl) (hg : wantF ops ⟨some d, .convert t u x, T, pos, af, gd⟩ (tget tm) = some true := by rfl) : JL P n W K F ops k (⟨some d, .convert t u x, T, pos, af, gd⟩ :: rest) tm L := JL_p rfl hn hg hp h
theorem D_convert_r {t u : TypeId} {x : Operand} (h : JD P n W K F ops k nx rest ((d, v) :: tm) S M) (hp : PE P K S ⟨some d, .convert t u x, T, pos, af, gd⟩ (tget tm) v := by exact p_convert_r) (hg : wantF ops ⟨some d, .convert t u x, T, pos, af, gd⟩ (tget tm) = some true := by rfl) : JD P n W K F ops k nx (⟨some d, .convert t u x, T, pos, af, gd⟩ :: rest) tm S M := JD_p rfl hg rfl hp h
theorem L_field {t : TypeId} {x : Operand} {f : Nat} (h : JL P n W K F ops k rest ((d, v) :: tm) L) (hp : PE P K L ⟨some d, .field t x f, T, pos, af, gd⟩ (tget tm) v := by exact p_field) (hn : Nat.blt d n = true := by rfl) (hg : wantF ops ⟨some d, .field t x f, T, pos, af, gd⟩ (tget tm) = some true := by rfl) : JL P n W K F ops k (⟨some d, .field t x f, T, pos, af, gd⟩ :: rest) tm L := JL_p rfl hn hg hp h
theorem D_field {t : TypeId} {x : Operand} {f : Nat} (h : JD P n W K F ops k nx rest ((d, v) :: tm) S M) (hp : PE P K S ⟨some d, .field t x f, T, pos, af, gd⟩ (tget tm) v := by exact p_field) (hg : wantF ops ⟨some d, .field t x f, T, pos, af, gd⟩ (tget tm) = some true := by rfl) : JD P n W K F ops k nx (⟨some d, .field t x f, T, pos, af, gd⟩ :: rest) tm S M := JD_p rfl hg rfl hp h
theorem L_build {t : TypeId} {ps : Array (Nat × Operand)} (h : JL P n W K F ops k rest ((d, v) :: tm) L) (hp : PE P K L ⟨some d, .build t ps, T, pos, af, gd⟩ (tget tm) v := by exact p_build) (hn : Nat.blt d n = true := by rfl) (hg : wantF ops ⟨some d, .build t ps, T, pos, af, gd⟩ (tget tm) = some true := by rfl) : JL P n W K F ops k (⟨some d, .build t ps, T, pos, af, gd⟩ :: rest) tm L := JL_p rfl hn hg hp h
theorem D_build {t : TypeId} {ps : Array (Nat × Operand)} (h : JD P n W K F ops k nx rest ((d, v) :: tm) S M) (hp : PE P K S ⟨some d, .build t ps, T, pos, af, gd⟩ (tget tm) v := by exact p_build) (hg : wantF ops ⟨some d, .build t ps, T, pos, af, gd⟩ (tget tm) = some true := by rfl) : JD P n W K F ops k nx (⟨some d, .build t ps, T, pos, af, gd⟩ :: rest) tm S M := JD_p rfl hg rfl hp h
theorem L_makeFunc {f : Fn} {fs cs : Array Operand} (h : JL P n W K F ops k rest ((d, v) :: tm) L) (hp : PE P K L ⟨some d, .makeFunc f fs cs, T, pos, af, gd⟩ (tget tm) v := by exact p_makeFunc) (hn : Nat.blt d n = true := by rfl) (hg : wantF ops ⟨some d, .makeFunc f fs cs, T, pos, af, gd⟩ (tget tm) = some true := by rfl) : JL P n W K F ops k (⟨some d, .makeFunc f fs cs, T, pos, af, gd⟩ :: rest) tm L := JL_p rfl hn hg hp h
theorem D_makeFunc {f : Fn} {fs cs : Array Operand} (h : JD P n W K F ops k nx rest ((d, v) :: tm) S M) (hp : PE P K S ⟨some d, .makeFunc f fs cs, T, pos, af, gd⟩ (tget tm) v := by exact p_makeFunc) (hg : wantF ops ⟨some d, .makeFunc f fs cs, T, pos, af, gd⟩ (tget tm) = some true := by rfl) : JD P n W K F ops k nx (⟨some d, .makeFunc f fs cs, T, pos, af, gd⟩ :: rest) tm S M := JD_p rfl hg rfl hp h
theorem L_bin_quo_i64 {t u : TypeId} {x y : Operand} (h : JL P n W K F ops k rest ((d, v) :: tm) L) (hp : PE P K L ⟨some d, .binOp .quo t x y u, T, pos, af, gd⟩ (tget tm) v := by exact p_bin_quo_i64) (hn : Nat.blt d n = true := by rfl) (hg : wantF ops ⟨some d, .binOp .quo t x y u, T, pos, af, gd⟩ (tget tm) = some true := by rfl) : JL P n W K F ops k (⟨some d, .binOp .quo t x y u, T, pos, af, gd⟩ :: rest) tm L := JL_p rfl hn hg hp h
theorem D_bin_quo_i64 {t u : TypeId} {x y : Operand} (h : JD P n W K F ops k nx rest ((d, v) :: tm) S M) (hp : PE P K S ⟨some d, .binOp .quo t x y u, T, pos, af, gd⟩ (tget tm) v := by exact p_bin_quo_i64) (hg : wantF ops ⟨some d, .binOp .quo t x y u, T, pos, af, gd⟩ (tget tm) = some true := by rfl) : JD P n W K F ops k nx (⟨some d, .binOp .quo t x y u, T, pos, af, gd⟩ :: rest) tm S M := JD_p rfl hg rfl hp h
theorem L_bin_quo_u32 {t u : TypeId} {x y : Operand} (h : JL P n W K F ops k rest ((d, v) :: tm) L) (hp : PE P K L ⟨some d, .binOp .quo t x y u, T, pos, af, gd⟩ (tget tm) v := by exact p_bin_quo_u32) (hn : Nat.blt d n = true := by rfl) (hg : wantF ops ⟨some d, .binOp .quo t x y u, T, pos, af, gd⟩ (tget tm) = some true := by rfl) : JL P n W K F ops k (⟨some d, .binOp .quo t x y u, T, pos, af, gd⟩ :: rest) tm L := JL_p rfl hn hg hp h
theorem D_bin_quo_u32 {t u : TypeId} {x y : Operand} (h : JD P n W K F ops k nx rest ((d, v) :: tm) S M) (hp : PE P K S ⟨some d, .binOp .quo t x y u, T, pos, af, gd⟩ (tget tm) v := by exact p_bin_quo_u32) (hg : wantF ops ⟨some d, .binOp .quo t x y u, T, pos, af, gd⟩ (tget tm) = some true := by rfl) : JD P n W K F ops k nx (⟨some d, .binOp .quo t x y u, T, pos, af, gd⟩ :: rest) tm S M := JD_p rfl hg rfl hp h
theorem L_bin_quo_u16 {t u : TypeId} {x y : Operand} (h : JL P n W K F ops k rest ((d, v) :: tm) L) (hp : PE P K L ⟨some d, .binOp .quo t x y u, T, pos, af, gd⟩ (tget tm) v := by exact p_bin_quo_u16) (hn : Nat.blt d n = true := by rfl) (hg : wantF ops ⟨some d, .binOp .quo t x y u, T, pos, af, gd⟩ (tget tm) = some true := by rfl) : JL P n W K F ops k (⟨some d, .binOp .quo t x y u, T, pos, af, gd⟩ :: rest) tm L := JL_p rfl hn hg hp h
theorem D_bin_quo_u16 {t u : TypeId} {x y : Operand} (h : JD P n W K F ops k nx rest ((d, v) :: tm) S M) (hp : PE P K S ⟨some d, .binOp .quo t x y u, T, pos, af, gd⟩ (tget tm) v := by exact p_bin_quo_u16) (hg : wantF ops ⟨some d, .binOp .quo t x y u, T, pos, af, gd⟩ (tget tm) = some true := by rfl) : JD P n W K F ops k nx (⟨some d, .binOp .quo t x y u, T, pos, af, gd⟩ :: rest) tm S M := JD_p rfl hg rfl hp h
theorem L_bin_quo_u8 {t u : TypeId} {x y : Operand} (h : JL P n W K F ops k rest ((d, v) :: tm) L) (hp : PE P K L ⟨some d, .binOp .quo t x y u, T, pos, af, gd⟩ (tget tm) v := by exact p_bin_quo_u8) (hn : Nat.blt d n = true := by rfl) (hg : wantF ops ⟨some d, .binOp .quo t x y u, T, pos, af, gd⟩ (tget tm) = some true := by rfl) : JL P n W K F ops k (⟨some d, .binOp .quo t x y u, T, pos, af, gd⟩ :: rest) tm L := JL_p rfl hn hg hp h
theorem D_bin_quo_u8 {t u : TypeId} {x y : Operand} (h : JD P n W K F ops k nx rest ((d, v) :: tm) S M) (hp : PE P K S ⟨some d, .binOp .quo t x y u, T, pos, af, gd⟩ (tget tm) v := by exact p_bin_quo_u8) (hg : wantF ops ⟨some d, .binOp .quo t x y u, T, pos, af, gd⟩ (tget tm) = some true := by rfl) : JD P n W K F ops k nx (⟨some d, .binOp .quo t x y u, T, pos, af, gd⟩ :: rest) tm S M := JD_p rfl hg rfl hp h
theorem L_bin_quo_u64 {t u : TypeId} {x y : Operand} (h : JL P n W K F ops k rest ((d, v) :: tm) L) (hp : PE P K L ⟨some d, .binOp .quo t x y u, T, pos, af, gd⟩ (tget tm) v := by exact p_bin_quo_u64) (hn : Nat.blt d n = true := by rfl) (hg : wantF ops ⟨some d, .binOp .quo t x y u, T, pos, af, gd⟩ (tget tm) = some true := by rfl) : JL P n W K F ops k (⟨some d, .binOp .quo t x y u, T, pos, af, gd⟩ :: rest) tm L := JL_p rfl hn hg hp h
theorem D_bin_quo_u64 {t u : TypeId} {x y : Operand} (h : JD P n W K F ops k nx rest ((d, v) :: tm) S M) (hp : PE P K S ⟨some d, .binOp .quo t x y u, T, pos, af, gd⟩ (tget tm) v := by exact p_bin_quo_u64) (hg : wantF ops ⟨some d, .binOp .quo t x y u, T, pos, af, gd⟩ (tget tm) = some true := by rfl) : JD P n W K F ops k nx (⟨some d, .binOp .quo t x y u, T, pos, af, gd⟩ :: rest) tm S M := JD_p rfl hg rfl hp h
theorem L_bin_quo_r {t u : TypeId} {x y : Operand} (h : JL P n W K F ops k rest ((d, v) :: tm) L) (hp : PE P K L ⟨some d, .binOp .quo t x y u, T, pos, af, gd⟩ (tget tm) v := by exact p_bin_quo_r) (hn : Nat.blt d n = true := by rfl) (hg : wantF ops ⟨some d, .binOp .quo t x y u, T, pos, af, gd⟩ (tget tm) = some true := by rfl) : JL P n W K F ops k (⟨some d, .binOp .quo t x y u, T, pos, af, gd⟩ :: rest) tm L := JL_p rfl hn hg hp h
theorem D_bin_quo_r {t u : TypeId} {x y : Operand} (h : JD P n W K F ops k nx rest ((d, v) :: tm) S M) (hp : PE P K S ⟨some d, .binOp .quo t x y u, T, pos, af, gd⟩ (tget tm) v := by exact p_bin_quo_r) (hg : wantF ops ⟨some d, .binOp .quo t x y u, T, pos, af, gd⟩ (tget tm) = some true := by rfl) : JD P n W K F ops k nx (⟨some d, .binOp .quo t x y u, T, pos, af, gd⟩ :: rest) tm S M := JD_p rfl hg rfl hp h
theorem L_bin_rem {t u : TypeId} {x y : Operand} (h : JL P n W K F ops k rest ((d, v) :: tm) L) (hp : PE P K L ⟨some d, .binOp .rem t x y u, T, pos, af, gd⟩ (tget tm) v := by exact p_bin_rem) (hn : Nat.blt d n = true := by rfl) (hg : wantF ops ⟨some d, .binOp .rem t x y u, T, pos, af, gd⟩ (tget tm) = some true := by rfl) : JL P n W K F ops k (⟨some d, .binOp .rem t x y u, T, pos, af, gd⟩ :: rest) tm L := JL_p rfl hn hg hp h
theorem D_bin_rem {t u : TypeId} {x y : Operand} (h : JD P n W K F ops k nx rest ((d, v) :: tm) S M) (hp : PE P K S ⟨some d, .binOp .rem t x y u, T, pos, af, gd⟩ (tget tm) v := by exact p_bin_rem) (hg : wantF ops ⟨some d, .binOp .rem t x y u, T, pos, af, gd⟩ (tget tm) = some true := by rfl) : JD P n W K F ops k nx (⟨some d, .binOp .rem t x y u, T, pos, af, gd⟩ :: rest) tm S M := JD_p rfl hg rfl hp h
theorem L_bin_shl_i64 {t u : TypeId} {x y : Operand} (h : JL P n W K F ops k rest ((d, v) :: tm) L) (hp : PE P K L ⟨some d, .binOp .shl t x y u, T, pos, af, gd⟩ (tget tm) v := by exact p_bin_shl_i64) (hn : Nat.blt d n = true := by rfl) (hg : wantF ops ⟨some d, .binOp .shl t x y u, T, pos, af, gd⟩ (tget tm) = some true := by rfl) : JL P n W K F ops k (⟨some d, .binOp .shl t x y u, T, pos, af, gd⟩ :: rest) tm L := JL_p rfl hn hg hp h
theorem D_bin_shl_i64 {t u : TypeId} {x y : Operand} (h : JD P n W K F ops k nx rest ((d, v) :: tm) S M) (hp : PE P K S ⟨some d, .binOp .shl t x y u, T, pos, af, gd⟩ (tget tm) v := by exact p_bin_shl_i64) (hg : wantF ops ⟨some d, .binOp .shl t x y u, T, pos, af, gd⟩ (tget tm) = some true := by rfl) : JD P n W K F ops k nx (⟨some d, .binOp .shl t x y u, T, pos, af, gd⟩ :: rest) tm S M := JD_p rfl hg rfl hp h
theorem L_bin_shl_u32 {t u : TypeId} {x y : Operand} (h : JL P n W K F ops k rest ((d, v) :: tm) L) (hp : PE P K L ⟨some d, .binOp .shl t x y u, T, pos, af, gd⟩ (tget tm) v := by exact p_bin_shl_u32) (hn : Nat.blt d n = true := by rfl) (hg : wantF ops ⟨some d, .binOp .shl t x y u, T, pos, af, gd⟩ (tget tm) = some true := by rfl) : JL P n W K F ops k (⟨some d, .binOp .shl t x y u, T, pos, af, gd⟩ :: rest) tm L := JL_p rfl hn hg hp h
theorem D_bin_shl_u32 {t u : TypeId} {x y : Operand} (h : JD P n W K F ops k nx rest ((d, v) :: tm) S M) (hp : PE P K S ⟨some d, .binOp .shl t x y u, T, pos, af, gd⟩ (tget tm) v := by exact p_bin_shl_u32) (hg : wantF ops ⟨some d, .binOp .shl t x y u, T, pos, af, gd⟩ (tget tm) = some true := by rfl) : JD P n W K F ops k nx (⟨some d, .binOp .shl t x y u, T, pos, af, gd⟩ :: rest) tm S M := JD_p rfl hg rfl hp h
theorem L_bin_shl_u16 {t u : TypeId} {x y : Operand} (h : JL P n W K F ops k rest ((d, v) :: tm) L) (hp : PE P K L ⟨some d, .binOp .shl t x y u, T, pos, af, gd⟩ (tget tm) v := by exact p_bin_shl_u16) (hn : Nat.blt d n = true := by rfl) (hg : wantF ops ⟨some d, .binOp .shl t x y u, T, pos, af, gd⟩ (tget tm) = some true := by rfl) : JL P n W K F ops k (⟨some d, .binOp .shl t x y u, T, pos, af, gd⟩ :: rest) tm L := JL_p rfl hn hg hp h
theorem D_bin_shl_u16 {t u : TypeId} {x y : Operand} (h : JD P n W K F ops k nx rest ((d, v) :: tm) S M) (hp : PE P K S ⟨some d, .binOp .shl t x y u, T, pos, af, gd⟩ (tget tm) v := by exact p_bin_shl_u16) (hg : wantF ops ⟨some d, .binOp .shl t x y u, T, pos, af, gd⟩ (tget tm) = some true := by rfl) : JD P n W K F ops k nx (⟨some d, .binOp .shl t x y u, T, pos, af, gd⟩ :: rest) tm S M := JD_p rfl hg rfl hp h
theorem L_bin_shl_u8 {t u : TypeId} {x y : Operand} (h : JL P n W K F ops k rest ((d, v) :: tm) L) (hp : PE P K L ⟨some d, .binOp .shl t x y u, T, pos, af, gd⟩ (tget tm) v := by exact p_bin_shl_u8) (hn : Nat.blt d n = true := by rfl) (hg : wantF ops ⟨some d, .binOp .shl t x y u, T, pos, af, gd⟩ (tget tm) = some true := by rfl) : JL P n W K F ops k (⟨some d, .binOp .shl t x y u, T, pos, af, gd⟩ :: rest) tm L := JL_p rfl hn hg hp h
theorem D_bin_shl_u8 {t u : TypeId} {x y : Operand} (h : JD P n W K F ops k nx rest ((d, v) :: tm) S M) (hp : PE P K S ⟨some d, .binOp .shl t x y u, T, pos, af, gd⟩ (tget tm) v := by exact p_bin_shl_u8) (hg : wantF ops ⟨some d, .binOp .shl t x y u, T, pos, af, gd⟩ (tget tm) = some true := by rfl) : JD P n W K F ops k nx (⟨some d, .binOp .shl t x y u, T, pos, af, gd⟩ :: rest) tm S M := JD_p rfl hg rfl hp h
theorem L_bin_shl_u64 {t u : TypeId} {x y : Operand} (h : JL P n W K F ops k rest ((d, v) :: tm) L) (hp : PE P K L ⟨some d, .binOp .shl t x y u, T, pos, af, gd⟩ (tget tm) v := by exact p_bin_shl_u64) (hn : Nat.blt d n = true := by rfl) (hg : wantF ops ⟨some d, .binOp .shl t x y u, T, pos, af, gd⟩ (tget tm) = some true := by rfl) : JL P n W K F ops k (⟨some d, .binOp .shl t x y u, T, pos, af, gd⟩ :: rest) tm L := JL_p rfl hn hg hp h
theorem D_bin_shl_u64 {t u : TypeId} {x y : Operand} (h : JD P n W K F ops k nx rest ((d, v) :: tm) S M) (hp : PE P K S ⟨some d, .binOp .shl t x y u, T, pos, af, gd⟩ (tget tm) v := by exact p_bin_shl_u64) (hg : wantF ops ⟨some d, .binOp .shl t x y u, T, pos, af, gd⟩ (tget tm) = some true := by rfl) : JD P n W K F ops k nx (⟨some d, .binOp .shl t x y u, T, pos, af, gd⟩ :: rest) tm S M := JD_p rfl hg rfl hp h
theorem L_bin_shl_r {t u : TypeId} {x y : Operand} (h : JL P n W K F ops k rest ((d, v) :: tm) L) (hp : PE P K L ⟨some d, .binOp .shl t x y u, T, pos, af, gd⟩ (tget tm) v := by exact p_bin_shl_r) (hn : Nat.blt d n = true := by rfl) (hg : wantF ops ⟨some d, .binOp .shl t x y u, T, pos, af, gd⟩ (tget tm) = some true := by rfl) : JL P n W K F ops k (⟨some d, .binOp .shl t x y u, T, pos, af, gd⟩ :: rest) tm L := JL_p rfl hn hg hp h
theorem D_bin_shl_r {t u : TypeId} {x y : Operand} (h : JD P n W K F ops k nx rest ((d, v) :: tm) S M) (hp : PE P K S ⟨some d, .binOp .shl t x y u, T, pos, af, gd⟩ (tget tm) v := by exact p_bin_shl_r) (hg : wantF ops ⟨some d, .binOp .shl t x y u, T, pos, af, gd⟩ (tget tm) = some true := by rfl) : JD P n W K F ops k nx (⟨some d, .binOp .shl t x y u, T, pos, af, gd⟩ :: rest) tm S M := JD_p rfl hg rfl hp h
theorem L_bin_shr {t u : TypeId} {x y : Operand} (h : JL P n W K F ops k rest ((d, v) :: tm) L) (hp : PE P K L ⟨some d, .binOp .shr t x y u, T, pos, af, gd⟩ (tget tm) v := by exact p_bin_shr) (hn : Nat.blt d n = true := by rfl) (hg : wantF ops ⟨some d, .binOp .shr t x y u, T, pos, af, gd⟩ (tget tm) = some true := by rfl) : JL P n W K F ops k (⟨some d, .binOp .shr t x y u, T, pos, af, gd⟩ :: rest) tm L := JL_p rfl hn hg hp h
theorem D_bin_shr {t u : TypeId} {x y : Operand} (h : JD P n W K F ops k nx rest ((d, v) :: tm) S M) (hp : PE P K S ⟨some d, .binOp .shr t x y u, T, pos, af, gd⟩ (tget tm) v := by exact p_bin_shr) (hg : wantF ops ⟨some d, .binOp .shr t x y u, T, pos, af, gd⟩ (tget tm) = some true := by rfl) : JD P n W K F ops k nx (⟨some d, .binOp .shr t x y u, T, pos, af, gd⟩ :: rest) tm S M := JD_p rfl hg rfl hp h
theorem L_bin_and {t u : TypeId} {x y : Operand} (h : JL P n W K F ops k rest ((d, v) :: tm) L) (hp : PE P K L ⟨some d, .binOp .and t x y u, T, pos, af, gd⟩ (tget tm) v := by exact p_bin_and) (hn : Nat.blt d n = true := by rfl) (hg : wantF ops ⟨some d, .binOp .and t x y u, T, pos, af, gd⟩ (tget tm) = some true := by rfl) : JL P n W K F ops k (⟨some d, .binOp .and t x y u, T, pos, af, gd⟩ :: rest) tm L := JL_p rfl hn hg hp h
theorem D_bin_and {t u : TypeId} {x y : Operand} (h : JD P n W K F ops k nx rest ((d, v) :: tm) S M) (hp : PE P K S ⟨some d, .binOp .and t x y u, T, pos, af, gd⟩ (tget tm) v := by exact p_bin_and) (hg : wantF ops ⟨some d, .binOp .and t x y u, T, pos, af, gd⟩ (tget tm) = some true := by rfl) : JD P n W K F ops k nx (⟨some d, .binOp .and t x y u, T, pos, af, gd⟩ :: rest) tm S M := JD_p rfl hg rfl hp h
theorem L_bin_or {t u : TypeId} {x y : Operand} (h : JL P n W K F ops k rest ((d, v) :: tm) L) (hp : PE P K L ⟨some d, .binOp .or t x y u, T, pos, af, gd⟩ (tget tm) v := by exact p_bin_or) (hn : Nat.blt d n = true := by rfl) (hg : wantF ops ⟨some d, .binOp .or t x y u, T, pos, af, gd⟩ (tget tm) = some true := by rfl) : JL P n W K F ops k (⟨some d, .binOp .or t x y u, T, pos, af, gd⟩ :: rest) tm L := JL_p rfl hn hg hp h
theorem D_bin_or {t u : TypeId} {x y : Operand} (h : JD P n W K F ops k nx rest ((d, v) :: tm) S M) (hp : PE P K S ⟨some d, .binOp .or t x y u, T, pos, af, gd⟩ (tget tm) v := by exact p_bin_or) (hg : wantF ops ⟨some d, .binOp .or t x y u, T, pos, af, gd⟩ (tget tm) = some true := by rfl) : JD P n W K F ops k nx (⟨some d, .binOp .or t x y u, T, pos, af, gd⟩ :: rest) tm S M := JD_p rfl hg rfl hp h
theorem L_bin_xor {t u : TypeId} {x y : Operand} (h : JL P n W K F ops k rest ((d, v) :: tm) L) (hp : PE P K L ⟨some d, .binOp .xor t x y u, T, pos, af, gd⟩ (tget tm) v := by exact p_bin_xor) (hn : Nat.blt d n = true := by rfl) (hg : wantF ops ⟨some d, .binOp .xor t x y u, T, pos, af, gd⟩ (tget tm) = some true := by rfl) : JL P n W K F ops k (⟨some d, .binOp .xor t x y u, T, pos, af, gd⟩ :: rest) tm L := JL_p rfl hn hg hp h
theorem D_bin_xor {t u : TypeId} {x y : Operand} (h : JD P n W K F ops k nx rest ((d, v) :: tm) S M) (hp : PE P K S ⟨some d, .binOp .xor t x y u, T, pos, af, gd⟩ (tget tm) v := by exact p_bin_xor) (hg : wantF ops ⟨some d, .binOp .xor t x y u, T, pos, af, gd⟩ (tget tm) = some true := by rfl) : JD P n W K F ops k nx (⟨some d, .binOp .xor t x y u, T, pos, af, gd⟩ :: rest) tm S M := JD_p rfl hg rfl hp h
theorem L_bin_andNot {t u : TypeId} {x y : Operand} (h : JL P n W K F ops k rest ((d, v) :: tm) L) (hp : PE P K L ⟨some d, .binOp .andNot t x y u, T, pos, af, gd⟩ (tget tm) v := by exact p_bin_andNot) (hn : Nat.blt d n = true := by rfl) (hg : wantF ops ⟨some d, .binOp .andNot t x y u, T, pos, af, gd⟩ (tget tm) = some true := by rfl) : JL P n W K F ops k (⟨some d, .binOp .andNot t x y u, T, pos, af, gd⟩ :: rest) tm L := JL_p rfl hn hg hp h
theorem D_bin_andNot {t u : TypeId} {x y : Operand} (h : JD P n W K F ops k nx rest ((d, v) :: tm) S M) (hp : PE P K S ⟨some d, .binOp .andNot t x y u, T, pos, af, gd⟩ (tget tm) v := by exact p_bin_andNot) (hg : wantF ops ⟨some d, .binOp .andNot t x y u, T, pos, af, gd⟩ (tget tm) = some true := by rfl) : JD P n W K F ops k nx (⟨some d, .binOp .andNot t x y u, T, pos, af, gd⟩ :: rest) tm S M := JD_p rfl hg rfl hp h
theorem L_load {t : TypeId} {x : Operand} (h : JL P n W K F ops k rest ((d, v) :: tm) L) (hp : PE P K L ⟨some d, .load t x, T, pos, af, gd⟩ (tget tm) v := by exact p_load) (hn : Nat.blt d n = true := by rfl) (hg : wantF ops ⟨some d, .load t x, T, pos, af, gd⟩ (tget tm) = some true := by rfl) : JL P n W K F ops k (⟨some d, .load t x, T, pos, af, gd⟩ :: rest) tm L := JL_p rfl hn hg hp h
theorem D_load {t : TypeId} {x : Operand} (h : JD P n W K F ops k nx rest ((d, v) :: tm) S M) (hp : PE P K S ⟨some d, .load t x, T, pos, af, gd⟩ (tget tm) v := by exact p_load) (hg : wantF ops ⟨some d, .load t x, T, pos, af, gd⟩ (tget tm) = some true := by rfl) : JD P n W K F ops k nx (⟨some d, .load t x, T, pos, af, gd⟩ :: rest) tm S M := JD_p rfl hg rfl hp h
theorem L_slice {t : TypeId} {x : Operand} {lo hi mx : Option Operand} (h : JL P n W K F ops k rest ((d, v) :: tm) L) (hp : PE P K L ⟨some d, .slice t x lo hi mx, T, pos, af, gd⟩ (tget tm) v := by exact p_slice) (hn : Nat.blt d n = true := by rfl) (hg : wantF ops ⟨some d, .slice t x lo hi mx, T, pos, af, gd⟩ (tget tm) = some true := by rfl) : JL P n W K F ops k (⟨some d, .slice t x lo hi mx, T, pos, af, gd⟩ :: rest) tm L := JL_p rfl hn hg hp h
theorem D_slice {t : TypeId} {x : Operand} {lo hi mx : Option Operand} (h : JD P n W K F ops k nx rest ((d, v) :: tm) S M) (hp : PE P K S ⟨some d, .slice t x lo hi mx, T, pos, af, gd⟩ (tget tm) v := by exact p_slice) (hg : wantF ops ⟨some d, .slice t x lo hi mx, T, pos, af, gd⟩ (tget tm) = some true := by rfl) : JD P n W K F ops k nx (⟨some d, .slice t x lo hi mx, T, pos, af, gd⟩ :: rest) tm S M := JD_p rfl hg rfl hp h
theorem L_indexAddr {t : TypeId} {x i : Operand} (h : JL P n W K F ops k rest ((d, v) :: tm) L) (hp : PE P K L ⟨some d, .indexAddr t x i, T, pos, af, gd⟩ (tget tm) v := by exact p_indexAddr) (hn : Nat.blt d n = true := by rfl) (hg : wantF ops ⟨some d, .indexAddr t x i, T, pos, af, gd⟩ (tget tm) = some true := by rfl) : JL P n W K F ops k (⟨some d, .indexAddr t x i, T, pos, af, gd⟩ :: rest) tm L := JL_p rfl hn hg hp h
theorem D_indexAddr {t : TypeId} {x i : Operand} (h : JD P n W K F ops k nx rest ((d, v) :: tm) S M) (hp : PE P K S ⟨some d, .indexAddr t x i, T, pos, af, gd⟩ (tget tm) v := by exact p_indexAddr) (hg : wantF ops ⟨some d, .indexAddr t x i, T, pos, af, gd⟩ (tget tm) = some true := by rfl) : JD P n W K F ops k nx (⟨some d, .indexAddr t x i, T, pos, af, gd⟩ :: rest) tm S M := JD_p rfl hg rfl hp h
end
theorem yJ {p q : Prop} (k : p) (h : p → q := by intro hk; first | exact J_seq hk | exact J_reg hk | exact J_skip hk | exact J_block hk | exact J_blk hk | exact J_exit rfl hk | exact J_goto rfl hk | exact J_ift rfl hk | exact J_iff rfl hk | exact J_label hk | fail) : q := h k
theorem yL0 {p q : Prop} (k : p) (h : p → q := by intro hk; first | exact JL_nil hk | exact JL_skip xR xR hk | fail) : q := h k
theorem yD0 {p q : Prop} (k : p) (h : p → q := by intro hk; first | exact JD_skip xR hk | fail) : q := h k
theorem yL {p q : Prop} (k : p) (h : p → q := by intro hk; first | exact L_move hk | exact L_assign hk | exact L_fieldAddr hk | exact L_load hk | exact L_nilCheck hk | exact L_pick hk | exact L_indexAddr hk | exact L_field hk | exact L_build hk | exact L_extract hk | exact L_c_len hk | exact L_un_not hk | exact L_bin_eql hk | exact L_bin_neq hk | exact L_bin_lss hk | exact L_bin_leq hk | exact L_bin_gtr hk | exact L_bin_geq hk | exact L_slice hk | exact L_index hk | exact L_c_cap hk | exact L_c_min hk | exact L_c_max hk | exact L_makeFunc hk | exact L_bin_rem hk | exact L_bin_shr hk | exact L_bin_and hk | exact L_bin_or hk | exact L_bin_xor hk | exact L_bin_andNot hk | exact L_bin_add_i64 hk | exact L_bin_add_u32 hk | exact L_bin_add_u16 hk | exact L_bin_add_u8 hk | exact L_bin_add_u64 hk | exact L_bin_add_r hk | exact L_bin_sub_i64 hk | exact L_bin_sub_u32 hk | exact L_bin_sub_u16 hk | exact L_bin_sub_u8 hk | exact L_bin_sub_u64 hk | exact L_bin_sub_r hk | exact L_bin_mul_i64 hk | exact L_bin_mul_u32 hk | exact L_bin_mul_u16 hk | exact L_bin_mul_u8 hk | exact L_bin_mul_u64 hk | exact L_bin_mul_r hk | exact L_convert_i64 hk | exact L_convert_u32 hk | exact L_convert_u16 hk | exact L_convert_u8 hk | exact L_convert_u64 hk | exact L_convert_r hk | exact L_bin_quo_i64 hk | exact L_bin_quo_u32 hk | exact L_bin_quo_u16 hk | exact L_bin_quo_u8 hk | exact L_bin_quo_u64 hk | exact L_bin_quo_r hk | exact L_bin_shl_i64 hk | exact L_bin_shl_u32 hk | exact L_bin_shl_u16 hk | exact L_bin_shl_u8 hk | exact L_bin_shl_u64 hk | exact L_bin_shl_r hk | exact JL_st xR xR xT xC xR xE xR hk | exact JL_stW xR xR xT xW xR xR xR hk | exact JL_stS xR xR xT xW xP xR xR hk | exact JL_stEl xR xR xT xR xL xR (tabS stab_ok xR) xR xR xO hk | fail) : q := h k
theorem yD {p q : Prop} (k : p) (h : p → q := by intro hk; first | exact D_move hk | exact D_assign hk | exact D_fieldAddr hk | exact D_load hk | exact D_nilCheck hk | exact D_pick hk | exact D_indexAddr hk | exact D_field hk | exact D_build hk | exact D_extract hk | exact D_c_len hk | exact D_un_not hk | exact D_bin_eql hk | exact D_bin_neq hk | exact D_bin_lss hk | exact D_bin_leq hk | exact D_bin_gtr hk | exact D_bin_geq hk | exact D_slice hk | exact D_index hk | exact D_c_cap hk | exact D_c_min hk | exact D_c_max hk | exact D_makeFunc hk | exact D_bin_rem hk | exact D_bin_shr hk | exact D_bin_and hk | exact D_bin_or hk | exact D_bin_xor hk | exact D_bin_andNot hk | exact D_bin_add_i64 hk | exact D_bin_add_u32 hk | exact D_bin_add_u16 hk | exact D_bin_add_u8 hk | exact D_bin_add_u64 hk | exact D_bin_add_r hk | exact D_bin_sub_i64 hk | exact D_bin_sub_u32 hk | exact D_bin_sub_u16 hk | exact D_bin_sub_u8 hk | exact D_bin_sub_u64 hk | exact D_bin_sub_r hk | exact D_bin_mul_i64 hk | exact D_bin_mul_u32 hk | exact D_bin_mul_u16 hk | exact D_bin_mul_u8 hk | exact D_bin_mul_u64 hk | exact D_bin_mul_r hk | exact D_convert_i64 hk | exact D_convert_u32 hk | exact D_convert_u16 hk | exact D_convert_u8 hk | exact D_convert_u64 hk | exact D_convert_r hk | exact D_bin_quo_i64 hk | exact D_bin_quo_u32 hk | exact D_bin_quo_u16 hk | exact D_bin_quo_u8 hk | exact D_bin_quo_u64 hk | exact D_bin_quo_r hk | exact D_bin_shl_i64 hk | exact D_bin_shl_u32 hk | exact D_bin_shl_u16 hk | exact D_bin_shl_u8 hk | exact D_bin_shl_u64 hk | exact D_bin_shl_r hk | exact JD_st xR xR xT xC xR xE xR hk | exact JD_stW xR xR xT xW xR xR xR hk | exact JD_stS xR xR xT xW xP xR xR hk | exact JD_stEl xR xR xT xR xL xR (tabS stab_ok xR) xR xR xO hk | exact JD_ldM xR xT xC xR xR hk | exact JD_ldWM xR xT xW xR hk | exact JD_ldSM xR xT (tabS stab_ok xR) xG xC xR hk | exact JD_ixM xR xR (tabE etab_ok xR) xT xI xO xR hk | exact JD_ixV xR xR (tabE etab_ok xR) xT xI xO xR hk | fail) : q := h k
theorem yM {p q : Prop} (k : p) (h : p → q := by intro hk; first | exact JL_mc rfl xR xR (al_boxA xR) hk | exact JL_mc rfl xR xR (al_boxC xR xR) hk | exact JL_mc rfl xR xR (al_alloc xN xK) hk | exact JL_mc rfl xR xR (al_bs1 xR (tabE etab_ok xR) xK) hk | exact JL_mc rfl xR xR (al_bs xR (tabE etab_ok xR) xN xK) hk | fail) : q := h k
theorem yE {p q : Prop} (k : p) (h : p → q := by intro hk; first | exact JD_mc rfl xR rfl (al_boxA xR) hk | exact JD_mc rfl xR rfl (al_boxC xR xR) hk | exact JD_mc rfl xR rfl (al_alloc xN xK) hk | exact JD_mc rfl xR rfl (al_bs1 xR (tabE etab_ok xR) xK) hk | exact JD_mc rfl xR rfl (al_bs xR (tabE etab_ok xR) xN xK) hk | fail) : q := h k
theorem yA {p q : Prop} (k : p) (h : p → q := by intro hk; first | exact JL_ap1 (tabE etab_ok xR) xR xR xT xT xC xR xL xR xO xR xR hk | exact JL_app (tabE etab_ok xR) xR xR xT xV xC xL xU xO xR xR hk | fail) : q := h k
theorem yB {p q : Prop} (k : p) (h : p → q := by intro hk; first | exact JD_ap1 (tabE etab_ok xR) xR xR xT xT xC xR xL xR xO xR hk | exact JD_app (tabE etab_ok xR) xR xR xT xV xC xL xU xO xR hk | fail) : q := h k
end Go.Proofs.YtnhabkipjmgaaaaGreat
namespace Go.Proofs.YtnhabkipjmgaaaaGreat.T
set_option linter.unusedSimpArgs false
set_option linter.unusedVariables false
set_option maxRecDepth 20000
set_option maxHeartbeats 4000000
open Go.RowKit Go.Pm


def ret0 (v : Value) : Value → List HP → Prop := fun u L => u = v ∧ L = []
def U32 (z : Int) : Prop := 0 ≤ z ∧ z ≤ 4294967295
def I64 (z : Int) : Prop := -9223372036854775808 ≤ z ∧ z ≤ 9223372036854775807
/-- A prefix: address, length. -/
abbrev Pf := Int × Int
def PfN (p : Pf) : Prop := U32 p.1 ∧ I64 p.2
abbrev pfC (p : Pf) : List Value := [.int .u32 p.1, .int .i64 p.2]
/-- How many addresses begin with so many bits. -/
def pw (l : Int) : Int := 2 ^ (32 - l).toNat
def Rt (p : Pf) : Prop := 0 ≤ p.2 ∧ p.2 ≤ 32 ∧ p.1 % pw p.2 = 0
instance (p : Pf) : Decidable (Rt p) := inferInstanceAs (Decidable (_ ∧ _ ∧ _))
def Wi (p q : Pf) : Prop := Rt p ∧ Rt q ∧ p.2 ≤ q.2 ∧ q.1 / pw p.2 = p.1 / pw p.2
instance (p q : Pf) : Decidable (Wi p q) := inferInstanceAs (Decidable (_ ∧ _ ∧ _ ∧ _))

theorem pw_pos (l : Int) : 0 < pw l := Int.pow_pos (by omega)
theorem pw_le (l : Int) (h : 0 ≤ l) : pw l ≤ 4294967296 := by
  unfold pw
  have : (2 : Int) ^ (32 - l).toNat ≤ 2 ^ 32 := by
    have h1 : (2 : Nat) ^ (32 - l).toNat ≤ 2 ^ 32 := Nat.pow_le_pow_right (by omega) (by omega)
    exact_mod_cast h1
  omega
theorem pw_32 : pw 32 = 1 := rfl
theorem pw_0 : pw 0 = 4294967296 := rfl
theorem pw_succ (l : Int) (h0 : 0 ≤ l) (h : l < 32) : pw l = 2 * pw (l + 1) := by
  unfold pw
  rw [show (32 - l).toNat = (32 - (l + 1)).toNat + 1 by omega, Int.pow_succ]
  omega
theorem mask_fits (a l : Int) (ha : U32 a) (h : 0 ≤ l) : U32 (a - a % pw l) := by
  have h1 := Int.emod_nonneg a (Int.ne_of_gt (pw_pos l))
  have h2 := Int.emod_lt_of_pos a (pw_pos l)
  have h3 : a % pw l ≤ a := by
    have := Int.mul_ediv_add_emod a (pw l)
    have h4 : 0 ≤ pw l * (a / pw l) := Int.mul_nonneg (Int.le_of_lt (pw_pos l)) (Int.ediv_nonneg ha.1 (Int.le_of_lt (pw_pos l)))
    omega
  unfold U32 at *
  omega
theorem mask_s (a l : Int) (ha : U32 a) (h0 : 0 ≤ l) (h1 : l ≤ 32) : Pact Tryz.prog 91 #[.int .u32 a, .int .i64 l] (fun _ => True) [] (ret0 (.int .u32 (a - a % pw l))) := by
  refine pact Tryz.func91 rfl Tryz.ntmps91 rfl ?_
  intro W K _
  have hm : (32 - l) = (((32 - l).toNat : Nat) : Int) := by omega
  have hle := pw_le l h0
  have hpos := pw_pos l
  have e1 : (1 : Int) * 2 ^ (32 - l).toNat = pw l := by unfold pw; omega
  unfold U32 at ha
  (repeat' (first | ((with_reducible apply gL); (first | refine yL0 ?_ | ((with_reducible apply gL_bin_shl); (first | (refine JL_p rfl xR xR (pe_shl (m := (32 - l).toNat) xR xR hm (by show _ ≤ 64; omega) (w_u64 (by rw [e1]; omega) (by rw [e1]; omega))) ?_) | fail)) | refine yL ?_ | fail)) | refine yJ ?_ | fail))
  refine J_ret1 rfl (by rfl) fun w H => ⟨[], ⟨?_, rfl⟩, H.sel .nil⟩
  rw [e1]
  have := bits_andNot (a := a) (m := (32 - l).toNat) (by omega) (by omega) (by omega)
  unfold pw at *
  rw [this]
theorem first_s (a l : Int) (ha : U32 a) (h0 : 0 ≤ l) (h1 : l ≤ 32) : Pact Tryz.prog 130 #[.int .u32 a, .int .i64 l] (fun _ => True) [] (ret0 (.int .u32 (a - a % pw l))) := by
  refine pact Tryz.func130 rfl Tryz.ntmps130 rfl ?_
  intro W K _
  have hm : (32 - l) = (((32 - l).toNat : Nat) : Int) := by omega
  have hle := pw_le l h0
  have hpos := pw_pos l
  have e1 : (1 : Int) * 2 ^ (32 - l).toNat = pw l := by unfold pw; omega
  unfold U32 at ha
  (repeat' (first | ((with_reducible apply gL); (first | refine yL0 ?_ | ((with_reducible apply gL_bin_shl); (first | (refine JL_p rfl xR xR (pe_shl (m := (32 - l).toNat) xR xR hm (by show _ ≤ 64; omega) (w_u64 (by rw [e1]; omega) (by rw [e1]; omega))) ?_) | fail)) | refine yL ?_ | fail)) | refine yJ ?_ | fail))
  refine J_ret1 rfl (by rfl) fun w H => ⟨[], ⟨?_, rfl⟩, H.sel .nil⟩
  rw [e1]
  have := bits_andNot (a := a) (m := (32 - l).toNat) (by omega) (by omega) (by omega)
  unfold pw at *
  rw [this]
/-- The bit behind the first l ones. -/
def bt (a l : Int) : Int := a / pw (l + 1) % 2
theorem bt_cases (a l : Int) : bt a l = 0 ∨ bt a l = 1 := by unfold bt; omega
theorem bit_s (a l : Int) (ha : U32 a) (h0 : 0 ≤ l) (h1 : l ≤ 31) : Pact Tryz.prog 107 #[.int .u32 a, .int .i64 l] (fun _ => True) [] (ret0 (.int .i64 (bt a l))) := by
  refine pact Tryz.func107 rfl Tryz.ntmps107 rfl ?_
  intro W K _
  have hm : (31 - l) = (((31 - l).toNat : Nat) : Int) := by omega
  have e1 : (2 : Int) ^ (31 - l).toNat = pw (l + 1) := by unfold pw; rw [show (32 - (l + 1)).toNat = (31 - l).toNat by omega]
  unfold U32 at ha
  have hd : 0 ≤ a / 2 ^ (31 - l).toNat := Int.ediv_nonneg ha.1 (Int.le_of_lt (Int.pow_pos (by omega)))
  have hd2 : a / 2 ^ (31 - l).toNat ≤ a := Int.ediv_le_self _ ha.1
  (repeat' (first | ((with_reducible apply gL); (first | refine yL0 ?_ | ((with_reducible apply gL_bin_shr); (first | (refine JL_p rfl xR xR (pe_shr (m := (31 - l).toNat) xR xR hm (by show _ ≤ 32; omega)) ?_) | fail)) | refine yL ?_ | fail)) | refine yJ ?_ | fail))
  refine J_ret1 rfl (by rfl) fun w H => ⟨[], ⟨?_, rfl⟩, H.sel .nil⟩
  rw [bits_and1 (by omega) (by omega), e1]
  rfl
theorem mask_eq {p q : Pf} (hp : Rt p) : q.1 - q.1 % pw p.2 = p.1 ↔ q.1 / pw p.2 = p.1 / pw p.2 := by
  have h1 := Int.mul_ediv_add_emod q.1 (pw p.2)
  have h2 := Int.mul_ediv_add_emod p.1 (pw p.2)
  have h3 := hp.2.2
  have hpos := pw_pos p.2
  constructor
  · intro h
    have h4 : pw p.2 * (q.1 / pw p.2) = pw p.2 * (p.1 / pw p.2) := by omega
    exact Int.eq_of_mul_eq_mul_left (Int.ne_of_gt hpos) h4
  · intro h
    rw [h] at h1
    omega
theorem right_s (p : Pf) (hp : PfN p) : Pact Tryz.prog 67 #[.agg (pfC p).toArray] (fun _ => True) [] (ret0 (.bool (decide (Rt p)))) := by
  refine pact Tryz.func67 rfl Tryz.ntmps67 rfl ?_
  intro W K _
  (repeat' (first | ((with_reducible apply gL); (first | refine yL0 ?_ | refine yL ?_ | (refine yM ?_; intro _) | fail)) | ((with_reducible apply gD); (first | (refine JD_nil ?_; try simp only [List.cons_append, List.nil_append]) | (refine JD_bar ?_; try simp only [List.cons_append, List.nil_append]) | refine yD0 ?_ | refine yD ?_ | ((with_reducible apply gD_go); (first | (refine JD_goq (mask_s p.1 p.2 hp.1 (by omega) (by omega)) (hφ := xF) (h := ?_); rintro _ _ ⟨rfl, rfl⟩; try simp only [List.cons_append, List.nil_append]) | fail)) | ((with_reducible apply gD_gd); (first | (refine JD_guard xR xR ?_ ?_ <;> intro _ <;> (try (exfalso; first | contradiction | omega))) | (refine JD_guardb xR xR ?_ ?_ <;> (intro hgb; subst hgb)) | (refine JD_guardb xR xR ?_ ?_ <;> (intro hgb; fail_if_success (have : type_of% hgb := rfl))) | fail)) | fail)) | refine yJ ?_ | refine J_draw (id := 1) [0, 1, 2, 3, 4, 5, 6, 7, 8, 9, 10, 11, 12, 14, 15, 13] [16, 17, 18] mixed xC xD xD ?_ | fail))
  all_goals (refine J_ret1 rfl (by rfl) fun w H => ⟨[], ⟨?_, rfl⟩, H.sel .nil⟩)
  all_goals congr 1
  · rename_i h1 h2
    simp only [Rt, h1, h2, true_and]
    congr 1
    simp only [eq_iff_iff]
    omega
  · rename_i h1 h2
    simp [Rt, h1, h2]
  · rename_i h1
    simp [Rt, h1]
end Go.Proofs.YtnhabkipjmgaaaaGreat.T
namespace Go.Proofs.YtnhabkipjmgaaaaGreat.T
set_option linter.unusedSimpArgs false
set_option linter.unusedVariables false
set_option maxRecDepth 20000
set_option maxHeartbeats 4000000
open Go.RowKit Go.Pm


theorem rt_lo {p : Pf} (h : Rt p) : 0 ≤ p.2 := h.1
theorem rt_hi {p : Pf} (h : Rt p) : p.2 ≤ 32 := h.2.1
theorem within_s (p q : Pf) (hp : PfN p) (hq : PfN q) : Pact Tryz.prog 106 #[.agg (pfC p).toArray, .agg (pfC q).toArray] (fun _ => True) [] (ret0 (.bool (decide (Wi p q)))) := by
  refine pact Tryz.func106 rfl Tryz.ntmps106 rfl ?_
  intro W K _
  (repeat' (first | ((with_reducible apply gL); (first | refine yL0 ?_ | refine yL ?_ | (refine yM ?_; intro _) | fail)) | ((with_reducible apply gD); (first | (refine JD_nil ?_; try simp only [List.cons_append, List.nil_append]) | (refine JD_bar ?_; try simp only [List.cons_append, List.nil_append]) | refine yD0 ?_ | refine yD ?_ | ((with_reducible apply gD_go); (first | (refine JD_goq (right_s p hp) (hφ := xF) (h := ?_); rintro _ _ ⟨rfl, rfl⟩; try simp only [List.cons_append, List.nil_append]) | (refine JD_goq (right_s q hq) (hφ := xF) (h := ?_); rintro _ _ ⟨rfl, rfl⟩; try simp only [List.cons_append, List.nil_append]) | (refine JD_goq (mask_s q.1 p.2 hq.1 (rt_lo (by assumption)) (rt_hi (by assumption))) (hφ := xF) (h := ?_); rintro _ _ ⟨rfl, rfl⟩; try simp only [List.cons_append, List.nil_append]) | fail)) | ((with_reducible apply gD_gd); (first | (refine JD_guard xR xR ?_ ?_ <;> intro _ <;> (try (exfalso; first | contradiction | omega))) | (refine JD_guardb xR xR ?_ ?_ <;> (intro hgb; subst hgb)) | (refine JD_guardb xR xR ?_ ?_ <;> (intro hgb; fail_if_success (have : type_of% hgb := rfl))) | fail)) | fail)) | refine yJ ?_ | refine J_draw (id := 1) [0] [1, 2, 3, 4, 5, 6, 7, 8, 9, 10, 11, 12, 13, 14, 15, 16, 17, 19, 20, 18, 21, 22, 23] mixed xC xD xD ?_ | fail))
  all_goals (refine J_ret1 rfl (by rfl) fun w H => ⟨[], ⟨?_, rfl⟩, H.sel .nil⟩)
  all_goals congr 1
  · rename_i h1 h2 h3
    have := mask_eq (q := q) h1
    simp [Wi, h1, h2, h3, this]
  · rename_i h1 h2 h3
    simp [Wi, h1, h2, h3]
  · rename_i h1 h2
    simp [Wi, h1, h2]
  · rename_i h1
    simp [Wi, h1]
theorem bt_div (a l : Int) (h0 : 0 ≤ l) (h1 : l < 32) : a / pw (l + 1) = 2 * (a / pw l) + bt a l := by
  have h := pw_succ l h0 h1
  have h2 : a / pw l = a / pw (l + 1) / 2 := by
    rw [h, Int.mul_comm, Int.ediv_ediv_of_nonneg (Int.le_of_lt (pw_pos _))]
  unfold bt
  omega
/-- A longest prefix that has both within. -/
def Com (p q : Pf) (v : Value) : Prop := ∃ n : Int, 0 ≤ n ∧ n ≤ p.2 ∧ n ≤ q.2 ∧ p.1 / pw n = q.1 / pw n ∧ (n < p.2 → n < q.2 → bt p.1 n ≠ bt q.1 n) ∧ v = .agg (pfC (p.1 - p.1 % pw n, n)).toArray
theorem common_s (p q : Pf) (hp : PfN p) (hq : PfN q) (rp : Rt p) (rq : Rt q) : Pact Tryz.prog 108 #[.agg (pfC p).toArray, .agg (pfC q).toArray] (fun _ => True) [] (fun v L' => Com p q v ∧ L' = []) := by
  refine pact Tryz.func108 rfl Tryz.ntmps108 rfl ?_
  intro W K _
  have b1 := rp.1
  have b2 := rp.2.1
  have b3 := rq.1
  have b4 := rq.2.1
  (repeat' (first | ((with_reducible apply gL); (first | refine yL0 ?_ | refine yL ?_ | (refine yM ?_; intro _) | fail)) | ((with_reducible apply gD); (first | (refine JD_nil ?_; try simp only [List.cons_append, List.nil_append]) | (refine JD_bar ?_; try simp only [List.cons_append, List.nil_append]) | refine yD0 ?_ | refine yD ?_ | ((with_reducible apply gD_gd); (first | (refine JD_guard xR xR ?_ ?_ <;> intro _ <;> (try (exfalso; first | contradiction | omega))) | (refine JD_guardb xR xR ?_ ?_ <;> (intro hgb; subst hgb)) | (refine JD_guardb xR xR ?_ ?_ <;> (intro hgb; fail_if_success (have : type_of% hgb := rfl))) | fail)) | fail)) | refine yJ ?_ | ((with_reducible apply gJ_if); (first | (refine J_if xR ?_ ?_ <;> intro _ <;> (try (exfalso; first | contradiction | omega))) | (refine J_ifb xR ?_ ?_ <;> (intro hgb; subst hgb)) | (refine J_ifb xR ?_ ?_ <;> intro _) | fail)) | refine J_draw (id := 2) [0, 1, 2, 3, 4, 5, 6, 7, 8, 9, 10, 12, 13, 14, 11] [15, 16, 17] mixed xC xD xD ?_ | fail))
  rename_i g1 g2 g3
  refine J_loop (α := Nat) 0 (fun k => (min p.2 q.2).toNat - k) (fun k => (k : Int) ≤ p.2 ∧ (k : Int) ≤ q.2 ∧ p.1 / pw k = q.1 / pw k) (fun k => [(2, .pointer (some ⟨g1, 0, none⟩)), (3, .pointer (some ⟨g2, 0, none⟩)), (4, .pointer (some ⟨g3, 0, none⟩)), (5, .int .i64 k)])
    (fun _ => [pts g1 (pfC p) 41, pts g2 (pfC q) 41, pts g3 [.int .u32 0, .int .i64 0] 41]) ⟨b1, b3, ?_⟩ ⟨rfl, rfl, rfl, rfl, trivial⟩ (fun w H => H.sel xZ) ?_
  · have h1 := hp.1
    have h2 := hq.1
    unfold U32 at h1 h2
    show p.1 / pw 0 = q.1 / pw 0
    rw [pw_0]
    omega
  rintro k ⟨hk1, hk2, he⟩
  by_cases hlt : (k : Int) < min p.2 q.2
  · have d1 := bt_div p.1 k (by omega) (by omega)
    have d2 := bt_div q.1 k (by omega) (by omega)
    by_cases hb : bt p.1 k = bt q.1 k
    · (repeat' (first | ((with_reducible apply gL); (first | refine yL0 ?_ | refine yL ?_ | ((with_reducible apply gL_go); (first | (refine JL_goq (bit_s p.1 k hp.1 (by omega) (by omega)) (hφ := xF) (h := ?_); rintro _ _ ⟨rfl, rfl⟩; try simp only [List.cons_append, List.nil_append]) | (refine JL_goq (bit_s q.1 k hq.1 (by omega) (by omega)) (hφ := xF) (h := ?_); rintro _ _ ⟨rfl, rfl⟩; try simp only [List.cons_append, List.nil_append]) | fail)) | (refine yM ?_; intro _) | fail)) | ((with_reducible apply gD); (first | (refine JD_nil ?_; try simp only [List.cons_append, List.nil_append]) | (refine JD_bar ?_; try simp only [List.cons_append, List.nil_append]) | refine yD0 ?_ | refine yD ?_ | ((with_reducible apply gD_go); (first | (refine JD_goq (bit_s p.1 k hp.1 (by omega) (by omega)) (hφ := xF) (h := ?_); rintro _ _ ⟨rfl, rfl⟩; try simp only [List.cons_append, List.nil_append]) | (refine JD_goq (bit_s q.1 k hq.1 (by omega) (by omega)) (hφ := xF) (h := ?_); rintro _ _ ⟨rfl, rfl⟩; try simp only [List.cons_append, List.nil_append]) | fail)) | ((with_reducible apply gD_gd); (first | (refine JD_guard xR xR ?_ ?_ <;> intro _ <;> (try (exfalso; first | contradiction | omega))) | (refine JD_guardb xR xR ?_ ?_ <;> (intro hgb; subst hgb)) | (refine JD_guardb xR xR ?_ ?_ <;> (intro hgb; fail_if_success (have : type_of% hgb := rfl))) | fail)) | fail)) | refine yJ ?_ | ((with_reducible apply gJ_if); (first | (refine J_if xR ?_ ?_ <;> intro _ <;> (try (exfalso; first | contradiction | omega))) | (refine J_ifb xR ?_ ?_ <;> (intro hgb; subst hgb)) | (refine J_ifb xR ?_ ?_ <;> intro _) | fail)) | refine J_draw (id := 2) [0, 1, 2, 3, 4, 5, 6, 7, 8, 9, 10, 12, 13, 14, 11] [15, 16, 17] mixed xC xD xD ?_ | fail))
      refine J_again (k + 1) (by omega) ⟨by omega, by omega, ?_⟩ ⟨rfl, rfl, rfl, rfl, trivial⟩ (fun w H => H.sel xZ)
      show p.1 / pw ((k : Int) + 1) = q.1 / pw ((k : Int) + 1)
      rw [d1, d2, he, hb]
    · (repeat' (first | ((with_reducible apply gL); (first | refine yL0 ?_ | refine yL ?_ | ((with_reducible apply gL_go); (first | (refine JL_goq (bit_s p.1 k hp.1 (by omega) (by omega)) (hφ := xF) (h := ?_); rintro _ _ ⟨rfl, rfl⟩; try simp only [List.cons_append, List.nil_append]) | (refine JL_goq (bit_s q.1 k hq.1 (by omega) (by omega)) (hφ := xF) (h := ?_); rintro _ _ ⟨rfl, rfl⟩; try simp only [List.cons_append, List.nil_append]) | (refine JL_goq (first_s p.1 k hp.1 (by omega) (by omega)) (hφ := xF) (h := ?_); rintro _ _ ⟨rfl, rfl⟩; try simp only [List.cons_append, List.nil_append]) | fail)) | (refine yM ?_; intro _) | fail)) | ((with_reducible apply gD); (first | (refine JD_nil ?_; try simp only [List.cons_append, List.nil_append]) | (refine JD_bar ?_; try simp only [List.cons_append, List.nil_append]) | refine yD0 ?_ | refine yD ?_ | ((with_reducible apply gD_go); (first | (refine JD_goq (bit_s p.1 k hp.1 (by omega) (by omega)) (hφ := xF) (h := ?_); rintro _ _ ⟨rfl, rfl⟩; try simp only [List.cons_append, List.nil_append]) | (refine JD_goq (bit_s q.1 k hq.1 (by omega) (by omega)) (hφ := xF) (h := ?_); rintro _ _ ⟨rfl, rfl⟩; try simp only [List.cons_append, List.nil_append]) | (refine JD_goq (first_s p.1 k hp.1 (by omega) (by omega)) (hφ := xF) (h := ?_); rintro _ _ ⟨rfl, rfl⟩; try simp only [List.cons_append, List.nil_append]) | fail)) | ((with_reducible apply gD_gd); (first | (refine JD_guard xR xR ?_ ?_ <;> intro _ <;> (try (exfalso; first | contradiction | omega))) | (refine JD_guardb xR xR ?_ ?_ <;> (intro hgb; subst hgb)) | (refine JD_guardb xR xR ?_ ?_ <;> (intro hgb; fail_if_success (have : type_of% hgb := rfl))) | fail)) | fail)) | refine yJ ?_ | ((with_reducible apply gJ_if); (first | (refine J_if xR ?_ ?_ <;> intro _ <;> (try (exfalso; first | contradiction | omega))) | (refine J_ifb xR ?_ ?_ <;> (intro hgb; subst hgb)) | (refine J_ifb xR ?_ ?_ <;> intro _) | fail)) | refine J_draw (id := 2) [0, 1, 2, 3, 4, 5, 6, 7, 8, 9, 10, 12, 13, 14, 11] [15, 16, 17] mixed xC xD xD ?_ | fail))
      refine J_retC (cs := [.int .u32 (p.1 - p.1 % pw k), .int .i64 k]) rfl (by rfl) xA (by rfl) fun w H => ⟨_, ⟨⟨k, by omega, hk1, hk2, he, fun _ _ => hb, rfl⟩, rfl⟩, H.sel .nil⟩
  · (repeat' (first | ((with_reducible apply gL); (first | refine yL0 ?_ | refine yL ?_ | ((with_reducible apply gL_go); (first | (refine JL_goq (first_s p.1 k hp.1 (by omega) (by omega)) (hφ := xF) (h := ?_); rintro _ _ ⟨rfl, rfl⟩; try simp only [List.cons_append, List.nil_append]) | fail)) | (refine yM ?_; intro _) | fail)) | ((with_reducible apply gD); (first | (refine JD_nil ?_; try simp only [List.cons_append, List.nil_append]) | (refine JD_bar ?_; try simp only [List.cons_append, List.nil_append]) | refine yD0 ?_ | refine yD ?_ | ((with_reducible apply gD_go); (first | (refine JD_goq (first_s p.1 k hp.1 (by omega) (by omega)) (hφ := xF) (h := ?_); rintro _ _ ⟨rfl, rfl⟩; try simp only [List.cons_append, List.nil_append]) | fail)) | ((with_reducible apply gD_gd); (first | (refine JD_guard xR xR ?_ ?_ <;> intro _ <;> (try (exfalso; first | contradiction | omega))) | (refine JD_guardb xR xR ?_ ?_ <;> (intro hgb; subst hgb)) | (refine JD_guardb xR xR ?_ ?_ <;> (intro hgb; fail_if_success (have : type_of% hgb := rfl))) | fail)) | fail)) | refine yJ ?_ | ((with_reducible apply gJ_if); (first | (refine J_if xR ?_ ?_ <;> intro _ <;> (try (exfalso; first | contradiction | omega))) | (refine J_ifb xR ?_ ?_ <;> (intro hgb; subst hgb)) | (refine J_ifb xR ?_ ?_ <;> intro _) | fail)) | refine J_draw (id := 2) [0, 1, 2, 3, 4, 5, 6, 7, 8, 9, 10, 12, 13, 14, 11] [15, 16, 17] mixed xC xD xD ?_ | fail))
    refine J_retC (cs := [.int .u32 (p.1 - p.1 % pw k), .int .i64 k]) rfl (by rfl) xA (by rfl) fun w H => ⟨_, ⟨⟨k, by omega, hk1, hk2, he, fun _ _ => by omega, rfl⟩, rfl⟩, H.sel .nil⟩

/-! The document's answer. -/
/-- Ahead of. -/
def Ah (p q : Pf) : Prop := p.1 < q.1 ∨ (p.1 = q.1 ∧ p.2 < q.2)
instance (p q : Pf) : Decidable (Ah p q) := inferInstanceAs (Decidable (_ ∨ (_ ∧ _)))
end Go.Proofs.YtnhabkipjmgaaaaGreat.T
namespace Go.Proofs.YtnhabkipjmgaaaaGreat.T
set_option linter.unusedSimpArgs false
set_option linter.unusedVariables false
open Go.RowKit Go.Pm


theorem div_pw (a l m : Int) (h0 : 0 ≤ l) (h1 : l ≤ m) (h2 : m ≤ 32) : a / pw l = a / pw m / 2 ^ (m - l).toNat := by
  have : pw l = pw m * 2 ^ (m - l).toNat := by
    unfold pw
    rw [← Int.pow_add]
    congr 1
    omega
  rw [this, Int.ediv_ediv_of_nonneg (Int.le_of_lt (pw_pos _))]
theorem Wi.rt1 {p q : Pf} (h : Wi p q) : Rt p := h.1
theorem Wi.rt2 {p q : Pf} (h : Wi p q) : Rt q := h.2.1
theorem Wi.le {p q : Pf} (h : Wi p q) : p.2 ≤ q.2 := h.2.2.1
theorem Wi.refl {p : Pf} (h : Rt p) : Wi p p := ⟨h, h, Int.le_refl _, rfl⟩
theorem Wi.trans {p q r : Pf} (h : Wi p q) (k : Wi q r) : Wi p r := by
  refine ⟨h.1, k.2.1, Int.le_trans h.le k.le, ?_⟩
  rw [div_pw r.1 p.2 q.2 h.1.1 h.le (rt_hi h.2.1), k.2.2.2, ← div_pw q.1 p.2 q.2 h.1.1 h.le (rt_hi h.2.1), h.2.2.2]
/-- Two that have a third one within: one has the other within. -/
theorem Wi.comp {p q r : Pf} (h : Wi p r) (k : Wi q r) (hl : p.2 ≤ q.2) : Wi p q := by
  refine ⟨h.1, k.1, hl, ?_⟩
  rw [div_pw q.1 p.2 q.2 h.1.1 hl (rt_hi k.1), ← k.2.2.2, ← div_pw r.1 p.2 q.2 h.1.1 hl (rt_hi k.1), h.2.2.2]
theorem rt_eq {p : Pf} (h : Rt p) : p.1 = pw p.2 * (p.1 / pw p.2) := by
  have := Int.mul_ediv_add_emod p.1 (pw p.2)
  have := h.2.2
  omega
theorem Wi.anti {p q : Pf} (h : Wi p q) (hl : q.2 ≤ p.2) : p = q := by
  have hle := h.le
  have e : p.2 = q.2 := by omega
  have h1 := rt_eq h.1
  have h2 := rt_eq h.2.1
  have h3 := h.2.2.2
  rw [e] at h1 h3
  have : p.1 = q.1 := by rw [h1, h2, h3]
  exact Prod.ext this e
theorem Wi.lt {p q : Pf} (h : Wi p q) (hne : p ≠ q) : p.2 < q.2 := by
  rcases Int.lt_or_le p.2 q.2 with h1 | h1
  · exact h1
  · exact (hne (h.anti h1)).elim
/-- Where it lies. -/
theorem Wi.lo {p q : Pf} (h : Wi p q) : p.1 ≤ q.1 := by
  have h1 := rt_eq h.1
  have h2 := Int.mul_ediv_add_emod q.1 (pw p.2)
  have h3 := Int.emod_nonneg q.1 (Int.ne_of_gt (pw_pos p.2))
  rw [h.2.2.2] at h2
  omega
theorem Wi.hi {p q : Pf} (h : Wi p q) : q.1 < p.1 + pw p.2 := by
  have h1 := rt_eq h.1
  have h2 := Int.mul_ediv_add_emod q.1 (pw p.2)
  have h3 := Int.emod_lt_of_pos q.1 (pw_pos p.2)
  rw [h.2.2.2] at h2
  omega

/-- The two halves of a prefix. -/
def kid (p : Pf) (i : Bool) : Pf := (p.1 + (if i then pw (p.2 + 1) else 0), p.2 + 1)
def btB (a l : Int) : Bool := decide (bt a l = 1)
theorem kid_div {p : Pf} (h : Rt p) (h1 : p.2 < 32) (i : Bool) : (kid p i).1 / pw (p.2 + 1) = 2 * (p.1 / pw p.2) + (if i then 1 else 0) := by
  have e := rt_eq h
  have hp := pw_succ p.2 h.1 h1
  have hpos := pw_pos (p.2 + 1)
  have e2 : (kid p i).1 = pw (p.2 + 1) * (2 * (p.1 / pw p.2) + (if i then 1 else 0)) := by
    show p.1 + (if i then pw (p.2 + 1) else 0) = _
    rw [Int.mul_add, ← Int.mul_assoc, Int.mul_comm (pw (p.2 + 1)) 2, ← hp, ← e]
    cases i <;> simp
  rw [e2, Int.mul_ediv_cancel_left _ (Int.ne_of_gt hpos)]
theorem kid_rt {p : Pf} (h : Rt p) (h1 : p.2 < 32) (i : Bool) : Rt (kid p i) := by
  have e := rt_eq h
  have hp := pw_succ p.2 h.1 h1
  refine ⟨by show 0 ≤ p.2 + 1; have := h.1; omega, by show p.2 + 1 ≤ 32; omega, ?_⟩
  show (kid p i).1 % pw (p.2 + 1) = 0
  have e2 : (kid p i).1 = pw (p.2 + 1) * (2 * (p.1 / pw p.2) + (if i then 1 else 0)) := by
    show p.1 + (if i then pw (p.2 + 1) else 0) = _
    rw [Int.mul_add, ← Int.mul_assoc, Int.mul_comm (pw (p.2 + 1)) 2, ← hp, ← e]
    cases i <;> simp
  rw [e2, Int.mul_emod_right]
/-- What is within a half. -/
theorem kid_wi {p q : Pf} {i : Bool} (h : Wi (kid p i) q) (hp : Rt p) : Wi p q ∧ p ≠ q ∧ btB q.1 p.2 = i := by
  have hlt : p.2 < 32 := by have := h.rt1.2.1; have e : (kid p i).2 = p.2 + 1 := rfl; omega
  have hle : p.2 + 1 ≤ q.2 := h.le
  have h3 : q.1 / pw (p.2 + 1) = (kid p i).1 / pw (p.2 + 1) := h.2.2.2
  rw [kid_div hp hlt i, bt_div q.1 p.2 hp.1 hlt] at h3
  have hb := bt_cases q.1 p.2
  have e1 : q.1 / pw p.2 = p.1 / pw p.2 := by cases i <;> simp at h3 <;> omega
  refine ⟨⟨hp, h.rt2, by omega, e1⟩, fun e => by subst e; omega, ?_⟩
  unfold btB
  cases i
  · apply decide_eq_false; simp at h3; omega
  · apply decide_eq_true; simp at h3; omega
theorem wi_kid {p q : Pf} (h : Wi p q) (hne : p ≠ q) : p.2 < 32 ∧ Wi (kid p (btB q.1 p.2)) q := by
  have hl := h.lt hne
  have hq := rt_hi h.2.1
  have hlt : p.2 < 32 := by omega
  refine ⟨hlt, kid_rt h.1 hlt _, h.rt2, by show p.2 + 1 ≤ q.2; omega, ?_⟩
  show q.1 / pw (p.2 + 1) = _
  show q.1 / pw (p.2 + 1) = (kid p (btB q.1 p.2)).1 / pw (p.2 + 1)
  rw [kid_div h.1 hlt, bt_div q.1 p.2 h.1.1 hlt, h.2.2.2]
  have hb := bt_cases q.1 p.2
  unfold btB
  rcases hb with hb | hb <;> simp [hb]

/-! Order. -/
theorem Ah.trans {p q r : Pf} (h : Ah p q) (k : Ah q r) : Ah p r := by unfold Ah at *; omega
theorem Ah.irrefl {p : Pf} : ¬ Ah p p := by unfold Ah; omega
theorem Ah.asymm {p q : Pf} (h : Ah p q) : ¬ Ah q p := by unfold Ah at *; omega
theorem Ah.total {p q : Pf} (h : ¬ Ah p q) (hne : p ≠ q) : Ah q p := by
  have : ¬ (p.1 = q.1 ∧ p.2 = q.2) := fun ⟨a, b⟩ => hne (Prod.ext a b)
  unfold Ah at *
  omega
theorem wi_ah {p q : Pf} (h : Wi p q) (hne : p ≠ q) : Ah p q := by
  have := h.lo
  have := h.lt hne
  unfold Ah
  omega

/-! Values. -/
abbrev Vt := Int × Bool
abbrev vC (v : Vt) : List Value := [.int .i64 v.1, .bool v.2]
def VN (v : Vt) : Prop := I64 v.1
abbrev zV : Vt := (0, false)
/-! Trees. -/
inductive Tr where
  | nil
  | node (b : Nat) (p : Pf) (has : Bool) (v : Vt) (k0 k1 : Tr)
abbrev Ent := Pf × Vt
def ents : Tr → List Ent
  | .nil => []
  | .node _ p has v k0 k1 => (if has then [(p, v)] else []) ++ (ents k0 ++ ents k1)
def wf : Pf → Tr → Prop
  | _, .nil => True
  | r, .node _ p _ v k0 k1 => PfN p ∧ VN v ∧ Wi r p ∧ wf (kid p false) k0 ∧ wf (kid p true) k1
theorem wf_wi : ∀ {t : Tr} {r : Pf} {e : Ent}, wf r t → e ∈ ents t → Wi r e.1 ∧ PfN e.1 ∧ VN e.2
  | .nil, _, _, _, h => by simp [ents] at h
  | .node b p has v k0 k1, r, e, ⟨hn, hv, hw, h0, h1⟩, h => by
    simp only [ents, List.mem_append] at h
    rcases h with h | h | h
    · cases has <;> simp at h
      subst h
      exact ⟨hw, hn, hv⟩
    · obtain ⟨a, c⟩ := wf_wi h0 h
      exact ⟨hw.trans (kid_wi a hw.rt2).1, c⟩
    · obtain ⟨a, c⟩ := wf_wi h1 h
      exact ⟨hw.trans (kid_wi a hw.rt2).1, c⟩
theorem wf_up {t : Tr} {r r' : Pf} (h : Wi r r') (k : wf r' t) : wf r t := by
  cases t with
  | nil => trivial
  | node b p has v k0 k1 => exact ⟨k.1, k.2.1, h.trans k.2.2.1, k.2.2.2⟩
def Srt (l : List Ent) : Prop := l.Pairwise fun x y => Ah x.1 y.1
theorem wf_srt : ∀ {t : Tr} {r : Pf}, wf r t → Srt (ents t)
  | .nil, _, _ => .nil
  | .node b p has v k0 k1, r, ⟨hn, hv, hw, h0, h1⟩ => by
    have hp := hw.rt2
    refine List.pairwise_append.2 ⟨by cases has <;> simp, List.pairwise_append.2 ⟨wf_srt h0, wf_srt h1, fun x hx y hy => ?_⟩, fun x hx y hy => ?_⟩
    · have a := (wf_wi h0 hx).1
      have c := (wf_wi h1 hy).1
      have e1 := a.hi
      have e2 := c.lo
      have e3 : (kid p false).1 = p.1 := by show p.1 + (if false = true then _ else 0) = p.1; simp
      have e4 : (kid p true).1 = p.1 + pw (p.2 + 1) := rfl
      have e5 : (kid p false).2 = p.2 + 1 := rfl
      rw [e3, e5] at e1
      rw [e4] at e2
      exact .inl (by omega)
    · cases has <;> simp at hx
      subst hx
      rcases List.mem_append.1 hy with hy | hy
      · obtain ⟨a, c, _⟩ := kid_wi (wf_wi h0 hy).1 hp
        exact wi_ah a c
      · obtain ⟨a, c, _⟩ := kid_wi (wf_wi h1 hy).1 hp
        exact wi_ah a c

/-- Sorted lists with the same members are the same. -/
theorem srt_ext : ∀ {l m : List Ent}, Srt l → Srt m → (∀ x, x ∈ l ↔ x ∈ m) → l = m
  | [], [], _, _, _ => rfl
  | [], y :: m, _, _, h => by have := (h y).2 (by simp); simp at this
  | x :: l, [], _, _, h => by have := (h x).1 (by simp); simp at this
  | x :: l, y :: m, hl, hm, h => by
    have hxy : x = y := by
      have h1 := (h x).1 (by simp)
      have h2 := (h y).2 (by simp)
      rcases List.mem_cons.1 h1 with h1 | h1
      · exact h1
      rcases List.mem_cons.1 h2 with h2 | h2
      · exact h2.symm
      exact absurd ((List.pairwise_cons.1 hl).1 y h2) ((List.pairwise_cons.1 hm).1 x h1).asymm
    subst hxy
    congr 1
    refine srt_ext (List.pairwise_cons.1 hl).2 (List.pairwise_cons.1 hm).2 fun z => ?_
    have hz := h z
    constructor
    · intro hzl
      have := hz.1 (List.mem_cons_of_mem _ hzl)
      rcases List.mem_cons.1 this with e | e
      · subst e; exact absurd ((List.pairwise_cons.1 hl).1 z hzl) Ah.irrefl
      · exact e
    · intro hzl
      have := hz.2 (List.mem_cons_of_mem _ hzl)
      rcases List.mem_cons.1 this with e | e
      · subst e; exact absurd ((List.pairwise_cons.1 hm).1 z hzl) Ah.irrefl
      · exact e
/-- In a sorted list a key is there once. -/
theorem srt_key {l : List Ent} (h : Srt l) {x y : Ent} (hx : x ∈ l) (hy : y ∈ l) (e : x.1 = y.1) : x = y := by
  induction h with
  | nil => simp at hx
  | cons ha _ ih =>
    rcases List.mem_cons.1 hx with h1 | h1 <;> rcases List.mem_cons.1 hy with h2 | h2
    · rw [h1, h2]
    · subst h1; exact absurd (ha y h2) (by rw [e]; exact Ah.irrefl)
    · subst h2; exact absurd (ha x h1) (by rw [e]; exact Ah.irrefl)
    · exact ih h1 h2
end Go.Proofs.YtnhabkipjmgaaaaGreat.T
namespace Go.Proofs.YtnhabkipjmgaaaaGreat.T
set_option linter.unusedSimpArgs false
set_option linter.unusedVariables false
open Go.RowKit Go.Pm


structure Fr where
  b : Nat
  p : Pf
  has : Bool
  v : Vt
  side : Bool
  o : Tr
def fill (f : Fr) (s : Tr) : Tr := if f.side then .node f.b f.p f.has f.v f.o s else .node f.b f.p f.has f.v s f.o
def plug : List Fr → Tr → Tr
  | [], s => s
  | f :: C, s => plug C (fill f s)
def Path (p : Pf) (C : List Fr) : Prop := ∀ f ∈ C, Wi f.p p ∧ f.p ≠ p ∧ f.side = btB p.1 f.p.2
def hreg : List Fr → Pf
  | [] => (0, 0)
  | f :: _ => kid f.p f.side
def wfC : List Fr → Prop
  | [] => True
  | f :: C => PfN f.p ∧ VN f.v ∧ Wi (hreg C) f.p ∧ wf (kid f.p (!f.side)) f.o ∧ wfC C
theorem wf_fill (f : Fr) (s : Tr) (r : Pf) : wf r (fill f s) ↔ (PfN f.p ∧ VN f.v ∧ Wi r f.p ∧ wf (kid f.p (!f.side)) f.o) ∧ wf (kid f.p f.side) s := by
  unfold fill
  cases h : f.side
  · simp only [Bool.false_eq_true, if_false, wf, Bool.not_false]
    constructor
    · rintro ⟨a, b, c, d, e⟩; exact ⟨⟨a, b, c, e⟩, d⟩
    · rintro ⟨⟨a, b, c, e⟩, d⟩; exact ⟨a, b, c, d, e⟩
  · simp only [if_true, wf, Bool.not_true]
    constructor
    · rintro ⟨a, b, c, d, e⟩; exact ⟨⟨a, b, c, d⟩, e⟩
    · rintro ⟨⟨a, b, c, d⟩, e⟩; exact ⟨a, b, c, d, e⟩
theorem wf_plug : ∀ (C : List Fr) (s : Tr), wf (0, 0) (plug C s) ↔ wfC C ∧ wf (hreg C) s
  | [], s => by simp [plug, wfC, hreg]
  | f :: C, s => by
    rw [plug, wf_plug C, wf_fill]
    simp only [wfC, hreg]
    constructor
    · rintro ⟨a, ⟨b, c, d, e⟩, g⟩; exact ⟨⟨b, c, d, e, a⟩, g⟩
    · rintro ⟨⟨b, c, d, e, a⟩, g⟩; exact ⟨a, ⟨b, c, d, e⟩, g⟩
def own (f : Fr) : List Ent := if f.has then [(f.p, f.v)] else []
def pre : List Fr → List Ent
  | [] => []
  | f :: C => pre C ++ own f ++ (if f.side then ents f.o else [])
def post : List Fr → List Ent
  | [] => []
  | f :: C => (if f.side then [] else ents f.o) ++ post C
theorem ents_plug : ∀ (C : List Fr) (s : Tr), ents (plug C s) = pre C ++ ents s ++ post C
  | [], s => by simp [plug, pre, post]
  | f :: C, s => by
    rw [plug, ents_plug C]
    unfold fill
    cases h : f.side <;> simp [ents, pre, post, own, h, List.append_assoc]
theorem r0_wi {p : Pf} (h : Rt p) (hn : PfN p) : Wi (0, 0) p := by
  have := hn.1
  unfold U32 at this
  refine ⟨⟨by decide, by decide, rfl⟩, h, h.1, ?_⟩
  show p.1 / pw 0 = 0 / pw 0
  rw [pw_0]
  omega
theorem path_reg {C : List Fr} {p : Pf} (hc : wfC C) (hp : Path p C) (h : Rt p) (hn : PfN p) : Wi (hreg C) p := by
  cases C with
  | nil => exact r0_wi h hn
  | cons f C =>
    obtain ⟨a, b, c⟩ := hp f (by simp)
    have := (wi_kid a b).2
    rw [← c] at this
    exact this
/-- What lies outside is not within. -/
theorem out_wi : ∀ {C : List Fr} {p : Pf} {e : Ent}, wfC C → Path p C → (e ∈ pre C ∨ e ∈ post C) → ¬ Wi p e.1
  | [], _, _, _, _, h => by simp [pre, post] at h
  | f :: C, p, e, hc, hp, h => by
    obtain ⟨a, b, c⟩ := hp f (by simp)
    obtain ⟨h1, h2, h3, h4, h5⟩ := hc
    have ho : e ∈ ents f.o → ¬ Wi p e.1 := fun he hw => by
      have k1 := (kid_wi (wf_wi h4 he).1 a.rt1).2.2
      have k2 := (wi_kid a b).2
      rw [← c] at k2
      have k3 := (kid_wi (k2.trans hw) a.rt1).2.2
      rw [k1] at k3
      revert k3
      cases f.side <;> simp
    have hw : e ∈ own f → ¬ Wi p e.1 := fun he hw => by
      unfold own at he
      cases hh : f.has <;> simp [hh] at he
      subst he
      exact b (a.anti hw.le)
    have ih := fun h => out_wi (e := e) h5 (fun g hg => hp g (List.mem_cons_of_mem _ hg)) h
    rcases h with h | h
    · simp only [pre, List.mem_append] at h
      rcases h with (h | h) | h
      · exact ih (.inl h)
      · exact hw h
      · cases hs : f.side <;> simp [hs] at h
        exact ho h
    · simp only [post, List.mem_append] at h
      rcases h with h | h
      · cases hs : f.side <;> simp [hs] at h
        exact ho h
      · exact ih (.inr h)
theorem mem_plug {C : List Fr} {s : Tr} {e : Ent} : e ∈ ents (plug C s) ↔ e ∈ ents s ∨ (e ∈ pre C ∨ e ∈ post C) := by
  rw [ents_plug]
  simp only [List.mem_append]
  constructor
  · rintro ((h | h) | h)
    · exact .inr (.inl h)
    · exact .inl h
    · exact .inr (.inr h)
  · rintro (h | h | h)
    · exact .inl (.inr h)
    · exact .inl (.inl h)
    · exact .inr h

/-! What the document says, on lists. -/
def putL : List Ent → Pf → Vt → List Ent
  | [], p, v => [(p, v)]
  | x :: r, p, v => if Ah x.1 p then x :: putL r p v else if x.1 = p then (p, v) :: r else (p, v) :: x :: r
theorem mem_putL : ∀ {l : List Ent} {p : Pf} {v : Vt} {e : Ent}, Srt l → (e ∈ putL l p v ↔ e = (p, v) ∨ (e ∈ l ∧ e.1 ≠ p))
  | [], p, v, e, _ => by simp [putL]
  | x :: r, p, v, e, h => by
    obtain ⟨h1, h2⟩ := List.pairwise_cons.1 h
    unfold putL
    by_cases ha : Ah x.1 p
    · rw [if_pos ha, List.mem_cons, mem_putL h2, List.mem_cons]
      constructor
      · rintro (rfl | rfl | ⟨a, b⟩)
        · exact .inr ⟨.inl rfl, fun e => by rw [e] at ha; exact ha.irrefl⟩
        · exact .inl rfl
        · exact .inr ⟨.inr a, b⟩
      · rintro (rfl | ⟨rfl | a, b⟩)
        · exact .inr (.inl rfl)
        · exact .inl rfl
        · exact .inr (.inr ⟨a, b⟩)
    · rw [if_neg ha]
      by_cases hp : x.1 = p
      · rw [if_pos hp, List.mem_cons, List.mem_cons]
        constructor
        · rintro (rfl | a)
          · exact .inl rfl
          · exact .inr ⟨.inr a, fun e => by have := h1 _ a; rw [hp, e] at this; exact this.irrefl⟩
        · rintro (rfl | ⟨rfl | a, b⟩)
          · exact .inl rfl
          · exact absurd hp b
          · exact .inr a
      · rw [if_neg hp, List.mem_cons]
        constructor
        · rintro (rfl | a)
          · exact .inl rfl
          · refine .inr ⟨a, ?_⟩
            rcases List.mem_cons.1 a with rfl | b
            · exact hp
            · intro e
              have h3 := h1 _ b
              rw [e] at h3
              exact ha h3
        · rintro (rfl | ⟨a, b⟩)
          · exact .inl rfl
          · exact .inr a
theorem srt_putL : ∀ {l : List Ent} {p : Pf} {v : Vt}, Srt l → Srt (putL l p v)
  | [], p, v, _ => by simp [putL, Srt]
  | x :: r, p, v, h => by
    obtain ⟨h1, h2⟩ := List.pairwise_cons.1 h
    unfold putL
    by_cases ha : Ah x.1 p
    · rw [if_pos ha]
      refine List.pairwise_cons.2 ⟨fun y hy => ?_, srt_putL h2⟩
      rcases (mem_putL h2).1 hy with rfl | ⟨a, _⟩
      · exact ha
      · exact h1 y a
    · rw [if_neg ha]
      by_cases hp : x.1 = p
      · rw [if_pos hp]
        exact List.pairwise_cons.2 ⟨fun y hy => by have := h1 y hy; rw [hp] at this; exact this, h2⟩
      · rw [if_neg hp]
        have hx := Ah.total ha hp
        refine List.pairwise_cons.2 ⟨fun y hy => ?_, h⟩
        rcases List.mem_cons.1 hy with rfl | b
        · exact hx
        · exact hx.trans (h1 y b)
def dropL (l : List Ent) (p : Pf) : List Ent := l.filter fun e => decide (e.1 ≠ p)
def getL (l : List Ent) (p : Pf) : Option Vt := (l.find? fun e => decide (e.1 = p)).map (·.2)
def underL (l : List Ent) (p : Pf) : List Pf := (l.filter fun e => decide (Wi p e.1)).map (·.1)
theorem getL_mem {l : List Ent} {p : Pf} {v : Vt} (h : Srt l) : getL l p = some v ↔ (p, v) ∈ l := by
  unfold getL
  constructor
  · intro hg
    cases hf : l.find? fun e => decide (e.1 = p) with
    | none => simp [hf] at hg
    | some x =>
      have h1 := List.mem_of_find?_eq_some hf
      have h2 := List.find?_some hf
      simp [hf] at hg
      simp at h2
      have : x = (p, v) := Prod.ext h2 hg
      rw [← this]; exact h1
  · intro hm
    cases hf : l.find? fun e => decide (e.1 = p) with
    | none => have := List.find?_eq_none.1 hf _ hm; simp at this
    | some x =>
      have h1 := List.mem_of_find?_eq_some hf
      have h2 := List.find?_some hf
      simp at h2
      have := srt_key h h1 hm h2
      simp [this]
theorem getL_none {l : List Ent} {p : Pf} : getL l p = none ↔ ∀ e ∈ l, e.1 ≠ p := by
  unfold getL
  simp [List.find?_eq_none]

/-- A new subtree at the place of p. -/
theorem plug_put {C : List Fr} {s s' : Tr} {p : Pf} {v : Vt} (hw : wf (0, 0) (plug C s)) (hp : Path p C) (hr : Rt p) (hs : wf (hreg C) s') (hm : ∀ e, e ∈ ents s' ↔ e = (p, v) ∨ (e ∈ ents s ∧ e.1 ≠ p)) :
    wf (0, 0) (plug C s') ∧ ents (plug C s') = putL (ents (plug C s)) p v := by
  obtain ⟨hc, h0⟩ := (wf_plug C s).1 hw
  have hw' := (wf_plug C s').2 ⟨hc, hs⟩
  refine ⟨hw', srt_ext (wf_srt hw') (srt_putL (wf_srt hw)) fun e => ?_⟩
  rw [mem_putL (wf_srt hw), mem_plug, mem_plug, hm]
  have ho : (e ∈ pre C ∨ e ∈ post C) → e.1 ≠ p := fun h he => out_wi hc hp h (by rw [he]; exact .refl hr)
  constructor
  · rintro ((h | h) | h)
    · exact .inl h
    · exact .inr ⟨.inl h.1, h.2⟩
    · exact .inr ⟨.inr h, ho h⟩
  · rintro (h | ⟨h | h, h2⟩)
    · exact .inl (.inl h)
    · exact .inl (.inr ⟨h, h2⟩)
    · exact .inr h
theorem plug_drop {C : List Fr} {s s' : Tr} {p : Pf} (hw : wf (0, 0) (plug C s)) (hp : Path p C) (hr : Rt p) (hs : wf (hreg C) s') (hm : ∀ e, e ∈ ents s' ↔ e ∈ ents s ∧ e.1 ≠ p) :
    wf (0, 0) (plug C s') ∧ ents (plug C s') = dropL (ents (plug C s)) p := by
  obtain ⟨hc, h0⟩ := (wf_plug C s).1 hw
  have hw' := (wf_plug C s').2 ⟨hc, hs⟩
  refine ⟨hw', srt_ext (wf_srt hw') ((wf_srt hw).filter _) fun e => ?_⟩
  unfold dropL
  rw [List.mem_filter, mem_plug, mem_plug, hm]
  have ho : (e ∈ pre C ∨ e ∈ post C) → e.1 ≠ p := fun h he => out_wi hc hp h (by rw [he]; exact .refl hr)
  simp only [decide_eq_true_eq]
  constructor
  · rintro (h | h)
    · exact ⟨.inl h.1, h.2⟩
    · exact ⟨.inr h, ho h⟩
  · rintro ⟨h | h, h2⟩
    · exact .inl ⟨h, h2⟩
    · exact .inr h

/-! Where p is, or is to be put. -/
def top : Tr → Option Pf
  | .nil => none
  | .node _ q _ _ _ _ => some q
def Found (p : Pf) (s : Tr) : Prop := ∀ q, top s = some q → q = p ∨ ¬ Wi q p
theorem found_get {C : List Fr} {s : Tr} {p : Pf} (hw : wf (0, 0) (plug C s)) (hp : Path p C) (hr : Rt p) {e : Ent} (he : e ∈ ents (plug C s)) (hk : e.1 = p) : e ∈ ents s := by
  rcases mem_plug.1 he with h | h
  · exact h
  · exact absurd (by rw [hk]; exact .refl hr) (out_wi ((wf_plug C s).1 hw).1 hp h)
theorem found_none {b : Nat} {q p : Pf} {has : Bool} {v : Vt} {k0 k1 : Tr} {r : Pf} (hw : wf r (.node b q has v k0 k1)) (hq : q ≠ p) (hf : ¬ Wi q p) : ∀ e ∈ ents (.node b q has v k0 k1), e.1 ≠ p := by
  intro e he hk
  have h1 : wf q (.node b q has v k0 k1) := ⟨hw.1, hw.2.1, .refl hw.2.2.1.rt2, hw.2.2.2⟩
  have := (wf_wi h1 he).1
  rw [hk] at this
  exact hf this

/-- What nobody needs is taken away. -/
def isNil : Tr → Bool
  | .nil => true
  | _ => false
def lift (b : Nat) (q : Pf) (has : Bool) (v : Vt) (k0 k1 : Tr) : Tr :=
  if has then .node b q has v k0 k1 else if isNil k0 then k1 else if isNil k1 then k0 else .node b q has v k0 k1
def pruneT (p : Pf) : Tr → Tr
  | .nil => .nil
  | .node b q has v k0 k1 => if q ≠ p ∧ Wi q p then (if btB p.1 q.2 then lift b q has v k0 (pruneT p k1) else lift b q has v (pruneT p k0) k1) else lift b q has v k0 k1
theorem nil_of {t : Tr} (h : isNil t = true) : t = .nil := by cases t <;> simp [isNil] at h; rfl
theorem lift_ok {r : Pf} {b : Nat} {q : Pf} {has : Bool} {v : Vt} {k0 k1 : Tr} (h : wf r (.node b q has v k0 k1)) : wf r (lift b q has v k0 k1) ∧ ents (lift b q has v k0 k1) = ents (.node b q has v k0 k1) := by
  have up : ∀ (i : Bool) (k : Tr), wf (kid q i) k → wf r k := fun i k hk => by
    cases k with
    | nil => trivial
    | node b2 q2 h2 v2 a2 c2 => exact ⟨hk.1, hk.2.1, h.2.2.1.trans (kid_wi hk.2.2.1 h.2.2.1.rt2).1, hk.2.2.2⟩
  unfold lift
  cases has
  · simp only [Bool.false_eq_true, if_false]
    cases h0 : isNil k0
    · simp only [Bool.false_eq_true, if_false]
      cases h1 : isNil k1
      · simp only [Bool.false_eq_true, if_false]
        exact ⟨h, trivial⟩
      · obtain rfl := nil_of h1
        exact ⟨up _ _ h.2.2.2.1, by simp [ents]⟩
    · obtain rfl := nil_of h0
      exact ⟨up _ _ h.2.2.2.2, by simp [ents]⟩
  · exact ⟨h, rfl⟩
theorem prune_ok (p : Pf) : ∀ {t : Tr} {r : Pf}, wf r t → wf r (pruneT p t) ∧ ents (pruneT p t) = ents t
  | .nil, _, _ => ⟨trivial, rfl⟩
  | .node b q has v k0 k1, r, h => by
    unfold pruneT
    split
    · split
      · obtain ⟨a, c⟩ := prune_ok p h.2.2.2.2
        obtain ⟨d, e⟩ := lift_ok (r := r) (b := b) (q := q) (has := has) (v := v) (k0 := k0) (k1 := pruneT p k1) ⟨h.1, h.2.1, h.2.2.1, h.2.2.2.1, a⟩
        exact ⟨d, by rw [e]; simp [ents, c]⟩
      · obtain ⟨a, c⟩ := prune_ok p h.2.2.2.1
        obtain ⟨d, e⟩ := lift_ok (r := r) (b := b) (q := q) (has := has) (v := v) (k0 := pruneT p k0) (k1 := k1) ⟨h.1, h.2.1, h.2.2.1, a, h.2.2.2.2⟩
        exact ⟨d, by rw [e]; simp [ents, c]⟩
    · exact lift_ok h
end Go.Proofs.YtnhabkipjmgaaaaGreat.T
namespace Go.Proofs.YtnhabkipjmgaaaaGreat.T
set_option linter.unusedSimpArgs false
set_option linter.unusedVariables false
set_option maxRecDepth 20000
set_option maxHeartbeats 4000000
open Go.RowKit Go.Pm


def ptr : Tr → Option Addr
  | .nil => none
  | .node b .. => some ⟨b, 0, none⟩
abbrev ndC (p : Pf) (has : Bool) (v : Vt) (a0 a1 : Option Addr) : List Value := [.int .u32 p.1, .int .i64 p.2, .bool has, .int .i64 v.1, .bool v.2, .pointer a0, .pointer a1]
def trP : Tr → HP
  | .nil => sats []
  | .node b p has v k0 k1 => sats [pts b (ndC p has v (ptr k0) (ptr k1)) 131, trP k0, trP k1]
abbrev trC (a : Option Addr) (n : Int) (m : Bool) : List Value := [.pointer a, .int .i64 n, .bool m]
def frC (f : Fr) (h : Option Addr) : List Value := if f.side then ndC f.p f.has f.v (ptr f.o) h else ndC f.p f.has f.v h (ptr f.o)
/-- The tree but for what hangs at a place, where h stands. -/
def ctxP (tb : Nat) (n : Int) : List Fr → Option Addr → HP
  | [], h => sats [pts tb (trC h n true) 117]
  | f :: C, h => sats [pts f.b (frC f h) 131, trP f.o, ctxP tb n C (some ⟨f.b, 0, none⟩)]
def sideN (b : Bool) : Nat := if b then 1 else 0
def holeA (tb : Nat) : List Fr → Addr
  | [] => ⟨tb, 0, none⟩
  | f :: _ => ⟨f.b, 5 + sideN f.side, none⟩

section
variable {W : World} {K : Hl} {L R : List HP} {w : World} {tb : Nat} {n : Int} {C : List Fr} {h h' : Option Addr}
theorem owCtxTop (H : Ow W K L w) (t : Tk L (ctxP tb n [] h) R) : Ow W K (pts tb (trC h n true) 117 :: R) w := H.flat t
theorem owCtxFr {f : Fr} (H : Ow W K L w) (t : Tk L (ctxP tb n (f :: C) h) R) : Ow W K (pts f.b (frC f h) 131 :: trP f.o :: ctxP tb n C (some ⟨f.b, 0, none⟩) :: R) w := H.flat t
theorem owMkTop (H : Ow W K L w) (t : Tk L (pts tb (trC h n true) 117) R) : Ow W K (ctxP tb n [] h :: R) w := H.shut (M := [pts tb (trC h n true) 117]) (.cons t .nil) (fun _ h => h)
theorem owMkFr {f : Fr} (H : Ow W K (pts f.b (frC f h) 131 :: trP f.o :: ctxP tb n C (some ⟨f.b, 0, none⟩) :: R) w) : Ow W K (ctxP tb n (f :: C) h :: R) w := H.shut (M := [pts f.b (frC f h) 131, trP f.o, ctxP tb n C (some ⟨f.b, 0, none⟩)]) (R := R) (.cons .here (.cons .here (.cons .here .nil))) (fun _ h => h)
theorem owNodeO {b : Nat} {p : Pf} {has : Bool} {v : Vt} {k0 k1 : Tr} (H : Ow W K L w) (t : Tk L (trP (.node b p has v k0 k1)) R) : Ow W K (pts b (ndC p has v (ptr k0) (ptr k1)) 131 :: trP k0 :: trP k1 :: R) w := H.flat t
theorem owMkNode {b : Nat} {p : Pf} {has : Bool} {v : Vt} {k0 k1 : Tr} (H : Ow W K (pts b (ndC p has v (ptr k0) (ptr k1)) 131 :: trP k0 :: trP k1 :: R) w) : Ow W K (trP (.node b p has v k0 k1) :: R) w := H.shut (M := [pts b (ndC p has v (ptr k0) (ptr k1)) 131, trP k0, trP k1]) (R := R) (.cons .here (.cons .here (.cons .here .nil))) (fun _ h => h)
theorem owMkNil (H : Ow W K L w) : Ow W K (trP .nil :: L) w := H.satsNil
theorem owFill {f : Fr} {s : Tr} (H : Ow W K (pts f.b (frC f (ptr s)) 131 :: trP f.o :: trP s :: R) w) : Ow W K (trP (fill f s) :: R) w := by
  unfold frC at H
  unfold Proofs.YtnhabkipjmgaaaaGreat.T.fill
  cases hs : f.side
  · simp only [hs, Bool.false_eq_true, if_false] at H ⊢
    exact owMkNode (H.perm (.cons _ (.swap ..)))
  · simp only [hs, if_true] at H ⊢
    exact owMkNode H
theorem ptr_fill (f : Fr) (s : Tr) : ptr (fill f s) = some ⟨f.b, 0, none⟩ := by
  unfold fill
  cases f.side <;> rfl
/-- The tree as one again. -/
theorem owPlug : ∀ {C : List Fr} {s : Tr} {R : List HP}, Ow W K (ctxP tb n C (ptr s) :: trP s :: R) w → Ow W K (pts tb (trC (ptr (plug C s)) n true) 117 :: trP (plug C s) :: R) w
  | [], _, _, H => owCtxTop H .here
  | f :: C, s, R, H => by
    have H1 := (owCtxFr H .here).perm (L := pts f.b (frC f (ptr s)) 131 :: trP f.o :: ctxP tb n C (some ⟨f.b, 0, none⟩) :: trP s :: R) (M := pts f.b (frC f (ptr s)) 131 :: trP f.o :: trP s :: ctxP tb n C (some ⟨f.b, 0, none⟩) :: R) (.cons _ (.cons _ (.swap ..)))
    have H2 := owFill H1
    have H3 : Ow W K (ctxP tb n C (ptr (Proofs.YtnhabkipjmgaaaaGreat.T.fill f s)) :: trP (Proofs.YtnhabkipjmgaaaaGreat.T.fill f s) :: R) w := by
      rw [ptr_fill]
      exact H2.perm (.swap ..)
    exact owPlug (C := C) (s := Proofs.YtnhabkipjmgaaaaGreat.T.fill f s) (R := R) H3
/-- What stands at the place. -/
theorem hole_cell : ∀ {C : List Fr}, Ow W K (ctxP tb n C h :: R) w → w.cell? (holeA tb C) = some (.pointer h) ∧ w.frozen? (holeA tb C) = false ∧ ∀ h', Ow W K (ctxP tb n C h' :: R) (w.setCell (holeA tb C) (.pointer h'))
  | [], H => by
    have H1 := owCtxTop H .here
    have hb := H1.blk .here
    exact ⟨by rw [holeA, hb.cell]; rfl, hb.free 0, fun h' => owMkTop (h := h') (H1.set .here .z) .here⟩
  | f :: C, H => by
    have H1 := owCtxFr H .here
    have hb := H1.blk .here
    refine ⟨?_, hb.free _, fun h' => owMkFr ?_⟩
    · rw [holeA, hb.cell]
      unfold frC sideN
      cases f.side <;> rfl
    · have : SetAt (frC f h) (5 + sideN f.side) (.pointer h') (frC f h') := by
        unfold frC sideN ndC
        cases f.side
        all_goals (show SetAt _ _ _ _; repeat (first | exact SetAt.z | apply SetAt.s))
      exact H1.set .here this
end

theorem is_s (tb : Nat) (a : Option Addr) (n : Int) (m : Bool) : Pact Tryz.prog 71 #[.pointer (some ⟨tb, 0, none⟩)] (fun _ => True) [pts tb (trC a n m) 117] (fun v L' => v = .bool m ∧ L' = [pts tb (trC a n m) 117]) := by
  refine pact Tryz.func71 rfl Tryz.ntmps71 rfl ?_
  intro W K _
  (repeat' (first | ((with_reducible apply gL); (first | refine yL0 ?_ | refine yL ?_ | ((with_reducible apply gL_gd); (first | (refine JL_guard xR xR ?_ ?_ <;> intro _ <;> (try (exfalso; first | contradiction | omega))) | (refine JL_guardb xR xR ?_ ?_ <;> (intro hgb; subst hgb)) | (refine JL_guardb xR xR ?_ ?_ <;> (intro hgb; fail_if_success (have : type_of% hgb := rfl))) | fail)) | fail)) | refine yJ ?_ | fail))
  exact J_ret1 rfl (by rfl) fun w H => ⟨_, ⟨rfl, rfl⟩, H.sel xZ⟩
theorem isnil_s : Pact Tryz.prog 71 #[.pointer none] (fun _ => True) [] (ret0 (.bool false)) := by
  refine pact Tryz.func71 rfl Tryz.ntmps71 rfl ?_
  intro W K _
  (repeat' (first | ((with_reducible apply gL); (first | refine yL0 ?_ | refine yL ?_ | ((with_reducible apply gL_gd); (first | (refine JL_guard xR xR ?_ ?_ <;> intro _ <;> (try (exfalso; first | contradiction | omega))) | (refine JL_guardb xR xR ?_ ?_ <;> (intro hgb; subst hgb)) | (refine JL_guardb xR xR ?_ ?_ <;> (intro hgb; fail_if_success (have : type_of% hgb := rfl))) | fail)) | fail)) | refine yJ ?_ | fail))
  exact J_ret1 rfl (by rfl) fun w H => ⟨_, ⟨rfl, rfl⟩, H.sel xZ⟩
theorem new_s : Pact Tryz.prog 33 #[] (fun _ => True) [] (fun v L' => ∃ tb, v = .pointer (some ⟨tb, 0, none⟩) ∧ L' = [pts tb (trC none 0 true) 117, trP .nil]) := by
  refine pact Tryz.func33 rfl Tryz.ntmps33 rfl ?_
  intro W K _
  (repeat' (first | ((with_reducible apply gL); (first | refine yL0 ?_ | refine yL ?_ | (refine yM ?_; intro _) | fail)) | refine yJ ?_ | fail))
  exact J_ret1 rfl (by rfl) fun w H => ⟨_, ⟨_, rfl, rfl⟩, (owMkNil H).sel xZ⟩
theorem len_s (tb : Nat) (a : Option Addr) (n : Int) (m : Bool) : Pact Tryz.prog 37 #[.pointer (some ⟨tb, 0, none⟩)] (fun _ => True) [pts tb (trC a n m) 117] (fun v L' => v = .int .i64 (if m then n else 0) ∧ L' = [pts tb (trC a n m) 117]) := by
  refine pact Tryz.func37 rfl Tryz.ntmps37 rfl ?_
  intro W K _
  cases m
  · (repeat' (first | ((with_reducible apply gL); (first | refine yL0 ?_ | refine yL ?_ | ((with_reducible apply gL_go); (first | (refine JL_goq (is_s tb a n false) (hφ := xF) (h := ?_); rintro _ _ ⟨rfl, rfl⟩; try simp only [List.cons_append, List.nil_append]) | fail)) | fail)) | refine yJ ?_ | ((with_reducible apply gJ_if); (first | (refine J_if xR ?_ ?_ <;> intro _ <;> (try (exfalso; first | contradiction | omega))) | (refine J_ifb xR ?_ ?_ <;> (intro hgb; subst hgb)) | (refine J_ifb xR ?_ ?_ <;> intro _) | fail)) | fail))
    exact J_ret1 rfl (by rfl) fun w H => ⟨_, ⟨rfl, rfl⟩, H.sel xZ⟩
  · (repeat' (first | ((with_reducible apply gL); (first | refine yL0 ?_ | refine yL ?_ | ((with_reducible apply gL_go); (first | (refine JL_goq (is_s tb a n true) (hφ := xF) (h := ?_); rintro _ _ ⟨rfl, rfl⟩; try simp only [List.cons_append, List.nil_append]) | fail)) | fail)) | refine yJ ?_ | ((with_reducible apply gJ_if); (first | (refine J_if xR ?_ ?_ <;> intro _ <;> (try (exfalso; first | contradiction | omega))) | (refine J_ifb xR ?_ ?_ <;> (intro hgb; subst hgb)) | (refine J_ifb xR ?_ ?_ <;> intro _) | fail)) | fail))
    exact J_ret1 rfl (by rfl) fun w H => ⟨_, ⟨rfl, rfl⟩, H.sel xZ⟩
theorem lennil_s : Pact Tryz.prog 37 #[.pointer none] (fun _ => True) [] (ret0 (.int .i64 0)) := by
  refine pact Tryz.func37 rfl Tryz.ntmps37 rfl ?_
  intro W K _
  (repeat' (first | ((with_reducible apply gL); (first | refine yL0 ?_ | refine yL ?_ | ((with_reducible apply gL_go); (first | (refine JL_goq (isnil_s) (hφ := xF) (h := ?_); rintro _ _ ⟨rfl, rfl⟩; try simp only [List.cons_append, List.nil_append]) | fail)) | fail)) | refine yJ ?_ | ((with_reducible apply gJ_if); (first | (refine J_if xR ?_ ?_ <;> intro _ <;> (try (exfalso; first | contradiction | omega))) | (refine J_ifb xR ?_ ?_ <;> (intro hgb; subst hgb)) | (refine J_ifb xR ?_ ?_ <;> intro _) | fail)) | fail))
  exact J_ret1 rfl (by rfl) fun w H => ⟨_, ⟨rfl, rfl⟩, H.sel xZ⟩
end Go.Proofs.YtnhabkipjmgaaaaGreat.T
namespace Go.Proofs.YtnhabkipjmgaaaaGreat.T
set_option linter.unusedSimpArgs false
set_option linter.unusedVariables false
set_option maxRecDepth 20000
set_option maxHeartbeats 4000000
open Go.RowKit Go.Pm


theorem hole_see {K : Hl} {L R : List HP} {w : World} {tb : Nat} {n : Int} {C : List Fr} {h : Option Addr} (hr : Rdw K L w) (t : Tk L (ctxP tb n C h) R) : w.cell? (holeA tb C) = some (.pointer h) := by
  obtain ⟨k, hk, i⟩ := hr.tk t
  cases C with
  | nil =>
    obtain ⟨h1, h2, a, _, d, rfl⟩ := hk
    obtain rfl : h1 = Hl.one tb (.cells (trC h n true).toArray 117 (0, 0)) := a
    have hb : Blk w tb (trC h n true).toArray 117 := ((Hl.inn_add d).1 i).1 tb _ (by simp [Hl.one])
    rw [holeA, hb.cell]
    rfl
  | cons f C =>
    obtain ⟨h1, h2, a, _, d, rfl⟩ := hk
    obtain rfl : h1 = Hl.one f.b (.cells (frC f h).toArray 131 (0, 0)) := a
    have hb : Blk w f.b (frC f h).toArray 131 := ((Hl.inn_add d).1 i).1 f.b _ (by simp [Hl.one])
    rw [holeA, hb.cell]
    unfold frC sideN
    cases f.side <;> rfl
def szT : Tr → Nat
  | .nil => 0
  | .node _ _ _ _ k0 k1 => szT k0 + szT k1 + 1
structure Pl where
  C : List Fr
  s : Tr
theorem bit_b (a l : Int) (i : Int) (hi : bt a l = i) (ha : U32 a) (h0 : 0 ≤ l) (h1 : l ≤ 31) : Pact Tryz.prog 107 #[.int .u32 a, .int .i64 l] (fun _ => True) [] (ret0 (.int .i64 i)) := hi ▸ bit_s a l ha h0 h1
theorem within_b (p q : Pf) (hp : PfN p) (hq : PfN q) (b : Bool) (hb : decide (Wi p q) = b) : Pact Tryz.prog 106 #[.agg (pfC p).toArray, .agg (pfC q).toArray] (fun _ => True) [] (ret0 (.bool b)) := hb ▸ within_s p q hp hq
theorem right_b (p : Pf) (hp : PfN p) (b : Bool) (hb : decide (Rt p) = b) : Pact Tryz.prog 67 #[.agg (pfC p).toArray] (fun _ => True) [] (ret0 (.bool b)) := hb ▸ right_s p hp
def FindR (t : Tr) (p : Pf) (tb : Nat) (n : Int) (v : Value) (L' : List HP) : Prop := ∃ C s, plug C s = t ∧ Path p C ∧ Found p s ∧ v = .pointer (some (holeA tb C)) ∧ L' = [ctxP tb n C (ptr s), trP s]
theorem find_s (tb : Nat) (n : Int) (t : Tr) (p : Pf) (hp : PfN p) (hw : wf (0, 0) t) : Pact Tryz.prog 78 #[.pointer (some ⟨tb, 0, none⟩), .agg (pfC p).toArray] (fun _ => True) [pts tb (trC (ptr t) n true) 117, trP t] (FindR t p tb n) := by
  refine pact Tryz.func78 rfl Tryz.ntmps78 rfl ?_
  intro W K _
  (repeat' (first | ((with_reducible apply gL); (first | refine yL0 ?_ | refine yL ?_ | (refine yM ?_; intro _) | fail)) | ((with_reducible apply gD); (first | (refine JD_nil ?_; try simp only [List.cons_append, List.nil_append]) | (refine JD_bar ?_; try simp only [List.cons_append, List.nil_append]) | refine yD0 ?_ | refine yD ?_ | ((with_reducible apply gD_gd); (first | (refine JD_guard xR xR ?_ ?_ <;> intro _ <;> (try (exfalso; first | contradiction | omega))) | (refine JD_guardb xR xR ?_ ?_ <;> (intro hgb; subst hgb)) | (refine JD_guardb xR xR ?_ ?_ <;> (intro hgb; fail_if_success (have : type_of% hgb := rfl))) | fail)) | fail)) | refine yJ ?_ | ((with_reducible apply gJ_if); (first | (refine J_if xR ?_ ?_ <;> intro _ <;> (try (exfalso; first | contradiction | omega))) | (refine J_ifb xR ?_ ?_ <;> (intro hgb; subst hgb)) | (refine J_ifb xR ?_ ?_ <;> intro _) | fail)) | refine J_draw (id := 3) [0, 1, 2, 3, 4, 5, 6, 7, 8, 9, 10, 11, 12, 13, 14, 15] [16, 17, 18] mixed xC xD xD ?_ | refine J_draw (id := 5) [0, 1, 2, 3, 4, 5, 6, 7, 9, 10, 8] [11, 12] mixed xC xD xD ?_ | fail))
  rename_i g
  refine J_scope (α := Pl) 0 (fun x => szT x.s) (fun x => plug x.C x.s = t ∧ Path p x.C) (fun x => [(0, .pointer (some ⟨tb, 0, none⟩)), (3, .pointer (some ⟨g, 0, none⟩)), (5, .pointer (some (holeA tb x.C)))])
    (fun x => [ctxP tb n x.C (ptr x.s), trP x.s, pts g (pfC p) 41]) rfl rfl ?_ ?_
  · simp only [List.map_cons, List.map_nil, List.cons_append, List.nil_append]
    (repeat' (first | ((with_reducible apply gL); (first | refine yL0 ?_ | refine yL ?_ | (refine yM ?_; intro _) | fail)) | ((with_reducible apply gD); (first | (refine JD_nil ?_; try simp only [List.cons_append, List.nil_append]) | (refine JD_bar ?_; try simp only [List.cons_append, List.nil_append]) | refine yD0 ?_ | refine yD ?_ | ((with_reducible apply gD_gd); (first | (refine JD_guard xR xR ?_ ?_ <;> intro _ <;> (try (exfalso; first | contradiction | omega))) | (refine JD_guardb xR xR ?_ ?_ <;> (intro hgb; subst hgb)) | (refine JD_guardb xR xR ?_ ?_ <;> (intro hgb; fail_if_success (have : type_of% hgb := rfl))) | fail)) | fail)) | refine yJ ?_ | ((with_reducible apply gJ_if); (first | (refine J_if xR ?_ ?_ <;> intro _ <;> (try (exfalso; first | contradiction | omega))) | (refine J_ifb xR ?_ ?_ <;> (intro hgb; subst hgb)) | (refine J_ifb xR ?_ ?_ <;> intro _) | fail)) | refine J_draw (id := 3) [0, 1, 2, 3, 4, 5, 6, 7, 8, 9, 10, 11, 12, 13, 14, 15] [16, 17, 18] mixed xC xD xD ?_ | refine J_draw (id := 5) [0, 1, 2, 3, 4, 5, 6, 7, 9, 10, 8] [11, 12] mixed xC xD xD ?_ | fail))
    exact J_meet ⟨[], t⟩ ⟨rfl, by intro f h; simp at h⟩ ⟨rfl, rfl, rfl, trivial⟩ (fun w H => (owMkTop H xA).sel xZ)
  rintro ⟨C, s⟩ ⟨ht, hC⟩
  dsimp only at ht hC ⊢
  simp only [List.map_cons, List.map_nil, List.cons_append, List.nil_append]
  have hws := ((wf_plug C s).1 (ht ▸ hw)).2
  cases s with
  | nil =>
    (repeat' (first | ((with_reducible apply gL); (first | refine yL0 ?_ | ((with_reducible apply gL_load); (first | refine JL_p rfl xR xR (pe_ldH xR xC (fun w hr => hole_see hr xA)) ?_ | fail)) | refine yL ?_ | (refine yM ?_; intro _) | fail)) | ((with_reducible apply gD); (first | (refine JD_nil ?_; try simp only [List.cons_append, List.nil_append]) | (refine JD_bar ?_; try simp only [List.cons_append, List.nil_append]) | refine yD0 ?_ | ((with_reducible apply gD_load); (first | refine JL_p rfl xR xR (pe_ldH xR xC (fun w hr => hole_see hr xA)) ?_ | fail)) | refine yD ?_ | ((with_reducible apply gD_gd); (first | (refine JD_guard xR xR ?_ ?_ <;> intro _ <;> (try (exfalso; first | contradiction | omega))) | (refine JD_guardb xR xR ?_ ?_ <;> (intro hgb; subst hgb)) | (refine JD_guardb xR xR ?_ ?_ <;> (intro hgb; fail_if_success (have : type_of% hgb := rfl))) | fail)) | fail)) | refine yJ ?_ | ((with_reducible apply gJ_if); (first | (refine J_if xR ?_ ?_ <;> intro _ <;> (try (exfalso; first | contradiction | omega))) | (refine J_ifb xR ?_ ?_ <;> (intro hgb; subst hgb)) | (refine J_ifb xR ?_ ?_ <;> intro _) | fail)) | refine J_draw (id := 3) [0, 1, 2, 3, 4, 5, 6, 7, 8, 9, 10, 11, 12, 13, 14, 15] [16, 17, 18] mixed xC xD xD ?_ | refine J_draw (id := 5) [0, 1, 2, 3, 4, 5, 6, 7, 9, 10, 8] [11, 12] mixed xC xD xD ?_ | fail))
    exact J_ret1 rfl (by rfl) fun w H => ⟨_, ⟨C, .nil, ht, hC, by intro q hq; simp [top] at hq, rfl, rfl⟩, H.sel xZ⟩
  | node b q has v k0 k1 =>
    refine J_heap (fun w H => owNodeO H xA) ?_
    by_cases hq : q.1 = p.1 ∧ q.2 = p.2
    · (repeat' (first | ((with_reducible apply gL); (first | refine yL0 ?_ | ((with_reducible apply gL_load); (first | refine JL_p rfl xR xR (pe_ldH xR xC (fun w hr => hole_see hr xA)) ?_ | fail)) | refine yL ?_ | (refine yM ?_; intro _) | fail)) | ((with_reducible apply gD); (first | (refine JD_nil ?_; try simp only [List.cons_append, List.nil_append]) | (refine JD_bar ?_; try simp only [List.cons_append, List.nil_append]) | refine yD0 ?_ | ((with_reducible apply gD_load); (first | refine JL_p rfl xR xR (pe_ldH xR xC (fun w hr => hole_see hr xA)) ?_ | fail)) | refine yD ?_ | ((with_reducible apply gD_gd); (first | (refine JD_guard xR xR ?_ ?_ <;> intro _ <;> (try (exfalso; first | contradiction | omega))) | (refine JD_guardb xR xR ?_ ?_ <;> (intro hgb; subst hgb)) | (refine JD_guardb xR xR ?_ ?_ <;> (intro hgb; fail_if_success (have : type_of% hgb := rfl))) | fail)) | fail)) | refine yJ ?_ | ((with_reducible apply gJ_if); (first | (refine J_if xR ?_ ?_ <;> intro _ <;> (try (exfalso; first | contradiction | omega))) | (refine J_ifb xR ?_ ?_ <;> (intro hgb; subst hgb)) | (refine J_ifb xR ?_ ?_ <;> intro _) | fail)) | refine J_draw (id := 3) [0, 1, 2, 3, 4, 5, 6, 7, 8, 9, 10, 11, 12, 13, 14, 15] [16, 17, 18] mixed xC xD xD ?_ | refine J_draw (id := 5) [0, 1, 2, 3, 4, 5, 6, 7, 9, 10, 8] [11, 12] mixed xC xD xD ?_ | fail))
      exact J_ret1 rfl (by rfl) fun w H => ⟨_, ⟨C, .node b q has v k0 k1, ht, hC, by intro x hx; cases hx; exact .inl (Prod.ext hq.1 hq.2), rfl, rfl⟩, (owMkNode (H.sb (M := [pts b (ndC q has v (ptr k0) (ptr k1)) 131, trP k0, trP k1]) xZ)).sel xZ⟩
    · have hne : q ≠ p := fun e => hq ⟨by rw [e], by rw [e]⟩
      by_cases hwi : Wi q p
      · have hl := hwi.lt hne
        have h32 := rt_hi hwi.rt2
        rcases bt_cases p.1 q.2 with hb | hb
        · (repeat' (first | ((with_reducible apply gL); (first | refine yL0 ?_ | ((with_reducible apply gL_load); (first | refine JL_p rfl xR xR (pe_ldH xR xC (fun w hr => hole_see hr xA)) ?_ | fail)) | refine yL ?_ | (refine yM ?_; intro _) | fail)) | ((with_reducible apply gD); (first | (refine JD_nil ?_; try simp only [List.cons_append, List.nil_append]) | (refine JD_bar ?_; try simp only [List.cons_append, List.nil_append]) | refine yD0 ?_ | ((with_reducible apply gD_load); (first | refine JL_p rfl xR xR (pe_ldH xR xC (fun w hr => hole_see hr xA)) ?_ | fail)) | refine yD ?_ | ((with_reducible apply gD_go); (first | (refine JD_goq (within_b q p hws.1 hp true (decide_eq_true hwi)) (hφ := xF) (h := ?_); rintro _ _ ⟨rfl, rfl⟩; try simp only [List.cons_append, List.nil_append]) | (refine JD_goq (bit_b p.1 q.2 0 hb hp.1 (rt_lo hwi.rt1) (by omega)) (hφ := xF) (h := ?_); rintro _ _ ⟨rfl, rfl⟩; try simp only [List.cons_append, List.nil_append]) | fail)) | ((with_reducible apply gD_gd); (first | (refine JD_guard xR xR ?_ ?_ <;> intro _ <;> (try (exfalso; first | contradiction | omega))) | (refine JD_guardb xR xR ?_ ?_ <;> (intro hgb; subst hgb)) | (refine JD_guardb xR xR ?_ ?_ <;> (intro hgb; fail_if_success (have : type_of% hgb := rfl))) | fail)) | fail)) | refine yJ ?_ | ((with_reducible apply gJ_if); (first | (refine J_if xR ?_ ?_ <;> intro _ <;> (try (exfalso; first | contradiction | omega))) | (refine J_ifb xR ?_ ?_ <;> (intro hgb; subst hgb)) | (refine J_ifb xR ?_ ?_ <;> intro _) | fail)) | refine J_draw (id := 3) [0, 1, 2, 3, 4, 5, 6, 7, 8, 9, 10, 11, 12, 13, 14, 15] [16, 17, 18] mixed xC xD xD ?_ | refine J_draw (id := 5) [0, 1, 2, 3, 4, 5, 6, 7, 9, 10, 8] [11, 12] mixed xC xD xD ?_ | fail))
          refine J_again ⟨⟨b, q, has, v, false, k1⟩ :: C, k0⟩ (by simp only [szT]; omega) ⟨ht, ?_⟩ ⟨rfl, rfl, rfl, trivial⟩ (fun w H => (owMkFr (f := ⟨b, q, has, v, false, k1⟩) (H.sb (M := [pts b (ndC q has v (ptr k0) (ptr k1)) 131, trP k1, ctxP tb n C (some ⟨b, 0, none⟩)]) xZ)).sel xZ)
          intro f hf
          rcases List.mem_cons.1 hf with rfl | hf
          · exact ⟨hwi, hne, by simp [btB, hb]⟩
          · exact hC f hf
        · (repeat' (first | ((with_reducible apply gL); (first | refine yL0 ?_ | ((with_reducible apply gL_load); (first | refine JL_p rfl xR xR (pe_ldH xR xC (fun w hr => hole_see hr xA)) ?_ | fail)) | refine yL ?_ | (refine yM ?_; intro _) | fail)) | ((with_reducible apply gD); (first | (refine JD_nil ?_; try simp only [List.cons_append, List.nil_append]) | (refine JD_bar ?_; try simp only [List.cons_append, List.nil_append]) | refine yD0 ?_ | ((with_reducible apply gD_load); (first | refine JL_p rfl xR xR (pe_ldH xR xC (fun w hr => hole_see hr xA)) ?_ | fail)) | refine yD ?_ | ((with_reducible apply gD_go); (first | (refine JD_goq (within_b q p hws.1 hp true (decide_eq_true hwi)) (hφ := xF) (h := ?_); rintro _ _ ⟨rfl, rfl⟩; try simp only [List.cons_append, List.nil_append]) | (refine JD_goq (bit_b p.1 q.2 1 hb hp.1 (rt_lo hwi.rt1) (by omega)) (hφ := xF) (h := ?_); rintro _ _ ⟨rfl, rfl⟩; try simp only [List.cons_append, List.nil_append]) | fail)) | ((with_reducible apply gD_gd); (first | (refine JD_guard xR xR ?_ ?_ <;> intro _ <;> (try (exfalso; first | contradiction | omega))) | (refine JD_guardb xR xR ?_ ?_ <;> (intro hgb; subst hgb)) | (refine JD_guardb xR xR ?_ ?_ <;> (intro hgb; fail_if_success (have : type_of% hgb := rfl))) | fail)) | fail)) | refine yJ ?_ | ((with_reducible apply gJ_if); (first | (refine J_if xR ?_ ?_ <;> intro _ <;> (try (exfalso; first | contradiction | omega))) | (refine J_ifb xR ?_ ?_ <;> (intro hgb; subst hgb)) | (refine J_ifb xR ?_ ?_ <;> intro _) | fail)) | refine J_draw (id := 3) [0, 1, 2, 3, 4, 5, 6, 7, 8, 9, 10, 11, 12, 13, 14, 15] [16, 17, 18] mixed xC xD xD ?_ | refine J_draw (id := 5) [0, 1, 2, 3, 4, 5, 6, 7, 9, 10, 8] [11, 12] mixed xC xD xD ?_ | fail))
          refine J_again ⟨⟨b, q, has, v, true, k0⟩ :: C, k1⟩ (by simp only [szT]; omega) ⟨ht, ?_⟩ ⟨rfl, rfl, rfl, trivial⟩ (fun w H => (owMkFr (f := ⟨b, q, has, v, true, k0⟩) (H.sb (M := [pts b (ndC q has v (ptr k0) (ptr k1)) 131, trP k0, ctxP tb n C (some ⟨b, 0, none⟩)]) xZ)).sel xZ)
          intro f hf
          rcases List.mem_cons.1 hf with rfl | hf
          · exact ⟨hwi, hne, by simp [btB, hb]⟩
          · exact hC f hf
      · (repeat' (first | ((with_reducible apply gL); (first | refine yL0 ?_ | ((with_reducible apply gL_load); (first | refine JL_p rfl xR xR (pe_ldH xR xC (fun w hr => hole_see hr xA)) ?_ | fail)) | refine yL ?_ | (refine yM ?_; intro _) | fail)) | ((with_reducible apply gD); (first | (refine JD_nil ?_; try simp only [List.cons_append, List.nil_append]) | (refine JD_bar ?_; try simp only [List.cons_append, List.nil_append]) | refine yD0 ?_ | ((with_reducible apply gD_load); (first | refine JL_p rfl xR xR (pe_ldH xR xC (fun w hr => hole_see hr xA)) ?_ | fail)) | refine yD ?_ | ((with_reducible apply gD_go); (first | (refine JD_goq (within_b q p hws.1 hp false (decide_eq_false hwi)) (hφ := xF) (h := ?_); rintro _ _ ⟨rfl, rfl⟩; try simp only [List.cons_append, List.nil_append]) | fail)) | ((with_reducible apply gD_gd); (first | (refine JD_guard xR xR ?_ ?_ <;> intro _ <;> (try (exfalso; first | contradiction | omega))) | (refine JD_guardb xR xR ?_ ?_ <;> (intro hgb; subst hgb)) | (refine JD_guardb xR xR ?_ ?_ <;> (intro hgb; fail_if_success (have : type_of% hgb := rfl))) | fail)) | fail)) | refine yJ ?_ | ((with_reducible apply gJ_if); (first | (refine J_if xR ?_ ?_ <;> intro _ <;> (try (exfalso; first | contradiction | omega))) | (refine J_ifb xR ?_ ?_ <;> (intro hgb; subst hgb)) | (refine J_ifb xR ?_ ?_ <;> intro _) | fail)) | refine J_draw (id := 3) [0, 1, 2, 3, 4, 5, 6, 7, 8, 9, 10, 11, 12, 13, 14, 15] [16, 17, 18] mixed xC xD xD ?_ | refine J_draw (id := 5) [0, 1, 2, 3, 4, 5, 6, 7, 9, 10, 8] [11, 12] mixed xC xD xD ?_ | fail))
        exact J_ret1 rfl (by rfl) fun w H => ⟨_, ⟨C, .node b q has v k0 k1, ht, hC, by intro x hx; cases hx; exact .inr hwi, rfl, rfl⟩, (owMkNode (H.sb (M := [pts b (ndC q has v (ptr k0) (ptr k1)) 131, trP k0, trP k1]) xZ)).sel xZ⟩
end Go.Proofs.YtnhabkipjmgaaaaGreat.T
namespace Go.Proofs.YtnhabkipjmgaaaaGreat.T
set_option linter.unusedSimpArgs false
set_option linter.unusedVariables false
set_option maxRecDepth 20000
set_option maxHeartbeats 4000000
open Go.RowKit Go.Pm


def hereV (p : Pf) : Tr → Option Vt
  | .nil => none
  | .node _ q has v _ _ => if q = p ∧ has = true then some v else none
theorem kids_ne {r : Pf} {b : Nat} {p : Pf} {has : Bool} {v : Vt} {k0 k1 : Tr} (hw : wf r (.node b p has v k0 k1)) {e : Ent} (he : e ∈ ents k0 ∨ e ∈ ents k1) : e.1 ≠ p := by
  obtain ⟨hn, hv, hr, h0, h1⟩ := hw
  rcases he with he | he
  · exact (kid_wi (wf_wi h0 he).1 hr.rt2).2.1.symm
  · exact (kid_wi (wf_wi h1 he).1 hr.rt2).2.1.symm
theorem found_res {C : List Fr} {s : Tr} {p : Pf} (hw : wf (0, 0) (plug C s)) (hp : Path p C) (hF : Found p s) (hr : Rt p) : getL (ents (plug C s)) p = hereV p s := by
  have hs := ((wf_plug C s).1 hw).2
  have none_of : (∀ e ∈ ents s, e.1 ≠ p) → getL (ents (plug C s)) p = none := fun h => getL_none.2 fun e he hk => h e (found_get hw hp hr he hk) hk
  cases s with
  | nil => exact none_of (by simp [ents])
  | node b q has v k0 k1 =>
    show _ = if q = p ∧ has = true then some v else none
    by_cases hq : q = p
    · subst hq
      cases has
      · rw [if_neg (by simp)]
        exact none_of fun e he => kids_ne hs (by simpa [ents] using he)
      · rw [if_pos ⟨rfl, rfl⟩]
        exact (getL_mem (wf_srt hw)).2 (mem_plug.2 (.inl (by simp [ents])))
    · rw [if_neg (fun h => hq h.1)]
      exact none_of (found_none hs hq ((hF q rfl).resolve_left hq))
theorem getL_notRt {t : Tr} {p : Pf} (hw : wf (0, 0) t) (h : ¬ Rt p) : getL (ents t) p = none := getL_none.2 fun e he hk => h (hk ▸ (wf_wi hw he).1.rt2)
abbrev optV (o : Option Vt) : Value := .tuple [.agg (vC (o.getD zV)).toArray, .bool o.isSome].toArray
abbrev TrieL (tb : Nat) (n : Int) (t : Tr) : List HP := [pts tb (trC (ptr t) n true) 117, trP t]
theorem get_s (tb : Nat) (n : Int) (t : Tr) (p : Pf) (hp : PfN p) (hw : wf (0, 0) t) : Pact Tryz.prog 44 #[.pointer (some ⟨tb, 0, none⟩), .agg (pfC p).toArray] (fun _ => True) [pts tb (trC (ptr t) n true) 117, trP t] (fun v L' => v = optV (getL (ents t) p) ∧ L' = TrieL tb n t) := by
  refine pact Tryz.func44 rfl Tryz.ntmps44 rfl ?_
  intro W K _
  by_cases hr : Rt p
  · (repeat' (first | ((with_reducible apply gL); (first | refine yL0 ?_ | refine yL ?_ | ((with_reducible apply gL_go); (first | (refine JL_goq (is_s tb (ptr t) n true) (hφ := xF) (h := ?_); rintro _ _ ⟨rfl, rfl⟩; try simp only [List.cons_append, List.nil_append]) | (refine JL_goq (right_b p hp true (decide_eq_true hr)) (hφ := xF) (h := ?_); rintro _ _ ⟨rfl, rfl⟩; try simp only [List.cons_append, List.nil_append]) | (refine JL_goq (find_s tb n t p hp hw) (hφ := xF) (h := ?_); rintro _ _ ⟨C, s, ht, hC, hF, rfl, rfl⟩; try simp only [List.cons_append, List.nil_append]) | fail)) | (refine yM ?_; intro _) | ((with_reducible apply gL_gd); (first | (refine JL_guard xR xR ?_ ?_ <;> intro _ <;> (try (exfalso; first | contradiction | omega))) | (refine JL_guardb xR xR ?_ ?_ <;> (intro hgb; subst hgb)) | (refine JL_guardb xR xR ?_ ?_ <;> (intro hgb; fail_if_success (have : type_of% hgb := rfl))) | fail)) | fail)) | ((with_reducible apply gD); (first | (refine JD_nil ?_; try simp only [List.cons_append, List.nil_append]) | (refine JD_bar ?_; try simp only [List.cons_append, List.nil_append]) | refine yD0 ?_ | refine yD ?_ | ((with_reducible apply gD_gd); (first | (refine JD_guard xR xR ?_ ?_ <;> intro _ <;> (try (exfalso; first | contradiction | omega))) | (refine JD_guardb xR xR ?_ ?_ <;> (intro hgb; subst hgb)) | (refine JD_guardb xR xR ?_ ?_ <;> (intro hgb; fail_if_success (have : type_of% hgb := rfl))) | fail)) | fail)) | refine yJ ?_ | ((with_reducible apply gJ_if); (first | (refine J_if xR ?_ ?_ <;> intro _ <;> (try (exfalso; first | contradiction | omega))) | (refine J_ifb xR ?_ ?_ <;> (intro hgb; subst hgb)) | (refine J_ifb xR ?_ ?_ <;> intro _) | fail)) | refine J_draw (id := 5) [0, 1, 2, 3, 4, 5, 6, 7] [8, 9, 10, 11, 12, 13, 14, 15, 16] mixed xC xD xD ?_ | fail))
    subst ht
    have hs := ((wf_plug C s).1 hw).2
    have hg := found_res hw hC hF hr
    rw [hg]
    cases s with
    | nil =>
      (repeat' (first | ((with_reducible apply gL); (first | refine yL0 ?_ | ((with_reducible apply gL_load); (first | refine JL_p rfl xR xR (pe_ldH xR xC (fun w hr => hole_see hr xA)) ?_ | fail)) | refine yL ?_ | (refine yM ?_; intro _) | ((with_reducible apply gL_gd); (first | (refine JL_guard xR xR ?_ ?_ <;> intro _ <;> (try (exfalso; first | contradiction | omega))) | (refine JL_guardb xR xR ?_ ?_ <;> (intro hgb; subst hgb)) | (refine JL_guardb xR xR ?_ ?_ <;> (intro hgb; fail_if_success (have : type_of% hgb := rfl))) | fail)) | fail)) | ((with_reducible apply gD); (first | (refine JD_nil ?_; try simp only [List.cons_append, List.nil_append]) | (refine JD_bar ?_; try simp only [List.cons_append, List.nil_append]) | refine yD0 ?_ | ((with_reducible apply gD_load); (first | refine JL_p rfl xR xR (pe_ldH xR xC (fun w hr => hole_see hr xA)) ?_ | fail)) | refine yD ?_ | ((with_reducible apply gD_gd); (first | (refine JD_guard xR xR ?_ ?_ <;> intro _ <;> (try (exfalso; first | contradiction | omega))) | (refine JD_guardb xR xR ?_ ?_ <;> (intro hgb; subst hgb)) | (refine JD_guardb xR xR ?_ ?_ <;> (intro hgb; fail_if_success (have : type_of% hgb := rfl))) | fail)) | fail)) | refine yJ ?_ | ((with_reducible apply gJ_if); (first | (refine J_if xR ?_ ?_ <;> intro _ <;> (try (exfalso; first | contradiction | omega))) | (refine J_ifb xR ?_ ?_ <;> (intro hgb; subst hgb)) | (refine J_ifb xR ?_ ?_ <;> intro _) | fail)) | refine J_draw (id := 5) [0, 1, 2, 3, 4, 5, 6, 7] [8, 9, 10, 11, 12, 13, 14, 15, 16] mixed xC xD xD ?_ | fail))
      exact J_retC1 (cs := vC zV) rfl (by rfl) (by rfl) xA (by rfl) fun w H => ⟨_, ⟨rfl, rfl⟩, (owPlug (C := C) (s := .nil) (H.sb (M := [ctxP tb n C (ptr .nil), trP .nil]) xZ)).sel xZ⟩
    | node b q has v k0 k1 =>
      refine JL_heap (fun w H => owNodeO H xA) ?_
      have back : ∀ {R : List HP} {w : World}, Ow W K (pts b (ndC q has v (ptr k0) (ptr k1)) 131 :: trP k0 :: trP k1 :: ctxP tb n C (ptr (.node b q has v k0 k1)) :: R) w → Ow W K (pts tb (trC (ptr (plug C (.node b q has v k0 k1))) n true) 117 :: trP (plug C (.node b q has v k0 k1)) :: R) w := fun H => owPlug (C := C) (s := .node b q has v k0 k1) ((owMkNode H).perm (.swap ..))
      by_cases hq : q.1 = p.1 ∧ q.2 = p.2
      · obtain rfl : q = p := Prod.ext hq.1 hq.2
        cases has
        · (repeat' (first | ((with_reducible apply gL); (first | refine yL0 ?_ | ((with_reducible apply gL_load); (first | refine JL_p rfl xR xR (pe_ldH xR xC (fun w hr => hole_see hr xA)) ?_ | fail)) | refine yL ?_ | (refine yM ?_; intro _) | ((with_reducible apply gL_gd); (first | (refine JL_guard xR xR ?_ ?_ <;> intro _ <;> (try (exfalso; first | contradiction | omega))) | (refine JL_guardb xR xR ?_ ?_ <;> (intro hgb; subst hgb)) | (refine JL_guardb xR xR ?_ ?_ <;> (intro hgb; fail_if_success (have : type_of% hgb := rfl))) | fail)) | fail)) | ((with_reducible apply gD); (first | (refine JD_nil ?_; try simp only [List.cons_append, List.nil_append]) | (refine JD_bar ?_; try simp only [List.cons_append, List.nil_append]) | refine yD0 ?_ | ((with_reducible apply gD_load); (first | refine JL_p rfl xR xR (pe_ldH xR xC (fun w hr => hole_see hr xA)) ?_ | fail)) | refine yD ?_ | ((with_reducible apply gD_gd); (first | (refine JD_guard xR xR ?_ ?_ <;> intro _ <;> (try (exfalso; first | contradiction | omega))) | (refine JD_guardb xR xR ?_ ?_ <;> (intro hgb; subst hgb)) | (refine JD_guardb xR xR ?_ ?_ <;> (intro hgb; fail_if_success (have : type_of% hgb := rfl))) | fail)) | fail)) | refine yJ ?_ | ((with_reducible apply gJ_if); (first | (refine J_if xR ?_ ?_ <;> intro _ <;> (try (exfalso; first | contradiction | omega))) | (refine J_ifb xR ?_ ?_ <;> (intro hgb; subst hgb)) | (refine J_ifb xR ?_ ?_ <;> intro _) | fail)) | refine J_draw (id := 5) [0, 1, 2, 3, 4, 5, 6, 7] [8, 9, 10, 11, 12, 13, 14, 15, 16] mixed xC xD xD ?_ | fail))
          exact J_retC1 (cs := vC zV) rfl (by rfl) (by rfl) xA (by rfl) fun w H => ⟨_, ⟨by simp [hereV, optV], rfl⟩, (back (H.sb (M := [pts b (ndC q false v (ptr k0) (ptr k1)) 131, trP k0, trP k1, ctxP tb n C (ptr (.node b q false v k0 k1))]) xZ)).sel xZ⟩
        · (repeat' (first | ((with_reducible apply gL); (first | refine yL0 ?_ | ((with_reducible apply gL_load); (first | refine JL_p rfl xR xR (pe_ldH xR xC (fun w hr => hole_see hr xA)) ?_ | fail)) | refine yL ?_ | (refine yM ?_; intro _) | ((with_reducible apply gL_gd); (first | (refine JL_guard xR xR ?_ ?_ <;> intro _ <;> (try (exfalso; first | contradiction | omega))) | (refine JL_guardb xR xR ?_ ?_ <;> (intro hgb; subst hgb)) | (refine JL_guardb xR xR ?_ ?_ <;> (intro hgb; fail_if_success (have : type_of% hgb := rfl))) | fail)) | fail)) | ((with_reducible apply gD); (first | (refine JD_nil ?_; try simp only [List.cons_append, List.nil_append]) | (refine JD_bar ?_; try simp only [List.cons_append, List.nil_append]) | refine yD0 ?_ | ((with_reducible apply gD_load); (first | refine JL_p rfl xR xR (pe_ldH xR xC (fun w hr => hole_see hr xA)) ?_ | fail)) | refine yD ?_ | ((with_reducible apply gD_gd); (first | (refine JD_guard xR xR ?_ ?_ <;> intro _ <;> (try (exfalso; first | contradiction | omega))) | (refine JD_guardb xR xR ?_ ?_ <;> (intro hgb; subst hgb)) | (refine JD_guardb xR xR ?_ ?_ <;> (intro hgb; fail_if_success (have : type_of% hgb := rfl))) | fail)) | fail)) | refine yJ ?_ | ((with_reducible apply gJ_if); (first | (refine J_if xR ?_ ?_ <;> intro _ <;> (try (exfalso; first | contradiction | omega))) | (refine J_ifb xR ?_ ?_ <;> (intro hgb; subst hgb)) | (refine J_ifb xR ?_ ?_ <;> intro _) | fail)) | refine J_draw (id := 5) [0, 1, 2, 3, 4, 5, 6, 7] [8, 9, 10, 11, 12, 13, 14, 15, 16] mixed xC xD xD ?_ | fail))
          exact J_retC1 (cs := vC v) rfl (by rfl) (by rfl) xA (by rfl) fun w H => ⟨_, ⟨by simp [hereV, optV], rfl⟩, (back (H.sb (M := [pts b (ndC q true v (ptr k0) (ptr k1)) 131, trP k0, trP k1, ctxP tb n C (ptr (.node b q true v k0 k1))]) xZ)).sel xZ⟩
      · have hne : q ≠ p := fun e => hq ⟨by rw [e], by rw [e]⟩
        (repeat' (first | ((with_reducible apply gL); (first | refine yL0 ?_ | ((with_reducible apply gL_load); (first | refine JL_p rfl xR xR (pe_ldH xR xC (fun w hr => hole_see hr xA)) ?_ | fail)) | refine yL ?_ | (refine yM ?_; intro _) | ((with_reducible apply gL_gd); (first | (refine JL_guard xR xR ?_ ?_ <;> intro _ <;> (try (exfalso; first | contradiction | omega))) | (refine JL_guardb xR xR ?_ ?_ <;> (intro hgb; subst hgb)) | (refine JL_guardb xR xR ?_ ?_ <;> (intro hgb; fail_if_success (have : type_of% hgb := rfl))) | fail)) | fail)) | ((with_reducible apply gD); (first | (refine JD_nil ?_; try simp only [List.cons_append, List.nil_append]) | (refine JD_bar ?_; try simp only [List.cons_append, List.nil_append]) | refine yD0 ?_ | ((with_reducible apply gD_load); (first | refine JL_p rfl xR xR (pe_ldH xR xC (fun w hr => hole_see hr xA)) ?_ | fail)) | refine yD ?_ | ((with_reducible apply gD_gd); (first | (refine JD_guard xR xR ?_ ?_ <;> intro _ <;> (try (exfalso; first | contradiction | omega))) | (refine JD_guardb xR xR ?_ ?_ <;> (intro hgb; subst hgb)) | (refine JD_guardb xR xR ?_ ?_ <;> (intro hgb; fail_if_success (have : type_of% hgb := rfl))) | fail)) | fail)) | refine yJ ?_ | ((with_reducible apply gJ_if); (first | (refine J_if xR ?_ ?_ <;> intro _ <;> (try (exfalso; first | contradiction | omega))) | (refine J_ifb xR ?_ ?_ <;> (intro hgb; subst hgb)) | (refine J_ifb xR ?_ ?_ <;> intro _) | fail)) | refine J_draw (id := 5) [0, 1, 2, 3, 4, 5, 6, 7] [8, 9, 10, 11, 12, 13, 14, 15, 16] mixed xC xD xD ?_ | fail))
        exact J_retC1 (cs := vC zV) rfl (by rfl) (by rfl) xA (by rfl) fun w H => ⟨_, ⟨by simp [hereV, optV, hne], rfl⟩, (back (H.sb (M := [pts b (ndC q has v (ptr k0) (ptr k1)) 131, trP k0, trP k1, ctxP tb n C (ptr (.node b q has v k0 k1))]) xZ)).sel xZ⟩
  · rw [getL_notRt hw hr]
    (repeat' (first | ((with_reducible apply gL); (first | refine yL0 ?_ | refine yL ?_ | ((with_reducible apply gL_go); (first | (refine JL_goq (is_s tb (ptr t) n true) (hφ := xF) (h := ?_); rintro _ _ ⟨rfl, rfl⟩; try simp only [List.cons_append, List.nil_append]) | (refine JL_goq (right_b p hp false (decide_eq_false hr)) (hφ := xF) (h := ?_); rintro _ _ ⟨rfl, rfl⟩; try simp only [List.cons_append, List.nil_append]) | fail)) | (refine yM ?_; intro _) | ((with_reducible apply gL_gd); (first | (refine JL_guard xR xR ?_ ?_ <;> intro _ <;> (try (exfalso; first | contradiction | omega))) | (refine JL_guardb xR xR ?_ ?_ <;> (intro hgb; subst hgb)) | (refine JL_guardb xR xR ?_ ?_ <;> (intro hgb; fail_if_success (have : type_of% hgb := rfl))) | fail)) | fail)) | ((with_reducible apply gD); (first | (refine JD_nil ?_; try simp only [List.cons_append, List.nil_append]) | (refine JD_bar ?_; try simp only [List.cons_append, List.nil_append]) | refine yD0 ?_ | refine yD ?_ | ((with_reducible apply gD_gd); (first | (refine JD_guard xR xR ?_ ?_ <;> intro _ <;> (try (exfalso; first | contradiction | omega))) | (refine JD_guardb xR xR ?_ ?_ <;> (intro hgb; subst hgb)) | (refine JD_guardb xR xR ?_ ?_ <;> (intro hgb; fail_if_success (have : type_of% hgb := rfl))) | fail)) | fail)) | refine yJ ?_ | ((with_reducible apply gJ_if); (first | (refine J_if xR ?_ ?_ <;> intro _ <;> (try (exfalso; first | contradiction | omega))) | (refine J_ifb xR ?_ ?_ <;> (intro hgb; subst hgb)) | (refine J_ifb xR ?_ ?_ <;> intro _) | fail)) | refine J_draw (id := 5) [0, 1, 2, 3, 4, 5, 6, 7] [8, 9, 10, 11, 12, 13, 14, 15, 16] mixed xC xD xD ?_ | fail))
    exact J_retC1 (cs := vC zV) rfl (by rfl) (by rfl) xA (by rfl) fun w H => ⟨_, ⟨rfl, rfl⟩, H.sel xZ⟩
theorem getvoid_s (tb : Nat) (a : Option Addr) (n : Int) (p : Pf) : Pact Tryz.prog 44 #[.pointer (some ⟨tb, 0, none⟩), .agg (pfC p).toArray] (fun _ => True) [pts tb (trC a n false) 117] (fun v L' => v = optV none ∧ L' = [pts tb (trC a n false) 117]) := by
  refine pact Tryz.func44 rfl Tryz.ntmps44 rfl ?_
  intro W K _
  (repeat' (first | ((with_reducible apply gL); (first | refine yL0 ?_ | refine yL ?_ | ((with_reducible apply gL_go); (first | (refine JL_goq (is_s tb a n false) (hφ := xF) (h := ?_); rintro _ _ ⟨rfl, rfl⟩; try simp only [List.cons_append, List.nil_append]) | fail)) | (refine yM ?_; intro _) | ((with_reducible apply gL_gd); (first | (refine JL_guard xR xR ?_ ?_ <;> intro _ <;> (try (exfalso; first | contradiction | omega))) | (refine JL_guardb xR xR ?_ ?_ <;> (intro hgb; subst hgb)) | (refine JL_guardb xR xR ?_ ?_ <;> (intro hgb; fail_if_success (have : type_of% hgb := rfl))) | fail)) | fail)) | ((with_reducible apply gD); (first | (refine JD_nil ?_; try simp only [List.cons_append, List.nil_append]) | (refine JD_bar ?_; try simp only [List.cons_append, List.nil_append]) | refine yD0 ?_ | refine yD ?_ | ((with_reducible apply gD_gd); (first | (refine JD_guard xR xR ?_ ?_ <;> intro _ <;> (try (exfalso; first | contradiction | omega))) | (refine JD_guardb xR xR ?_ ?_ <;> (intro hgb; subst hgb)) | (refine JD_guardb xR xR ?_ ?_ <;> (intro hgb; fail_if_success (have : type_of% hgb := rfl))) | fail)) | fail)) | refine yJ ?_ | ((with_reducible apply gJ_if); (first | (refine J_if xR ?_ ?_ <;> intro _ <;> (try (exfalso; first | contradiction | omega))) | (refine J_ifb xR ?_ ?_ <;> (intro hgb; subst hgb)) | (refine J_ifb xR ?_ ?_ <;> intro _) | fail)) | refine J_draw (id := 5) [0, 1, 2, 3, 4, 5, 6, 7] [8, 9, 10, 11, 12, 13, 14, 15, 16] mixed xC xD xD ?_ | fail))
  exact J_retC1 (cs := vC zV) rfl (by rfl) (by rfl) xA (by rfl) fun w H => ⟨_, ⟨rfl, rfl⟩, H.sel xZ⟩
theorem getnil_s (p : Pf) : Pact Tryz.prog 44 #[.pointer none, .agg (pfC p).toArray] (fun _ => True) [] (ret0 (optV none)) := by
  refine pact Tryz.func44 rfl Tryz.ntmps44 rfl ?_
  intro W K _
  (repeat' (first | ((with_reducible apply gL); (first | refine yL0 ?_ | refine yL ?_ | ((with_reducible apply gL_go); (first | (refine JL_goq (isnil_s) (hφ := xF) (h := ?_); rintro _ _ ⟨rfl, rfl⟩; try simp only [List.cons_append, List.nil_append]) | fail)) | (refine yM ?_; intro _) | ((with_reducible apply gL_gd); (first | (refine JL_guard xR xR ?_ ?_ <;> intro _ <;> (try (exfalso; first | contradiction | omega))) | (refine JL_guardb xR xR ?_ ?_ <;> (intro hgb; subst hgb)) | (refine JL_guardb xR xR ?_ ?_ <;> (intro hgb; fail_if_success (have : type_of% hgb := rfl))) | fail)) | fail)) | ((with_reducible apply gD); (first | (refine JD_nil ?_; try simp only [List.cons_append, List.nil_append]) | (refine JD_bar ?_; try simp only [List.cons_append, List.nil_append]) | refine yD0 ?_ | refine yD ?_ | ((with_reducible apply gD_gd); (first | (refine JD_guard xR xR ?_ ?_ <;> intro _ <;> (try (exfalso; first | contradiction | omega))) | (refine JD_guardb xR xR ?_ ?_ <;> (intro hgb; subst hgb)) | (refine JD_guardb xR xR ?_ ?_ <;> (intro hgb; fail_if_success (have : type_of% hgb := rfl))) | fail)) | fail)) | refine yJ ?_ | ((with_reducible apply gJ_if); (first | (refine J_if xR ?_ ?_ <;> intro _ <;> (try (exfalso; first | contradiction | omega))) | (refine J_ifb xR ?_ ?_ <;> (intro hgb; subst hgb)) | (refine J_ifb xR ?_ ?_ <;> intro _) | fail)) | refine J_draw (id := 5) [0, 1, 2, 3, 4, 5, 6, 7] [8, 9, 10, 11, 12, 13, 14, 15, 16] mixed xC xD xD ?_ | fail))
  exact J_retC1 (cs := vC zV) rfl (by rfl) (by rfl) xA (by rfl) fun w H => ⟨_, ⟨rfl, rfl⟩, H.sel xZ⟩
/-- The only kid. -/
theorem only_s (b : Nat) (q : Pf) (has : Bool) (v : Vt) (a0 a1 : Option Addr) : Pact Tryz.prog 124 #[.pointer (some ⟨b, 0, none⟩)] (fun _ => True) [pts b (ndC q has v a0 a1) 131] (fun u L' => u = .tuple [.pointer (if a0.isSome && a1.isSome then none else if a0.isSome then a0 else a1), .bool (!(a0.isSome && a1.isSome))].toArray ∧ L' = [pts b (ndC q has v a0 a1) 131]) := by
  refine pact Tryz.func124 rfl Tryz.ntmps124 rfl ?_
  intro W K _
  cases a0 <;> cases a1
  all_goals (repeat' (first | ((with_reducible apply gL); (first | refine yL0 ?_ | refine yL ?_ | ((with_reducible apply gL_gd); (first | (refine JL_guard xR xR ?_ ?_ <;> intro _ <;> (try (exfalso; first | contradiction | omega))) | (refine JL_guardb xR xR ?_ ?_ <;> (intro hgb; subst hgb)) | (refine JL_guardb xR xR ?_ ?_ <;> (intro hgb; fail_if_success (have : type_of% hgb := rfl))) | fail)) | fail)) | refine yJ ?_ | ((with_reducible apply gJ_if); (first | (refine J_if xR ?_ ?_ <;> intro _ <;> (try (exfalso; first | contradiction | omega))) | (refine J_ifb xR ?_ ?_ <;> (intro hgb; subst hgb)) | (refine J_ifb xR ?_ ?_ <;> intro _) | fail)) | fail))
  all_goals exact J_ret2 rfl (by rfl) (by rfl) fun w H => ⟨_, ⟨rfl, rfl⟩, H.sel xZ⟩
end Go.Proofs.YtnhabkipjmgaaaaGreat.T
namespace Go.Proofs.YtnhabkipjmgaaaaGreat.T
set_option linter.unusedSimpArgs false
set_option linter.unusedVariables false
set_option maxRecDepth 20000
set_option maxHeartbeats 4000000
open Go.RowKit Go.Pm


theorem hole_st {W : World} {K : Hl} {R : List HP} {w : World} {tb : Nat} {n : Int} {C : List Fr} {h h' : Option Addr} (H : Ow W K (ctxP tb n C h :: R) w) : ∃ u, w.cell? (holeA tb C) = some u ∧ w.frozen? (holeA tb C) = false ∧ Ow W K (ctxP tb n C h' :: R) (w.setCell (holeA tb C) (.pointer h')) := by
  obtain ⟨a, b, c⟩ := hole_cell H
  exact ⟨_, a, b, c h'⟩
/-- What is inserted. -/
structure InsOk (r : Pf) (p : Pf) (v : Vt) (s s' : Tr) : Prop where
  w : wf r s'
  m : ∀ e, e ∈ ents s' ↔ e = (p, v) ∨ (e ∈ ents s ∧ e.1 ≠ p)
theorem ins_nil {r p : Pf} {v : Vt} {bx : Nat} (hp : PfN p) (hv : VN v) (hr : Wi r p) : InsOk r p v .nil (.node bx p true v .nil .nil) :=
  ⟨⟨hp, hv, hr, trivial, trivial⟩, fun e => by simp [ents]⟩
theorem ins_mem {b : Nat} {q p : Pf} {has : Bool} {v : Vt} {k0 k1 : Tr} {r : Pf} (hw : wf r (.node b q has v k0 k1)) (hq : q ≠ p) (hf : ¬ Wi q p) {e : Ent} : e ∈ ents (.node b q has v k0 k1) ↔ e ∈ ents (.node b q has v k0 k1) ∧ e.1 ≠ p :=
  ⟨fun h => ⟨h, found_none hw hq hf e h⟩, fun h => h.1⟩
theorem ins_kid {r p q : Pf} {v vo : Vt} {bx b : Nat} {has : Bool} {k0 k1 : Tr} (hp : PfN p) (hv : VN v) (hr : Wi r p) (hw : wf r (.node b q has vo k0 k1)) (hq : q ≠ p) (hf : ¬ Wi q p) (hpq : Wi p q) :
    InsOk r p v (.node b q has vo k0 k1) (if btB q.1 p.2 then .node bx p true v .nil (.node b q has vo k0 k1) else .node bx p true v (.node b q has vo k0 k1) .nil) := by
  have hk := (wi_kid hpq (Ne.symm hq)).2
  cases hb : btB q.1 p.2
  · rw [hb] at hk
    simp only [Bool.false_eq_true, if_false]
    refine ⟨⟨hp, hv, hr, ⟨hw.1, hw.2.1, hk, hw.2.2.2⟩, trivial⟩, fun e => ?_⟩
    rw [← ins_mem hw hq hf]
    simp [ents]
  · rw [hb] at hk
    simp only [if_true]
    refine ⟨⟨hp, hv, hr, trivial, ⟨hw.1, hw.2.1, hk, hw.2.2.2⟩⟩, fun e => ?_⟩
    rw [← ins_mem hw hq hf]
    simp [ents]
theorem com_wi {p : Pf} {m : Int} (rp : Rt p) (h0 : 0 ≤ m) (h1 : m ≤ p.2) : Rt (p.1 - p.1 % pw m, m) ∧ Wi (p.1 - p.1 % pw m, m) p := by
  have e1 := Int.mul_ediv_add_emod p.1 (pw m)
  have e2 : p.1 - p.1 % pw m = pw m * (p.1 / pw m) := by omega
  have hr : Rt (p.1 - p.1 % pw m, m) := ⟨h0, Int.le_trans h1 (rt_hi rp), by show (p.1 - p.1 % pw m) % pw m = 0; rw [e2, Int.mul_emod_right]⟩
  refine ⟨hr, hr, rp, h1, ?_⟩
  show p.1 / pw m = (p.1 - p.1 % pw m) / pw m
  rw [e2, Int.mul_ediv_cancel_left _ (Int.ne_of_gt (pw_pos m))]
theorem com_sym {p q : Pf} {m : Int} (h : p.1 / pw m = q.1 / pw m) : (p.1 - p.1 % pw m, m) = (q.1 - q.1 % pw m, m) := by
  have e1 := Int.mul_ediv_add_emod p.1 (pw m)
  have e2 := Int.mul_ediv_add_emod q.1 (pw m)
  rw [h] at e1
  refine Prod.ext ?_ rfl
  show p.1 - p.1 % pw m = q.1 - q.1 % pw m
  omega
theorem btB_eq (a l : Int) (i : Int) (h : bt a l = i) : btB a l = decide (i = 1) := by unfold btB; rw [h]
theorem ins_fork {r p q : Pf} {v vo : Vt} {m : Int} {bx b bf : Nat} {has : Bool} {k0 k1 : Tr} (hp : PfN p) (hv : VN v) (hr : Wi r p) (hw : wf r (.node b q has vo k0 k1)) (hq : q ≠ p) (hf : ¬ Wi q p) (h0 : 0 ≤ m) (h1 : m ≤ p.2) (h2 : m ≤ q.2) (h3 : p.1 / pw m = q.1 / pw m)
    (h4 : m < p.2 → m < q.2 → bt p.1 m ≠ bt q.1 m) (hc : ¬ (p.1 - p.1 % pw m = p.1 ∧ m = p.2)) :
    m < p.2 ∧ m < q.2 ∧ bt p.1 m ≠ bt q.1 m ∧ InsOk r p v (.node b q has vo k0 k1) (if btB p.1 m then .node bf (p.1 - p.1 % pw m, m) false zV (.node b q has vo k0 k1) (.node bx p true v .nil .nil) else .node bf (p.1 - p.1 % pw m, m) false zV (.node bx p true v .nil .nil) (.node b q has vo k0 k1)) := by
  have rp := hr.rt2
  have rq := hw.2.2.1.rt2
  obtain ⟨rc, wp⟩ := com_wi rp h0 h1
  have wq : Wi (p.1 - p.1 % pw m, m) q := by rw [com_sym h3]; exact (com_wi rq h0 h2).2
  have np : (p.1 - p.1 % pw m, m) ≠ p := fun e => hc ⟨congrArg Prod.fst e, congrArg Prod.snd e⟩
  have l1 : m < p.2 := wp.lt np
  have nq : (p.1 - p.1 % pw m, m) ≠ q := fun e => hf (by rw [← e]; exact wp)
  have l2 : m < q.2 := wq.lt nq
  have hb := h4 l1 l2
  have kp := (wi_kid wp np).2
  have kq := (wi_kid wq nq).2
  have rl : r.2 ≤ m := by
    rcases Int.lt_or_le m r.2 with hlt | hle
    · exfalso
      have a1 := hr.2.2.2
      have a2 := hw.2.2.1.2.2.2
      have a3 : p.1 / pw (m + 1) = q.1 / pw (m + 1) := by
        rw [div_pw p.1 (m + 1) r.2 (by omega) (by omega) (rt_hi hr.1), div_pw q.1 (m + 1) r.2 (by omega) (by omega) (rt_hi hr.1), a1, a2]
      have b1 := bt_div p.1 m h0 (by have := rt_hi rp; omega)
      have b2 := bt_div q.1 m h0 (by have := rt_hi rp; omega)
      omega
    · exact hle
  have wr : Wi r (p.1 - p.1 % pw m, m) := hr.comp wp rl
  have hcn : PfN (p.1 - p.1 % pw m, m) := ⟨mask_fits p.1 m hp.1 h0, by have := rt_hi rp; unfold I64; show -9223372036854775808 ≤ m ∧ m ≤ 9223372036854775807; omega⟩
  have hz : VN zV := by unfold VN I64 zV; decide
  refine ⟨l1, l2, hb, ?_⟩
  have c1 := bt_cases p.1 m
  have c2 := bt_cases q.1 m
  have hbq : btB q.1 m = !btB p.1 m := by
    unfold btB
    rcases c1 with c1 | c1 <;> rcases c2 with c2 | c2 <;> rw [c1, c2] at hb ⊢ <;> first | rfl | (exact absurd rfl hb)
  have kq' : Wi (kid (p.1 - p.1 % pw m, m) (!btB p.1 m)) q := by rw [← hbq]; exact kq
  have kp' : Wi (kid (p.1 - p.1 % pw m, m) (btB p.1 m)) p := kp
  cases hbb : btB p.1 m
  · rw [hbb] at kp' kq'
    simp only [Bool.false_eq_true, if_false]
    refine ⟨⟨hcn, hz, wr, ⟨hp, hv, kp', trivial, trivial⟩, ⟨hw.1, hw.2.1, kq', hw.2.2.2⟩⟩, fun e => ?_⟩
    rw [← ins_mem hw hq hf]
    simp [ents]
  · rw [hbb] at kp' kq'
    simp only [if_true]
    refine ⟨⟨hcn, hz, wr, ⟨hw.1, hw.2.1, kq', hw.2.2.2⟩, ⟨hp, hv, kp', trivial, trivial⟩⟩, fun e => ?_⟩
    rw [← ins_mem hw hq hf]
    simp only [ents, List.mem_append]
    cases has <;> simp [or_comm, or_left_comm, or_assoc]
theorem owX {W : World} {K : Hl} {L R : List HP} {w : World} {bx : Nat} {p : Pf} {v : Vt} (H : Ow W K L w) (t : Tk L (pts bx (ndC p true v none none) 131) R) : Ow W K (trP (.node bx p true v .nil .nil) :: R) w :=
  owMkNode (p := p) (has := true) (v := v) (k0 := .nil) (k1 := .nil) ((owMkNil (owMkNil (H.tk t))).sb (M := [pts bx (ndC p true v none none) 131, trP .nil, trP .nil]) (.cons (.there (.there .here)) (.cons .here (.cons .here .nil))))
/-- Behind insert. -/
def InsR (tb : Nat) (n : Int) (C : List Fr) (p : Pf) (v : Vt) (s : Tr) (_ : Value) (L' : List HP) : Prop := ∃ s', InsOk (hreg C) p v s s' ∧ L' = [ctxP tb n C (ptr s'), trP s']
theorem insert_s (tb : Nat) (n : Int) (C : List Fr) (s : Tr) (bx : Nat) (p : Pf) (v : Vt) (hp : PfN p) (hv : VN v) (hw : wf (hreg C) s) (hr : Wi (hreg C) p) (hF : ∀ q, top s = some q → q ≠ p ∧ ¬ Wi q p) :
    Pact Tryz.prog 80 #[.pointer (some ⟨bx, 0, none⟩), .pointer (some (holeA tb C))] (fun _ => True) [pts bx (ndC p true v none none) 131, ctxP tb n C (ptr s), trP s] (InsR tb n C p v s) := by
  refine pact Tryz.func80 rfl Tryz.ntmps80 rfl ?_
  intro W K _
  cases s with
  | nil =>
    (repeat' (first | ((with_reducible apply gL); (first | refine yL0 ?_ | ((with_reducible apply gL_load); (first | refine JL_p rfl xR xR (pe_ldH xR xC (fun w hr => hole_see hr xA)) ?_ | fail)) | ((with_reducible apply gL_store); (first | refine JL_stH (A := ctxP tb n C _) (B := ctxP tb n C _) xR xR xC xR xA (fun W K' w H => hole_st H) xR ?_ | fail)) | refine yL ?_ | (refine yM ?_; intro _) | fail)) | ((with_reducible apply gD); (first | (refine JD_nil ?_; try simp only [List.cons_append, List.nil_append]) | (refine JD_bar ?_; try simp only [List.cons_append, List.nil_append]) | ((with_reducible apply gD_load); (first | refine JL_p rfl xR xR (pe_ldH xR xC (fun w hr => hole_see hr xA)) ?_ | fail)) | ((with_reducible apply gD_store); (first | refine JL_stH (A := ctxP tb n C _) (B := ctxP tb n C _) xR xR xC xR xA (fun W K' w H => hole_st H) xR ?_ | fail)) | refine yD ?_ | (refine yE ?_; intro _) | fail)) | refine yJ ?_ | ((with_reducible apply gJ_if); (first | (refine J_if xR ?_ ?_ <;> intro _ <;> (try (exfalso; first | contradiction | omega))) | (refine J_ifb xR ?_ ?_ <;> (intro hgb; subst hgb)) | (refine J_ifb xR ?_ ?_ <;> intro _) | fail)) | refine J_draw (id := 3) [0, 1, 2, 3, 4, 5, 6, 7, 8, 9] [10] mixed xC xD xD ?_ | refine J_draw (id := 4) [0, 1, 2, 3, 4] [5] mixed xC xD xD ?_ | refine J_draw (id := 6) [0, 1, 2, 3, 4, 5, 6, 7, 9, 10, 11, 8] [12, 13] mixed xC xD xD ?_ | refine J_draw (id := 8) [0, 1, 2, 3, 4, 5, 6, 7, 8, 9, 10, 12, 13, 14, 11] [15, 16] mixed xC xD xD ?_ | fail))
    exact J_ret0 rfl fun w H => ⟨_, ⟨.node bx p true v .nil .nil, ins_nil hp hv hr, rfl⟩, (owMkNode (p := p) (has := true) (v := v) (k0 := .nil) (k1 := .nil) ((owMkNil (owMkNil H)).sb (M := [pts bx (ndC p true v none none) 131, trP .nil, trP .nil]) xZ)).sel xZ⟩
  | node b q has vo k0 k1 =>
    obtain ⟨hq, hf⟩ := hF q rfl
    have rp := hr.rt2
    have rq := hw.2.2.1.rt2
    refine J_heap (fun w H => owNodeO H xA) ?_
    (repeat' (first | ((with_reducible apply gL); (first | refine yL0 ?_ | ((with_reducible apply gL_load); (first | refine JL_p rfl xR xR (pe_ldH xR xC (fun w hr => hole_see hr xA)) ?_ | fail)) | ((with_reducible apply gL_store); (first | refine JL_stH (A := ctxP tb n C _) (B := ctxP tb n C _) xR xR xC xR xA (fun W K' w H => hole_st H) xR ?_ | fail)) | refine yL ?_ | (refine yM ?_; intro _) | fail)) | ((with_reducible apply gD); (first | (refine JD_nil ?_; try simp only [List.cons_append, List.nil_append]) | (refine JD_bar ?_; try simp only [List.cons_append, List.nil_append]) | ((with_reducible apply gD_load); (first | refine JL_p rfl xR xR (pe_ldH xR xC (fun w hr => hole_see hr xA)) ?_ | fail)) | ((with_reducible apply gD_store); (first | refine JL_stH (A := ctxP tb n C _) (B := ctxP tb n C _) xR xR xC xR xA (fun W K' w H => hole_st H) xR ?_ | fail)) | refine yD ?_ | ((with_reducible apply gD_go); (first | (refine JD_goq (common_s p q hp hw.1 rp rq) (hφ := xF) (h := ?_); rintro _ _ ⟨⟨m, h0, h1, h2, h3, h4, rfl⟩, rfl⟩; try simp only [List.cons_append, List.nil_append]) | fail)) | (refine yE ?_; intro _) | fail)) | refine yJ ?_ | ((with_reducible apply gJ_if); (first | (refine J_if xR ?_ ?_ <;> intro _ <;> (try (exfalso; first | contradiction | omega))) | (refine J_ifb xR ?_ ?_ <;> (intro hgb; subst hgb)) | (refine J_ifb xR ?_ ?_ <;> intro _) | fail)) | refine J_draw (id := 3) [0, 1, 2, 3, 4, 5, 6, 7, 8, 9] [10] mixed xC xD xD ?_ | refine J_draw (id := 4) [0, 1, 2, 3, 4] [5] mixed xC xD xD ?_ | refine J_draw (id := 6) [0, 1, 2, 3, 4, 5, 6, 7, 9, 10, 11, 8] [12, 13] mixed xC xD xD ?_ | refine J_draw (id := 8) [0, 1, 2, 3, 4, 5, 6, 7, 8, 9, 10, 12, 13, 14, 11] [15, 16] mixed xC xD xD ?_ | fail))
    · rename_i g5 hc bf
      obtain ⟨l1, l2, hb, hok⟩ := ins_fork (bx := bx) (b := b) (bf := bf) (has := has) (vo := vo) (k0 := k0) (k1 := k1) hp hv hr hw hq hf h0 h1 h2 h3 h4 hc
      have h32 := rt_hi rp
      rcases bt_cases p.1 m with e1 | e1
      · have e2 : bt q.1 m = 1 := by have := bt_cases q.1 m; omega
        rw [btB_eq _ _ _ e1] at hok
        (repeat' (first | ((with_reducible apply gL); (first | refine yL0 ?_ | ((with_reducible apply gL_load); (first | refine JL_p rfl xR xR (pe_ldH xR xC (fun w hr => hole_see hr xA)) ?_ | fail)) | ((with_reducible apply gL_store); (first | refine JL_stH (A := ctxP tb n C _) (B := ctxP tb n C _) xR xR xC xR xA (fun W K' w H => hole_st H) xR ?_ | fail)) | refine yL ?_ | (refine yM ?_; intro _) | fail)) | ((with_reducible apply gD); (first | (refine JD_nil ?_; try simp only [List.cons_append, List.nil_append]) | (refine JD_bar ?_; try simp only [List.cons_append, List.nil_append]) | ((with_reducible apply gD_load); (first | refine JL_p rfl xR xR (pe_ldH xR xC (fun w hr => hole_see hr xA)) ?_ | fail)) | ((with_reducible apply gD_store); (first | refine JL_stH (A := ctxP tb n C _) (B := ctxP tb n C _) xR xR xC xR xA (fun W K' w H => hole_st H) xR ?_ | fail)) | refine yD ?_ | ((with_reducible apply gD_go); (first | (refine JD_goq (bit_b p.1 m 0 e1 hp.1 h0 (by omega)) (hφ := xF) (h := ?_); rintro _ _ ⟨rfl, rfl⟩; try simp only [List.cons_append, List.nil_append]) | (refine JD_goq (bit_b q.1 m 1 e2 hw.1.1 h0 (by omega)) (hφ := xF) (h := ?_); rintro _ _ ⟨rfl, rfl⟩; try simp only [List.cons_append, List.nil_append]) | fail)) | (refine yE ?_; intro _) | fail)) | refine yJ ?_ | ((with_reducible apply gJ_if); (first | (refine J_if xR ?_ ?_ <;> intro _ <;> (try (exfalso; first | contradiction | omega))) | (refine J_ifb xR ?_ ?_ <;> (intro hgb; subst hgb)) | (refine J_ifb xR ?_ ?_ <;> intro _) | fail)) | refine J_draw (id := 3) [0, 1, 2, 3, 4, 5, 6, 7, 8, 9] [10] mixed xC xD xD ?_ | refine J_draw (id := 4) [0, 1, 2, 3, 4] [5] mixed xC xD xD ?_ | refine J_draw (id := 6) [0, 1, 2, 3, 4, 5, 6, 7, 9, 10, 11, 8] [12, 13] mixed xC xD xD ?_ | refine J_draw (id := 8) [0, 1, 2, 3, 4, 5, 6, 7, 8, 9, 10, 12, 13, 14, 11] [15, 16] mixed xC xD xD ?_ | fail))
        refine J_end0 rfl fun w H => ⟨_, ⟨_, hok, rfl⟩, ?_⟩
        have H1 := owX H (p := p) (v := v) (bx := bx) xA
        have H2 := owMkNode (H1.sb (M := [pts b (ndC q has vo (ptr k0) (ptr k1)) 131, trP k0, trP k1]) xZ)
        exact (owMkNode (k0 := .node bx p true v .nil .nil) (k1 := .node b q has vo k0 k1) (p := (p.1 - p.1 % pw m, m)) (has := false) (v := zV) (H2.sb (M := [pts bf (ndC (p.1 - p.1 % pw m, m) false zV (some ⟨bx, 0, none⟩) (some ⟨b, 0, none⟩)) 131, trP (.node bx p true v .nil .nil), trP (.node b q has vo k0 k1)]) xZ)).sel xZ
      · have e2 : bt q.1 m = 0 := by have := bt_cases q.1 m; omega
        rw [btB_eq _ _ _ e1] at hok
        (repeat' (first | ((with_reducible apply gL); (first | refine yL0 ?_ | ((with_reducible apply gL_load); (first | refine JL_p rfl xR xR (pe_ldH xR xC (fun w hr => hole_see hr xA)) ?_ | fail)) | ((with_reducible apply gL_store); (first | refine JL_stH (A := ctxP tb n C _) (B := ctxP tb n C _) xR xR xC xR xA (fun W K' w H => hole_st H) xR ?_ | fail)) | refine yL ?_ | (refine yM ?_; intro _) | fail)) | ((with_reducible apply gD); (first | (refine JD_nil ?_; try simp only [List.cons_append, List.nil_append]) | (refine JD_bar ?_; try simp only [List.cons_append, List.nil_append]) | ((with_reducible apply gD_load); (first | refine JL_p rfl xR xR (pe_ldH xR xC (fun w hr => hole_see hr xA)) ?_ | fail)) | ((with_reducible apply gD_store); (first | refine JL_stH (A := ctxP tb n C _) (B := ctxP tb n C _) xR xR xC xR xA (fun W K' w H => hole_st H) xR ?_ | fail)) | refine yD ?_ | ((with_reducible apply gD_go); (first | (refine JD_goq (bit_b p.1 m 1 e1 hp.1 h0 (by omega)) (hφ := xF) (h := ?_); rintro _ _ ⟨rfl, rfl⟩; try simp only [List.cons_append, List.nil_append]) | (refine JD_goq (bit_b q.1 m 0 e2 hw.1.1 h0 (by omega)) (hφ := xF) (h := ?_); rintro _ _ ⟨rfl, rfl⟩; try simp only [List.cons_append, List.nil_append]) | fail)) | (refine yE ?_; intro _) | fail)) | refine yJ ?_ | ((with_reducible apply gJ_if); (first | (refine J_if xR ?_ ?_ <;> intro _ <;> (try (exfalso; first | contradiction | omega))) | (refine J_ifb xR ?_ ?_ <;> (intro hgb; subst hgb)) | (refine J_ifb xR ?_ ?_ <;> intro _) | fail)) | refine J_draw (id := 3) [0, 1, 2, 3, 4, 5, 6, 7, 8, 9] [10] mixed xC xD xD ?_ | refine J_draw (id := 4) [0, 1, 2, 3, 4] [5] mixed xC xD xD ?_ | refine J_draw (id := 6) [0, 1, 2, 3, 4, 5, 6, 7, 9, 10, 11, 8] [12, 13] mixed xC xD xD ?_ | refine J_draw (id := 8) [0, 1, 2, 3, 4, 5, 6, 7, 8, 9, 10, 12, 13, 14, 11] [15, 16] mixed xC xD xD ?_ | fail))
        refine J_end0 rfl fun w H => ⟨_, ⟨_, hok, rfl⟩, ?_⟩
        have H1 := owX H (p := p) (v := v) (bx := bx) xA
        have H2 := owMkNode (H1.sb (M := [pts b (ndC q has vo (ptr k0) (ptr k1)) 131, trP k0, trP k1]) xZ)
        exact (owMkNode (k1 := .node bx p true v .nil .nil) (k0 := .node b q has vo k0 k1) (p := (p.1 - p.1 % pw m, m)) (has := false) (v := zV) (H2.sb (M := [pts bf (ndC (p.1 - p.1 % pw m, m) false zV (some ⟨b, 0, none⟩) (some ⟨bx, 0, none⟩)) 131, trP (.node b q has vo k0 k1), trP (.node bx p true v .nil .nil)]) xZ)).sel xZ
    · rename_i g5 hc
      obtain ⟨hc1, hc2⟩ := Decidable.not_not.1 hc
      have wq : Wi p q := by
        have h5 := com_sym h3
        have h6 : (p.1 - p.1 % pw m, m) = p := Prod.ext hc1 hc2
        rw [← h6, h5]
        exact (com_wi rq h0 h2).2
      have hok := ins_kid (bx := bx) hp hv hr hw hq hf wq
      have hl := wq.lt (Ne.symm hq)
      have h32 := rt_hi rq
      rcases bt_cases q.1 p.2 with e1 | e1
      · rw [btB_eq _ _ _ e1] at hok
        (repeat' (first | ((with_reducible apply gL); (first | refine yL0 ?_ | ((with_reducible apply gL_load); (first | refine JL_p rfl xR xR (pe_ldH xR xC (fun w hr => hole_see hr xA)) ?_ | fail)) | ((with_reducible apply gL_store); (first | refine JL_stH (A := ctxP tb n C _) (B := ctxP tb n C _) xR xR xC xR xA (fun W K' w H => hole_st H) xR ?_ | fail)) | refine yL ?_ | (refine yM ?_; intro _) | fail)) | ((with_reducible apply gD); (first | (refine JD_nil ?_; try simp only [List.cons_append, List.nil_append]) | (refine JD_bar ?_; try simp only [List.cons_append, List.nil_append]) | ((with_reducible apply gD_load); (first | refine JL_p rfl xR xR (pe_ldH xR xC (fun w hr => hole_see hr xA)) ?_ | fail)) | ((with_reducible apply gD_store); (first | refine JL_stH (A := ctxP tb n C _) (B := ctxP tb n C _) xR xR xC xR xA (fun W K' w H => hole_st H) xR ?_ | fail)) | refine yD ?_ | ((with_reducible apply gD_go); (first | (refine JD_goq (bit_b q.1 p.2 0 e1 hw.1.1 (rt_lo rp) (by omega)) (hφ := xF) (h := ?_); rintro _ _ ⟨rfl, rfl⟩; try simp only [List.cons_append, List.nil_append]) | fail)) | (refine yE ?_; intro _) | fail)) | refine yJ ?_ | ((with_reducible apply gJ_if); (first | (refine J_if xR ?_ ?_ <;> intro _ <;> (try (exfalso; first | contradiction | omega))) | (refine J_ifb xR ?_ ?_ <;> (intro hgb; subst hgb)) | (refine J_ifb xR ?_ ?_ <;> intro _) | fail)) | refine J_draw (id := 3) [0, 1, 2, 3, 4, 5, 6, 7, 8, 9] [10] mixed xC xD xD ?_ | refine J_draw (id := 4) [0, 1, 2, 3, 4] [5] mixed xC xD xD ?_ | refine J_draw (id := 6) [0, 1, 2, 3, 4, 5, 6, 7, 9, 10, 11, 8] [12, 13] mixed xC xD xD ?_ | refine J_draw (id := 8) [0, 1, 2, 3, 4, 5, 6, 7, 8, 9, 10, 12, 13, 14, 11] [15, 16] mixed xC xD xD ?_ | fail))
        refine J_end0 rfl fun w H => ⟨_, ⟨_, hok, rfl⟩, ?_⟩
        have H2 := owMkNode (H.sb (M := [pts b (ndC q has vo (ptr k0) (ptr k1)) 131, trP k0, trP k1]) xZ)
        exact (owMkNode (k0 := .node b q has vo k0 k1) (k1 := .nil) (p := p) (has := true) (v := v) ((owMkNil H2).sb (M := [pts bx (ndC p true v (some ⟨b, 0, none⟩) none) 131, trP (.node b q has vo k0 k1), trP .nil]) xZ)).sel xZ
      · rw [btB_eq _ _ _ e1] at hok
        (repeat' (first | ((with_reducible apply gL); (first | refine yL0 ?_ | ((with_reducible apply gL_load); (first | refine JL_p rfl xR xR (pe_ldH xR xC (fun w hr => hole_see hr xA)) ?_ | fail)) | ((with_reducible apply gL_store); (first | refine JL_stH (A := ctxP tb n C _) (B := ctxP tb n C _) xR xR xC xR xA (fun W K' w H => hole_st H) xR ?_ | fail)) | refine yL ?_ | (refine yM ?_; intro _) | fail)) | ((with_reducible apply gD); (first | (refine JD_nil ?_; try simp only [List.cons_append, List.nil_append]) | (refine JD_bar ?_; try simp only [List.cons_append, List.nil_append]) | ((with_reducible apply gD_load); (first | refine JL_p rfl xR xR (pe_ldH xR xC (fun w hr => hole_see hr xA)) ?_ | fail)) | ((with_reducible apply gD_store); (first | refine JL_stH (A := ctxP tb n C _) (B := ctxP tb n C _) xR xR xC xR xA (fun W K' w H => hole_st H) xR ?_ | fail)) | refine yD ?_ | ((with_reducible apply gD_go); (first | (refine JD_goq (bit_b q.1 p.2 1 e1 hw.1.1 (rt_lo rp) (by omega)) (hφ := xF) (h := ?_); rintro _ _ ⟨rfl, rfl⟩; try simp only [List.cons_append, List.nil_append]) | fail)) | (refine yE ?_; intro _) | fail)) | refine yJ ?_ | ((with_reducible apply gJ_if); (first | (refine J_if xR ?_ ?_ <;> intro _ <;> (try (exfalso; first | contradiction | omega))) | (refine J_ifb xR ?_ ?_ <;> (intro hgb; subst hgb)) | (refine J_ifb xR ?_ ?_ <;> intro _) | fail)) | refine J_draw (id := 3) [0, 1, 2, 3, 4, 5, 6, 7, 8, 9] [10] mixed xC xD xD ?_ | refine J_draw (id := 4) [0, 1, 2, 3, 4] [5] mixed xC xD xD ?_ | refine J_draw (id := 6) [0, 1, 2, 3, 4, 5, 6, 7, 9, 10, 11, 8] [12, 13] mixed xC xD xD ?_ | refine J_draw (id := 8) [0, 1, 2, 3, 4, 5, 6, 7, 8, 9, 10, 12, 13, 14, 11] [15, 16] mixed xC xD xD ?_ | fail))
        refine J_end0 rfl fun w H => ⟨_, ⟨_, hok, rfl⟩, ?_⟩
        have H2 := owMkNode (H.sb (M := [pts b (ndC q has vo (ptr k0) (ptr k1)) 131, trP k0, trP k1]) xZ)
        exact (owMkNode (k1 := .node b q has vo k0 k1) (k0 := .nil) (p := p) (has := true) (v := v) ((owMkNil H2).sb (M := [pts bx (ndC p true v none (some ⟨b, 0, none⟩)) 131, trP .nil, trP (.node b q has vo k0 k1)]) xZ)).sel xZ
end Go.Proofs.YtnhabkipjmgaaaaGreat.T
namespace Go.Proofs.YtnhabkipjmgaaaaGreat.T
set_option linter.unusedSimpArgs false
set_option linter.unusedVariables false
set_option maxRecDepth 20000
set_option maxHeartbeats 4000000
open Go.RowKit Go.Pm


theorem ctx_n0 {w : World} {tb : Nat} {n : Int} : ∀ {C : List Fr} {h : Option Addr} {k : Hl}, ctxP tb n C h k → k.inn w → w.cell? ⟨tb, 1, none⟩ = some (.int .i64 n)
  | [], h, k, hk, i => by
    obtain ⟨h1, h2, a, _, d, rfl⟩ := hk
    obtain rfl : h1 = Hl.one tb (.cells (trC h n true).toArray 117 (0, 0)) := a
    have hb : Blk w tb (trC h n true).toArray 117 := ((Hl.inn_add d).1 i).1 tb _ (by simp [Hl.one])
    rw [hb.cell]
    rfl
  | f :: C, h, k, hk, i => by
    obtain ⟨h1, h2, a, ⟨h3, h4, b, ⟨h5, h6, c, _, d3, rfl⟩, d2, rfl⟩, d, rfl⟩ := hk
    exact ctx_n0 c ((Hl.inn_add d3).1 ((Hl.inn_add d2).1 ((Hl.inn_add d).1 i).2).2).1
theorem ctx_n {K : Hl} {L R : List HP} {w : World} {tb : Nat} {n : Int} {C : List Fr} {h : Option Addr} (hr : Rdw K L w) (t : Tk L (ctxP tb n C h) R) : w.cell? ⟨tb, 1, none⟩ = some (.int .i64 n) := by
  obtain ⟨k, hk, i⟩ := hr.tk t
  exact ctx_n0 hk i
theorem len_putL : ∀ {l : List Ent} {p : Pf} {v : Vt}, Srt l → (putL l p v).length = if (getL l p).isSome then l.length else l.length + 1
  | [], p, v, _ => by simp [putL, getL]
  | x :: r, p, v, h => by
    obtain ⟨h1, h2⟩ := List.pairwise_cons.1 h
    have ih := len_putL (p := p) (v := v) h2
    unfold putL
    by_cases ha : Ah x.1 p
    · have hne : ¬ x.1 = p := fun e => by rw [e] at ha; exact ha.irrefl
      have e1 : getL (x :: r) p = getL r p := by unfold getL; rw [List.find?_cons_of_neg (by simpa using hne)]
      rw [if_pos ha, e1, List.length_cons, ih]
      split <;> simp
    · rw [if_neg ha]
      by_cases hp : x.1 = p
      · have e1 : getL (x :: r) p = some x.2 := by unfold getL; rw [List.find?_cons_of_pos (by simpa using hp)]; rfl
        rw [if_pos hp, e1]
        simp
      · have e1 : getL (x :: r) p = none := getL_none.2 fun e he => by
          rcases List.mem_cons.1 he with rfl | he
          · exact hp
          · intro e2
            have h3 := h1 e he
            rw [e2] at h3
            exact ha h3
        rw [if_neg hp, e1]
        simp
theorem owMkNodeB {W : World} {K : Hl} {L R : List HP} {w : World} {b : Nat} {p : Pf} {has : Bool} {v : Vt} {k0 k1 : Tr} (H : Ow W K L w) (t : Sb L [pts b (ndC p has v (ptr k0) (ptr k1)) 131, trP k0, trP k1] R) : Ow W K (trP (.node b p has v k0 k1) :: R) w := owMkNode (H.sb t)
theorem owPlugB {W : World} {K : Hl} {L R : List HP} {w : World} {tb : Nat} {n : Int} {C : List Fr} {s : Tr} (H : Ow W K L w) (t : Sb L [ctxP tb n C (ptr s), trP s] R) : Ow W K (pts tb (trC (ptr (plug C s)) n true) 117 :: trP (plug C s) :: R) w := owPlug (H.sb t)
theorem upd_mem {r : Pf} {b : Nat} {q : Pf} {has : Bool} {v vo : Vt} {k0 k1 : Tr} (hw : wf r (.node b q has vo k0 k1)) (e : Ent) : e ∈ ents (.node b q true v k0 k1) ↔ e = (q, v) ∨ (e ∈ ents (.node b q has vo k0 k1) ∧ e.1 ≠ q) := by
  have h1 := fun h => kids_ne hw (e := e) h
  constructor
  · intro h
    simp only [ents, if_true, List.mem_append, List.mem_singleton] at h
    rcases h with h | h
    · exact .inl h
    · exact .inr ⟨by simp only [ents, List.mem_append]; exact .inr h, h1 h⟩
  · rintro (h | ⟨h, h2⟩)
    · simp [ents, h]
    · simp only [ents, List.mem_append] at h
      rcases h with h | h
      · cases has <;> simp at h
        rw [h] at h2
        exact absurd rfl h2
      · simp only [ents, List.mem_append]
        exact .inr h
def putE (l : List Ent) (p : Pf) (v : Vt) : Int × List Ent := if Rt p then (if (getL l p).isSome then (0, putL l p v) else if l.length = 4096 then (4, l) else (0, putL l p v)) else (2, l)
def PutR (tb : Nat) (t : Tr) (p : Pf) (v : Vt) (u : Value) (L' : List HP) : Prop := ∃ t', wf (0, 0) t' ∧ ents t' = (putE (ents t) p v).2 ∧ u = .int .i64 (putE (ents t) p v).1 ∧ L' = TrieL tb (ents t').length t'
theorem put_s (tb : Nat) (t : Tr) (p : Pf) (v : Vt) (hp : PfN p) (hv : VN v) (hw : wf (0, 0) t) (hn : (ents t).length ≤ 4096) : Pact Tryz.prog 47 #[.pointer (some ⟨tb, 0, none⟩), .agg (pfC p).toArray, .agg (vC v).toArray] (fun _ => True) [pts tb (trC (ptr t) (ents t).length true) 117, trP t] (PutR tb t p v) := by
  refine pact Tryz.func47 rfl Tryz.ntmps47 rfl ?_
  intro W K _
  by_cases hr : Rt p
  · (repeat' (first | ((with_reducible apply gL); (first | refine yL0 ?_ | refine yL ?_ | ((with_reducible apply gL_go); (first | (refine JL_goq (is_s tb (ptr t) (ents t).length true) (hφ := xF) (h := ?_); rintro _ _ ⟨rfl, rfl⟩; try simp only [List.cons_append, List.nil_append]) | (refine JL_goq (right_b p hp true (decide_eq_true hr)) (hφ := xF) (h := ?_); rintro _ _ ⟨rfl, rfl⟩; try simp only [List.cons_append, List.nil_append]) | (refine JL_goq (find_s tb (ents t).length t p hp hw) (hφ := xF) (h := ?_); rintro _ _ ⟨C, s, ht, hC, hF, rfl, rfl⟩; try simp only [List.cons_append, List.nil_append]) | fail)) | (refine yM ?_; intro _) | ((with_reducible apply gL_gd); (first | (refine JL_guard xR xR ?_ ?_ <;> intro _ <;> (try (exfalso; first | contradiction | omega))) | (refine JL_guardb xR xR ?_ ?_ <;> (intro hgb; subst hgb)) | (refine JL_guardb xR xR ?_ ?_ <;> (intro hgb; fail_if_success (have : type_of% hgb := rfl))) | fail)) | fail)) | ((with_reducible apply gD); (first | (refine JD_nil ?_; try simp only [List.cons_append, List.nil_append]) | (refine JD_bar ?_; try simp only [List.cons_append, List.nil_append]) | refine yD0 ?_ | refine yD ?_ | ((with_reducible apply gD_gd); (first | (refine JD_guard xR xR ?_ ?_ <;> intro _ <;> (try (exfalso; first | contradiction | omega))) | (refine JD_guardb xR xR ?_ ?_ <;> (intro hgb; subst hgb)) | (refine JD_guardb xR xR ?_ ?_ <;> (intro hgb; fail_if_success (have : type_of% hgb := rfl))) | fail)) | fail)) | refine yJ ?_ | ((with_reducible apply gJ_if); (first | (refine J_if xR ?_ ?_ <;> intro _ <;> (try (exfalso; first | contradiction | omega))) | (refine J_ifb xR ?_ ?_ <;> (intro hgb; subst hgb)) | (refine J_ifb xR ?_ ?_ <;> intro _) | fail)) | refine J_draw (id := 7) [0, 1, 2, 3, 4, 5, 6, 7] [8, 9, 10] mixed xC xD xD ?_ | fail))
    obtain ⟨hc, hs⟩ := (wf_plug C s).1 (ht ▸ hw)
    have hg : getL (ents t) p = hereV p s := by subst ht; exact found_res hw hC hF hr
    have hrg := path_reg hc hC hr hp
    have hlen := len_putL (p := p) (v := v) (wf_srt hw)
    generalize hm : (ents t).length = m at *
    have fin : ∀ {s' : Tr}, wf (hreg C) s' → (∀ e, e ∈ ents s' ↔ e = (p, v) ∨ (e ∈ ents s ∧ e.1 ≠ p)) → wf (0, 0) (plug C s') ∧ ents (plug C s') = putL (ents t) p v := fun h1 h2 => by subst ht; exact plug_put hw hC hr h1 h2
    cases s with
    | nil =>
      by_cases hful : m = 4096
      · (repeat' (first | ((with_reducible apply gL); (first | refine yL0 ?_ | ((with_reducible apply gL_load); (first | (first | refine JL_p rfl xR xR (pe_ldH xR xC (fun w hr => hole_see hr xA)) ?_ | refine JL_p rfl xR xR (pe_ldH xR xC (fun w hr => ctx_n hr xA)) ?_) | fail)) | refine yL ?_ | (refine yM ?_; intro _) | ((with_reducible apply gL_gd); (first | (refine JL_guard xR xR ?_ ?_ <;> intro _ <;> (try (exfalso; first | contradiction | omega))) | (refine JL_guardb xR xR ?_ ?_ <;> (intro hgb; subst hgb)) | (refine JL_guardb xR xR ?_ ?_ <;> (intro hgb; fail_if_success (have : type_of% hgb := rfl))) | fail)) | fail)) | ((with_reducible apply gD); (first | (refine JD_nil ?_; try simp only [List.cons_append, List.nil_append]) | (refine JD_bar ?_; try simp only [List.cons_append, List.nil_append]) | refine yD0 ?_ | ((with_reducible apply gD_load); (first | (first | refine JL_p rfl xR xR (pe_ldH xR xC (fun w hr => hole_see hr xA)) ?_ | refine JL_p rfl xR xR (pe_ldH xR xC (fun w hr => ctx_n hr xA)) ?_) | fail)) | refine yD ?_ | ((with_reducible apply gD_gd); (first | (refine JD_guard xR xR ?_ ?_ <;> intro _ <;> (try (exfalso; first | contradiction | omega))) | (refine JD_guardb xR xR ?_ ?_ <;> (intro hgb; subst hgb)) | (refine JD_guardb xR xR ?_ ?_ <;> (intro hgb; fail_if_success (have : type_of% hgb := rfl))) | fail)) | fail)) | refine yJ ?_ | ((with_reducible apply gJ_if); (first | (refine J_if xR ?_ ?_ <;> intro _ <;> (try (exfalso; first | contradiction | omega))) | (refine J_ifb xR ?_ ?_ <;> (intro hgb; subst hgb)) | (refine J_ifb xR ?_ ?_ <;> intro _) | fail)) | refine J_draw (id := 7) [0, 1, 2, 3, 4, 5, 6, 7] [8, 9, 10] mixed xC xD xD ?_ | fail))
        subst ht
        exact J_ret1 rfl (by rfl) fun w H => ⟨_, ⟨plug C (.nil), hw, by simp [putE, hr, hg, hereV, hm, hful], by simp [putE, hr, hg, hereV, hm, hful], by rw [TrieL, hm]⟩, (owPlugB (C := C) (s := .nil) H xZ).sel xZ⟩
      · (repeat' (first | ((with_reducible apply gL); (first | refine yL0 ?_ | ((with_reducible apply gL_load); (first | (first | refine JL_p rfl xR xR (pe_ldH xR xC (fun w hr => hole_see hr xA)) ?_ | refine JL_p rfl xR xR (pe_ldH xR xC (fun w hr => ctx_n hr xA)) ?_) | fail)) | refine yL ?_ | (refine yM ?_; intro _) | ((with_reducible apply gL_gd); (first | (refine JL_guard xR xR ?_ ?_ <;> intro _ <;> (try (exfalso; first | contradiction | omega))) | (refine JL_guardb xR xR ?_ ?_ <;> (intro hgb; subst hgb)) | (refine JL_guardb xR xR ?_ ?_ <;> (intro hgb; fail_if_success (have : type_of% hgb := rfl))) | fail)) | fail)) | ((with_reducible apply gD); (first | (refine JD_nil ?_; try simp only [List.cons_append, List.nil_append]) | (refine JD_bar ?_; try simp only [List.cons_append, List.nil_append]) | refine yD0 ?_ | ((with_reducible apply gD_load); (first | (first | refine JL_p rfl xR xR (pe_ldH xR xC (fun w hr => hole_see hr xA)) ?_ | refine JL_p rfl xR xR (pe_ldH xR xC (fun w hr => ctx_n hr xA)) ?_) | fail)) | refine yD ?_ | ((with_reducible apply gD_gd); (first | (refine JD_guard xR xR ?_ ?_ <;> intro _ <;> (try (exfalso; first | contradiction | omega))) | (refine JD_guardb xR xR ?_ ?_ <;> (intro hgb; subst hgb)) | (refine JD_guardb xR xR ?_ ?_ <;> (intro hgb; fail_if_success (have : type_of% hgb := rfl))) | fail)) | fail)) | refine yJ ?_ | ((with_reducible apply gJ_if); (first | (refine J_if xR ?_ ?_ <;> intro _ <;> (try (exfalso; first | contradiction | omega))) | (refine J_ifb xR ?_ ?_ <;> (intro hgb; subst hgb)) | (refine J_ifb xR ?_ ?_ <;> intro _) | fail)) | refine J_draw (id := 7) [0, 1, 2, 3, 4, 5, 6, 7] [8, 9, 10] mixed xC xD xD ?_ | fail))
        rename_i bx
        (repeat' (first | ((with_reducible apply gL); (first | refine yL0 ?_ | ((with_reducible apply gL_load); (first | (first | refine JL_p rfl xR xR (pe_ldH xR xC (fun w hr => hole_see hr xA)) ?_ | refine JL_p rfl xR xR (pe_ldH xR xC (fun w hr => ctx_n hr xA)) ?_) | fail)) | refine yL ?_ | ((with_reducible apply gL_go); (first | (refine JL_goq (insert_s tb m C .nil bx p v hp hv hs hrg (by intro q h; simp [top] at h)) (hφ := xF) (h := ?_); rintro _ _ ⟨s', hok, rfl⟩; try simp only [List.cons_append, List.nil_append]) | fail)) | (refine yM ?_; intro _) | ((with_reducible apply gL_gd); (first | (refine JL_guard xR xR ?_ ?_ <;> intro _ <;> (try (exfalso; first | contradiction | omega))) | (refine JL_guardb xR xR ?_ ?_ <;> (intro hgb; subst hgb)) | (refine JL_guardb xR xR ?_ ?_ <;> (intro hgb; fail_if_success (have : type_of% hgb := rfl))) | fail)) | fail)) | ((with_reducible apply gD); (first | (refine JD_nil ?_; try simp only [List.cons_append, List.nil_append]) | (refine JD_bar ?_; try simp only [List.cons_append, List.nil_append]) | refine yD0 ?_ | ((with_reducible apply gD_load); (first | (first | refine JL_p rfl xR xR (pe_ldH xR xC (fun w hr => hole_see hr xA)) ?_ | refine JL_p rfl xR xR (pe_ldH xR xC (fun w hr => ctx_n hr xA)) ?_) | fail)) | refine yD ?_ | ((with_reducible apply gD_gd); (first | (refine JD_guard xR xR ?_ ?_ <;> intro _ <;> (try (exfalso; first | contradiction | omega))) | (refine JD_guardb xR xR ?_ ?_ <;> (intro hgb; subst hgb)) | (refine JD_guardb xR xR ?_ ?_ <;> (intro hgb; fail_if_success (have : type_of% hgb := rfl))) | fail)) | fail)) | refine yJ ?_ | ((with_reducible apply gJ_if); (first | (refine J_if xR ?_ ?_ <;> intro _ <;> (try (exfalso; first | contradiction | omega))) | (refine J_ifb xR ?_ ?_ <;> (intro hgb; subst hgb)) | (refine J_ifb xR ?_ ?_ <;> intro _) | fail)) | refine J_draw (id := 7) [0, 1, 2, 3, 4, 5, 6, 7] [8, 9, 10] mixed xC xD xD ?_ | fail))
        obtain ⟨hw', he'⟩ := fin hok.w hok.m
        refine JL_heap (fun w H => owPlugB (C := C) (s := s') H xZ) ?_
        (repeat' (first | ((with_reducible apply gL); (first | refine yL0 ?_ | refine yL ?_ | (refine yM ?_; intro _) | ((with_reducible apply gL_gd); (first | (refine JL_guard xR xR ?_ ?_ <;> intro _ <;> (try (exfalso; first | contradiction | omega))) | (refine JL_guardb xR xR ?_ ?_ <;> (intro hgb; subst hgb)) | (refine JL_guardb xR xR ?_ ?_ <;> (intro hgb; fail_if_success (have : type_of% hgb := rfl))) | fail)) | fail)) | ((with_reducible apply gD); (first | (refine JD_nil ?_; try simp only [List.cons_append, List.nil_append]) | (refine JD_bar ?_; try simp only [List.cons_append, List.nil_append]) | refine yD0 ?_ | refine yD ?_ | ((with_reducible apply gD_gd); (first | (refine JD_guard xR xR ?_ ?_ <;> intro _ <;> (try (exfalso; first | contradiction | omega))) | (refine JD_guardb xR xR ?_ ?_ <;> (intro hgb; subst hgb)) | (refine JD_guardb xR xR ?_ ?_ <;> (intro hgb; fail_if_success (have : type_of% hgb := rfl))) | fail)) | fail)) | refine yJ ?_ | ((with_reducible apply gJ_if); (first | (refine J_if xR ?_ ?_ <;> intro _ <;> (try (exfalso; first | contradiction | omega))) | (refine J_ifb xR ?_ ?_ <;> (intro hgb; subst hgb)) | (refine J_ifb xR ?_ ?_ <;> intro _) | fail)) | refine J_draw (id := 7) [0, 1, 2, 3, 4, 5, 6, 7] [8, 9, 10] mixed xC xD xD ?_ | fail))
        exact J_ret1 rfl (by rfl) fun w H => ⟨_, ⟨_, hw', by simp [putE, hr, hg, hereV, hm, hful, he'], by simp [putE, hr, hg, hereV, hm, hful], rfl⟩, by
          rw [TrieL, he', show (putL (ents t) p v).length = m + 1 by rw [hlen, hg]; rfl]
          exact H.sel xZ⟩
    | node b q has vo k0 k1 =>
      refine JL_heap (fun w H => owNodeO H xA) ?_
      by_cases hq : q.1 = p.1 ∧ q.2 = p.2
      · obtain rfl : q = p := Prod.ext hq.1 hq.2
        have fin2 := fin (s' := .node b q true v k0 k1) ⟨hs.1, hv, hs.2.2⟩ (upd_mem hs)
        cases has
        · by_cases hful : m = 4096
          · (repeat' (first | ((with_reducible apply gL); (first | refine yL0 ?_ | ((with_reducible apply gL_load); (first | (first | refine JL_p rfl xR xR (pe_ldH xR xC (fun w hr => hole_see hr xA)) ?_ | refine JL_p rfl xR xR (pe_ldH xR xC (fun w hr => ctx_n hr xA)) ?_) | fail)) | refine yL ?_ | (refine yM ?_; intro _) | ((with_reducible apply gL_gd); (first | (refine JL_guard xR xR ?_ ?_ <;> intro _ <;> (try (exfalso; first | contradiction | omega))) | (refine JL_guardb xR xR ?_ ?_ <;> (intro hgb; subst hgb)) | (refine JL_guardb xR xR ?_ ?_ <;> (intro hgb; fail_if_success (have : type_of% hgb := rfl))) | fail)) | fail)) | ((with_reducible apply gD); (first | (refine JD_nil ?_; try simp only [List.cons_append, List.nil_append]) | (refine JD_bar ?_; try simp only [List.cons_append, List.nil_append]) | refine yD0 ?_ | ((with_reducible apply gD_load); (first | (first | refine JL_p rfl xR xR (pe_ldH xR xC (fun w hr => hole_see hr xA)) ?_ | refine JL_p rfl xR xR (pe_ldH xR xC (fun w hr => ctx_n hr xA)) ?_) | fail)) | refine yD ?_ | ((with_reducible apply gD_gd); (first | (refine JD_guard xR xR ?_ ?_ <;> intro _ <;> (try (exfalso; first | contradiction | omega))) | (refine JD_guardb xR xR ?_ ?_ <;> (intro hgb; subst hgb)) | (refine JD_guardb xR xR ?_ ?_ <;> (intro hgb; fail_if_success (have : type_of% hgb := rfl))) | fail)) | fail)) | refine yJ ?_ | ((with_reducible apply gJ_if); (first | (refine J_if xR ?_ ?_ <;> intro _ <;> (try (exfalso; first | contradiction | omega))) | (refine J_ifb xR ?_ ?_ <;> (intro hgb; subst hgb)) | (refine J_ifb xR ?_ ?_ <;> intro _) | fail)) | refine J_draw (id := 7) [0, 1, 2, 3, 4, 5, 6, 7] [8, 9, 10] mixed xC xD xD ?_ | fail))
            subst ht
            exact J_ret1 rfl (by rfl) fun w H => ⟨_, ⟨plug C (.node b q false vo k0 k1), hw, by simp [putE, hr, hg, hereV, hm, hful], by simp [putE, hr, hg, hereV, hm, hful], by rw [TrieL, hm]⟩, (owPlugB (C := C) (s := .node b q false vo k0 k1) (owMkNodeB (k0 := k0) (k1 := k1) (v := vo) (p := q) (has := false) H xZ) xZ).sel xZ⟩
          · (repeat' (first | ((with_reducible apply gL); (first | refine yL0 ?_ | ((with_reducible apply gL_load); (first | (first | refine JL_p rfl xR xR (pe_ldH xR xC (fun w hr => hole_see hr xA)) ?_ | refine JL_p rfl xR xR (pe_ldH xR xC (fun w hr => ctx_n hr xA)) ?_) | fail)) | refine yL ?_ | (refine yM ?_; intro _) | ((with_reducible apply gL_gd); (first | (refine JL_guard xR xR ?_ ?_ <;> intro _ <;> (try (exfalso; first | contradiction | omega))) | (refine JL_guardb xR xR ?_ ?_ <;> (intro hgb; subst hgb)) | (refine JL_guardb xR xR ?_ ?_ <;> (intro hgb; fail_if_success (have : type_of% hgb := rfl))) | fail)) | fail)) | ((with_reducible apply gD); (first | (refine JD_nil ?_; try simp only [List.cons_append, List.nil_append]) | (refine JD_bar ?_; try simp only [List.cons_append, List.nil_append]) | refine yD0 ?_ | ((with_reducible apply gD_load); (first | (first | refine JL_p rfl xR xR (pe_ldH xR xC (fun w hr => hole_see hr xA)) ?_ | refine JL_p rfl xR xR (pe_ldH xR xC (fun w hr => ctx_n hr xA)) ?_) | fail)) | refine yD ?_ | ((with_reducible apply gD_gd); (first | (refine JD_guard xR xR ?_ ?_ <;> intro _ <;> (try (exfalso; first | contradiction | omega))) | (refine JD_guardb xR xR ?_ ?_ <;> (intro hgb; subst hgb)) | (refine JD_guardb xR xR ?_ ?_ <;> (intro hgb; fail_if_success (have : type_of% hgb := rfl))) | fail)) | fail)) | refine yJ ?_ | ((with_reducible apply gJ_if); (first | (refine J_if xR ?_ ?_ <;> intro _ <;> (try (exfalso; first | contradiction | omega))) | (refine J_ifb xR ?_ ?_ <;> (intro hgb; subst hgb)) | (refine J_ifb xR ?_ ?_ <;> intro _) | fail)) | refine J_draw (id := 7) [0, 1, 2, 3, 4, 5, 6, 7] [8, 9, 10] mixed xC xD xD ?_ | fail))
            refine JL_heap (fun w H => owMkNodeB (b := b) (p := q) (has := true) (v := v) (k0 := k0) (k1 := k1) H xZ) ?_
            obtain ⟨hw', he'⟩ := fin2
            refine JL_heap (fun w H => owPlugB (C := C) (s := .node b q true v k0 k1) H xZ) ?_
            (repeat' (first | ((with_reducible apply gL); (first | refine yL0 ?_ | refine yL ?_ | (refine yM ?_; intro _) | ((with_reducible apply gL_gd); (first | (refine JL_guard xR xR ?_ ?_ <;> intro _ <;> (try (exfalso; first | contradiction | omega))) | (refine JL_guardb xR xR ?_ ?_ <;> (intro hgb; subst hgb)) | (refine JL_guardb xR xR ?_ ?_ <;> (intro hgb; fail_if_success (have : type_of% hgb := rfl))) | fail)) | fail)) | ((with_reducible apply gD); (first | (refine JD_nil ?_; try simp only [List.cons_append, List.nil_append]) | (refine JD_bar ?_; try simp only [List.cons_append, List.nil_append]) | refine yD0 ?_ | refine yD ?_ | ((with_reducible apply gD_gd); (first | (refine JD_guard xR xR ?_ ?_ <;> intro _ <;> (try (exfalso; first | contradiction | omega))) | (refine JD_guardb xR xR ?_ ?_ <;> (intro hgb; subst hgb)) | (refine JD_guardb xR xR ?_ ?_ <;> (intro hgb; fail_if_success (have : type_of% hgb := rfl))) | fail)) | fail)) | refine yJ ?_ | ((with_reducible apply gJ_if); (first | (refine J_if xR ?_ ?_ <;> intro _ <;> (try (exfalso; first | contradiction | omega))) | (refine J_ifb xR ?_ ?_ <;> (intro hgb; subst hgb)) | (refine J_ifb xR ?_ ?_ <;> intro _) | fail)) | refine J_draw (id := 7) [0, 1, 2, 3, 4, 5, 6, 7] [8, 9, 10] mixed xC xD xD ?_ | fail))
            exact J_ret1 rfl (by rfl) fun w H => ⟨_, ⟨_, hw', by simp [putE, hr, hg, hereV, hm, hful, he'], by simp [putE, hr, hg, hereV, hm, hful], rfl⟩, by
              rw [TrieL, he', show (putL (ents t) q v).length = m + 1 by rw [hlen, hg]; simp [hereV]]
              exact H.sel xZ⟩
        · (repeat' (first | ((with_reducible apply gL); (first | refine yL0 ?_ | ((with_reducible apply gL_load); (first | (first | refine JL_p rfl xR xR (pe_ldH xR xC (fun w hr => hole_see hr xA)) ?_ | refine JL_p rfl xR xR (pe_ldH xR xC (fun w hr => ctx_n hr xA)) ?_) | fail)) | refine yL ?_ | (refine yM ?_; intro _) | ((with_reducible apply gL_gd); (first | (refine JL_guard xR xR ?_ ?_ <;> intro _ <;> (try (exfalso; first | contradiction | omega))) | (refine JL_guardb xR xR ?_ ?_ <;> (intro hgb; subst hgb)) | (refine JL_guardb xR xR ?_ ?_ <;> (intro hgb; fail_if_success (have : type_of% hgb := rfl))) | fail)) | fail)) | ((with_reducible apply gD); (first | (refine JD_nil ?_; try simp only [List.cons_append, List.nil_append]) | (refine JD_bar ?_; try simp only [List.cons_append, List.nil_append]) | refine yD0 ?_ | ((with_reducible apply gD_load); (first | (first | refine JL_p rfl xR xR (pe_ldH xR xC (fun w hr => hole_see hr xA)) ?_ | refine JL_p rfl xR xR (pe_ldH xR xC (fun w hr => ctx_n hr xA)) ?_) | fail)) | refine yD ?_ | ((with_reducible apply gD_gd); (first | (refine JD_guard xR xR ?_ ?_ <;> intro _ <;> (try (exfalso; first | contradiction | omega))) | (refine JD_guardb xR xR ?_ ?_ <;> (intro hgb; subst hgb)) | (refine JD_guardb xR xR ?_ ?_ <;> (intro hgb; fail_if_success (have : type_of% hgb := rfl))) | fail)) | fail)) | refine yJ ?_ | ((with_reducible apply gJ_if); (first | (refine J_if xR ?_ ?_ <;> intro _ <;> (try (exfalso; first | contradiction | omega))) | (refine J_ifb xR ?_ ?_ <;> (intro hgb; subst hgb)) | (refine J_ifb xR ?_ ?_ <;> intro _) | fail)) | refine J_draw (id := 7) [0, 1, 2, 3, 4, 5, 6, 7] [8, 9, 10] mixed xC xD xD ?_ | fail))
          obtain ⟨hw', he'⟩ := fin2
          exact J_ret1 rfl (by rfl) fun w H => ⟨_, ⟨_, hw', by simp [putE, hr, hg, hereV, he'], by simp [putE, hr, hg, hereV], rfl⟩, by
            rw [TrieL, he', show (putL (ents t) q v).length = m by rw [hlen, hg]; simp [hereV]]
            exact (owPlugB (C := C) (s := .node b q true v k0 k1) (owMkNodeB (b := b) (p := q) (has := true) (v := v) (k0 := k0) (k1 := k1) H xZ) xZ).sel xZ⟩
      · have hne : q ≠ p := fun e => hq ⟨by rw [e], by rw [e]⟩
        by_cases hful : m = 4096
        · (repeat' (first | ((with_reducible apply gL); (first | refine yL0 ?_ | ((with_reducible apply gL_load); (first | (first | refine JL_p rfl xR xR (pe_ldH xR xC (fun w hr => hole_see hr xA)) ?_ | refine JL_p rfl xR xR (pe_ldH xR xC (fun w hr => ctx_n hr xA)) ?_) | fail)) | refine yL ?_ | (refine yM ?_; intro _) | ((with_reducible apply gL_gd); (first | (refine JL_guard xR xR ?_ ?_ <;> intro _ <;> (try (exfalso; first | contradiction | omega))) | (refine JL_guardb xR xR ?_ ?_ <;> (intro hgb; subst hgb)) | (refine JL_guardb xR xR ?_ ?_ <;> (intro hgb; fail_if_success (have : type_of% hgb := rfl))) | fail)) | fail)) | ((with_reducible apply gD); (first | (refine JD_nil ?_; try simp only [List.cons_append, List.nil_append]) | (refine JD_bar ?_; try simp only [List.cons_append, List.nil_append]) | refine yD0 ?_ | ((with_reducible apply gD_load); (first | (first | refine JL_p rfl xR xR (pe_ldH xR xC (fun w hr => hole_see hr xA)) ?_ | refine JL_p rfl xR xR (pe_ldH xR xC (fun w hr => ctx_n hr xA)) ?_) | fail)) | refine yD ?_ | ((with_reducible apply gD_gd); (first | (refine JD_guard xR xR ?_ ?_ <;> intro _ <;> (try (exfalso; first | contradiction | omega))) | (refine JD_guardb xR xR ?_ ?_ <;> (intro hgb; subst hgb)) | (refine JD_guardb xR xR ?_ ?_ <;> (intro hgb; fail_if_success (have : type_of% hgb := rfl))) | fail)) | fail)) | refine yJ ?_ | ((with_reducible apply gJ_if); (first | (refine J_if xR ?_ ?_ <;> intro _ <;> (try (exfalso; first | contradiction | omega))) | (refine J_ifb xR ?_ ?_ <;> (intro hgb; subst hgb)) | (refine J_ifb xR ?_ ?_ <;> intro _) | fail)) | refine J_draw (id := 7) [0, 1, 2, 3, 4, 5, 6, 7] [8, 9, 10] mixed xC xD xD ?_ | fail))
          subst ht
          exact J_ret1 rfl (by rfl) fun w H => ⟨_, ⟨plug C (.node b q has vo k0 k1), hw, by simp [putE, hr, hg, hereV, hm, hful, hne], by simp [putE, hr, hg, hereV, hm, hful, hne], by rw [TrieL, hm]⟩, (owPlugB (C := C) (s := .node b q has vo k0 k1) (owMkNodeB (k0 := k0) (k1 := k1) (v := vo) (p := q) (has := has) H xZ) xZ).sel xZ⟩
        · (repeat' (first | ((with_reducible apply gL); (first | refine yL0 ?_ | ((with_reducible apply gL_load); (first | (first | refine JL_p rfl xR xR (pe_ldH xR xC (fun w hr => hole_see hr xA)) ?_ | refine JL_p rfl xR xR (pe_ldH xR xC (fun w hr => ctx_n hr xA)) ?_) | fail)) | refine yL ?_ | (refine yM ?_; intro _) | ((with_reducible apply gL_gd); (first | (refine JL_guard xR xR ?_ ?_ <;> intro _ <;> (try (exfalso; first | contradiction | omega))) | (refine JL_guardb xR xR ?_ ?_ <;> (intro hgb; subst hgb)) | (refine JL_guardb xR xR ?_ ?_ <;> (intro hgb; fail_if_success (have : type_of% hgb := rfl))) | fail)) | fail)) | ((with_reducible apply gD); (first | (refine JD_nil ?_; try simp only [List.cons_append, List.nil_append]) | (refine JD_bar ?_; try simp only [List.cons_append, List.nil_append]) | refine yD0 ?_ | ((with_reducible apply gD_load); (first | (first | refine JL_p rfl xR xR (pe_ldH xR xC (fun w hr => hole_see hr xA)) ?_ | refine JL_p rfl xR xR (pe_ldH xR xC (fun w hr => ctx_n hr xA)) ?_) | fail)) | refine yD ?_ | ((with_reducible apply gD_gd); (first | (refine JD_guard xR xR ?_ ?_ <;> intro _ <;> (try (exfalso; first | contradiction | omega))) | (refine JD_guardb xR xR ?_ ?_ <;> (intro hgb; subst hgb)) | (refine JD_guardb xR xR ?_ ?_ <;> (intro hgb; fail_if_success (have : type_of% hgb := rfl))) | fail)) | fail)) | refine yJ ?_ | ((with_reducible apply gJ_if); (first | (refine J_if xR ?_ ?_ <;> intro _ <;> (try (exfalso; first | contradiction | omega))) | (refine J_ifb xR ?_ ?_ <;> (intro hgb; subst hgb)) | (refine J_ifb xR ?_ ?_ <;> intro _) | fail)) | refine J_draw (id := 7) [0, 1, 2, 3, 4, 5, 6, 7] [8, 9, 10] mixed xC xD xD ?_ | fail))
          rename_i bx
          refine JL_heap (fun w H => owMkNodeB (b := b) (p := q) (has := has) (v := vo) (k0 := k0) (k1 := k1) H xZ) ?_
          (repeat' (first | ((with_reducible apply gL); (first | refine yL0 ?_ | ((with_reducible apply gL_load); (first | (first | refine JL_p rfl xR xR (pe_ldH xR xC (fun w hr => hole_see hr xA)) ?_ | refine JL_p rfl xR xR (pe_ldH xR xC (fun w hr => ctx_n hr xA)) ?_) | fail)) | refine yL ?_ | ((with_reducible apply gL_go); (first | (refine JL_goq (insert_s tb m C (.node b q has vo k0 k1) bx p v hp hv hs hrg (by intro x h; cases h; exact ⟨hne, (hF q rfl).resolve_left hne⟩)) (hφ := xF) (h := ?_); rintro _ _ ⟨s', hok, rfl⟩; try simp only [List.cons_append, List.nil_append]) | fail)) | (refine yM ?_; intro _) | ((with_reducible apply gL_gd); (first | (refine JL_guard xR xR ?_ ?_ <;> intro _ <;> (try (exfalso; first | contradiction | omega))) | (refine JL_guardb xR xR ?_ ?_ <;> (intro hgb; subst hgb)) | (refine JL_guardb xR xR ?_ ?_ <;> (intro hgb; fail_if_success (have : type_of% hgb := rfl))) | fail)) | fail)) | ((with_reducible apply gD); (first | (refine JD_nil ?_; try simp only [List.cons_append, List.nil_append]) | (refine JD_bar ?_; try simp only [List.cons_append, List.nil_append]) | refine yD0 ?_ | ((with_reducible apply gD_load); (first | (first | refine JL_p rfl xR xR (pe_ldH xR xC (fun w hr => hole_see hr xA)) ?_ | refine JL_p rfl xR xR (pe_ldH xR xC (fun w hr => ctx_n hr xA)) ?_) | fail)) | refine yD ?_ | ((with_reducible apply gD_gd); (first | (refine JD_guard xR xR ?_ ?_ <;> intro _ <;> (try (exfalso; first | contradiction | omega))) | (refine JD_guardb xR xR ?_ ?_ <;> (intro hgb; subst hgb)) | (refine JD_guardb xR xR ?_ ?_ <;> (intro hgb; fail_if_success (have : type_of% hgb := rfl))) | fail)) | fail)) | refine yJ ?_ | ((with_reducible apply gJ_if); (first | (refine J_if xR ?_ ?_ <;> intro _ <;> (try (exfalso; first | contradiction | omega))) | (refine J_ifb xR ?_ ?_ <;> (intro hgb; subst hgb)) | (refine J_ifb xR ?_ ?_ <;> intro _) | fail)) | refine J_draw (id := 7) [0, 1, 2, 3, 4, 5, 6, 7] [8, 9, 10] mixed xC xD xD ?_ | fail))
          obtain ⟨hw', he'⟩ := fin hok.w hok.m
          refine JL_heap (fun w H => owPlugB (C := C) (s := s') H xZ) ?_
          (repeat' (first | ((with_reducible apply gL); (first | refine yL0 ?_ | refine yL ?_ | (refine yM ?_; intro _) | ((with_reducible apply gL_gd); (first | (refine JL_guard xR xR ?_ ?_ <;> intro _ <;> (try (exfalso; first | contradiction | omega))) | (refine JL_guardb xR xR ?_ ?_ <;> (intro hgb; subst hgb)) | (refine JL_guardb xR xR ?_ ?_ <;> (intro hgb; fail_if_success (have : type_of% hgb := rfl))) | fail)) | fail)) | ((with_reducible apply gD); (first | (refine JD_nil ?_; try simp only [List.cons_append, List.nil_append]) | (refine JD_bar ?_; try simp only [List.cons_append, List.nil_append]) | refine yD0 ?_ | refine yD ?_ | ((with_reducible apply gD_gd); (first | (refine JD_guard xR xR ?_ ?_ <;> intro _ <;> (try (exfalso; first | contradiction | omega))) | (refine JD_guardb xR xR ?_ ?_ <;> (intro hgb; subst hgb)) | (refine JD_guardb xR xR ?_ ?_ <;> (intro hgb; fail_if_success (have : type_of% hgb := rfl))) | fail)) | fail)) | refine yJ ?_ | ((with_reducible apply gJ_if); (first | (refine J_if xR ?_ ?_ <;> intro _ <;> (try (exfalso; first | contradiction | omega))) | (refine J_ifb xR ?_ ?_ <;> (intro hgb; subst hgb)) | (refine J_ifb xR ?_ ?_ <;> intro _) | fail)) | refine J_draw (id := 7) [0, 1, 2, 3, 4, 5, 6, 7] [8, 9, 10] mixed xC xD xD ?_ | fail))
          exact J_ret1 rfl (by rfl) fun w H => ⟨_, ⟨_, hw', by simp [putE, hr, hg, hereV, hm, hful, hne, he'], by simp [putE, hr, hg, hereV, hm, hful, hne], rfl⟩, by
            rw [TrieL, he', show (putL (ents t) p v).length = m + 1 by rw [hlen, hg]; simp [hereV, hne]]
            exact H.sel xZ⟩
  · (repeat' (first | ((with_reducible apply gL); (first | refine yL0 ?_ | refine yL ?_ | ((with_reducible apply gL_go); (first | (refine JL_goq (is_s tb (ptr t) (ents t).length true) (hφ := xF) (h := ?_); rintro _ _ ⟨rfl, rfl⟩; try simp only [List.cons_append, List.nil_append]) | (refine JL_goq (right_b p hp false (decide_eq_false hr)) (hφ := xF) (h := ?_); rintro _ _ ⟨rfl, rfl⟩; try simp only [List.cons_append, List.nil_append]) | fail)) | (refine yM ?_; intro _) | ((with_reducible apply gL_gd); (first | (refine JL_guard xR xR ?_ ?_ <;> intro _ <;> (try (exfalso; first | contradiction | omega))) | (refine JL_guardb xR xR ?_ ?_ <;> (intro hgb; subst hgb)) | (refine JL_guardb xR xR ?_ ?_ <;> (intro hgb; fail_if_success (have : type_of% hgb := rfl))) | fail)) | fail)) | ((with_reducible apply gD); (first | (refine JD_nil ?_; try simp only [List.cons_append, List.nil_append]) | (refine JD_bar ?_; try simp only [List.cons_append, List.nil_append]) | refine yD0 ?_ | refine yD ?_ | ((with_reducible apply gD_gd); (first | (refine JD_guard xR xR ?_ ?_ <;> intro _ <;> (try (exfalso; first | contradiction | omega))) | (refine JD_guardb xR xR ?_ ?_ <;> (intro hgb; subst hgb)) | (refine JD_guardb xR xR ?_ ?_ <;> (intro hgb; fail_if_success (have : type_of% hgb := rfl))) | fail)) | fail)) | refine yJ ?_ | ((with_reducible apply gJ_if); (first | (refine J_if xR ?_ ?_ <;> intro _ <;> (try (exfalso; first | contradiction | omega))) | (refine J_ifb xR ?_ ?_ <;> (intro hgb; subst hgb)) | (refine J_ifb xR ?_ ?_ <;> intro _) | fail)) | refine J_draw (id := 7) [0, 1, 2, 3, 4, 5, 6, 7] [8, 9, 10] mixed xC xD xD ?_ | fail))
    exact J_ret1 rfl (by rfl) fun w H => ⟨_, ⟨t, hw, by simp [putE, hr], by simp [putE, hr], rfl⟩, H.sel xZ⟩
end Go.Proofs.YtnhabkipjmgaaaaGreat.T
