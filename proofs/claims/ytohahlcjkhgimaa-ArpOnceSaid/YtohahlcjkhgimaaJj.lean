/-
  The walk in our own words, tenth part: which rule's turn it is.
-/
import Derived.Test.YtohahlcjkhgimaaJi
namespace Go.Pm
set_option linter.unusedSimpArgs false
set_option linter.unusedVariables false
open Go.RowKit
section
variable {P : Program} {n : Nat} {W : World} {K : Hl} {F : Fp} {k : List It} {tm : TM} {L S M : List HP} {T t u : TypeId} {pos : String} {af : Array Edge} {gd : Option (Nat × Bool)} {ops : Array Oper} {rest nx : List Oper} {od : Option Tmp} {x y z : Operand} {i : Nat} {fn : Fn} {as_ bs : Array Operand} {ts : Array TypeId} {ps : Array (Nat × Operand)} {lo hi mx : Option Operand} {bb : Bool} {r : List Oper} {op : Op} {g : Nat × Bool} {c d : Code} {id : Nat} {dr : Bool} {l : List Oper} {H : Act → World → Prop}
theorem gJ (h : J P n W K F k tm L) : J P n W K F k tm L := h
theorem gL (h : JL P n W K F ops k r tm L) : JL P n W K F ops k r tm L := h
theorem gD (h : JD P n W K F ops k nx r tm S M) : JD P n W K F ops k nx r tm S M := h
theorem gL_nil (h : JL P n W K F ops k [] tm L) : JL P n W K F ops k [] tm L := h
theorem gD_nil (h : JD P n W K F ops k nx [] tm S M) : JD P n W K F ops k nx [] tm S M := h
theorem gL_gd (h : JL P n W K F ops k (⟨od, op, T, pos, af, some g⟩ :: rest) tm L) : JL P n W K F ops k (⟨od, op, T, pos, af, some g⟩ :: rest) tm L := h
theorem gD_gd (h : JD P n W K F ops k nx (⟨od, op, T, pos, af, some g⟩ :: rest) tm S M) : JD P n W K F ops k nx (⟨od, op, T, pos, af, some g⟩ :: rest) tm S M := h
theorem gJ_if (h : J P n W K F (.code (.cond x c d) :: k) tm L) : J P n W K F (.code (.cond x c d) :: k) tm L := h
theorem gL_move (h : JL P n W K F ops k (⟨od, .move x, T, pos, af, gd⟩ :: rest) tm L) : JL P n W K F ops k (⟨od, .move x, T, pos, af, gd⟩ :: rest) tm L := h
theorem gD_move (h : JD P n W K F ops k nx (⟨od, .move x, T, pos, af, gd⟩ :: rest) tm S M) : JD P n W K F ops k nx (⟨od, .move x, T, pos, af, gd⟩ :: rest) tm S M := h
theorem gL_assign (h : JL P n W K F ops k (⟨od, .assign x, T, pos, af, gd⟩ :: rest) tm L) : JL P n W K F ops k (⟨od, .assign x, T, pos, af, gd⟩ :: rest) tm L := h
theorem gD_assign (h : JD P n W K F ops k nx (⟨od, .assign x, T, pos, af, gd⟩ :: rest) tm S M) : JD P n W K F ops k nx (⟨od, .assign x, T, pos, af, gd⟩ :: rest) tm S M := h
theorem gL_pick (h : JL P n W K F ops k (⟨od, .pick x y z, T, pos, af, gd⟩ :: rest) tm L) : JL P n W K F ops k (⟨od, .pick x y z, T, pos, af, gd⟩ :: rest) tm L := h
theorem gD_pick (h : JD P n W K F ops k nx (⟨od, .pick x y z, T, pos, af, gd⟩ :: rest) tm S M) : JD P n W K F ops k nx (⟨od, .pick x y z, T, pos, af, gd⟩ :: rest) tm S M := h
theorem gL_nilCheck (h : JL P n W K F ops k (⟨od, .nilCheck x, T, pos, af, gd⟩ :: rest) tm L) : JL P n W K F ops k (⟨od, .nilCheck x, T, pos, af, gd⟩ :: rest) tm L := h
theorem gD_nilCheck (h : JD P n W K F ops k nx (⟨od, .nilCheck x, T, pos, af, gd⟩ :: rest) tm S M) : JD P n W K F ops k nx (⟨od, .nilCheck x, T, pos, af, gd⟩ :: rest) tm S M := h
theorem gL_extract (h : JL P n W K F ops k (⟨od, .extract x i, T, pos, af, gd⟩ :: rest) tm L) : JL P n W K F ops k (⟨od, .extract x i, T, pos, af, gd⟩ :: rest) tm L := h
theorem gD_extract (h : JD P n W K F ops k nx (⟨od, .extract x i, T, pos, af, gd⟩ :: rest) tm S M) : JD P n W K F ops k nx (⟨od, .extract x i, T, pos, af, gd⟩ :: rest) tm S M := h
theorem gL_makeFunc (h : JL P n W K F ops k (⟨od, .makeFunc fn as_ bs, T, pos, af, gd⟩ :: rest) tm L) : JL P n W K F ops k (⟨od, .makeFunc fn as_ bs, T, pos, af, gd⟩ :: rest) tm L := h
theorem gD_makeFunc (h : JD P n W K F ops k nx (⟨od, .makeFunc fn as_ bs, T, pos, af, gd⟩ :: rest) tm S M) : JD P n W K F ops k nx (⟨od, .makeFunc fn as_ bs, T, pos, af, gd⟩ :: rest) tm S M := h
theorem gL_convert (h : JL P n W K F ops k (⟨od, .convert t u x, T, pos, af, gd⟩ :: rest) tm L) : JL P n W K F ops k (⟨od, .convert t u x, T, pos, af, gd⟩ :: rest) tm L := h
theorem gD_convert (h : JD P n W K F ops k nx (⟨od, .convert t u x, T, pos, af, gd⟩ :: rest) tm S M) : JD P n W K F ops k nx (⟨od, .convert t u x, T, pos, af, gd⟩ :: rest) tm S M := h
theorem gL_fieldAddr (h : JL P n W K F ops k (⟨od, .fieldAddr t x i, T, pos, af, gd⟩ :: rest) tm L) : JL P n W K F ops k (⟨od, .fieldAddr t x i, T, pos, af, gd⟩ :: rest) tm L := h
theorem gD_fieldAddr (h : JD P n W K F ops k nx (⟨od, .fieldAddr t x i, T, pos, af, gd⟩ :: rest) tm S M) : JD P n W K F ops k nx (⟨od, .fieldAddr t x i, T, pos, af, gd⟩ :: rest) tm S M := h
theorem gL_field (h : JL P n W K F ops k (⟨od, .field t x i, T, pos, af, gd⟩ :: rest) tm L) : JL P n W K F ops k (⟨od, .field t x i, T, pos, af, gd⟩ :: rest) tm L := h
theorem gD_field (h : JD P n W K F ops k nx (⟨od, .field t x i, T, pos, af, gd⟩ :: rest) tm S M) : JD P n W K F ops k nx (⟨od, .field t x i, T, pos, af, gd⟩ :: rest) tm S M := h
theorem gL_indexAddr (h : JL P n W K F ops k (⟨od, .indexAddr t x y, T, pos, af, gd⟩ :: rest) tm L) : JL P n W K F ops k (⟨od, .indexAddr t x y, T, pos, af, gd⟩ :: rest) tm L := h
theorem gD_indexAddr (h : JD P n W K F ops k nx (⟨od, .indexAddr t x y, T, pos, af, gd⟩ :: rest) tm S M) : JD P n W K F ops k nx (⟨od, .indexAddr t x y, T, pos, af, gd⟩ :: rest) tm S M := h
theorem gL_index (h : JL P n W K F ops k (⟨od, .index t x y, T, pos, af, gd⟩ :: rest) tm L) : JL P n W K F ops k (⟨od, .index t x y, T, pos, af, gd⟩ :: rest) tm L := h
theorem gD_index (h : JD P n W K F ops k nx (⟨od, .index t x y, T, pos, af, gd⟩ :: rest) tm S M) : JD P n W K F ops k nx (⟨od, .index t x y, T, pos, af, gd⟩ :: rest) tm S M := h
theorem gL_load (h : JL P n W K F ops k (⟨od, .load t x, T, pos, af, gd⟩ :: rest) tm L) : JL P n W K F ops k (⟨od, .load t x, T, pos, af, gd⟩ :: rest) tm L := h
theorem gD_load (h : JD P n W K F ops k nx (⟨od, .load t x, T, pos, af, gd⟩ :: rest) tm S M) : JD P n W K F ops k nx (⟨od, .load t x, T, pos, af, gd⟩ :: rest) tm S M := h
theorem gL_store (h : JL P n W K F ops k (⟨od, .store t x y, T, pos, af, gd⟩ :: rest) tm L) : JL P n W K F ops k (⟨od, .store t x y, T, pos, af, gd⟩ :: rest) tm L := h
theorem gD_store (h : JD P n W K F ops k nx (⟨od, .store t x y, T, pos, af, gd⟩ :: rest) tm S M) : JD P n W K F ops k nx (⟨od, .store t x y, T, pos, af, gd⟩ :: rest) tm S M := h
theorem gL_alloc (h : JL P n W K F ops k (⟨od, .alloc t, T, pos, af, gd⟩ :: rest) tm L) : JL P n W K F ops k (⟨od, .alloc t, T, pos, af, gd⟩ :: rest) tm L := h
theorem gD_alloc (h : JD P n W K F ops k nx (⟨od, .alloc t, T, pos, af, gd⟩ :: rest) tm S M) : JD P n W K F ops k nx (⟨od, .alloc t, T, pos, af, gd⟩ :: rest) tm S M := h
theorem gL_box (h : JL P n W K F ops k (⟨od, .box t x, T, pos, af, gd⟩ :: rest) tm L) : JL P n W K F ops k (⟨od, .box t x, T, pos, af, gd⟩ :: rest) tm L := h
theorem gD_box (h : JD P n W K F ops k nx (⟨od, .box t x, T, pos, af, gd⟩ :: rest) tm S M) : JD P n W K F ops k nx (⟨od, .box t x, T, pos, af, gd⟩ :: rest) tm S M := h
theorem gL_build (h : JL P n W K F ops k (⟨od, .build t ps, T, pos, af, gd⟩ :: rest) tm L) : JL P n W K F ops k (⟨od, .build t ps, T, pos, af, gd⟩ :: rest) tm L := h
theorem gD_build (h : JD P n W K F ops k nx (⟨od, .build t ps, T, pos, af, gd⟩ :: rest) tm S M) : JD P n W K F ops k nx (⟨od, .build t ps, T, pos, af, gd⟩ :: rest) tm S M := h
theorem gL_buildSlice (h : JL P n W K F ops k (⟨od, .buildSlice t i ps, T, pos, af, gd⟩ :: rest) tm L) : JL P n W K F ops k (⟨od, .buildSlice t i ps, T, pos, af, gd⟩ :: rest) tm L := h
theorem gD_buildSlice (h : JD P n W K F ops k nx (⟨od, .buildSlice t i ps, T, pos, af, gd⟩ :: rest) tm S M) : JD P n W K F ops k nx (⟨od, .buildSlice t i ps, T, pos, af, gd⟩ :: rest) tm S M := h
theorem gL_slice (h : JL P n W K F ops k (⟨od, .slice t x lo hi mx, T, pos, af, gd⟩ :: rest) tm L) : JL P n W K F ops k (⟨od, .slice t x lo hi mx, T, pos, af, gd⟩ :: rest) tm L := h
theorem gD_slice (h : JD P n W K F ops k nx (⟨od, .slice t x lo hi mx, T, pos, af, gd⟩ :: rest) tm S M) : JD P n W K F ops k nx (⟨od, .slice t x lo hi mx, T, pos, af, gd⟩ :: rest) tm S M := h
theorem gL_lookup (h : JL P n W K F ops k (⟨od, .lookup t x y bb, T, pos, af, gd⟩ :: rest) tm L) : JL P n W K F ops k (⟨od, .lookup t x y bb, T, pos, af, gd⟩ :: rest) tm L := h
theorem gD_lookup (h : JD P n W K F ops k nx (⟨od, .lookup t x y bb, T, pos, af, gd⟩ :: rest) tm S M) : JD P n W K F ops k nx (⟨od, .lookup t x y bb, T, pos, af, gd⟩ :: rest) tm S M := h
theorem gL_mapUpdate (h : JL P n W K F ops k (⟨od, .mapUpdate t x y z, T, pos, af, gd⟩ :: rest) tm L) : JL P n W K F ops k (⟨od, .mapUpdate t x y z, T, pos, af, gd⟩ :: rest) tm L := h
theorem gD_mapUpdate (h : JD P n W K F ops k nx (⟨od, .mapUpdate t x y z, T, pos, af, gd⟩ :: rest) tm S M) : JD P n W K F ops k nx (⟨od, .mapUpdate t x y z, T, pos, af, gd⟩ :: rest) tm S M := h
theorem gL_makeMap (h : JL P n W K F ops k (⟨od, .makeMap t lo, T, pos, af, gd⟩ :: rest) tm L) : JL P n W K F ops k (⟨od, .makeMap t lo, T, pos, af, gd⟩ :: rest) tm L := h
theorem gD_makeMap (h : JD P n W K F ops k nx (⟨od, .makeMap t lo, T, pos, af, gd⟩ :: rest) tm S M) : JD P n W K F ops k nx (⟨od, .makeMap t lo, T, pos, af, gd⟩ :: rest) tm S M := h
theorem gL_makeSlice (h : JL P n W K F ops k (⟨od, .makeSlice t x y, T, pos, af, gd⟩ :: rest) tm L) : JL P n W K F ops k (⟨od, .makeSlice t x y, T, pos, af, gd⟩ :: rest) tm L := h
theorem gD_makeSlice (h : JD P n W K F ops k nx (⟨od, .makeSlice t x y, T, pos, af, gd⟩ :: rest) tm S M) : JD P n W K F ops k nx (⟨od, .makeSlice t x y, T, pos, af, gd⟩ :: rest) tm S M := h
theorem gL_makeInterface (h : JL P n W K F ops k (⟨od, .makeInterface t x, T, pos, af, gd⟩ :: rest) tm L) : JL P n W K F ops k (⟨od, .makeInterface t x, T, pos, af, gd⟩ :: rest) tm L := h
theorem gD_makeInterface (h : JD P n W K F ops k nx (⟨od, .makeInterface t x, T, pos, af, gd⟩ :: rest) tm S M) : JD P n W K F ops k nx (⟨od, .makeInterface t x, T, pos, af, gd⟩ :: rest) tm S M := h
theorem gL_typeAssert (h : JL P n W K F ops k (⟨od, .typeAssert x t u bb, T, pos, af, gd⟩ :: rest) tm L) : JL P n W K F ops k (⟨od, .typeAssert x t u bb, T, pos, af, gd⟩ :: rest) tm L := h
theorem gD_typeAssert (h : JD P n W K F ops k nx (⟨od, .typeAssert x t u bb, T, pos, af, gd⟩ :: rest) tm S M) : JD P n W K F ops k nx (⟨od, .typeAssert x t u bb, T, pos, af, gd⟩ :: rest) tm S M := h
theorem gL_bin_add (h : JL P n W K F ops k (⟨od, .binOp .add t x y u, T, pos, af, gd⟩ :: rest) tm L) : JL P n W K F ops k (⟨od, .binOp .add t x y u, T, pos, af, gd⟩ :: rest) tm L := h
theorem gD_bin_add (h : JD P n W K F ops k nx (⟨od, .binOp .add t x y u, T, pos, af, gd⟩ :: rest) tm S M) : JD P n W K F ops k nx (⟨od, .binOp .add t x y u, T, pos, af, gd⟩ :: rest) tm S M := h
theorem gL_bin_sub (h : JL P n W K F ops k (⟨od, .binOp .sub t x y u, T, pos, af, gd⟩ :: rest) tm L) : JL P n W K F ops k (⟨od, .binOp .sub t x y u, T, pos, af, gd⟩ :: rest) tm L := h
theorem gD_bin_sub (h : JD P n W K F ops k nx (⟨od, .binOp .sub t x y u, T, pos, af, gd⟩ :: rest) tm S M) : JD P n W K F ops k nx (⟨od, .binOp .sub t x y u, T, pos, af, gd⟩ :: rest) tm S M := h
theorem gL_bin_mul (h : JL P n W K F ops k (⟨od, .binOp .mul t x y u, T, pos, af, gd⟩ :: rest) tm L) : JL P n W K F ops k (⟨od, .binOp .mul t x y u, T, pos, af, gd⟩ :: rest) tm L := h
theorem gD_bin_mul (h : JD P n W K F ops k nx (⟨od, .binOp .mul t x y u, T, pos, af, gd⟩ :: rest) tm S M) : JD P n W K F ops k nx (⟨od, .binOp .mul t x y u, T, pos, af, gd⟩ :: rest) tm S M := h
theorem gL_bin_quo (h : JL P n W K F ops k (⟨od, .binOp .quo t x y u, T, pos, af, gd⟩ :: rest) tm L) : JL P n W K F ops k (⟨od, .binOp .quo t x y u, T, pos, af, gd⟩ :: rest) tm L := h
theorem gD_bin_quo (h : JD P n W K F ops k nx (⟨od, .binOp .quo t x y u, T, pos, af, gd⟩ :: rest) tm S M) : JD P n W K F ops k nx (⟨od, .binOp .quo t x y u, T, pos, af, gd⟩ :: rest) tm S M := h
theorem gL_bin_rem (h : JL P n W K F ops k (⟨od, .binOp .rem t x y u, T, pos, af, gd⟩ :: rest) tm L) : JL P n W K F ops k (⟨od, .binOp .rem t x y u, T, pos, af, gd⟩ :: rest) tm L := h
theorem gD_bin_rem (h : JD P n W K F ops k nx (⟨od, .binOp .rem t x y u, T, pos, af, gd⟩ :: rest) tm S M) : JD P n W K F ops k nx (⟨od, .binOp .rem t x y u, T, pos, af, gd⟩ :: rest) tm S M := h
theorem gL_bin_and (h : JL P n W K F ops k (⟨od, .binOp .and t x y u, T, pos, af, gd⟩ :: rest) tm L) : JL P n W K F ops k (⟨od, .binOp .and t x y u, T, pos, af, gd⟩ :: rest) tm L := h
theorem gD_bin_and (h : JD P n W K F ops k nx (⟨od, .binOp .and t x y u, T, pos, af, gd⟩ :: rest) tm S M) : JD P n W K F ops k nx (⟨od, .binOp .and t x y u, T, pos, af, gd⟩ :: rest) tm S M := h
theorem gL_bin_or (h : JL P n W K F ops k (⟨od, .binOp .or t x y u, T, pos, af, gd⟩ :: rest) tm L) : JL P n W K F ops k (⟨od, .binOp .or t x y u, T, pos, af, gd⟩ :: rest) tm L := h
theorem gD_bin_or (h : JD P n W K F ops k nx (⟨od, .binOp .or t x y u, T, pos, af, gd⟩ :: rest) tm S M) : JD P n W K F ops k nx (⟨od, .binOp .or t x y u, T, pos, af, gd⟩ :: rest) tm S M := h
theorem gL_bin_xor (h : JL P n W K F ops k (⟨od, .binOp .xor t x y u, T, pos, af, gd⟩ :: rest) tm L) : JL P n W K F ops k (⟨od, .binOp .xor t x y u, T, pos, af, gd⟩ :: rest) tm L := h
theorem gD_bin_xor (h : JD P n W K F ops k nx (⟨od, .binOp .xor t x y u, T, pos, af, gd⟩ :: rest) tm S M) : JD P n W K F ops k nx (⟨od, .binOp .xor t x y u, T, pos, af, gd⟩ :: rest) tm S M := h
theorem gL_bin_shl (h : JL P n W K F ops k (⟨od, .binOp .shl t x y u, T, pos, af, gd⟩ :: rest) tm L) : JL P n W K F ops k (⟨od, .binOp .shl t x y u, T, pos, af, gd⟩ :: rest) tm L := h
theorem gD_bin_shl (h : JD P n W K F ops k nx (⟨od, .binOp .shl t x y u, T, pos, af, gd⟩ :: rest) tm S M) : JD P n W K F ops k nx (⟨od, .binOp .shl t x y u, T, pos, af, gd⟩ :: rest) tm S M := h
theorem gL_bin_shr (h : JL P n W K F ops k (⟨od, .binOp .shr t x y u, T, pos, af, gd⟩ :: rest) tm L) : JL P n W K F ops k (⟨od, .binOp .shr t x y u, T, pos, af, gd⟩ :: rest) tm L := h
theorem gD_bin_shr (h : JD P n W K F ops k nx (⟨od, .binOp .shr t x y u, T, pos, af, gd⟩ :: rest) tm S M) : JD P n W K F ops k nx (⟨od, .binOp .shr t x y u, T, pos, af, gd⟩ :: rest) tm S M := h
theorem gL_bin_andNot (h : JL P n W K F ops k (⟨od, .binOp .andNot t x y u, T, pos, af, gd⟩ :: rest) tm L) : JL P n W K F ops k (⟨od, .binOp .andNot t x y u, T, pos, af, gd⟩ :: rest) tm L := h
theorem gD_bin_andNot (h : JD P n W K F ops k nx (⟨od, .binOp .andNot t x y u, T, pos, af, gd⟩ :: rest) tm S M) : JD P n W K F ops k nx (⟨od, .binOp .andNot t x y u, T, pos, af, gd⟩ :: rest) tm S M := h
theorem gL_bin_eql (h : JL P n W K F ops k (⟨od, .binOp .eql t x y u, T, pos, af, gd⟩ :: rest) tm L) : JL P n W K F ops k (⟨od, .binOp .eql t x y u, T, pos, af, gd⟩ :: rest) tm L := h
theorem gD_bin_eql (h : JD P n W K F ops k nx (⟨od, .binOp .eql t x y u, T, pos, af, gd⟩ :: rest) tm S M) : JD P n W K F ops k nx (⟨od, .binOp .eql t x y u, T, pos, af, gd⟩ :: rest) tm S M := h
theorem gL_bin_neq (h : JL P n W K F ops k (⟨od, .binOp .neq t x y u, T, pos, af, gd⟩ :: rest) tm L) : JL P n W K F ops k (⟨od, .binOp .neq t x y u, T, pos, af, gd⟩ :: rest) tm L := h
theorem gD_bin_neq (h : JD P n W K F ops k nx (⟨od, .binOp .neq t x y u, T, pos, af, gd⟩ :: rest) tm S M) : JD P n W K F ops k nx (⟨od, .binOp .neq t x y u, T, pos, af, gd⟩ :: rest) tm S M := h
theorem gL_bin_lss (h : JL P n W K F ops k (⟨od, .binOp .lss t x y u, T, pos, af, gd⟩ :: rest) tm L) : JL P n W K F ops k (⟨od, .binOp .lss t x y u, T, pos, af, gd⟩ :: rest) tm L := h
theorem gD_bin_lss (h : JD P n W K F ops k nx (⟨od, .binOp .lss t x y u, T, pos, af, gd⟩ :: rest) tm S M) : JD P n W K F ops k nx (⟨od, .binOp .lss t x y u, T, pos, af, gd⟩ :: rest) tm S M := h
theorem gL_bin_leq (h : JL P n W K F ops k (⟨od, .binOp .leq t x y u, T, pos, af, gd⟩ :: rest) tm L) : JL P n W K F ops k (⟨od, .binOp .leq t x y u, T, pos, af, gd⟩ :: rest) tm L := h
theorem gD_bin_leq (h : JD P n W K F ops k nx (⟨od, .binOp .leq t x y u, T, pos, af, gd⟩ :: rest) tm S M) : JD P n W K F ops k nx (⟨od, .binOp .leq t x y u, T, pos, af, gd⟩ :: rest) tm S M := h
theorem gL_bin_gtr (h : JL P n W K F ops k (⟨od, .binOp .gtr t x y u, T, pos, af, gd⟩ :: rest) tm L) : JL P n W K F ops k (⟨od, .binOp .gtr t x y u, T, pos, af, gd⟩ :: rest) tm L := h
theorem gD_bin_gtr (h : JD P n W K F ops k nx (⟨od, .binOp .gtr t x y u, T, pos, af, gd⟩ :: rest) tm S M) : JD P n W K F ops k nx (⟨od, .binOp .gtr t x y u, T, pos, af, gd⟩ :: rest) tm S M := h
theorem gL_bin_geq (h : JL P n W K F ops k (⟨od, .binOp .geq t x y u, T, pos, af, gd⟩ :: rest) tm L) : JL P n W K F ops k (⟨od, .binOp .geq t x y u, T, pos, af, gd⟩ :: rest) tm L := h
theorem gD_bin_geq (h : JD P n W K F ops k nx (⟨od, .binOp .geq t x y u, T, pos, af, gd⟩ :: rest) tm S M) : JD P n W K F ops k nx (⟨od, .binOp .geq t x y u, T, pos, af, gd⟩ :: rest) tm S M := h
theorem gL_un_neg (h : JL P n W K F ops k (⟨od, .unOp .neg t x, T, pos, af, gd⟩ :: rest) tm L) : JL P n W K F ops k (⟨od, .unOp .neg t x, T, pos, af, gd⟩ :: rest) tm L := h
theorem gD_un_neg (h : JD P n W K F ops k nx (⟨od, .unOp .neg t x, T, pos, af, gd⟩ :: rest) tm S M) : JD P n W K F ops k nx (⟨od, .unOp .neg t x, T, pos, af, gd⟩ :: rest) tm S M := h
theorem gL_un_xor (h : JL P n W K F ops k (⟨od, .unOp .xor t x, T, pos, af, gd⟩ :: rest) tm L) : JL P n W K F ops k (⟨od, .unOp .xor t x, T, pos, af, gd⟩ :: rest) tm L := h
theorem gD_un_xor (h : JD P n W K F ops k nx (⟨od, .unOp .xor t x, T, pos, af, gd⟩ :: rest) tm S M) : JD P n W K F ops k nx (⟨od, .unOp .xor t x, T, pos, af, gd⟩ :: rest) tm S M := h
theorem gL_un_not (h : JL P n W K F ops k (⟨od, .unOp .not t x, T, pos, af, gd⟩ :: rest) tm L) : JL P n W K F ops k (⟨od, .unOp .not t x, T, pos, af, gd⟩ :: rest) tm L := h
theorem gD_un_not (h : JD P n W K F ops k nx (⟨od, .unOp .not t x, T, pos, af, gd⟩ :: rest) tm S M) : JD P n W K F ops k nx (⟨od, .unOp .not t x, T, pos, af, gd⟩ :: rest) tm S M := h
theorem gL_c_append (h : JL P n W K F ops k (⟨od, .call ⟨.builtin .append, as_, ts⟩, T, pos, af, gd⟩ :: rest) tm L) : JL P n W K F ops k (⟨od, .call ⟨.builtin .append, as_, ts⟩, T, pos, af, gd⟩ :: rest) tm L := h
theorem gD_c_append (h : JD P n W K F ops k nx (⟨od, .call ⟨.builtin .append, as_, ts⟩, T, pos, af, gd⟩ :: rest) tm S M) : JD P n W K F ops k nx (⟨od, .call ⟨.builtin .append, as_, ts⟩, T, pos, af, gd⟩ :: rest) tm S M := h
theorem gL_c_len (h : JL P n W K F ops k (⟨od, .call ⟨.builtin .len, as_, ts⟩, T, pos, af, gd⟩ :: rest) tm L) : JL P n W K F ops k (⟨od, .call ⟨.builtin .len, as_, ts⟩, T, pos, af, gd⟩ :: rest) tm L := h
theorem gD_c_len (h : JD P n W K F ops k nx (⟨od, .call ⟨.builtin .len, as_, ts⟩, T, pos, af, gd⟩ :: rest) tm S M) : JD P n W K F ops k nx (⟨od, .call ⟨.builtin .len, as_, ts⟩, T, pos, af, gd⟩ :: rest) tm S M := h
theorem gL_c_cap (h : JL P n W K F ops k (⟨od, .call ⟨.builtin .cap, as_, ts⟩, T, pos, af, gd⟩ :: rest) tm L) : JL P n W K F ops k (⟨od, .call ⟨.builtin .cap, as_, ts⟩, T, pos, af, gd⟩ :: rest) tm L := h
theorem gD_c_cap (h : JD P n W K F ops k nx (⟨od, .call ⟨.builtin .cap, as_, ts⟩, T, pos, af, gd⟩ :: rest) tm S M) : JD P n W K F ops k nx (⟨od, .call ⟨.builtin .cap, as_, ts⟩, T, pos, af, gd⟩ :: rest) tm S M := h
theorem gL_c_min (h : JL P n W K F ops k (⟨od, .call ⟨.builtin .min, as_, ts⟩, T, pos, af, gd⟩ :: rest) tm L) : JL P n W K F ops k (⟨od, .call ⟨.builtin .min, as_, ts⟩, T, pos, af, gd⟩ :: rest) tm L := h
theorem gD_c_min (h : JD P n W K F ops k nx (⟨od, .call ⟨.builtin .min, as_, ts⟩, T, pos, af, gd⟩ :: rest) tm S M) : JD P n W K F ops k nx (⟨od, .call ⟨.builtin .min, as_, ts⟩, T, pos, af, gd⟩ :: rest) tm S M := h
theorem gL_c_max (h : JL P n W K F ops k (⟨od, .call ⟨.builtin .max, as_, ts⟩, T, pos, af, gd⟩ :: rest) tm L) : JL P n W K F ops k (⟨od, .call ⟨.builtin .max, as_, ts⟩, T, pos, af, gd⟩ :: rest) tm L := h
theorem gD_c_max (h : JD P n W K F ops k nx (⟨od, .call ⟨.builtin .max, as_, ts⟩, T, pos, af, gd⟩ :: rest) tm S M) : JD P n W K F ops k nx (⟨od, .call ⟨.builtin .max, as_, ts⟩, T, pos, af, gd⟩ :: rest) tm S M := h
theorem gL_c_copy (h : JL P n W K F ops k (⟨od, .call ⟨.builtin .copy, as_, ts⟩, T, pos, af, gd⟩ :: rest) tm L) : JL P n W K F ops k (⟨od, .call ⟨.builtin .copy, as_, ts⟩, T, pos, af, gd⟩ :: rest) tm L := h
theorem gD_c_copy (h : JD P n W K F ops k nx (⟨od, .call ⟨.builtin .copy, as_, ts⟩, T, pos, af, gd⟩ :: rest) tm S M) : JD P n W K F ops k nx (⟨od, .call ⟨.builtin .copy, as_, ts⟩, T, pos, af, gd⟩ :: rest) tm S M := h
theorem gL_c_clear (h : JL P n W K F ops k (⟨od, .call ⟨.builtin .clear, as_, ts⟩, T, pos, af, gd⟩ :: rest) tm L) : JL P n W K F ops k (⟨od, .call ⟨.builtin .clear, as_, ts⟩, T, pos, af, gd⟩ :: rest) tm L := h
theorem gD_c_clear (h : JD P n W K F ops k nx (⟨od, .call ⟨.builtin .clear, as_, ts⟩, T, pos, af, gd⟩ :: rest) tm S M) : JD P n W K F ops k nx (⟨od, .call ⟨.builtin .clear, as_, ts⟩, T, pos, af, gd⟩ :: rest) tm S M := h
theorem gL_c_delete (h : JL P n W K F ops k (⟨od, .call ⟨.builtin .delete, as_, ts⟩, T, pos, af, gd⟩ :: rest) tm L) : JL P n W K F ops k (⟨od, .call ⟨.builtin .delete, as_, ts⟩, T, pos, af, gd⟩ :: rest) tm L := h
theorem gD_c_delete (h : JD P n W K F ops k nx (⟨od, .call ⟨.builtin .delete, as_, ts⟩, T, pos, af, gd⟩ :: rest) tm S M) : JD P n W K F ops k nx (⟨od, .call ⟨.builtin .delete, as_, ts⟩, T, pos, af, gd⟩ :: rest) tm S M := h
theorem gL_go (h : JL P n W K F ops k (⟨od, .call ⟨.value x, as_, ts⟩, T, pos, af, gd⟩ :: rest) tm L) : JL P n W K F ops k (⟨od, .call ⟨.value x, as_, ts⟩, T, pos, af, gd⟩ :: rest) tm L := h
theorem gD_go (h : JD P n W K F ops k nx (⟨od, .call ⟨.value x, as_, ts⟩, T, pos, af, gd⟩ :: rest) tm S M) : JD P n W K F ops k nx (⟨od, .call ⟨.value x, as_, ts⟩, T, pos, af, gd⟩ :: rest) tm S M := h
/-! A long region's text stands as two lists, appended. -/
theorem gL_app {x : Oper} {l m : List Oper} (h : JL P n W K F ops k (x :: List.append l m) tm L) : JL P n W K F ops k (List.append (x :: l) m) tm L := h
theorem gL_app0 {m : List Oper} (h : JL P n W K F ops k m tm L) : JL P n W K F ops k (List.append [] m) tm L := h
theorem gD_app {x : Oper} {l m : List Oper} (h : JD P n W K F ops k nx (x :: List.append l m) tm S M) : JD P n W K F ops k nx (List.append (x :: l) m) tm S M := h
theorem gD_app0 {m : List Oper} (h : JD P n W K F ops k nx m tm S M) : JD P n W K F ops k nx (List.append [] m) tm S M := h
end
end Go.Pm
