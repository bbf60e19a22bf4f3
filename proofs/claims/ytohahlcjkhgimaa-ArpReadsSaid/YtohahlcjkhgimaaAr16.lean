/-
  Read.
-/
import Derived.Test.YtohahlcjkhgimaaAr15
import Derived.Laws.BitsLemmas
namespace Go.Pm
set_option linter.unusedSimpArgs false
set_option linter.unusedVariables false
set_option maxRecDepth 20000
set_option maxHeartbeats 4000000
open Go.RowKit
section
variable {P : Program} {n : Nat} {W : World} {K : Hl} {F : Fp} {k : List It} {tm : TM} {L L' R S M C : List HP} {T : TypeId} {pos : String} {af : Array Edge} {gd : Option (Nat × Bool)} {ops : Array Oper} {rest nx : List Oper} {d : Option Tmp}
theorem gL_sliceToArrayPointer {od : Option Tmp} {t : TypeId} {x : Operand} (h : JL P n W K F ops k (⟨od, .sliceToArrayPointer t x, T, pos, af, gd⟩ :: rest) tm L) : JL P n W K F ops k (⟨od, .sliceToArrayPointer t x, T, pos, af, gd⟩ :: rest) tm L := h
theorem gD_sliceToArrayPointer {od : Option Tmp} {t : TypeId} {x : Operand} (h : JD P n W K F ops k nx (⟨od, .sliceToArrayPointer t x, T, pos, af, gd⟩ :: rest) tm S M) : JD P n W K F ops k nx (⟨od, .sliceToArrayPointer t x, T, pos, af, gd⟩ :: rest) tm S M := h
theorem pe_neArrB {xt yt : TypeId} {x y : Operand} {k : IntKind} {m : Nat} {us vs : List Int} {c : Bool} (h : ArrN P xt m k) (ha : us.length = m) (hb : vs.length = m) (hx : evT tm x = some (.agg (us.map (Value.int k)).toArray)) (hy : evT tm y = some (.agg (vs.map (Value.int k)).toArray)) (hc : (!decide (us = vs)) = c) : PE P K L ⟨d, .binOp .neq xt x y yt, T, pos, af, gd⟩ (tget tm) (.bool c) := by
  subst hc
  exact pe_neArr h ha hb hx hy rfl
theorem pe_s2ap {t e : TypeId} {x : Operand} {a : Option Addr} {l c m : Nat} (hx : evT tm x = some (.slice a l c)) (ht : P.underlying t = some (.array m e)) (hl : m ≤ l) : PE P K L ⟨d, .sliceToArrayPointer t x, T, pos, af, gd⟩ (tget tm) (.pointer a) := fun ρ w ha _ => by
  have h1 := ha x (by simp [Op.operands]) _ hx
  unfold execOp
  simp only [h1]
  simp [Instr.arrayAt, Sem.run_bind, run_underlying ht, Nat.not_lt.2 hl]
end
end Go.Pm
namespace Go.Proofs.Ytohahlcjkhgimaa
open Go.RowKit Go.Pm Go.Sort

theorem arr7 : ArrN Try.prog 84 7 .u8 := .of Try.underlying84 Try.underlying5 (by decide +kernel) (by decide +kernel) (by decide +kernel)
theorem row_of {w : World} {b o c m : Nat} {cells : List Value} (h : Vw w (.slice (some ⟨b, o, none⟩) m c) 1 m cells) (k : Nat) : w.rangeAt b o (cells.take k) := by
  obtain ⟨a', cap, he, _, _, _, _, h5⟩ := h
  intro j v hv
  have hne : cells ≠ [] := by rintro rfl; simp at hv
  obtain ⟨b', o', he2, hc⟩ := h5 hne
  cases he
  cases he2
  refine hc j v ?_
  rw [List.getElem?_take] at hv
  split at hv
  · exact hv
  · cases hv
def U8s (l : List Int) : Prop := ∀ x ∈ l, 0 ≤ x ∧ x ≤ 255
def mcOf (B : List Int) : Mc := ⟨B[0]?.getD 0, B[1]?.getD 0, B[2]?.getD 0, B[3]?.getD 0, B[4]?.getD 0, B[5]?.getD 0⟩
def adOf (B : List Int) : Int := B[6]?.getD 0 * 16777216 + B[7]?.getD 0 * 65536 + B[8]?.getD 0 * 256 + B[9]?.getD 0
theorem or32 (i : Nat) (x y : Int) (h1 : 0 ≤ x) (h2 : x % 2 ^ i = 0) (h3 : x < 4294967296) (h4 : 0 ≤ y) (h5 : y < 2 ^ i) (h6 : y < 4294967296) : bits .or .u32 x y = x + y :=
  bits_join .u32 32 (by decide) (fun n h1 h2 => by rw [IntKind.wrap_u32]; omega) i x y h1 h2 h3 h4 h5 h6
set_option maxRecDepth 4000 in
theorem take_s (a : Option Addr) (c n : Nat) (B : List Int) (hn : B.length = n) (hl : 10 ≤ n) (hB : U8s B) : Pact Try.prog 37 #[.slice a n c] (fun w => Vw w (.slice a n c) 1 n (flat byC B)) [] (ret0 (.tuple #[.agg (mcC (mcOf B)).toArray, .int .u32 (adOf B)])) := by
  refine pact Try.func37 rfl Try.ntmps37 rfl ?_
  intro W K hK
  obtain ⟨x0, x1, x2, x3, x4, x5, x6, x7, x8, x9, r, hb⟩ : ∃ x0 x1 x2 x3 x4 x5 x6 x7 x8 x9 r, B = x0 :: x1 :: x2 :: x3 :: x4 :: x5 :: x6 :: x7 :: x8 :: x9 :: r := by
    match B, hn with
    | x0 :: x1 :: x2 :: x3 :: x4 :: x5 :: x6 :: x7 :: x8 :: x9 :: r, _ => exact ⟨_, _, _, _, _, _, _, _, _, _, _, rfl⟩
    | [], h => simp at h; omega
    | [_], h => simp at h; omega
    | [_, _], h => simp at h; omega
    | [_, _, _], h => simp at h; omega
    | [_, _, _, _], h => simp at h; omega
    | [_, _, _, _, _], h => simp at h; omega
    | [_, _, _, _, _, _], h => simp at h; omega
    | [_, _, _, _, _, _, _], h => simp at h; omega
    | [_, _, _, _, _, _, _, _], h => simp at h; omega
    | [_, _, _, _, _, _, _, _, _], h => simp at h; omega
  have e1 : mcOf B = ⟨x0, x1, x2, x3, x4, x5⟩ := by rw [hb]; rfl
  have e2 : adOf B = x6 * 16777216 + x7 * 65536 + x8 * 256 + x9 := by rw [hb]; rfl
  rw [e1, e2]
  have b6 := hB x6 (by rw [hb]; simp)
  have b7 := hB x7 (by rw [hb]; simp)
  have b8 := hB x8 (by rw [hb]; simp)
  have b9 := hB x9 (by rw [hb]; simp)
  refine J_fact (φ := ∃ b o, a = some ⟨b, o, none⟩ ∧ n ≤ c) (fun w H => ?_) ?_
  · obtain ⟨a', cap, he, _, h3, _, _, h5⟩ := hK.of H
    obtain ⟨b, o, he2, _⟩ := h5 (by rw [hb]; simp [flat, byC])
    cases he
    exact ⟨b, o, he2, h3⟩
  rintro ⟨b, o, rfl, hc⟩
  have hrow : Kn K (fun w => w.rangeAt b o [.int .u8 x0, .int .u8 x1, .int .u8 x2, .int .u8 x3, .int .u8 x4, .int .u8 x5]) := hK.imp fun w h => by
    have := row_of h 6
    rw [hb] at this
    exact this
  have hsrc := Src.kn (L := []) hK
  have hp : Kn K (fun w => Vw w (.slice (slA (some ⟨b, o, none⟩) c 6 1) 4 (c - 6)) 1 4 (flat byC [x6, x7, x8, x9])) := hK.imp fun w h => by
    have h1 := Vw_take' (Vw_drop h (fun _ => rfl) hn 6 (n - 6) (by omega) rfl) (fun _ => rfl) (by rw [List.length_drop, hn]) 4 (by omega)
    rw [hb] at h1
    exact h1
  obtain ⟨Q, hQ⟩ : ∃ Q, [x6, x7, x8, x9] = Q := ⟨_, rfl⟩
  have hs0 : Q[0]? = some x6 := by rw [← hQ]; rfl
  have hs1 : Q[1]? = some x7 := by rw [← hQ]; rfl
  have hs2 : Q[2]? = some x8 := by rw [← hQ]; rfl
  have hs3 : Q[3]? = some x9 := by rw [← hQ]; rfl
  have hQl : Q.length = 4 := by rw [← hQ]; rfl
  rw [hQ] at hp
  clear hQ hb hB
  (repeat' (first | ((with_reducible apply gJ); (first | refine J_seq ?_ | refine J_reg ?_ | refine J_skip ?_ | refine J_block ?_ | refine J_blk ?_ | refine J_exit rfl ?_ | refine J_goto rfl ?_ | ((with_reducible apply gJ_if); (first | refine J_ift rfl ?_ | refine J_iff rfl ?_ | (refine J_if xR ?_ ?_ <;> intro _ <;> (try (exfalso; first | contradiction | omega))) | (refine J_ifb xR ?_ ?_ <;> (intro hgb; subst hgb)) | (refine J_ifb xR ?_ ?_ <;> intro _) | fail)) | refine J_label ?_ | refine J_draw (id := 2) [0, 1, 2, 3, 4, 5, 6, 7, 8, 9, 10, 11, 12, 13, 14, 15, 16, 17, 18, 19, 20, 21, 22, 23, 24, 25, 26] [27] mixed xC xD xD ?_ | fail)) | ((with_reducible apply gL); (first | refine JL_nil ?_ | refine L_move ?_ | refine L_assign ?_ | refine L_slice ?_ | ((with_reducible apply gL_alloc); (first | (refine JL_mc rfl xR xR (al_alloc xN xK) ?_; intro _) | fail)) | fail)) | ((with_reducible apply gD); (first | (refine JD_nil ?_; try simp only [List.cons_append, List.nil_append]) | (refine JD_bar ?_; try simp only [List.cons_append, List.nil_append]) | ((with_reducible apply gD_load); (first | (first | refine JD_p rfl xR rfl (pe_ldKR xR hrow (by show rowTy Try.prog 26 6 = true; kernel_rfl)) ?_) | fail)) | ((with_reducible apply gD_sliceToArrayPointer); (first | (refine JD_p rfl xR rfl (pe_s2ap xR Try.underlying26 (by omega)) ?_) | fail)) | ((with_reducible apply gD_bin_or); (first | (first | (refine JD_p rfl xR rfl (pe_or xR xR (or32 24 _ _ (by omega) (by omega) (by omega) (by omega) (by omega) (by omega))) ?_) | (refine JD_p rfl xR rfl (pe_or xR xR (or32 16 _ _ (by omega) (by omega) (by omega) (by omega) (by omega) (by omega))) ?_) | (refine JD_p rfl xR rfl (pe_or xR xR (or32 8 _ _ (by omega) (by omega) (by omega) (by omega) (by omega) (by omega))) ?_)) | fail)) | refine D_move ?_ | refine D_assign ?_ | refine D_load ?_ | refine D_indexAddr ?_ | refine D_slice ?_ | refine D_bin_or ?_ | refine D_convert_u32 ?_ | refine D_convert_r ?_ | refine D_bin_shl_u32 ?_ | refine D_bin_shl_r ?_ | ((with_reducible apply gD_load); (first | refine JD_ldM xR xT xC xR xR ?_ | refine JD_ldWM xR xT xW xR ?_ | refine JD_ldSM xR xT (tabS stab_ok xR) xG xC xR ?_ | fail)) | ((with_reducible apply gD_indexAddr); (first | refine JD_ixM xR xR (tabE etab_ok xR) xT xI xO xR ?_ | refine JD_ixV xR xR (tabE etab_ok xR) xT xI xO xR ?_ | fail)) | ((with_reducible apply gD_store); (first | refine JD_st xR xR xT xC xR xE xR ?_ | refine JD_stW xR xR xT xW xR xR xR ?_ | refine JD_stS xR xR xT xW xP xR xR ?_ | refine JD_stEl xR xR xT xR xL xR (tabS stab_ok xR) xR xR xO ?_ | fail)) | fail)) | fail))
  have e3 : x6 * 2 ^ (23 + 1) + x7 * 2 ^ (15 + 1) + x8 * 2 ^ (7 + 1) + x9 = x6 * 16777216 + x7 * 65536 + x8 * 256 + x9 := by omega
  exact J_retC1 (cs := mcC ⟨x0, x1, x2, x3, x4, x5⟩) rfl (by rfl) (by rfl) (by (first | ((with_reducible (repeat (first | exact Tk.here | apply Tk.there))); done) | ((simp only [List.cons_append, List.nil_append]); (with_reducible (repeat (first | exact Tk.here | apply Tk.there))); done) | fail)) (by rfl) fun w H => ⟨_, ⟨by rw [e3], rfl⟩, H.sel .nil⟩
def msOf (B : List Int) : Ms := ⟨B[7]?.getD 0, mcOf (B.drop 8), adOf (B.drop 8), mcOf (B.drop 18), adOf (B.drop 18)⟩
abbrev ms0 : Ms := ⟨0, mc0, 0, mc0, 0⟩
theorem U8s.drop {B : List Int} (h : U8s B) (k : Nat) : U8s (B.drop k) := fun x hx => h x (List.mem_of_mem_drop hx)
theorem first7 {B : List Int} (h : 7 ≤ B.length) : ∃ x0 x1 x2 x3 x4 x5 x6, B.take 7 = [x0, x1, x2, x3, x4, x5, x6] := by
  match B, h with
  | x0 :: x1 :: x2 :: x3 :: x4 :: x5 :: x6 :: r, _ => exact ⟨_, _, _, _, _, _, _, rfl⟩
set_option maxRecDepth 4000 in
set_option maxHeartbeats 1000000 in
theorem read_ok (a : Option Addr) (c n : Nat) (B : List Int) (k : Int) (hn : B.length = n) (h28 : 28 ≤ n) (hB : U8s B) (hh : B.take 7 = hdB) (hk : B[7]? = some k) (hk2 : k = 1 ∨ k = 2) : Pact Try.prog 20 #[.slice a n c] (fun w => Vw w (.slice a n c) 1 n (flat byC B)) [] (ret0 (.tuple #[.agg (msC (msOf B)).toArray, .int .i64 0])) := by
  refine pact Try.func20 rfl Try.ntmps20 rfl ?_
  intro W K hK
  refine J_fact (φ := ∃ b o, a = some ⟨b, o, none⟩ ∧ n ≤ c) (fun w H => ?_) ?_
  · obtain ⟨a', cap, he, _, h3, _, _, h5⟩ := hK.of H
    obtain ⟨b, o, he2, _⟩ := h5 (by intro e; have := congrArg List.length e; rw [flat_byC_len, List.length_nil] at this; omega)
    cases he
    exact ⟨b, o, he2, h3⟩
  rintro ⟨b, o, rfl, hc⟩
  have hrow : Kn K (fun w => w.rangeAt b o hdC) := hK.imp fun w h => by
    have h1 := row_of h 7
    have e : (flat byC B).take 7 = hdC := by
      have : flat byC B = flat byC (B.take 7) ++ flat byC (B.drop 7) := by rw [← flat_append, List.take_append_drop]
      rw [this, hh]
      rfl
    rw [e] at h1
    exact h1
  have hcell : Kn K (fun w => w.cell? ⟨b, o + 7 * 1, none⟩ = some (.int .u8 k)) := hK.imp fun w h => by
    refine row_of h 8 7 _ ?_
    rw [List.getElem?_take, if_pos (by omega)]
    unfold flat
    rw [show B.flatMap byC = B.map (Value.int .u8) from by rw [List.map_eq_flatMap]; rfl, List.getElem?_map, hk]
    rfl
  have ht1 := take_s (slA (some ⟨b, o, none⟩) c 8 1) (c - 8) (n - 8) (B.drop 8) (by rw [List.length_drop, hn]) (by omega) (hB.drop 8)
  have ht2 := take_s (slA (some ⟨b, o, none⟩) c 18 1) (c - 18) (n - 18) (B.drop 18) (by rw [List.length_drop, hn]) (by omega) (hB.drop 18)
  have e1 : msOf B = ⟨k, mcOf (B.drop 8), adOf (B.drop 8), mcOf (B.drop 18), adOf (B.drop 18)⟩ := by unfold msOf; rw [hk]; rfl
  rw [e1]
  generalize mcOf (B.drop 8) = m1 at *
  generalize adOf (B.drop 8) = a1 at *
  generalize mcOf (B.drop 18) = m2 at *
  generalize adOf (B.drop 18) = a2 at *
  (repeat' (first | ((with_reducible apply gJ); (first | refine J_seq ?_ | refine J_reg ?_ | refine J_skip ?_ | refine J_block ?_ | refine J_blk ?_ | refine J_exit rfl ?_ | refine J_goto rfl ?_ | ((with_reducible apply gJ_if); (first | refine J_ift rfl ?_ | refine J_iff rfl ?_ | (refine J_if xR ?_ ?_ <;> intro _ <;> (try (exfalso; first | contradiction | omega))) | (refine J_ifb xR ?_ ?_ <;> (intro hgb; subst hgb)) | (refine J_ifb xR ?_ ?_ <;> intro _) | fail)) | refine J_label ?_ | refine J_draw (id := 1) [0, 1, 2, 3, 4, 5, 6, 7, 8] [9, 10, 11, 12, 13, 14, 15, 16, 17, 18] mixed xC xD xD ?_ | fail)) | ((with_reducible apply gL); (first | refine JL_nil ?_ | ((with_reducible apply gL_load); (first | (first | refine JD_p rfl xR rfl (pe_ldKR xR hrow (by show rowTy Try.prog 84 7 = true; kernel_rfl)) ?_ | refine JD_p rfl xR rfl (pe_ldK xR hcell xC) ?_ | refine JL_p rfl xR xR (pe_ldK xR hcell xC) ?_) | fail)) | refine L_move ?_ | refine L_assign ?_ | refine L_fieldAddr ?_ | refine L_load ?_ | refine L_indexAddr ?_ | refine L_build ?_ | refine L_extract ?_ | refine L_slice ?_ | refine L_convert_i64 ?_ | refine L_convert_r ?_ | ((with_reducible apply gL_alloc); (first | (refine JL_mc rfl xR xR (al_alloc xN xK) ?_; intro _) | fail)) | ((with_reducible apply gL_store); (first | refine JL_st xR xR xT xC xR xE xR ?_ | refine JL_stW xR xR xT xW xR xR xR ?_ | refine JL_stS xR xR xT xW xP xR xR ?_ | refine JL_stEl xR xR xT xR xL xR (tabS stab_ok xR) xR xR xO ?_ | fail)) | ((with_reducible apply gL_go); (first | (refine JL_goq (beginning_s) (hφ := xF) (h := ?_); rintro _ _ ⟨rfl, rfl⟩; try simp only [List.cons_append, List.nil_append]) | (refine JL_goq (known_s k true (decide_eq_true hk2)) (hφ := xF) (h := ?_); rintro _ _ ⟨rfl, rfl⟩; try simp only [List.cons_append, List.nil_append]) | (refine JL_goq (ht1) (hφ := (by (try simp only [List.cons_append, List.nil_append]); exact fun w hr => Vw_drop (hK w hr.1) (fun _ => rfl) hn 8 (n - 8) (by omega) rfl)) (h := ?_); rintro _ _ ⟨rfl, rfl⟩; try simp only [List.cons_append, List.nil_append]) | (refine JL_goq (ht2) (hφ := (by (try simp only [List.cons_append, List.nil_append]); exact fun w hr => Vw_drop (hK w hr.1) (fun _ => rfl) hn 18 (n - 18) (by omega) rfl)) (h := ?_); rintro _ _ ⟨rfl, rfl⟩; try simp only [List.cons_append, List.nil_append]) | fail)) | fail)) | ((with_reducible apply gD); (first | (refine JD_nil ?_; try simp only [List.cons_append, List.nil_append]) | (refine JD_bar ?_; try simp only [List.cons_append, List.nil_append]) | ((with_reducible apply gD_gd); (first | refine JD_skip xR ?_ | fail)) | ((with_reducible apply gD_load); (first | (first | refine JD_p rfl xR rfl (pe_ldKR xR hrow (by show rowTy Try.prog 84 7 = true; kernel_rfl)) ?_ | refine JD_p rfl xR rfl (pe_ldK xR hcell xC) ?_ | refine JL_p rfl xR xR (pe_ldK xR hcell xC) ?_) | fail)) | ((with_reducible apply gD_sliceToArrayPointer); (first | (refine JD_p rfl xR rfl (pe_s2ap xR Try.underlying84 (by omega)) ?_) | fail)) | ((with_reducible apply gD_bin_neq); (first | (refine JD_p rfl xR rfl (pe_neArrB (c := false) (us := hdB) (vs := hdB) arr7 rfl rfl xR xR (by decide)) ?_) | fail)) | refine D_move ?_ | refine D_load ?_ | refine D_pick ?_ | refine D_indexAddr ?_ | refine D_c_len ?_ | refine D_un_not ?_ | refine D_bin_neq ?_ | refine D_bin_lss ?_ | refine D_slice ?_ | refine D_convert_i64 ?_ | refine D_convert_r ?_ | ((with_reducible apply gD_load); (first | refine JD_ldM xR xT xC xR xR ?_ | refine JD_ldWM xR xT xW xR ?_ | refine JD_ldSM xR xT (tabS stab_ok xR) xG xC xR ?_ | fail)) | ((with_reducible apply gD_indexAddr); (first | refine JD_ixM xR xR (tabE etab_ok xR) xT xI xO xR ?_ | refine JD_ixV xR xR (tabE etab_ok xR) xT xI xO xR ?_ | fail)) | ((with_reducible apply gD_go); (first | (refine JD_goq (beginning_s) (hφ := xF) (h := ?_); rintro _ _ ⟨rfl, rfl⟩; try simp only [List.cons_append, List.nil_append]) | (refine JD_goq (known_s k true (decide_eq_true hk2)) (hφ := xF) (h := ?_); rintro _ _ ⟨rfl, rfl⟩; try simp only [List.cons_append, List.nil_append]) | (refine JD_goq (ht1) (hφ := (by (try simp only [List.cons_append, List.nil_append]); exact fun w hr => Vw_drop (hK w hr.1) (fun _ => rfl) hn 8 (n - 8) (by omega) rfl)) (h := ?_); rintro _ _ ⟨rfl, rfl⟩; try simp only [List.cons_append, List.nil_append]) | (refine JD_goq (ht2) (hφ := (by (try simp only [List.cons_append, List.nil_append]); exact fun w hr => Vw_drop (hK w hr.1) (fun _ => rfl) hn 18 (n - 18) (by omega) rfl)) (h := ?_); rintro _ _ ⟨rfl, rfl⟩; try simp only [List.cons_append, List.nil_append]) | fail)) | ((with_reducible apply gD_gd); (first | (refine JD_guard xR xR ?_ ?_ <;> intro _ <;> (try (exfalso; first | contradiction | omega))) | (refine JD_guardb xR xR ?_ ?_ <;> (intro hgb; subst hgb)) | (refine JD_guardb xR xR ?_ ?_ <;> (intro hgb; fail_if_success (have : type_of% hgb := rfl))) | fail)) | fail)) | fail))
  exact J_retC1 (cs := msC ⟨k, m1, a1, m2, a2⟩) rfl (by rfl) (by rfl) (by (first | ((with_reducible (repeat (first | exact Tk.here | apply Tk.there))); done) | ((simp only [List.cons_append, List.nil_append]); (with_reducible (repeat (first | exact Tk.here | apply Tk.there))); done) | fail)) (by rfl) fun w H => ⟨_, ⟨rfl, rfl⟩, H.sel .nil⟩
end Go.Proofs.Ytohahlcjkhgimaa
