/-
  Ru20, Ru21, Cq19: merged.
-/
import Derived.Test.YtmbgbhambgoejaaZRunMeans21
namespace Go.Proofs.Ytmbgbhambgoejaa.C
set_option linter.unusedSimpArgs false
set_option linter.unusedVariables false
set_option maxRecDepth 20000
set_option maxHeartbeats 4000000
open Go.RowKit Go.Pm

def QDo (r : Option Nf) (u : Value) (L' : List HP) : Prop := ∃ (d' : At) (ok : Bool), AtF d' ∧ u = .tuple #[.agg (atC d').toArray, .bool ok] ∧ r = (if ok = true then some d'.nf else none) ∧ L' = [has (fun w => AtV w d')]
abbrev at0C : List Value := [.int .i64 0, .slice none 0 0, .int .u32 0, .bool false, .int .u32 0, .bool false, .int .u32 0, .bool false, .bool false, .int .u32 0, .int .u32 0, .slice none 0 0, .slice none 0 0]
theorem qdo_no {W : World} {K : Hl} {L : List HP} {w : World} (H : Ow W K L w) : ∃ L', QDo none (.tuple #[.agg at0C.toArray, .bool false]) L' ∧ Ow W K L' w :=
  ⟨_, ⟨at0, false, at0_f, rfl, rfl, rfl⟩, (Ow.hasTrue (φ := fun w => AtV w at0) H at0_v).sel xZ⟩
theorem at_has {W : World} {K : Hl} {L M1 M2 M3 : List HP} {w : World} {d : At} (H : Ow W K L w) (h1 : Tk L (has (fun w => PathV w d.pa d.pc d.path)) M1) (h2 : Tk M1 (Ar 25 1 u32C (.slice d.ca d.comms.length d.cc) d.comms) M2) (h3 : Tk M2 (has (fun w => RawsV w d.oa d.oc d.others)) M3) : Ow W K (has (fun w => AtV w d) :: M3) w :=
  Ow.has (M := [has (fun w => PathV w d.pa d.pc d.path), Ar 25 1 u32C (.slice d.ca d.comms.length d.cc) d.comms, has (fun w => RawsV w d.oa d.oc d.others)]) H (.cons h1 (.cons h2 (.cons h3 .nil))) (fun w hr => ⟨hr.has (φ := fun w => PathV w d.pa d.pc d.path) .here, Src.ar (.there .here) w hr, hr.has (φ := fun w => RawsV w d.oa d.oc d.others) (.there (.there .here))⟩)
theorem qdo_local (d : At) (hd : AtF d) (n m : Int) (hn : 0 ≤ n ∧ n ≤ 4294967295) : Pact Try.prog 25 #[.int .i64 5, .int .i64 n, .int .i64 m, .agg (atC d).toArray] (fun w => AtV w d) [] (QDo (doN 5 n m d.nf)) := by
  refine pact Try.func25 rfl Try.ntmps25 rfl ?_
  intro W K hK
  (repeat' (first | ((with_reducible apply gL); (first | refine yL0 ?_ | refine yL ?_ | ((with_reducible apply gL_go); (first | (refine JL_goq (acopyO_s d hd _ _ _ rfl rfl rfl) (hφ := (by (try simp only [List.cons_append, List.nil_append]); exact fun w hr => hK w hr.1)) (h := ?_); rintro _ _ ⟨d1, hd1, hn1, rfl, rfl⟩; try simp only [List.cons_append, List.nil_append]) | fail)) | (refine yM ?_; intro _) | (refine yA ?_; intro _ _ _ _) | ((with_reducible apply gL_gd); (first | (refine JL_guard xR xR ?_ ?_ <;> intro _ <;> (try (exfalso; first | contradiction | omega))) | (refine JL_guardb xR xR ?_ ?_ <;> (intro hgb; subst hgb)) | (refine JL_guardb xR xR ?_ ?_ <;> (intro hgb; fail_if_success (have : type_of% hgb := rfl))) | fail)) | fail)) | refine yJ ?_ | ((with_reducible apply gJ_if); (first | (refine J_if xR ?_ ?_ <;> intro _ <;> (try (exfalso; first | contradiction | omega))) | (refine J_ifb xR ?_ ?_ <;> (intro hgb; subst hgb)) | (refine J_ifb xR ?_ ?_ <;> intro _) | fail)) | fail))
  refine J_retC1 (cs := [.int .i64 d1.origin, .slice d1.pa d1.path.length d1.pc, .int .u32 d1.next, .bool d1.hasMed, .int .u32 d1.med, .bool true, .int .u32 n, .bool d1.atomic, .bool d1.hasMaker, .int .u32 d1.makerAS, .int .u32 d1.maker, .slice d1.ca d1.comms.length d1.cc, .slice d1.oa d1.others.length d1.oc]) rfl (by rfl) (by rfl) xA (by rfl) fun w H => ⟨_, ⟨{ d1 with hasLocal := true, loc := n }, true, ⟨⟨hd1.num.origin, hd1.num.next, hd1.num.med, hn, hd1.num.makerAS, hd1.num.maker, hd1.num.path, hd1.num.comms, hd1.num.others⟩, hd1.path, hd1.comms, hd1.others⟩, rfl, by rw [← hn1]; rfl, rfl⟩, ?_⟩
  exact (at_has (d := { d1 with hasLocal := true, loc := n }) H xA xA xA).sel xZ
theorem qdo_med (d : At) (hd : AtF d) (n m : Int) (hn : 0 ≤ n ∧ n ≤ 4294967295) : Pact Try.prog 25 #[.int .i64 6, .int .i64 n, .int .i64 m, .agg (atC d).toArray] (fun w => AtV w d) [] (QDo (doN 6 n m d.nf)) := by
  refine pact Try.func25 rfl Try.ntmps25 rfl ?_
  intro W K hK
  (repeat' (first | ((with_reducible apply gL); (first | refine yL0 ?_ | refine yL ?_ | ((with_reducible apply gL_go); (first | (refine JL_goq (acopyO_s d hd _ _ _ rfl rfl rfl) (hφ := (by (try simp only [List.cons_append, List.nil_append]); exact fun w hr => hK w hr.1)) (h := ?_); rintro _ _ ⟨d1, hd1, hn1, rfl, rfl⟩; try simp only [List.cons_append, List.nil_append]) | fail)) | (refine yM ?_; intro _) | (refine yA ?_; intro _ _ _ _) | ((with_reducible apply gL_gd); (first | (refine JL_guard xR xR ?_ ?_ <;> intro _ <;> (try (exfalso; first | contradiction | omega))) | (refine JL_guardb xR xR ?_ ?_ <;> (intro hgb; subst hgb)) | (refine JL_guardb xR xR ?_ ?_ <;> (intro hgb; fail_if_success (have : type_of% hgb := rfl))) | fail)) | fail)) | refine yJ ?_ | ((with_reducible apply gJ_if); (first | (refine J_if xR ?_ ?_ <;> intro _ <;> (try (exfalso; first | contradiction | omega))) | (refine J_ifb xR ?_ ?_ <;> (intro hgb; subst hgb)) | (refine J_ifb xR ?_ ?_ <;> intro _) | fail)) | fail))
  refine J_retC1 (cs := [.int .i64 d1.origin, .slice d1.pa d1.path.length d1.pc, .int .u32 d1.next, .bool true, .int .u32 n, .bool d1.hasLocal, .int .u32 d1.loc, .bool d1.atomic, .bool d1.hasMaker, .int .u32 d1.makerAS, .int .u32 d1.maker, .slice d1.ca d1.comms.length d1.cc, .slice d1.oa d1.others.length d1.oc]) rfl (by rfl) (by rfl) xA (by rfl) fun w H => ⟨_, ⟨{ d1 with hasMed := true, med := n }, true, ⟨⟨hd1.num.origin, hd1.num.next, hn, hd1.num.loc, hd1.num.makerAS, hd1.num.maker, hd1.num.path, hd1.num.comms, hd1.num.others⟩, hd1.path, hd1.comms, hd1.others⟩, rfl, by rw [← hn1]; rfl, rfl⟩, ?_⟩
  exact (at_has (d := { d1 with hasMed := true, med := n }) H xA xA xA).sel xZ
theorem qdo_prepend (d : At) (hd : AtF d) (n m : Int) (hn : 1 ≤ n ∧ n ≤ 4294967295) (hm : 1 ≤ m ∧ m ≤ 10) : Pact Try.prog 25 #[.int .i64 4, .int .i64 n, .int .i64 m, .agg (atC d).toArray] (fun w => AtV w d) [] (QDo (doN 4 n m d.nf)) := by
  refine pact Try.func25 rfl Try.ntmps25 rfl ?_
  intro W K hK
  (repeat' (first | ((with_reducible apply gL); (first | refine yL0 ?_ | refine yL ?_ | ((with_reducible apply gL_go); (first | (refine JL_goq (acopyO_s d hd _ _ _ rfl rfl rfl) (hφ := (by (try simp only [List.cons_append, List.nil_append]); exact fun w hr => hK w hr.1)) (h := ?_); rintro _ _ ⟨d1, hd1, hn1, rfl, rfl⟩; try simp only [List.cons_append, List.nil_append]) | fail)) | (refine yM ?_; intro _) | (refine yA ?_; intro _ _ _ _) | ((with_reducible apply gL_gd); (first | (refine JL_guard xR xR ?_ ?_ <;> intro _ <;> (try (exfalso; first | contradiction | omega))) | (refine JL_guardb xR xR ?_ ?_ <;> (intro hgb; subst hgb)) | (refine JL_guardb xR xR ?_ ?_ <;> (intro hgb; fail_if_success (have : type_of% hgb := rfl))) | fail)) | fail)) | refine yJ ?_ | ((with_reducible apply gJ_if); (first | (refine J_if xR ?_ ?_ <;> intro _ <;> (try (exfalso; first | contradiction | omega))) | (refine J_ifb xR ?_ ?_ <;> (intro hgb; subst hgb)) | (refine J_ifb xR ?_ ?_ <;> intro _) | fail)) | fail))
  have hpl := hd1.path
  have e4 : doN 4 n m d.nf = if ckP (pN d1.path) 0 = true ∧ m ≤ 64 - (tot (pN d1.path) : Int) then some { d1.nf with path := preN n m.toNat (pN d1.path) } else none := by rw [← hn1]; rfl
  by_cases hok : ckP (pN d1.path) 0 = true ∧ m ≤ 64 - (tot (pN d1.path) : Int)
  · rw [if_pos hok] at e4
    rw [e4]
    obtain ⟨k, hmm⟩ : ∃ k : Nat, m = k := ⟨m.toNat, by omega⟩
    subst hmm
    have hP := rprepend_yes d1.pa d1.pc d1.path n k (by omega) hd1.num.path hn (by omega) hok.1 (by omega)
    rw [show (k : Int).toNat = k by omega]
    (repeat' (first | ((with_reducible apply gL); (first | refine yL0 ?_ | refine yL ?_ | ((with_reducible apply gL_go); (first | (refine JL_goq (hP) (hφ := (by (try simp only [List.cons_append, List.nil_append]); exact fun w hr => hr.has (φ := fun w => PathV w d1.pa d1.pc d1.path) xA)) (h := ?_); rintro _ _ ⟨a', c', q, rfl, hq, rfl⟩; try simp only [List.cons_append, List.nil_append]) | fail)) | (refine yM ?_; intro _) | (refine yA ?_; intro _ _ _ _) | ((with_reducible apply gL_gd); (first | (refine JL_guard xR xR ?_ ?_ <;> intro _ <;> (try (exfalso; first | contradiction | omega))) | (refine JL_guardb xR xR ?_ ?_ <;> (intro hgb; subst hgb)) | (refine JL_guardb xR xR ?_ ?_ <;> (intro hgb; fail_if_success (have : type_of% hgb := rfl))) | fail)) | fail)) | refine yJ ?_ | ((with_reducible apply gJ_if); (first | (refine J_if xR ?_ ?_ <;> intro _ <;> (try (exfalso; first | contradiction | omega))) | (refine J_ifb xR ?_ ?_ <;> (intro hgb; subst hgb)) | (refine J_ifb xR ?_ ?_ <;> intro _) | fail)) | fail))
    all_goals (first | (exfalso; omega) | skip)
    obtain ⟨hq1, hq2⟩ := pre_sg (by omega) (by omega) hok.1 hd1.num.path hq
    refine J_retC1 (cs := [.int .i64 d1.origin, .slice a' q.length c', .int .u32 d1.next, .bool d1.hasMed, .int .u32 d1.med, .bool d1.hasLocal, .int .u32 d1.loc, .bool d1.atomic, .bool d1.hasMaker, .int .u32 d1.makerAS, .int .u32 d1.maker, .slice d1.ca d1.comms.length d1.cc, .slice d1.oa d1.others.length d1.oc]) rfl (by rfl) (by rfl) xA (by rfl) fun w H => ⟨_, ⟨{ d1 with path := q, pa := a', pc := c' }, true, ⟨⟨hd1.num.origin, hd1.num.next, hd1.num.med, hd1.num.loc, hd1.num.makerAS, hd1.num.maker, hq2, hd1.num.comms, hd1.num.others⟩, hq1, hd1.comms, hd1.others⟩, rfl, ?_, rfl⟩, ?_⟩
    · rw [← hq]; rfl
    · exact (at_has (d := { d1 with path := q, pa := a', pc := c' }) H xA xA xA).sel xZ
  · rw [if_neg hok] at e4
    rw [e4]
    have hP := rprepend_no d1.pa d1.pc d1.path n m (by omega) hd1.num.path hn hm hok
    (repeat' (first | ((with_reducible apply gL); (first | refine yL0 ?_ | refine yL ?_ | ((with_reducible apply gL_go); (first | (refine JL_goq (hP) (hφ := (by (try simp only [List.cons_append, List.nil_append]); exact fun w hr => hr.has (φ := fun w => PathV w d1.pa d1.pc d1.path) xA)) (h := ?_); rintro _ _ ⟨e, he, rfl, rfl⟩; try simp only [List.cons_append, List.nil_append]) | fail)) | (refine yM ?_; intro _) | (refine yA ?_; intro _ _ _ _) | ((with_reducible apply gL_gd); (first | (refine JL_guard xR xR ?_ ?_ <;> intro _ <;> (try (exfalso; first | contradiction | omega))) | (refine JL_guardb xR xR ?_ ?_ <;> (intro hgb; subst hgb)) | (refine JL_guardb xR xR ?_ ?_ <;> (intro hgb; fail_if_success (have : type_of% hgb := rfl))) | fail)) | fail)) | refine yJ ?_ | ((with_reducible apply gJ_if); (first | (refine J_if xR ?_ ?_ <;> intro _ <;> (try (exfalso; first | contradiction | omega))) | (refine J_ifb xR ?_ ?_ <;> (intro hgb; subst hgb)) | (refine J_ifb xR ?_ ?_ <;> intro _) | fail)) | fail))
    all_goals (first | (exfalso; omega) | skip)
    exact J_retC1 (cs := at0C) rfl (by rfl) (by rfl) xA (by rfl) fun w H => qdo_no H
end Go.Proofs.Ytmbgbhambgoejaa.C
namespace Go.Proofs.Ytmbgbhambgoejaa.C
set_option linter.unusedSimpArgs false
set_option linter.unusedVariables false
set_option maxRecDepth 20000
set_option maxHeartbeats 4000000
open Go.RowKit Go.Pm

theorem qdo_add (d : At) (hd : AtF d) (n m : Int) (hn : 0 ≤ n ∧ n ≤ 4294967295) : Pact Try.prog 25 #[.int .i64 7, .int .i64 n, .int .i64 m, .agg (atC d).toArray] (fun w => AtV w d) [] (QDo (doN 7 n m d.nf)) := by
  refine pact Try.func25 rfl Try.ntmps25 rfl ?_
  intro W K hK
  (repeat' (first | ((with_reducible apply gL); (first | refine yL0 ?_ | refine yL ?_ | ((with_reducible apply gL_go); (first | (refine JL_goq (acopyO_s d hd _ _ _ rfl rfl rfl) (hφ := (by (try simp only [List.cons_append, List.nil_append]); exact fun w hr => hK w hr.1)) (h := ?_); rintro _ _ ⟨d1, hd1, hn1, rfl, rfl⟩; try simp only [List.cons_append, List.nil_append]) | fail)) | (refine yM ?_; intro _) | (refine yA ?_; intro _ _ _ _) | ((with_reducible apply gL_gd); (first | (refine JL_guard xR xR ?_ ?_ <;> intro _ <;> (try (exfalso; first | contradiction | omega))) | (refine JL_guardb xR xR ?_ ?_ <;> (intro hgb; subst hgb)) | (refine JL_guardb xR xR ?_ ?_ <;> (intro hgb; fail_if_success (have : type_of% hgb := rfl))) | fail)) | fail)) | refine yJ ?_ | ((with_reducible apply gJ_if); (first | (refine J_if xR ?_ ?_ <;> intro _ <;> (try (exfalso; first | contradiction | omega))) | (refine J_ifb xR ?_ ?_ <;> (intro hgb; subst hgb)) | (refine J_ifb xR ?_ ?_ <;> intro _) | fail)) | fail))
  have hcl := hd1.comms
  have e7 : doN 7 n m d.nf = if n ∈ d1.comms then some d1.nf else if 32 ≤ d1.comms.length then none else some { d1.nf with comms := d1.comms ++ [n] } := by rw [← hn1]; rfl
  have hM := qmarked_s d1 hd1 n
  by_cases hin : n ∈ d1.comms
  · rw [decide_eq_true hin] at hM
    rw [if_pos hin] at e7
    rw [e7]
    (repeat' (first | ((with_reducible apply gL); (first | refine yL0 ?_ | refine yL ?_ | ((with_reducible apply gL_go); (first | (refine JL_goq (hM) (hφ := (by (try simp only [List.cons_append, List.nil_append]); exact fun w hr => ⟨hr.has (φ := fun w => PathV w d1.pa d1.pc d1.path) xA, Src.ar xA w hr, hr.has (φ := fun w => RawsV w d1.oa d1.oc d1.others) xA⟩)) (h := ?_); rintro _ _ ⟨rfl, rfl⟩; try simp only [List.cons_append, List.nil_append]) | fail)) | (refine yM ?_; intro _) | (refine yA ?_; intro _ _ _ _) | ((with_reducible apply gL_gd); (first | (refine JL_guard xR xR ?_ ?_ <;> intro _ <;> (try (exfalso; first | contradiction | omega))) | (refine JL_guardb xR xR ?_ ?_ <;> (intro hgb; subst hgb)) | (refine JL_guardb xR xR ?_ ?_ <;> (intro hgb; fail_if_success (have : type_of% hgb := rfl))) | fail)) | fail)) | refine yJ ?_ | ((with_reducible apply gJ_if); (first | (refine J_if xR ?_ ?_ <;> intro _ <;> (try (exfalso; first | contradiction | omega))) | (refine J_ifb xR ?_ ?_ <;> (intro hgb; subst hgb)) | (refine J_ifb xR ?_ ?_ <;> intro _) | fail)) | fail))
    exact J_retC1 (cs := atC d1) rfl (by rfl) (by rfl) xA (by rfl) fun w H => ⟨_, ⟨d1, true, hd1, rfl, rfl, rfl⟩, (at_has (d := d1) H xA xA xA).sel xZ⟩
  · rw [decide_eq_false hin] at hM
    rw [if_neg hin] at e7
    by_cases h32 : 32 ≤ d1.comms.length
    · rw [if_pos h32] at e7
      rw [e7]
      (repeat' (first | ((with_reducible apply gL); (first | refine yL0 ?_ | refine yL ?_ | ((with_reducible apply gL_go); (first | (refine JL_goq (hM) (hφ := (by (try simp only [List.cons_append, List.nil_append]); exact fun w hr => ⟨hr.has (φ := fun w => PathV w d1.pa d1.pc d1.path) xA, Src.ar xA w hr, hr.has (φ := fun w => RawsV w d1.oa d1.oc d1.others) xA⟩)) (h := ?_); rintro _ _ ⟨rfl, rfl⟩; try simp only [List.cons_append, List.nil_append]) | fail)) | (refine yM ?_; intro _) | (refine yA ?_; intro _ _ _ _) | ((with_reducible apply gL_gd); (first | (refine JL_guard xR xR ?_ ?_ <;> intro _ <;> (try (exfalso; first | contradiction | omega))) | (refine JL_guardb xR xR ?_ ?_ <;> (intro hgb; subst hgb)) | (refine JL_guardb xR xR ?_ ?_ <;> (intro hgb; fail_if_success (have : type_of% hgb := rfl))) | fail)) | fail)) | refine yJ ?_ | ((with_reducible apply gJ_if); (first | (refine J_if xR ?_ ?_ <;> intro _ <;> (try (exfalso; first | contradiction | omega))) | (refine J_ifb xR ?_ ?_ <;> (intro hgb; subst hgb)) | (refine J_ifb xR ?_ ?_ <;> intro _) | fail)) | fail))
      all_goals (first | (exfalso; omega) | skip)
      exact J_retC1 (cs := at0C) rfl (by rfl) (by rfl) xA (by rfl) fun w H => qdo_no H
    · rw [if_neg h32] at e7
      rw [e7]
      have hll : (d1.comms ++ [n]).length = d1.comms.length + 1 := by simp
      (repeat' (first | ((with_reducible apply gL); (first | refine yL0 ?_ | ((with_reducible apply gL_c_append); (first | (refine JL_ap1 (z := n) (tabE etab_ok xR) xR xR xA xA xC xR xL xR (by omega) xR xR ?_; intro ad4 c4 _ _) | fail)) | refine yL ?_ | ((with_reducible apply gL_go); (first | (refine JL_goq (hM) (hφ := (by (try simp only [List.cons_append, List.nil_append]); exact fun w hr => ⟨hr.has (φ := fun w => PathV w d1.pa d1.pc d1.path) xA, Src.ar xA w hr, hr.has (φ := fun w => RawsV w d1.oa d1.oc d1.others) xA⟩)) (h := ?_); rintro _ _ ⟨rfl, rfl⟩; try simp only [List.cons_append, List.nil_append]) | fail)) | (refine yM ?_; intro _) | (refine yA ?_; intro _ _ _ _) | ((with_reducible apply gL_gd); (first | (refine JL_guard xR xR ?_ ?_ <;> intro _ <;> (try (exfalso; first | contradiction | omega))) | (refine JL_guardb xR xR ?_ ?_ <;> (intro hgb; subst hgb)) | (refine JL_guardb xR xR ?_ ?_ <;> (intro hgb; fail_if_success (have : type_of% hgb := rfl))) | fail)) | fail)) | refine yJ ?_ | ((with_reducible apply gJ_if); (first | (refine J_if xR ?_ ?_ <;> intro _ <;> (try (exfalso; first | contradiction | omega))) | (refine J_ifb xR ?_ ?_ <;> (intro hgb; subst hgb)) | (refine J_ifb xR ?_ ?_ <;> intro _) | fail)) | fail))
      all_goals (first | (exfalso; omega) | skip)
      refine J_retC1 (cs := [.int .i64 d1.origin, .slice d1.pa d1.path.length d1.pc, .int .u32 d1.next, .bool d1.hasMed, .int .u32 d1.med, .bool d1.hasLocal, .int .u32 d1.loc, .bool d1.atomic, .bool d1.hasMaker, .int .u32 d1.makerAS, .int .u32 d1.maker, .slice ad4 (d1.comms.length + 1) c4, .slice d1.oa d1.others.length d1.oc]) rfl (by rfl) (by rfl) xA (by rfl) fun w H => ⟨_, ⟨{ d1 with comms := d1.comms ++ [n], ca := ad4, cc := c4 }, true, at_comms hd1 (fun z hz => ?_) (by rw [hll]; omega) ad4 c4, ?_, rfl, rfl⟩, ?_⟩
      · rcases List.mem_append.1 hz with hz | hz
        · exact hd1.num.comms z hz
        · obtain rfl := List.mem_singleton.1 hz; exact hn
      · rw [← hll]; rfl
      · rw [← hll] at H
        exact (at_has (d := { d1 with comms := d1.comms ++ [n], ca := ad4, cc := c4 }) H xA xA xA).sel xZ
structure Lq9 where
  k : Nat
  a : Option Addr
  c : Nat
def noU (_ : List Int) : List Int := []
theorem noU_len (l : List Int) : (noU l).length ≤ l.length := by simp [noU]
theorem qdo_8 (d : At) (hd : AtF d) (n m : Int) (hn : 0 ≤ n ∧ n ≤ 4294967295) : Pact Try.prog 25 #[.int .i64 8, .int .i64 n, .int .i64 m, .agg (atC d).toArray] (fun w => AtV w d) [] (QDo (doN 8 n m d.nf)) := by
  refine pact Try.func25 rfl Try.ntmps25 rfl ?_
  intro W K hK
  (repeat' (first | ((with_reducible apply gL); (first | refine yL0 ?_ | refine yL ?_ | ((with_reducible apply gL_go); (first | (refine JL_goq (acopyO_s d hd _ _ _ rfl rfl rfl) (hφ := (by (try simp only [List.cons_append, List.nil_append]); exact fun w hr => hK w hr.1)) (h := ?_); rintro _ _ ⟨d1, hd1, hn1, rfl, rfl⟩; try simp only [List.cons_append, List.nil_append]) | fail)) | (refine yM ?_; intro _) | (refine yA ?_; intro _ _ _ _) | ((with_reducible apply gL_gd); (first | (refine JL_guard xR xR ?_ ?_ <;> intro _ <;> (try (exfalso; first | contradiction | omega))) | (refine JL_guardb xR xR ?_ ?_ <;> (intro hgb; subst hgb)) | (refine JL_guardb xR xR ?_ ?_ <;> (intro hgb; fail_if_success (have : type_of% hgb := rfl))) | fail)) | fail)) | refine yJ ?_ | ((with_reducible apply gJ_if); (first | (refine J_if xR ?_ ?_ <;> intro _ <;> (try (exfalso; first | contradiction | omega))) | (refine J_ifb xR ?_ ?_ <;> (intro hgb; subst hgb)) | (refine J_ifb xR ?_ ?_ <;> intro _) | fail)) | fail))
  have hcl := hd1.comms
  have e8 : doN 8 n m d.nf = some { d1.nf with comms := delU n d1.comms } := by rw [← hn1]; rfl
  rw [e8]
  rename_i b7 b8 b0
  refine J_loop (α := Lq9) ⟨0, some ⟨b0, 0, none⟩, 0⟩ (fun x => d1.comms.length - x.k) (fun x => x.k ≤ d1.comms.length) (fun x => [(0, .int .i64 8), (1, .int .i64 n), (7, .pointer (some ⟨b7, 0, none⟩)), (8, .pointer (some ⟨b8, 0, none⟩)), (12, .slice x.a (delU n (d1.comms.take x.k)).length x.c), (13, .int .i64 x.k)])
    (fun x => [pts b7 (atC d1) 33, pts b8 at0C 33, has (fun w => PathV w d1.pa d1.pc d1.path), Ar 25 1 u32C (.slice d1.ca d1.comms.length d1.cc) d1.comms, has (fun w => RawsV w d1.oa d1.oc d1.others), Ar 25 1 u32C (.slice x.a (delU n (d1.comms.take x.k)).length x.c) (delU n (d1.comms.take x.k))]) (Nat.zero_le _) ⟨rfl, rfl, rfl, rfl, rfl, rfl, trivial⟩ (fun w H => (Ow.arLit0 (sz := 1) (enc := u32C) H xA).sel (M := [pts b7 (atC d1) 33, pts b8 at0C 33, has (fun w => PathV w d1.pa d1.pc d1.path), Ar 25 1 u32C (.slice d1.ca d1.comms.length d1.cc) d1.comms, has (fun w => RawsV w d1.oa d1.oc d1.others), Ar 25 1 u32C (.slice (some ⟨b0, 0, none⟩) 0 0) []]) xZ) ?_
  rintro ⟨k, la, lc⟩ hk
  dsimp only at hk ⊢
  have hkl := delU_len n (d1.comms.take k)
  have htl : (d1.comms.take k).length ≤ 1000 := by rw [List.length_take]; omega
  by_cases hlt : k < d1.comms.length
  · obtain ⟨x, hx⟩ : ∃ x, d1.comms[k]? = some x := ⟨_, List.getElem?_eq_getElem hlt⟩
    have hxu := hd1.num.comms x (List.mem_of_getElem? hx)
    unfold U32 at hxu
    have hke := delU_snoc n hx
    by_cases hxn : x = n
    · rw [if_pos hxn, List.append_nil] at hke
      (repeat' (first | ((with_reducible apply gL); (first | refine yL0 ?_ | refine yL ?_ | (refine yM ?_; intro _) | (refine yA ?_; intro _ _ _ _) | ((with_reducible apply gL_gd); (first | (refine JL_guard xR xR ?_ ?_ <;> intro _ <;> (try (exfalso; first | contradiction | omega))) | (refine JL_guardb xR xR ?_ ?_ <;> (intro hgb; subst hgb)) | (refine JL_guardb xR xR ?_ ?_ <;> (intro hgb; fail_if_success (have : type_of% hgb := rfl))) | fail)) | fail)) | refine yJ ?_ | ((with_reducible apply gJ_if); (first | (refine J_if xR ?_ ?_ <;> intro _ <;> (try (exfalso; first | contradiction | omega))) | (refine J_ifb xR ?_ ?_ <;> (intro hgb; subst hgb)) | (refine J_ifb xR ?_ ?_ <;> intro _) | fail)) | fail))
      all_goals (first | (exfalso; omega) | skip)
      refine J_again ⟨k + 1, la, lc⟩ (by dsimp only; omega) (by show k + 1 ≤ _; omega) ⟨rfl, rfl, rfl, rfl, ?_, rfl, trivial⟩ (fun w H => ?_)
      · show some _ = some _
        rw [hke]
      · dsimp only
        rw [hke]
        exact H.sel xZ
    · rw [if_neg hxn] at hke
      (repeat' (first | ((with_reducible apply gL); (first | refine yL0 ?_ | ((with_reducible apply gL_c_append); (first | (refine JL_ap1 (z := x) (tabE etab_ok xR) xR xR (show Tk _ (Ar 25 1 u32C (.slice la (delU n (d1.comms.take k)).length lc) (delU n (d1.comms.take k))) _ by (first | ((with_reducible (repeat (first | exact Tk.here | apply Tk.there))); done) | ((simp only [List.cons_append, List.nil_append]); (with_reducible (repeat (first | exact Tk.here | apply Tk.there))); done) | fail)) xA xC xR xL xR (by omega) xR xR ?_; intro ad4 c4 _ _) | fail)) | refine yL ?_ | (refine yM ?_; intro _) | (refine yA ?_; intro _ _ _ _) | ((with_reducible apply gL_gd); (first | (refine JL_guard xR xR ?_ ?_ <;> intro _ <;> (try (exfalso; first | contradiction | omega))) | (refine JL_guardb xR xR ?_ ?_ <;> (intro hgb; subst hgb)) | (refine JL_guardb xR xR ?_ ?_ <;> (intro hgb; fail_if_success (have : type_of% hgb := rfl))) | fail)) | fail)) | refine yJ ?_ | ((with_reducible apply gJ_if); (first | (refine J_if xR ?_ ?_ <;> intro _ <;> (try (exfalso; first | contradiction | omega))) | (refine J_ifb xR ?_ ?_ <;> (intro hgb; subst hgb)) | (refine J_ifb xR ?_ ?_ <;> intro _) | fail)) | fail))
      all_goals (first | (exfalso; omega) | skip)
      have hll : (delU n (d1.comms.take (k + 1))).length = (delU n (d1.comms.take k)).length + 1 := by rw [hke]; simp
      refine J_again ⟨k + 1, ad4, c4⟩ (by dsimp only; omega) (by show k + 1 ≤ _; omega) ⟨rfl, rfl, rfl, rfl, ?_, rfl, trivial⟩ (fun w H => ?_)
      · show some (Value.slice ad4 ((delU n (d1.comms.take k)).length + 1) c4) = some (Value.slice ad4 (delU n (d1.comms.take (k + 1))).length c4)
        rw [hll]
      · dsimp only
        rw [hll, hke]
        exact H.sel xZ
  · have hke : k = d1.comms.length := by omega
    rw [hke, List.take_length]
    rw [hke, List.take_length] at hkl
    (repeat' (first | ((with_reducible apply gL); (first | refine yL0 ?_ | refine yL ?_ | (refine yM ?_; intro _) | (refine yA ?_; intro _ _ _ _) | ((with_reducible apply gL_gd); (first | (refine JL_guard xR xR ?_ ?_ <;> intro _ <;> (try (exfalso; first | contradiction | omega))) | (refine JL_guardb xR xR ?_ ?_ <;> (intro hgb; subst hgb)) | (refine JL_guardb xR xR ?_ ?_ <;> (intro hgb; fail_if_success (have : type_of% hgb := rfl))) | fail)) | fail)) | refine yJ ?_ | ((with_reducible apply gJ_if); (first | (refine J_if xR ?_ ?_ <;> intro _ <;> (try (exfalso; first | contradiction | omega))) | (refine J_ifb xR ?_ ?_ <;> (intro hgb; subst hgb)) | (refine J_ifb xR ?_ ?_ <;> intro _) | fail)) | fail))
    refine J_retC1 (cs := [.int .i64 d1.origin, .slice d1.pa d1.path.length d1.pc, .int .u32 d1.next, .bool d1.hasMed, .int .u32 d1.med, .bool d1.hasLocal, .int .u32 d1.loc, .bool d1.atomic, .bool d1.hasMaker, .int .u32 d1.makerAS, .int .u32 d1.maker, .slice la (delU n d1.comms).length lc, .slice d1.oa d1.others.length d1.oc]) rfl (by rfl) (by rfl) xA (by rfl) fun w H => ⟨_, ⟨{ d1 with comms := delU n d1.comms, ca := la, cc := lc }, true, at_comms hd1 (fun z hz => hd1.num.comms z (List.mem_filter.1 hz).1) (Nat.le_trans hkl hcl) la lc, rfl, rfl, rfl⟩, ?_⟩
    exact (Ow.has (M := [has (fun w => PathV w d1.pa d1.pc d1.path), Ar 25 1 u32C (.slice la (delU n d1.comms).length lc) (delU n d1.comms), has (fun w => RawsV w d1.oa d1.oc d1.others)]) (φ := fun w => AtV w { d1 with comms := delU n d1.comms, ca := la, cc := lc }) H xZ (fun w hr => ⟨hr.has (φ := fun w => PathV w d1.pa d1.pc d1.path) .here, Src.ar (.there .here) w hr, hr.has (φ := fun w => RawsV w d1.oa d1.oc d1.others) (.there (.there .here))⟩)).sel xZ
theorem qdo_9 (d : At) (hd : AtF d) (n m : Int) (hn : 0 ≤ n ∧ n ≤ 4294967295) : Pact Try.prog 25 #[.int .i64 9, .int .i64 n, .int .i64 m, .agg (atC d).toArray] (fun w => AtV w d) [] (QDo (doN 9 n m d.nf)) := by
  refine pact Try.func25 rfl Try.ntmps25 rfl ?_
  intro W K hK
  (repeat' (first | ((with_reducible apply gL); (first | refine yL0 ?_ | refine yL ?_ | ((with_reducible apply gL_go); (first | (refine JL_goq (acopyO_s d hd _ _ _ rfl rfl rfl) (hφ := (by (try simp only [List.cons_append, List.nil_append]); exact fun w hr => hK w hr.1)) (h := ?_); rintro _ _ ⟨d1, hd1, hn1, rfl, rfl⟩; try simp only [List.cons_append, List.nil_append]) | fail)) | (refine yM ?_; intro _) | (refine yA ?_; intro _ _ _ _) | ((with_reducible apply gL_gd); (first | (refine JL_guard xR xR ?_ ?_ <;> intro _ <;> (try (exfalso; first | contradiction | omega))) | (refine JL_guardb xR xR ?_ ?_ <;> (intro hgb; subst hgb)) | (refine JL_guardb xR xR ?_ ?_ <;> (intro hgb; fail_if_success (have : type_of% hgb := rfl))) | fail)) | fail)) | refine yJ ?_ | ((with_reducible apply gJ_if); (first | (refine J_if xR ?_ ?_ <;> intro _ <;> (try (exfalso; first | contradiction | omega))) | (refine J_ifb xR ?_ ?_ <;> (intro hgb; subst hgb)) | (refine J_ifb xR ?_ ?_ <;> intro _) | fail)) | fail))
  have hcl := hd1.comms
  have e8 : doN 9 n m d.nf = some { d1.nf with comms := noU d1.comms } := by rw [← hn1]; rfl
  rw [e8]
  rename_i b7 b8 b0
  refine J_loop (α := Lq9) ⟨0, some ⟨b0, 0, none⟩, 0⟩ (fun x => d1.comms.length - x.k) (fun x => x.k ≤ d1.comms.length) (fun x => [(0, .int .i64 9), (1, .int .i64 n), (7, .pointer (some ⟨b7, 0, none⟩)), (8, .pointer (some ⟨b8, 0, none⟩)), (12, .slice x.a (noU (d1.comms.take x.k)).length x.c), (13, .int .i64 x.k)])
    (fun x => [pts b7 (atC d1) 33, pts b8 at0C 33, has (fun w => PathV w d1.pa d1.pc d1.path), Ar 25 1 u32C (.slice d1.ca d1.comms.length d1.cc) d1.comms, has (fun w => RawsV w d1.oa d1.oc d1.others), Ar 25 1 u32C (.slice x.a (noU (d1.comms.take x.k)).length x.c) (noU (d1.comms.take x.k))]) (Nat.zero_le _) ⟨rfl, rfl, rfl, rfl, rfl, rfl, trivial⟩ (fun w H => (Ow.arLit0 (sz := 1) (enc := u32C) H xA).sel (M := [pts b7 (atC d1) 33, pts b8 at0C 33, has (fun w => PathV w d1.pa d1.pc d1.path), Ar 25 1 u32C (.slice d1.ca d1.comms.length d1.cc) d1.comms, has (fun w => RawsV w d1.oa d1.oc d1.others), Ar 25 1 u32C (.slice (some ⟨b0, 0, none⟩) 0 0) []]) xZ) ?_
  rintro ⟨k, la, lc⟩ hk
  dsimp only at hk ⊢
  have hkl := noU_len (d1.comms.take k)
  have htl : (d1.comms.take k).length ≤ 1000 := by rw [List.length_take]; omega
  by_cases hlt : k < d1.comms.length
  · obtain ⟨x, hx⟩ : ∃ x, d1.comms[k]? = some x := ⟨_, List.getElem?_eq_getElem hlt⟩
    have hxu := hd1.num.comms x (List.mem_of_getElem? hx)
    unfold U32 at hxu
    (repeat' (first | ((with_reducible apply gL); (first | refine yL0 ?_ | refine yL ?_ | (refine yM ?_; intro _) | (refine yA ?_; intro _ _ _ _) | ((with_reducible apply gL_gd); (first | (refine JL_guard xR xR ?_ ?_ <;> intro _ <;> (try (exfalso; first | contradiction | omega))) | (refine JL_guardb xR xR ?_ ?_ <;> (intro hgb; subst hgb)) | (refine JL_guardb xR xR ?_ ?_ <;> (intro hgb; fail_if_success (have : type_of% hgb := rfl))) | fail)) | fail)) | refine yJ ?_ | ((with_reducible apply gJ_if); (first | (refine J_if xR ?_ ?_ <;> intro _ <;> (try (exfalso; first | contradiction | omega))) | (refine J_ifb xR ?_ ?_ <;> (intro hgb; subst hgb)) | (refine J_ifb xR ?_ ?_ <;> intro _) | fail)) | fail))
    all_goals (first | (exfalso; omega) | skip)
    exact J_again ⟨k + 1, la, lc⟩ (by dsimp only; omega) (by show k + 1 ≤ _; omega) ⟨rfl, rfl, rfl, rfl, rfl, rfl, trivial⟩ (fun w H => H.sel xZ)
  · have hke : k = d1.comms.length := by omega
    rw [hke, List.take_length]
    rw [hke, List.take_length] at hkl
    (repeat' (first | ((with_reducible apply gL); (first | refine yL0 ?_ | refine yL ?_ | (refine yM ?_; intro _) | (refine yA ?_; intro _ _ _ _) | ((with_reducible apply gL_gd); (first | (refine JL_guard xR xR ?_ ?_ <;> intro _ <;> (try (exfalso; first | contradiction | omega))) | (refine JL_guardb xR xR ?_ ?_ <;> (intro hgb; subst hgb)) | (refine JL_guardb xR xR ?_ ?_ <;> (intro hgb; fail_if_success (have : type_of% hgb := rfl))) | fail)) | fail)) | refine yJ ?_ | ((with_reducible apply gJ_if); (first | (refine J_if xR ?_ ?_ <;> intro _ <;> (try (exfalso; first | contradiction | omega))) | (refine J_ifb xR ?_ ?_ <;> (intro hgb; subst hgb)) | (refine J_ifb xR ?_ ?_ <;> intro _) | fail)) | fail))
    refine J_retC1 (cs := [.int .i64 d1.origin, .slice d1.pa d1.path.length d1.pc, .int .u32 d1.next, .bool d1.hasMed, .int .u32 d1.med, .bool d1.hasLocal, .int .u32 d1.loc, .bool d1.atomic, .bool d1.hasMaker, .int .u32 d1.makerAS, .int .u32 d1.maker, .slice la (noU d1.comms).length lc, .slice d1.oa d1.others.length d1.oc]) rfl (by rfl) (by rfl) xA (by rfl) fun w H => ⟨_, ⟨{ d1 with comms := noU d1.comms, ca := la, cc := lc }, true, at_comms hd1 (fun z hz => (by cases hz)) (Nat.le_trans hkl hcl) la lc, rfl, rfl, rfl⟩, ?_⟩
    exact (Ow.has (M := [has (fun w => PathV w d1.pa d1.pc d1.path), Ar 25 1 u32C (.slice la (noU d1.comms).length lc) (noU d1.comms), has (fun w => RawsV w d1.oa d1.oc d1.others)]) (φ := fun w => AtV w { d1 with comms := noU d1.comms, ca := la, cc := lc }) H xZ (fun w hr => ⟨hr.has (φ := fun w => PathV w d1.pa d1.pc d1.path) .here, Src.ar (.there .here) w hr, hr.has (φ := fun w => RawsV w d1.oa d1.oc d1.others) (.there (.there .here))⟩)).sel xZ
theorem qdo_s (op n m : Int) (ho : ActOk op n m) (h4 : 4 ≤ op) (d : At) (hd : AtF d) : Pact Try.prog 25 #[.int .i64 op, .int .i64 n, .int .i64 m, .agg (atC d).toArray] (fun w => AtV w d) [] (QDo (doN op n m d.nf)) := by
  unfold ActOk at ho
  have hop : op = 4 ∨ op = 5 ∨ op = 6 ∨ op = 7 ∨ op = 8 ∨ op = 9 := by omega
  rcases hop with rfl | rfl | rfl | rfl | rfl | rfl
  · exact qdo_prepend d hd n m (by omega) (by omega)
  · exact qdo_local d hd n m (by omega)
  · exact qdo_med d hd n m (by omega)
  · exact qdo_add d hd n m (by omega)
  · exact qdo_8 d hd n m (by omega)
  · exact qdo_9 d hd n m (by omega)
end Go.Proofs.Ytmbgbhambgoejaa.C
namespace Go.Proofs.Ytmbgbhambgoejaa.C
set_option linter.unusedSimpArgs false
set_option linter.unusedVariables false
set_option maxRecDepth 20000
set_option maxHeartbeats 4000000
open Go.RowKit Go.Pm

theorem Mk.mono {m : M3} {A : HP} {wb N N' : Nat} {F : Int → List Sp → List Sp} (h : Mk m A wb N F) (hN : N ≤ N') : Mk m A wb N' F := ⟨h.1, h.2.1, fun z a c T T2 h1 h2 h3 => h.2.2 z a c T T2 (by omega) h2 h3⟩
def two (A B : HP) : HP := sats [A, B]
theorem Mk.wideL {m : M3} {A B : HP} {wb N : Nat} {F : Int → List Sp → List Sp} (h : Mk m A wb N F) : Mk m (two A B) wb N F := ⟨h.1, h.2.1, fun z a c T T2 h1 h2 h3 => fun W K w hK H => by
  obtain ⟨_, H2⟩ := Ow.open (A := two A B) H .here (Bs := fun _ : Unit => [A, B]) (fun k h => ⟨(), h⟩)
  simp only [List.cons_append, List.nil_append] at H2
  refine (h.2.2 z a c T T2 h1 h2 h3).call H2 (L := [A, B, pts wb [.slice a T.length c] 60, Ar 63 7 spC (.slice a T.length c) T]) (R := [B]) xZ Kr.true ?_
  rintro v L' rfl w' H'
  exact ⟨v, _, rfl, rfl, (Ow.shut (A := two A B) (M := [A, B]) H' (by simp only [List.cons_append, List.nil_append]; (first | ((with_reducible (repeat (first | exact Sb.nil | apply Sb.cons | exact Tk.here | apply Tk.there))); done) | (repeat (first | exact Sb.nil | apply Sb.cons | exact Tk.here | apply Tk.there)))) (fun _ h => h)).sel xZ⟩⟩
theorem Mk.wideR {m : M3} {A B : HP} {wb N : Nat} {F : Int → List Sp → List Sp} (h : Mk m B wb N F) : Mk m (two A B) wb N F := ⟨h.1, h.2.1, fun z a c T T2 h1 h2 h3 => fun W K w hK H => by
  obtain ⟨_, H2⟩ := Ow.open (A := two A B) H .here (Bs := fun _ : Unit => [A, B]) (fun k h => ⟨(), h⟩)
  simp only [List.cons_append, List.nil_append] at H2
  refine (h.2.2 z a c T T2 h1 h2 h3).call H2 (L := [A, B, pts wb [.slice a T.length c] 60, Ar 63 7 spC (.slice a T.length c) T]) (R := [A]) xZ Kr.true ?_
  rintro v L' rfl w' H'
  exact ⟨v, _, rfl, rfl, (Ow.shut (A := two A B) (M := [A, B]) H' (by simp only [List.cons_append, List.nil_append]; (first | ((with_reducible (repeat (first | exact Sb.nil | apply Sb.cons | exact Tk.here | apply Tk.there))); done) | (repeat (first | exact Sb.nil | apply Sb.cons | exact Tk.here | apply Tk.there)))) (fun _ h => h)).sel xZ⟩⟩
def foldF (z : Int) : List (Int → List Sp → List Sp) → List Sp → List Sp
  | [], T => T
  | F :: r, T => foldF z r (F z T)
theorem foldF_append (z : Int) : ∀ (Fs Gs : List (Int → List Sp → List Sp)) (T : List Sp), foldF z (Fs ++ Gs) T = foldF z Gs (foldF z Fs T)
  | [], _, _ => rfl
  | F :: r, Gs, T => foldF_append z r Gs (F z T)
def Mks (A : HP) (wb N : Nat) (ms : List M3) (Fs : List (Int → List Sp → List Sp)) : Prop := ms.length = Fs.length ∧ ∀ (i : Nat) (m : M3) (F : Int → List Sp → List Sp), ms[i]? = some m → Fs[i]? = some F → Mk m A wb N F
theorem foldF_len (z : Int) : ∀ (Fs : List (Int → List Sp → List Sp)) (T : List Sp), (∀ F ∈ Fs, ∀ z T, (F z T).length = T.length) → (foldF z Fs T).length = T.length
  | [], _, _ => rfl
  | F :: r, T, h => by
    rw [foldF, foldF_len z r _ fun G hG => h G (List.mem_cons_of_mem _ hG), h F (by simp)]
def allA (A : HP) (lb : Nat) (oa : Option Addr) (oc : Nat) (ms : List M3) : HP := two A (two (pts lb [.slice oa ms.length oc] 120) (Ar 99 1 m3C (.slice oa ms.length oc) ms))
structure Lm where
  i : Nat
  T : List Sp
theorem allmark_s (A : HP) (wb N lb : Nat) (oa : Option Addr) (oc : Nat) (ms : List M3) (Fs : List (Int → List Sp → List Sp)) (hM : Mks A wb N ms Fs) (hl : ms.length ≤ 5) : Mk ⟨92, #[], #[.pointer (some ⟨lb, 0, none⟩)]⟩ (allA A lb oa oc ms) wb N (fun z => foldF z Fs) := by
  have hlen : ∀ F ∈ Fs, ∀ z T, (F z T).length = T.length := fun F hF => by
    obtain ⟨i, hi, rfl⟩ := List.mem_iff_getElem.1 hF
    exact (hM.2 i _ _ (List.getElem?_eq_getElem (by rw [hM.1]; exact hi)) (List.getElem?_eq_getElem hi)).2.1
  refine ⟨by show ownB Try.prog 92 = true; decide +kernel, fun z T => foldF_len z Fs T hlen, fun z a c T0 T9 hN hT h9 => ?_⟩
  have hT9 : T9.length = T0.length := by rw [← h9]; exact foldF_len z Fs T0 hlen
  refine pact Try.func92 rfl Try.ntmps92 rfl ?_
  intro W K _
  refine J_heap (L' := [A, pts lb [.slice oa ms.length oc] 120, Ar 99 1 m3C (.slice oa ms.length oc) ms, pts wb [.slice a T0.length c] 60, Ar 63 7 spC (.slice a T0.length c) T0]) (fun w H => ?_) ?_
  · obtain ⟨_, H2⟩ := Ow.open (A := allA A lb oa oc ms) H .here (Bs := fun _ : Unit => [A, two (pts lb [.slice oa ms.length oc] 120) (Ar 99 1 m3C (.slice oa ms.length oc) ms)]) (fun k h => ⟨(), h⟩)
    simp only [List.cons_append, List.nil_append] at H2
    obtain ⟨_, H3⟩ := Ow.open (A := two (pts lb [.slice oa ms.length oc] 120) (Ar 99 1 m3C (.slice oa ms.length oc) ms)) H2 xA (Bs := fun _ : Unit => [pts lb [.slice oa ms.length oc] 120, Ar 99 1 m3C (.slice oa ms.length oc) ms]) (fun k h => ⟨(), h⟩)
    exact H3.sel (by simp only [List.cons_append, List.nil_append]; (first | ((with_reducible (repeat (first | exact Sb.nil | apply Sb.cons | exact Tk.here | apply Tk.there))); done) | (repeat (first | exact Sb.nil | apply Sb.cons | exact Tk.here | apply Tk.there))))
  (repeat' (first | ((with_reducible apply gL); (first | refine yL0 ?_ | refine yL ?_ | fail)) | refine yJ ?_ | ((with_reducible apply gJ_if); (first | (refine J_if xR ?_ ?_ <;> intro _ <;> (try (exfalso; first | contradiction | omega))) | (refine J_ifb xR ?_ ?_ <;> (intro hgb; subst hgb)) | (refine J_ifb xR ?_ ?_ <;> intro _) | fail)) | fail))
  refine J_loop (α := Lm) ⟨0, T0⟩ (fun x => ms.length - x.i) (fun x => x.i ≤ ms.length ∧ x.T.length = T0.length ∧ foldF z (Fs.drop x.i) x.T = T9) (fun x => [(0, .int .i64 z), (5, .slice oa ms.length oc), (6, .int .i64 ms.length), (7, .int .i64 x.i)]) (fun x => [A, pts lb [.slice oa ms.length oc] 120, Ar 99 1 m3C (.slice oa ms.length oc) ms, pts wb [.slice a x.T.length c] 60, Ar 63 7 spC (.slice a x.T.length c) x.T]) ⟨Nat.zero_le _, rfl, h9⟩ ⟨rfl, rfl, rfl, rfl, trivial⟩ (fun w H => H.sel xZ) ?_
  rintro ⟨i, T⟩ ⟨hi, hTl, hf⟩
  dsimp only at hi hTl hf ⊢
  by_cases hlt : i < ms.length
  · obtain ⟨m, hs⟩ : ∃ m, ms[i]? = some m := ⟨_, List.getElem?_eq_getElem hlt⟩
    obtain ⟨F, hF⟩ : ∃ F, Fs[i]? = some F := ⟨_, List.getElem?_eq_getElem (by rw [← hM.1]; exact hlt)⟩
    have hMk := hM.2 i m F hs hF
    have ho := hMk.1
    obtain ⟨T2, h2⟩ : ∃ T2, F z T = T2 := ⟨_, rfl⟩
    have h2l : T2.length = T.length := by rw [← h2]; exact hMk.2.1 z T
    rw [drop_cons hF, foldF, h2] at hf
    (repeat' (first | ((with_reducible apply gL); (first | refine yL0 ?_ | refine yL ?_ | ((with_reducible apply gL_go); (first | (refine JL_goq (hMk.2.2 z a c T T2 (by omega) (by omega) h2) (hφ := xF) (h := ?_); rintro _ _ rfl; try simp only [List.cons_append, List.nil_append]) | fail)) | fail)) | refine yJ ?_ | ((with_reducible apply gJ_if); (first | (refine J_if xR ?_ ?_ <;> intro _ <;> (try (exfalso; first | contradiction | omega))) | (refine J_ifb xR ?_ ?_ <;> (intro hgb; subst hgb)) | (refine J_ifb xR ?_ ?_ <;> intro _) | fail)) | fail))
    exact J_again ⟨i + 1, T2⟩ (by dsimp only; omega) ⟨by dsimp only; omega, by dsimp only; omega, hf⟩ ⟨rfl, rfl, rfl, rfl, trivial⟩ (fun w H => H.sel xZ)
  · obtain rfl : i = ms.length := by omega
    rw [hM.1, List.drop_length, foldF] at hf
    subst hf
    (iterate 7 (first | ((with_reducible apply gL); (first | refine yL0 ?_ | refine yL ?_ | fail)) | refine yJ ?_ | ((with_reducible apply gJ_if); (first | (refine J_if xR ?_ ?_ <;> intro _ <;> (try (exfalso; first | contradiction | omega))) | (refine J_ifb xR ?_ ?_ <;> (intro hgb; subst hgb)) | (refine J_ifb xR ?_ ?_ <;> intro _) | fail)) | fail))
    refine J_end0 rfl fun w H => ⟨_, rfl, ?_⟩
    refine Ow.sel (Ow.shut (A := allA A lb oa oc ms) (M := [A, two (pts lb [.slice oa ms.length oc] 120) (Ar 99 1 m3C (.slice oa ms.length oc) ms)]) (Ow.shut (A := two (pts lb [.slice oa ms.length oc] 120) (Ar 99 1 m3C (.slice oa ms.length oc) ms)) (M := [pts lb [.slice oa ms.length oc] 120, Ar 99 1 m3C (.slice oa ms.length oc) ms]) H xZ (fun _ h => h)) xZ (fun _ h => h)) xZ
theorem all_s (oa : Option Addr) (n oc : Nat) : Pact Try.prog 85 #[.slice oa n oc] (fun _ => True) [] (fun u L' => ∃ lb, u = .func (.func 92) #[] #[.pointer (some ⟨lb, 0, none⟩)] ∧ L' = [pts lb [.slice oa n oc] 120]) := by
  refine pact Try.func85 rfl Try.ntmps85 rfl ?_
  intro W K _
  (repeat' (first | ((with_reducible apply gL); (first | refine yL0 ?_ | refine yL ?_ | (refine yM ?_; intro _) | fail)) | refine yJ ?_ | fail))
  exact J_ret1 rfl (by rfl) fun w H => ⟨_, ⟨_, rfl, rfl⟩, H.sel xZ⟩
end Go.Proofs.Ytmbgbhambgoejaa.C
