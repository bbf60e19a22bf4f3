/-
  Ru20, Ru21, Vd3: merged.
-/
import Derived.Test.YtdnokmpnemaoaaaGreatZViewChooses42
namespace Go.Proofs.YtdnokmpnemaoaaaGreat.C
set_option linter.unusedSimpArgs false
set_option linter.unusedVariables false
set_option maxRecDepth 20000
set_option maxHeartbeats 4000000
open Go.RowKit Go.Pm

def QDo (r : Option Nf) (u : Value) (L' : List HP) : Prop := ∃ (d' : At) (ok : Bool), AtF d' ∧ u = .tuple #[.agg (atC d').toArray, .bool ok] ∧ r = (if ok = true then some d'.nf else none) ∧ L' = [has (fun w => AtV w d')]
abbrev at0C : List Value := [.int .i64 0, .slice none 0 0, .int .u32 0, .bool false, .int .u32 0, .bool false, .int .u32 0, .bool false, .bool false, .int .u32 0, .int .u32 0, .slice none 0 0, .slice none 0 0]
theorem qdo_no {W : World} {K : Hl} {L : List HP} {w : World} (H : Ow W K L w) : ∃ L', QDo none (.tuple #[.agg at0C.toArray, .bool false]) L' ∧ Ow W K L' w :=
  ⟨_, ⟨at0, false, at0_f, rfl, rfl, rfl⟩, (Ow.hasTrue (φ := fun w => AtV w at0) H at0_v).sel xZ⟩
theorem at_has {W : World} {K : Hl} {L M1 M2 M3 : List HP} {w : World} {d : At} (H : Ow W K L w) (h1 : Tk L (has (fun w => PathV w d.pa d.pc d.path)) M1) (h2 : Tk M1 (Ar 22 1 u32C (.slice d.ca d.comms.length d.cc) d.comms) M2) (h3 : Tk M2 (has (fun w => RawsV w d.oa d.oc d.others)) M3) : Ow W K (has (fun w => AtV w d) :: M3) w :=
  Ow.has (M := [has (fun w => PathV w d.pa d.pc d.path), Ar 22 1 u32C (.slice d.ca d.comms.length d.cc) d.comms, has (fun w => RawsV w d.oa d.oc d.others)]) H (.cons h1 (.cons h2 (.cons h3 .nil))) (fun w hr => ⟨hr.has (φ := fun w => PathV w d.pa d.pc d.path) .here, Src.ar (.there .here) w hr, hr.has (φ := fun w => RawsV w d.oa d.oc d.others) (.there (.there .here))⟩)
theorem qdo_local (d : At) (hd : AtF d) (n m : Int) (hn : 0 ≤ n ∧ n ≤ 4294967295) : Pact Tryz.prog 60 #[.int .i64 5, .int .i64 n, .int .i64 m, .agg (atC d).toArray] (fun w => AtV w d) [] (QDo (doN 5 n m d.nf)) := by
  refine pact Tryz.func60 rfl Tryz.ntmps60 rfl ?_
  intro W K hK
  (repeat' (first | (refine gL ?_; first | refine yL0 ?_ | refine yL ?_ | (refine gL_go ?_; (refine JL_goq (acopyO_s d hd _ _ _ rfl rfl rfl) (hφ := (by (try simp only [cAp, nAp]); exact fun w hr => hK w hr.1)) (h := ?_); rintro _ _ ⟨d1, hd1, hn1, rfl, rfl⟩; try simp only [cAp, nAp])) | (refine yM ?_; intro _) | (refine yA ?_; intro _ _ _ _)) | refine yJ ?_ | (refine yI ?_ ?_ <;> intro _ <;> try exact xX) | (refine yK ?_ ?_ <;> intro hgb <;> first | subst hgb | fail_if_success have : type_of% hgb := rfl) | fail))
  refine J_retC1 (cs := [.int .i64 d1.origin, .slice d1.pa d1.path.length d1.pc, .int .u32 d1.next, .bool d1.hasMed, .int .u32 d1.med, .bool true, .int .u32 n, .bool d1.atomic, .bool d1.hasMaker, .int .u32 d1.makerAS, .int .u32 d1.maker, .slice d1.ca d1.comms.length d1.cc, .slice d1.oa d1.others.length d1.oc]) rfl (by rfl) (by rfl) xA (by rfl) fun w H => ⟨_, ⟨{ d1 with hasLocal := true, loc := n }, true, ⟨⟨hd1.num.origin, hd1.num.next, hd1.num.med, hn, hd1.num.makerAS, hd1.num.maker, hd1.num.path, hd1.num.comms, hd1.num.others⟩, hd1.path, hd1.comms, hd1.others⟩, rfl, by rw [← hn1]; rfl, rfl⟩, ?_⟩
  exact (at_has (d := { d1 with hasLocal := true, loc := n }) H xA xA xA).sel xZ
theorem qdo_med (d : At) (hd : AtF d) (n m : Int) (hn : 0 ≤ n ∧ n ≤ 4294967295) : Pact Tryz.prog 60 #[.int .i64 6, .int .i64 n, .int .i64 m, .agg (atC d).toArray] (fun w => AtV w d) [] (QDo (doN 6 n m d.nf)) := by
  refine pact Tryz.func60 rfl Tryz.ntmps60 rfl ?_
  intro W K hK
  (repeat' (first | (refine gL ?_; first | refine yL0 ?_ | refine yL ?_ | (refine gL_go ?_; (refine JL_goq (acopyO_s d hd _ _ _ rfl rfl rfl) (hφ := (by (try simp only [cAp, nAp]); exact fun w hr => hK w hr.1)) (h := ?_); rintro _ _ ⟨d1, hd1, hn1, rfl, rfl⟩; try simp only [cAp, nAp])) | (refine yM ?_; intro _) | (refine yA ?_; intro _ _ _ _)) | refine yJ ?_ | (refine yI ?_ ?_ <;> intro _ <;> try exact xX) | (refine yK ?_ ?_ <;> intro hgb <;> first | subst hgb | fail_if_success have : type_of% hgb := rfl) | fail))
  refine J_retC1 (cs := [.int .i64 d1.origin, .slice d1.pa d1.path.length d1.pc, .int .u32 d1.next, .bool true, .int .u32 n, .bool d1.hasLocal, .int .u32 d1.loc, .bool d1.atomic, .bool d1.hasMaker, .int .u32 d1.makerAS, .int .u32 d1.maker, .slice d1.ca d1.comms.length d1.cc, .slice d1.oa d1.others.length d1.oc]) rfl (by rfl) (by rfl) xA (by rfl) fun w H => ⟨_, ⟨{ d1 with hasMed := true, med := n }, true, ⟨⟨hd1.num.origin, hd1.num.next, hn, hd1.num.loc, hd1.num.makerAS, hd1.num.maker, hd1.num.path, hd1.num.comms, hd1.num.others⟩, hd1.path, hd1.comms, hd1.others⟩, rfl, by rw [← hn1]; rfl, rfl⟩, ?_⟩
  exact (at_has (d := { d1 with hasMed := true, med := n }) H xA xA xA).sel xZ
theorem qdo_prepend (d : At) (hd : AtF d) (n m : Int) (hn : 1 ≤ n ∧ n ≤ 4294967295) (hm : 1 ≤ m ∧ m ≤ 10) : Pact Tryz.prog 60 #[.int .i64 4, .int .i64 n, .int .i64 m, .agg (atC d).toArray] (fun w => AtV w d) [] (QDo (doN 4 n m d.nf)) := by
  refine pact Tryz.func60 rfl Tryz.ntmps60 rfl ?_
  intro W K hK
  (repeat' (first | (refine gL ?_; first | refine yL0 ?_ | refine yL ?_ | (refine gL_go ?_; (refine JL_goq (acopyO_s d hd _ _ _ rfl rfl rfl) (hφ := (by (try simp only [cAp, nAp]); exact fun w hr => hK w hr.1)) (h := ?_); rintro _ _ ⟨d1, hd1, hn1, rfl, rfl⟩; try simp only [cAp, nAp])) | (refine yM ?_; intro _) | (refine yA ?_; intro _ _ _ _)) | refine yJ ?_ | (refine yI ?_ ?_ <;> intro _ <;> try exact xX) | (refine yK ?_ ?_ <;> intro hgb <;> first | subst hgb | fail_if_success have : type_of% hgb := rfl) | fail))
  have hpl := hd1.path
  have e4 : doN 4 n m d.nf = if ckP (pN d1.path) 0 = true ∧ m ≤ 64 - (tot (pN d1.path) : Int) then some { d1.nf with path := preN n m.toNat (pN d1.path) } else none := by rw [← hn1]; rfl
  by_cases hok : ckP (pN d1.path) 0 = true ∧ m ≤ 64 - (tot (pN d1.path) : Int)
  · rw [if_pos hok] at e4
    rw [e4]
    obtain ⟨k, hmm⟩ : ∃ k : Nat, m = k := ⟨m.toNat, by omega⟩
    subst hmm
    have hP := rprepend_yes d1.pa d1.pc d1.path n k (by omega) hd1.num.path hn (by omega) hok.1 (by omega)
    rw [show (k : Int).toNat = k by omega]
    (repeat' (first | (refine gL ?_; first | refine yL0 ?_ | refine yL ?_ | (refine gL_go ?_; (refine JL_goq (hP) (hφ := (by (try simp only [cAp, nAp]); exact fun w hr => hr.has (φ := fun w => PathV w d1.pa d1.pc d1.path) xA)) (h := ?_); rintro _ _ ⟨a', c', q, rfl, hq, rfl⟩; try simp only [cAp, nAp])) | (refine yM ?_; intro _) | (refine yA ?_; intro _ _ _ _)) | refine yJ ?_ | (refine yI ?_ ?_ <;> intro _ <;> try exact xX) | (refine yK ?_ ?_ <;> intro hgb <;> first | subst hgb | fail_if_success have : type_of% hgb := rfl) | fail))
    all_goals (first | (exfalso; omega) | skip)
    obtain ⟨hq1, hq2⟩ := pre_sg (by omega) (by omega) hok.1 hd1.num.path hq
    refine J_retC1 (cs := [.int .i64 d1.origin, .slice a' q.length c', .int .u32 d1.next, .bool d1.hasMed, .int .u32 d1.med, .bool d1.hasLocal, .int .u32 d1.loc, .bool d1.atomic, .bool d1.hasMaker, .int .u32 d1.makerAS, .int .u32 d1.maker, .slice d1.ca d1.comms.length d1.cc, .slice d1.oa d1.others.length d1.oc]) rfl (by rfl) (by rfl) xA (by rfl) fun w H => ⟨_, ⟨{ d1 with path := q, pa := a', pc := c' }, true, ⟨⟨hd1.num.origin, hd1.num.next, hd1.num.med, hd1.num.loc, hd1.num.makerAS, hd1.num.maker, hq2, hd1.num.comms, hd1.num.others⟩, hq1, hd1.comms, hd1.others⟩, rfl, ?_, rfl⟩, ?_⟩
    · rw [← hq]; rfl
    · exact (at_has (d := { d1 with path := q, pa := a', pc := c' }) H xA xA xA).sel xZ
  · rw [if_neg hok] at e4
    rw [e4]
    have hP := rprepend_no d1.pa d1.pc d1.path n m (by omega) hd1.num.path hn hm hok
    (repeat' (first | (refine gL ?_; first | refine yL0 ?_ | refine yL ?_ | (refine gL_go ?_; (refine JL_goq (hP) (hφ := (by (try simp only [cAp, nAp]); exact fun w hr => hr.has (φ := fun w => PathV w d1.pa d1.pc d1.path) xA)) (h := ?_); rintro _ _ ⟨e, he, rfl, rfl⟩; try simp only [cAp, nAp])) | (refine yM ?_; intro _) | (refine yA ?_; intro _ _ _ _)) | refine yJ ?_ | (refine yI ?_ ?_ <;> intro _ <;> try exact xX) | (refine yK ?_ ?_ <;> intro hgb <;> first | subst hgb | fail_if_success have : type_of% hgb := rfl) | fail))
    all_goals (first | (exfalso; omega) | skip)
    exact J_retC1 (cs := at0C) rfl (by rfl) (by rfl) xA (by rfl) fun w H => qdo_no H

theorem qdo_add (d : At) (hd : AtF d) (n m : Int) (hn : 0 ≤ n ∧ n ≤ 4294967295) : Pact Tryz.prog 60 #[.int .i64 7, .int .i64 n, .int .i64 m, .agg (atC d).toArray] (fun w => AtV w d) [] (QDo (doN 7 n m d.nf)) := by
  refine pact Tryz.func60 rfl Tryz.ntmps60 rfl ?_
  intro W K hK
  (repeat' (first | (refine gL ?_; first | refine yL0 ?_ | refine yL ?_ | (refine gL_go ?_; (refine JL_goq (acopyO_s d hd _ _ _ rfl rfl rfl) (hφ := (by (try simp only [cAp, nAp]); exact fun w hr => hK w hr.1)) (h := ?_); rintro _ _ ⟨d1, hd1, hn1, rfl, rfl⟩; try simp only [cAp, nAp])) | (refine yM ?_; intro _) | (refine yA ?_; intro _ _ _ _)) | refine yJ ?_ | (refine yI ?_ ?_ <;> intro _ <;> try exact xX) | (refine yK ?_ ?_ <;> intro hgb <;> first | subst hgb | fail_if_success have : type_of% hgb := rfl) | fail))
  have hcl := hd1.comms
  have e7 : doN 7 n m d.nf = if n ∈ d1.comms then some d1.nf else if 32 ≤ d1.comms.length then none else some { d1.nf with comms := d1.comms ++ [n] } := by rw [← hn1]; rfl
  have hM := qmarked_s d1 hd1 n
  by_cases hin : n ∈ d1.comms
  · rw [decide_eq_true hin] at hM
    rw [if_pos hin] at e7
    rw [e7]
    (repeat' (first | (refine gL ?_; first | refine yL0 ?_ | refine yL ?_ | (refine gL_go ?_; (refine JL_goq (hM) (hφ := (by (try simp only [cAp, nAp]); exact fun w hr => ⟨hr.has (φ := fun w => PathV w d1.pa d1.pc d1.path) xA, Src.ar xA w hr, hr.has (φ := fun w => RawsV w d1.oa d1.oc d1.others) xA⟩)) (h := ?_); rintro _ _ ⟨rfl, rfl⟩; try simp only [cAp, nAp])) | (refine yM ?_; intro _) | (refine yA ?_; intro _ _ _ _)) | refine yJ ?_ | (refine yI ?_ ?_ <;> intro _ <;> try exact xX) | (refine yK ?_ ?_ <;> intro hgb <;> first | subst hgb | fail_if_success have : type_of% hgb := rfl) | fail))
    exact J_retC1 (cs := atC d1) rfl (by rfl) (by rfl) xA (by rfl) fun w H => ⟨_, ⟨d1, true, hd1, rfl, rfl, rfl⟩, (at_has (d := d1) H xA xA xA).sel xZ⟩
  · rw [decide_eq_false hin] at hM
    rw [if_neg hin] at e7
    by_cases h32 : 32 ≤ d1.comms.length
    · rw [if_pos h32] at e7
      rw [e7]
      (repeat' (first | (refine gL ?_; first | refine yL0 ?_ | refine yL ?_ | (refine gL_go ?_; (refine JL_goq (hM) (hφ := (by (try simp only [cAp, nAp]); exact fun w hr => ⟨hr.has (φ := fun w => PathV w d1.pa d1.pc d1.path) xA, Src.ar xA w hr, hr.has (φ := fun w => RawsV w d1.oa d1.oc d1.others) xA⟩)) (h := ?_); rintro _ _ ⟨rfl, rfl⟩; try simp only [cAp, nAp])) | (refine yM ?_; intro _) | (refine yA ?_; intro _ _ _ _)) | refine yJ ?_ | (refine yI ?_ ?_ <;> intro _ <;> try exact xX) | (refine yK ?_ ?_ <;> intro hgb <;> first | subst hgb | fail_if_success have : type_of% hgb := rfl) | fail))
      all_goals (first | (exfalso; omega) | skip)
      exact J_retC1 (cs := at0C) rfl (by rfl) (by rfl) xA (by rfl) fun w H => qdo_no H
    · rw [if_neg h32] at e7
      rw [e7]
      have hll : (d1.comms ++ [n]).length = d1.comms.length + 1 := by simp
      (repeat' (first | (refine gL ?_; first | refine yL0 ?_ | (refine gL_c_append ?_; (refine JL_ap1 (z := n) (tabE etab_ok xR) xR xR xA xA xC xR xL xR (by omega) xR xR ?_; intro ad4 c4 _ _)) | refine yL ?_ | (refine gL_go ?_; (refine JL_goq (hM) (hφ := (by (try simp only [cAp, nAp]); exact fun w hr => ⟨hr.has (φ := fun w => PathV w d1.pa d1.pc d1.path) xA, Src.ar xA w hr, hr.has (φ := fun w => RawsV w d1.oa d1.oc d1.others) xA⟩)) (h := ?_); rintro _ _ ⟨rfl, rfl⟩; try simp only [cAp, nAp])) | (refine yM ?_; intro _) | (refine yA ?_; intro _ _ _ _)) | refine yJ ?_ | (refine yI ?_ ?_ <;> intro _ <;> try exact xX) | (refine yK ?_ ?_ <;> intro hgb <;> first | subst hgb | fail_if_success have : type_of% hgb := rfl) | fail))
      all_goals (first | (exfalso; omega) | skip)
      refine J_retC1 (cs := [.int .i64 d1.origin, .slice d1.pa d1.path.length d1.pc, .int .u32 d1.next, .bool d1.hasMed, .int .u32 d1.med, .bool d1.hasLocal, .int .u32 d1.loc, .bool d1.atomic, .bool d1.hasMaker, .int .u32 d1.makerAS, .int .u32 d1.maker, .slice ad4 (d1.comms.length + 1) c4, .slice d1.oa d1.others.length d1.oc]) rfl (by rfl) (by rfl) xA (by rfl) fun w H => ⟨_, ⟨{ d1 with comms := d1.comms ++ [n], ca := ad4, cc := c4 }, true, at_comms hd1 (fun z hz => ?_) (by rw [hll]; omega) ad4 c4, ?_, rfl, rfl⟩, ?_⟩
      · rcases List.mem_append.1 hz with hz | hz
        · exact hd1.num.comms z hz
        · obtain rfl := List.mem_singleton.1 hz; exact hn
      · rw [← hll]; rfl
      · rw [← hll] at H
        exact (at_has (d := { d1 with comms := d1.comms ++ [n], ca := ad4, cc := c4 }) H xA xA xA).sel xZ
structure Lq9 where
  k : Nat
  a : Option Addr
  c : Nat
def noU (_ : List Int) : List Int := []
theorem noU_len (l : List Int) : (noU l).length ≤ l.length := by simp [noU]
theorem qdo_8 (d : At) (hd : AtF d) (n m : Int) (hn : 0 ≤ n ∧ n ≤ 4294967295) : Pact Tryz.prog 60 #[.int .i64 8, .int .i64 n, .int .i64 m, .agg (atC d).toArray] (fun w => AtV w d) [] (QDo (doN 8 n m d.nf)) := by
  refine pact Tryz.func60 rfl Tryz.ntmps60 rfl ?_
  intro W K hK
  (repeat' (first | (refine gL ?_; first | refine yL0 ?_ | refine yL ?_ | (refine gL_go ?_; (refine JL_goq (acopyO_s d hd _ _ _ rfl rfl rfl) (hφ := (by (try simp only [cAp, nAp]); exact fun w hr => hK w hr.1)) (h := ?_); rintro _ _ ⟨d1, hd1, hn1, rfl, rfl⟩; try simp only [cAp, nAp])) | (refine yM ?_; intro _) | (refine yA ?_; intro _ _ _ _)) | refine yJ ?_ | (refine yI ?_ ?_ <;> intro _ <;> try exact xX) | (refine yK ?_ ?_ <;> intro hgb <;> first | subst hgb | fail_if_success have : type_of% hgb := rfl) | fail))
  have hcl := hd1.comms
  have e8 : doN 8 n m d.nf = some { d1.nf with comms := delU n d1.comms } := by rw [← hn1]; rfl
  rw [e8]
  rename_i b7 b8 b0
  refine J_loop (α := Lq9) ⟨0, some ⟨b0, 0, none⟩, 0⟩ (fun x => d1.comms.length - x.k) (fun x => x.k ≤ d1.comms.length) (fun x => [(0, .int .i64 8), (1, .int .i64 n), (7, .pointer (some ⟨b7, 0, none⟩)), (8, .pointer (some ⟨b8, 0, none⟩)), (12, .slice x.a (delU n (d1.comms.take x.k)).length x.c), (13, .int .i64 x.k)])
    (fun x => [pts b7 (atC d1) 35, pts b8 at0C 35, has (fun w => PathV w d1.pa d1.pc d1.path), Ar 22 1 u32C (.slice d1.ca d1.comms.length d1.cc) d1.comms, has (fun w => RawsV w d1.oa d1.oc d1.others), Ar 22 1 u32C (.slice x.a (delU n (d1.comms.take x.k)).length x.c) (delU n (d1.comms.take x.k))]) (Nat.zero_le _) ⟨rfl, rfl, rfl, rfl, rfl, rfl, trivial⟩ (fun w H => (Ow.arLit0 (sz := 1) (enc := u32C) H xA).sel (M := [pts b7 (atC d1) 35, pts b8 at0C 35, has (fun w => PathV w d1.pa d1.pc d1.path), Ar 22 1 u32C (.slice d1.ca d1.comms.length d1.cc) d1.comms, has (fun w => RawsV w d1.oa d1.oc d1.others), Ar 22 1 u32C (.slice (some ⟨b0, 0, none⟩) 0 0) []]) xZ) ?_
  rintro ⟨k, la, lc⟩ hk
  dsimp only at hk ⊢
  have hkl := delU_len n (d1.comms.take k)
  have htl : (d1.comms.take k).length ≤ 1000 := by rw [List.length_take]; omega
  by_cases hlt : k < d1.comms.length
  · obtain ⟨x, hx⟩ : ∃ x, d1.comms[k]? = some x := ⟨_, List.getElem?_eq_getElem hlt⟩
    have hxu := hd1.num.comms x (List.mem_of_getElem? hx)
    unfold U32 at hxu
    have hke := delU_snoc n hx
    by_cases hxn : x = n
    · rw [if_pos hxn, List.append_nil] at hke
      (repeat' (first | (refine gL ?_; first | refine yL0 ?_ | refine yL ?_ | (refine yM ?_; intro _) | (refine yA ?_; intro _ _ _ _)) | refine yJ ?_ | (refine yI ?_ ?_ <;> intro _ <;> try exact xX) | (refine yK ?_ ?_ <;> intro hgb <;> first | subst hgb | fail_if_success have : type_of% hgb := rfl) | fail))
      all_goals (first | (exfalso; omega) | skip)
      refine J_again ⟨k + 1, la, lc⟩ (by dsimp only; omega) (by show k + 1 ≤ _; omega) ⟨rfl, rfl, rfl, rfl, ?_, rfl, trivial⟩ (fun w H => ?_)
      · show some _ = some _
        rw [hke]
      · dsimp only
        rw [hke]
        exact H.sel xZ
    · rw [if_neg hxn] at hke
      (repeat' (first | (refine gL ?_; first | refine yL0 ?_ | (refine gL_c_append ?_; (refine JL_ap1 (z := x) (tabE etab_ok xR) xR xR (show Tk _ (Ar 22 1 u32C (.slice la (delU n (d1.comms.take k)).length lc) (delU n (d1.comms.take k))) _ by (first | ((with_reducible (repeat (first | exact Tk.here | apply Tk.there))); done) | ((simp only [List.cons_append, List.nil_append]); (with_reducible (repeat (first | exact Tk.here | apply Tk.there))); done) | fail)) xA xC xR xL xR (by omega) xR xR ?_; intro ad4 c4 _ _)) | refine yL ?_ | (refine yM ?_; intro _) | (refine yA ?_; intro _ _ _ _)) | refine yJ ?_ | (refine yI ?_ ?_ <;> intro _ <;> try exact xX) | (refine yK ?_ ?_ <;> intro hgb <;> first | subst hgb | fail_if_success have : type_of% hgb := rfl) | fail))
      all_goals (first | (exfalso; omega) | skip)
      have hll : (delU n (d1.comms.take (k + 1))).length = (delU n (d1.comms.take k)).length + 1 := by rw [hke]; simp
      refine J_again ⟨k + 1, ad4, c4⟩ (by dsimp only; omega) (by show k + 1 ≤ _; omega) ⟨rfl, rfl, rfl, rfl, ?_, rfl, trivial⟩ (fun w H => ?_)
      · show some (Value.slice ad4 ((delU n (d1.comms.take k)).length + 1) c4) = some (Value.slice ad4 (delU n (d1.comms.take (k + 1))).length c4)
        rw [hll]
      · dsimp only
        rw [hll, hke]
        exact H.sel xZ
  · have hke : k = d1.comms.length := by omega
    rw [hke, List.take_length]
    rw [hke, List.take_length] at hkl
    (repeat' (first | (refine gL ?_; first | refine yL0 ?_ | refine yL ?_ | (refine yM ?_; intro _) | (refine yA ?_; intro _ _ _ _)) | refine yJ ?_ | (refine yI ?_ ?_ <;> intro _ <;> try exact xX) | (refine yK ?_ ?_ <;> intro hgb <;> first | subst hgb | fail_if_success have : type_of% hgb := rfl) | fail))
    refine J_retC1 (cs := [.int .i64 d1.origin, .slice d1.pa d1.path.length d1.pc, .int .u32 d1.next, .bool d1.hasMed, .int .u32 d1.med, .bool d1.hasLocal, .int .u32 d1.loc, .bool d1.atomic, .bool d1.hasMaker, .int .u32 d1.makerAS, .int .u32 d1.maker, .slice la (delU n d1.comms).length lc, .slice d1.oa d1.others.length d1.oc]) rfl (by rfl) (by rfl) xA (by rfl) fun w H => ⟨_, ⟨{ d1 with comms := delU n d1.comms, ca := la, cc := lc }, true, at_comms hd1 (fun z hz => hd1.num.comms z (List.mem_filter.1 hz).1) (Nat.le_trans hkl hcl) la lc, rfl, rfl, rfl⟩, ?_⟩
    exact (Ow.has (M := [has (fun w => PathV w d1.pa d1.pc d1.path), Ar 22 1 u32C (.slice la (delU n d1.comms).length lc) (delU n d1.comms), has (fun w => RawsV w d1.oa d1.oc d1.others)]) (φ := fun w => AtV w { d1 with comms := delU n d1.comms, ca := la, cc := lc }) H xZ (fun w hr => ⟨hr.has (φ := fun w => PathV w d1.pa d1.pc d1.path) .here, Src.ar (.there .here) w hr, hr.has (φ := fun w => RawsV w d1.oa d1.oc d1.others) (.there (.there .here))⟩)).sel xZ
theorem qdo_9 (d : At) (hd : AtF d) (n m : Int) (hn : 0 ≤ n ∧ n ≤ 4294967295) : Pact Tryz.prog 60 #[.int .i64 9, .int .i64 n, .int .i64 m, .agg (atC d).toArray] (fun w => AtV w d) [] (QDo (doN 9 n m d.nf)) := by
  refine pact Tryz.func60 rfl Tryz.ntmps60 rfl ?_
  intro W K hK
  (repeat' (first | (refine gL ?_; first | refine yL0 ?_ | refine yL ?_ | (refine gL_go ?_; (refine JL_goq (acopyO_s d hd _ _ _ rfl rfl rfl) (hφ := (by (try simp only [cAp, nAp]); exact fun w hr => hK w hr.1)) (h := ?_); rintro _ _ ⟨d1, hd1, hn1, rfl, rfl⟩; try simp only [cAp, nAp])) | (refine yM ?_; intro _) | (refine yA ?_; intro _ _ _ _)) | refine yJ ?_ | (refine yI ?_ ?_ <;> intro _ <;> try exact xX) | (refine yK ?_ ?_ <;> intro hgb <;> first | subst hgb | fail_if_success have : type_of% hgb := rfl) | fail))
  have hcl := hd1.comms
  have e8 : doN 9 n m d.nf = some { d1.nf with comms := noU d1.comms } := by rw [← hn1]; rfl
  rw [e8]
  rename_i b7 b8 b0
  refine J_loop (α := Lq9) ⟨0, some ⟨b0, 0, none⟩, 0⟩ (fun x => d1.comms.length - x.k) (fun x => x.k ≤ d1.comms.length) (fun x => [(0, .int .i64 9), (1, .int .i64 n), (7, .pointer (some ⟨b7, 0, none⟩)), (8, .pointer (some ⟨b8, 0, none⟩)), (12, .slice x.a (noU (d1.comms.take x.k)).length x.c), (13, .int .i64 x.k)])
    (fun x => [pts b7 (atC d1) 35, pts b8 at0C 35, has (fun w => PathV w d1.pa d1.pc d1.path), Ar 22 1 u32C (.slice d1.ca d1.comms.length d1.cc) d1.comms, has (fun w => RawsV w d1.oa d1.oc d1.others), Ar 22 1 u32C (.slice x.a (noU (d1.comms.take x.k)).length x.c) (noU (d1.comms.take x.k))]) (Nat.zero_le _) ⟨rfl, rfl, rfl, rfl, rfl, rfl, trivial⟩ (fun w H => (Ow.arLit0 (sz := 1) (enc := u32C) H xA).sel (M := [pts b7 (atC d1) 35, pts b8 at0C 35, has (fun w => PathV w d1.pa d1.pc d1.path), Ar 22 1 u32C (.slice d1.ca d1.comms.length d1.cc) d1.comms, has (fun w => RawsV w d1.oa d1.oc d1.others), Ar 22 1 u32C (.slice (some ⟨b0, 0, none⟩) 0 0) []]) xZ) ?_
  rintro ⟨k, la, lc⟩ hk
  dsimp only at hk ⊢
  have hkl := noU_len (d1.comms.take k)
  have htl : (d1.comms.take k).length ≤ 1000 := by rw [List.length_take]; omega
  by_cases hlt : k < d1.comms.length
  · obtain ⟨x, hx⟩ : ∃ x, d1.comms[k]? = some x := ⟨_, List.getElem?_eq_getElem hlt⟩
    have hxu := hd1.num.comms x (List.mem_of_getElem? hx)
    unfold U32 at hxu
    (repeat' (first | (refine gL ?_; first | refine yL0 ?_ | refine yL ?_ | (refine yM ?_; intro _) | (refine yA ?_; intro _ _ _ _)) | refine yJ ?_ | (refine yI ?_ ?_ <;> intro _ <;> try exact xX) | (refine yK ?_ ?_ <;> intro hgb <;> first | subst hgb | fail_if_success have : type_of% hgb := rfl) | fail))
    all_goals (first | (exfalso; omega) | skip)
    exact J_again ⟨k + 1, la, lc⟩ (by dsimp only; omega) (by show k + 1 ≤ _; omega) ⟨rfl, rfl, rfl, rfl, rfl, rfl, trivial⟩ (fun w H => H.sel xZ)
  · have hke : k = d1.comms.length := by omega
    rw [hke, List.take_length]
    rw [hke, List.take_length] at hkl
    (repeat' (first | (refine gL ?_; first | refine yL0 ?_ | refine yL ?_ | (refine yM ?_; intro _) | (refine yA ?_; intro _ _ _ _)) | refine yJ ?_ | (refine yI ?_ ?_ <;> intro _ <;> try exact xX) | (refine yK ?_ ?_ <;> intro hgb <;> first | subst hgb | fail_if_success have : type_of% hgb := rfl) | fail))
    refine J_retC1 (cs := [.int .i64 d1.origin, .slice d1.pa d1.path.length d1.pc, .int .u32 d1.next, .bool d1.hasMed, .int .u32 d1.med, .bool d1.hasLocal, .int .u32 d1.loc, .bool d1.atomic, .bool d1.hasMaker, .int .u32 d1.makerAS, .int .u32 d1.maker, .slice la (noU d1.comms).length lc, .slice d1.oa d1.others.length d1.oc]) rfl (by rfl) (by rfl) xA (by rfl) fun w H => ⟨_, ⟨{ d1 with comms := noU d1.comms, ca := la, cc := lc }, true, at_comms hd1 (fun z hz => (by cases hz)) (Nat.le_trans hkl hcl) la lc, rfl, rfl, rfl⟩, ?_⟩
    exact (Ow.has (M := [has (fun w => PathV w d1.pa d1.pc d1.path), Ar 22 1 u32C (.slice la (noU d1.comms).length lc) (noU d1.comms), has (fun w => RawsV w d1.oa d1.oc d1.others)]) (φ := fun w => AtV w { d1 with comms := noU d1.comms, ca := la, cc := lc }) H xZ (fun w hr => ⟨hr.has (φ := fun w => PathV w d1.pa d1.pc d1.path) .here, Src.ar (.there .here) w hr, hr.has (φ := fun w => RawsV w d1.oa d1.oc d1.others) (.there (.there .here))⟩)).sel xZ
theorem qdo_s (op n m : Int) (ho : ActOk op n m) (h4 : 4 ≤ op) (d : At) (hd : AtF d) : Pact Tryz.prog 60 #[.int .i64 op, .int .i64 n, .int .i64 m, .agg (atC d).toArray] (fun w => AtV w d) [] (QDo (doN op n m d.nf)) := by
  unfold ActOk at ho
  have hop : op = 4 ∨ op = 5 ∨ op = 6 ∨ op = 7 ∨ op = 8 ∨ op = 9 := by omega
  rcases hop with rfl | rfl | rfl | rfl | rfl | rfl
  · exact qdo_prepend d hd n m (by omega) (by omega)
  · exact qdo_local d hd n m (by omega)
  · exact qdo_med d hd n m (by omega)
  · exact qdo_add d hd n m (by omega)
  · exact qdo_8 d hd n m (by omega)
  · exact qdo_9 d hd n m (by omega)

structure Lpq where
  k : Nat
  n : Nat
  d : At
def PlQ (r : Option Nf) (u : Value) (L' : List HP) : Prop := ∃ (d' : At) (n : Int), AtF d' ∧ (∀ x, r = some x → d'.nf = x) ∧ u = .tuple #[.agg (atC d').toArray, .bool r.isSome, .int .i64 n] ∧ L' = [has (fun w => AtV w d')]
set_option maxRecDepth 4000 in
theorem qplay_s (a : Option Addr) (c : Nat) (T : List Sp) (p : Pf) (hp : PfN p) (d0 : At) (hd0 : AtF d0) (hT : RightT T) (hsn : ∀ s ∈ T, SpN s) (h0 : 0 < T.length) (hl : T.length ≤ 4096) : Pact Tryz.prog 25 #[.slice a T.length c, .agg (pfC p).toArray, .agg (atC d0).toArray] (fun w => AtV w d0 ∧ Vw w (.slice a T.length c) 7 T.length (flat spC T)) [] (PlQ (playW T p 0 d0.nf).1) := by
  refine pact Tryz.func25 rfl Tryz.ntmps25 rfl ?_
  intro W K hK
  have hkv : Kn K (fun w => Vw w (.slice a T.length c) 7 T.length (flat spC T)) := hK.imp fun w h => h.2
  obtain ⟨r0, hr0⟩ : ∃ r, (playW T p 0 d0.nf).1 = r := ⟨_, rfl⟩
  rw [hr0]
  (repeat' (first | (refine gL ?_; first | refine yL0 ?_ | refine yL ?_ | (refine yM ?_; intro _)) | refine yJ ?_ | (refine yI ?_ ?_ <;> intro _ <;> try exact xX) | (refine yK ?_ ?_ <;> intro hgb <;> first | subst hgb | fail_if_success have : type_of% hgb := rfl) | fail))
  rename_i pb ab rb
  refine J_loop (α := Lpq) ⟨0, 1, d0⟩ (fun x => T.length - x.k) (fun x => x.k < T.length ∧ x.n ≤ x.k + 1 ∧ AtF x.d ∧ r0 = (playW T p x.k x.d.nf).1) (fun x => [(0, .slice a T.length c), (4, .pointer (some ⟨pb, 0, none⟩)), (5, .pointer (some ⟨ab, 0, none⟩)), (6, .pointer (some ⟨rb, 0, none⟩)), (9, .int .i64 x.k), (10, .int .i64 x.n)])
    (fun x => [pts pb (pfC p) 28, pts ab (atC x.d) 35, pts rb at0C 35, has (fun w => AtV w d0 → AtV w x.d)]) ⟨h0, by show 1 ≤ 0 + 1; omega, hd0, hr0.symm⟩ ⟨rfl, rfl, rfl, rfl, rfl, rfl, trivial⟩ (fun w H => (Ow.hasTrue (φ := fun w => AtV w d0 → AtV w d0) H (fun _ h => h)).sel xZ) ?_
  rintro ⟨k, n, d⟩ ⟨hk, hn, hd, hr1⟩
  dsimp only at hk hn hd hr1 ⊢
  obtain ⟨s, hs⟩ : ∃ s, T[k]? = some s := ⟨_, List.getElem?_eq_getElem hk⟩
  have hok := hT k s hs
  have hsm := hsn s (List.mem_of_getElem? hs)
  by_cases o22 : s.op = 22
  · rw [playW_acc hs o22] at hr1
    subst hr1
    (repeat' (first | (refine gL ?_; first | refine yL0 ?_ | refine yL ?_ | (refine gL_go ?_; (refine JL_goq (acopy_s d hd _ _ _ rfl rfl rfl) (hφ := (by (try simp only [cAp, nAp]); exact fun w hr => hr.has (φ := fun w => AtV w d0 → AtV w d) xA (hK w hr.1).1)) (h := ?_); rintro _ _ ⟨d', hd', hnf, rfl, rfl⟩; try simp only [cAp, nAp])) | (refine yM ?_; intro _)) | refine yJ ?_ | (refine yI ?_ ?_ <;> intro _ <;> try exact xX) | (refine yK ?_ ?_ <;> intro hgb <;> first | subst hgb | fail_if_success have : type_of% hgb := rfl) | fail))
    all_goals (first | (exfalso; omega) | skip)
    exact J_retC2 (cs := atC d') rfl (by rfl) (by rfl) (by rfl) xA (by rfl) fun w H => ⟨_, ⟨d', _, hd', fun x hx => hnf.trans (Option.some.inj hx), rfl, rfl⟩, H.sel xZ⟩
  by_cases o23 : s.op = 23
  · rw [playW_rej hs o23] at hr1
    subst hr1
    (repeat' (first | (refine gL ?_; first | refine yL0 ?_ | refine yL ?_ | (refine yM ?_; intro _)) | refine yJ ?_ | (refine yI ?_ ?_ <;> intro _ <;> try exact xX) | (refine yK ?_ ?_ <;> intro hgb <;> first | subst hgb | fail_if_success have : type_of% hgb := rfl) | fail))
    all_goals (first | (exfalso; omega) | skip)
    exact J_retC2 (cs := at0C) rfl (by rfl) (by rfl) (by rfl) xA (by rfl) fun w H => ⟨_, ⟨at0, _, at0_f, fun x hx => (by cases hx), rfl, rfl⟩, (Ow.hasTrue (φ := fun w => AtV w at0) H at0_v).sel xZ⟩
  by_cases o12 : s.op ≤ 12
  · obtain ⟨h1, h2, h3, h4, h5⟩ : (4 ≤ s.op ∧ s.op ≤ 12) ∧ TestOk s.op s.n (s.a, s.l) ∧ s.m = 0 ∧ ((k : Int) < s.x ∧ s.x < T.length) ∧ ((k : Int) < s.y ∧ s.y < T.length) := by
      rcases hok with h | h | h | h
      · exact h
      · omega
      · omega
      · omega
    have hnx : nextN s p d.nf = some ((if testN s.op s.n (s.a, s.l) p d.nf then s.x else s.y), d.nf) := by unfold nextN; rw [if_pos o12]
    rw [playW_step hs hok o22 o23 hnx] at hr1
    have hB := qtest_s s.op s.n (s.a, s.l) p ⟨hsm.a, hsm.l⟩ hp d hd h1 h2
    rcases hb : testN s.op s.n (s.a, s.l) p d.nf with _ | _
    all_goals rw [hb] at hB hr1
    · rw [if_neg (by simp)] at hr1
      (repeat' (first | (refine gL ?_; first | refine yL0 ?_ | refine yL ?_ | (refine gL_go ?_; (refine JL_goq (hB) (hφ := (by (try simp only [cAp, nAp]); exact fun w hr => hr.has (φ := fun w => AtV w d0 → AtV w d) xA (hK w hr.1).1)) (h := ?_); rintro _ _ ⟨rfl, rfl⟩; try simp only [cAp, nAp])) | (refine yM ?_; intro _)) | refine yJ ?_ | (refine yI ?_ ?_ <;> intro _ <;> try exact xX) | (refine yK ?_ ?_ <;> intro hgb <;> first | subst hgb | fail_if_success have : type_of% hgb := rfl) | fail))
      all_goals (first | (exfalso; omega) | skip)
      refine J_again ⟨s.y.toNat, n + 1, d⟩ (by dsimp only; omega) ⟨by dsimp only; omega, by dsimp only; omega, hd, hr1⟩ ⟨rfl, rfl, rfl, rfl, ?_, rfl, trivial⟩ (fun w H => H.sel xZ)
      show some (Value.int .i64 s.y) = some (Value.int .i64 (s.y.toNat : Int))
      rw [show (s.y.toNat : Int) = s.y by omega]
    · rw [if_pos rfl] at hr1
      (repeat' (first | (refine gL ?_; first | refine yL0 ?_ | refine yL ?_ | (refine gL_go ?_; (refine JL_goq (hB) (hφ := (by (try simp only [cAp, nAp]); exact fun w hr => hr.has (φ := fun w => AtV w d0 → AtV w d) xA (hK w hr.1).1)) (h := ?_); rintro _ _ ⟨rfl, rfl⟩; try simp only [cAp, nAp])) | (refine yM ?_; intro _)) | refine yJ ?_ | (refine yI ?_ ?_ <;> intro _ <;> try exact xX) | (refine yK ?_ ?_ <;> intro hgb <;> first | subst hgb | fail_if_success have : type_of% hgb := rfl) | fail))
      all_goals (first | (exfalso; omega) | skip)
      refine J_again ⟨s.x.toNat, n + 1, d⟩ (by dsimp only; omega) ⟨by dsimp only; omega, by dsimp only; omega, hd, hr1⟩ ⟨rfl, rfl, rfl, rfl, ?_, rfl, trivial⟩ (fun w H => H.sel xZ)
      show some (Value.int .i64 s.x) = some (Value.int .i64 (s.x.toNat : Int))
      rw [show (s.x.toNat : Int) = s.x by omega]
  have hx : (k : Int) < s.x ∧ s.x < T.length := by
    rcases hok with h | h | h | h
    · omega
    · exact h.2.2.2.2.1
    · omega
    · exact h.2.2.2.1
  by_cases o21 : s.op = 21
  · have hnx : nextN s p d.nf = some (s.x, d.nf) := by unfold nextN; rw [if_neg o12, if_pos o21]
    rw [playW_step hs hok o22 o23 hnx] at hr1
    (repeat' (first | (refine gL ?_; first | refine yL0 ?_ | refine yL ?_ | (refine yM ?_; intro _)) | refine yJ ?_ | (refine yI ?_ ?_ <;> intro _ <;> try exact xX) | (refine yK ?_ ?_ <;> intro hgb <;> first | subst hgb | fail_if_success have : type_of% hgb := rfl) | fail))
    all_goals (first | (exfalso; omega) | skip)
    refine J_again ⟨s.x.toNat, n + 1, d⟩ (by dsimp only; omega) ⟨by dsimp only; omega, by dsimp only; omega, hd, hr1⟩ ⟨rfl, rfl, rfl, rfl, ?_, rfl, trivial⟩ (fun w H => H.sel xZ)
    show some (Value.int .i64 s.x) = some (Value.int .i64 (s.x.toNat : Int))
    rw [show (s.x.toNat : Int) = s.x by omega]
  · obtain ⟨h1, h2⟩ : (24 ≤ s.op ∧ s.op ≤ 29) ∧ ActOk (s.op - 20) s.n s.m := by
      rcases hok with h | h | h | h
      · omega
      · omega
      · omega
      · exact ⟨h.1, h.2.1⟩
    have hD := qdo_s (s.op - 20) s.n s.m h2 (by omega) d hd
    obtain ⟨r, hr⟩ : ∃ r, doN (s.op - 20) s.n s.m d.nf = r := ⟨_, rfl⟩
    rw [hr] at hD
    have hnx : nextN s p d.nf = r.map fun y => (s.x, y) := by unfold nextN; rw [if_neg o12, if_neg o21, hr]
    (repeat' (first | (refine gL ?_; first | refine yL0 ?_ | refine yL ?_ | (refine gL_go ?_; (refine JL_goq (hD) (hφ := (by (try simp only [cAp, nAp]); exact fun w hr => hr.has (φ := fun w => AtV w d0 → AtV w d) xA (hK w hr.1).1)) (h := ?_); rintro _ _ ⟨d', ok, hd', rfl, hrr, rfl⟩; try simp only [cAp, nAp])) | (refine yM ?_; intro _)) | refine yJ ?_ | (refine yI ?_ ?_ <;> intro _ <;> try exact xX) | (refine yK ?_ ?_ <;> intro hgb <;> first | subst hgb | fail_if_success have : type_of% hgb := rfl) | fail))
    all_goals (first | (exfalso; omega) | skip)
    · obtain rfl : ok = false := Bool.eq_false_iff.2 (by assumption)
      rw [if_neg (by simp)] at hrr
      rw [hrr] at hnx
      rw [playW_no hs o22 hnx] at hr1
      subst hr1
      exact J_retC2 (cs := at0C) rfl (by rfl) (by rfl) (by rfl) xA (by rfl) fun w H => ⟨_, ⟨at0, _, at0_f, fun x hx => (by cases hx), rfl, rfl⟩, (Ow.hasTrue (φ := fun w => AtV w at0) H at0_v).sel xZ⟩
    · obtain rfl : ok = true := by first | assumption | exact Decidable.not_not.1 (by assumption)
      rw [if_pos rfl] at hrr
      rw [hrr] at hnx
      rw [playW_step hs hok o22 o23 hnx] at hr1
      refine J_again ⟨s.x.toNat, n + 1, d'⟩ (by dsimp only; omega) ⟨by dsimp only; omega, by dsimp only; omega, hd', hr1⟩ ⟨rfl, rfl, rfl, rfl, ?_, rfl, trivial⟩ (fun w H => ?_)
      · show some (Value.int .i64 s.x) = some (Value.int .i64 (s.x.toNat : Int))
        rw [show (s.x.toNat : Int) = s.x by omega]
      · exact (Ow.has (M := [has (fun w => AtV w d')]) (φ := fun w => AtV w d0 → AtV w d') H xZ (fun w hr _ => hr.has (φ := fun w => AtV w d') .here)).sel xZ
end Go.Proofs.YtdnokmpnemaoaaaGreat.C
