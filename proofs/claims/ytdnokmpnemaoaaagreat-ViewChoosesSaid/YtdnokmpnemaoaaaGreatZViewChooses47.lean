/-
  ViewChooses: any client is told, of any candidates, by any policy, what the document says.
-/
import Derived.Test.YtdnokmpnemaoaaaGreatZViewChooses46
import Derived.HandedShaped
namespace Go.Proofs.YtdnokmpnemaoaaaGreat
set_option linter.unusedSimpArgs false
set_option linter.unusedVariables false
set_option maxRecDepth 20000
set_option maxHeartbeats 4000000
open Go.RowKit Go.Pm
theorem zd3Vd6 {p q : Prop} (k : p) (h : p → q := by intro hk; first | exact J_draw (id := 1) [0, 1, 2, 3, 4, 5, 6, 7, 9, 8] [10, 11] mixed xC xD xD hk | exact J_draw (id := 2) [0, 1, 2, 3, 4, 5, 6, 7, 8, 9] [10] mixed xC xD xD hk | exact J_draw (id := 3) [0, 1, 2, 3, 4, 5, 6, 7, 8, 9, 10, 11, 12, 13, 14, 15, 16, 17, 18, 19] [20] mixed xC xD xD hk | fail) : q := h k

def chzN (f : Qn → Option Nf) (l : List Qn) : Int × Nf :=
  if letF f l = [] then (-1, at00.nf) else match (letF f l)[(pickN ((letF f l).map Prod.fst)).toNat]? with
    | some (y, i) => (i, bareN y.nf)
    | none => (-1, at00.nf)
def ChF (i : Int) (n : Nf) (v : Value) (L' : List HP) : Prop := ∃ d' : At, AtF d' ∧ d'.nf = n ∧ v = .tuple #[.agg (atC d').toArray, .int .i64 i] ∧ L' = [has (fun w => AtV w d')]
theorem chF_of {f : Qn → Option Nf} {l : List Qn} {v : Value} {L' : List HP} (h : ChooseR f l v L') : ChF (chzN f l).1 (chzN f l).2 v L' := by
  rcases h with ⟨hn, h1, h2⟩ | ⟨j, i, y, d', hj, he, hd', hnf, h1, h2⟩
  · have e : chzN f l = (-1, at00.nf) := if_pos hn
    rw [e]
    exact ⟨at00, at00_f, rfl, h1, h2⟩
  · have hne : letF f l ≠ [] := by rintro h; rw [h] at he; cases he
    have e : chzN f l = ((i : Int), bareN y.nf) := by
      unfold chzN
      rw [if_neg hne, hj, Int.toNat_natCast, he]
    rw [e]
    exact ⟨d', hd', hnf, h1, h2⟩
theorem lets_any (pe sy : Int) (oa : Option Addr) (oc : Nat) (T : List C.Sp) (p : C.Pf) (hp : C.PfN p) (hl : T.length ≤ 60) (hsn : ∀ s ∈ T, C.SpN s) (x : B.Cd) (hx : B.CdN x) : Pact Tryz.prog 21 #[.agg (clC pe sy oa T.length oc).toArray, .agg (C.pfC p).toArray, .agg (B.cdC x).toArray] (fun w => AtV w x.toAt ∧ Vw w (.slice oa T.length oc) 7 T.length (flat C.spC T)) [] (LetsR (fP pe sy T p (cnN x)) x) := by
  by_cases hT : T = []
  · subst hT
    rw [fP_nil]
    exact C.preP (lets0_s pe sy oa oc p x hx) fun w h => ⟨h.1, trivial⟩
  · exact letsP_s pe sy oa oc T p hp (List.length_pos_iff.2 hT) hl hsn x hx
theorem cnN_of {x : B.Cd} (h : B.CdN x) : CnN x := ⟨h.peer, h.as_, h.id, h.addr, h.f.num⟩
set_option maxRecDepth 4000 in
theorem chooses_s (pe sy : Int) (oa : Option Addr) (oc : Nat) (os : List C.Sp) (hos : ∀ s ∈ os, C.SpN s) (p : C.Pf) (hp : C.PfN p) (a : Option Addr) (c : Nat) (cs : List B.Cd) (hcs : ∀ x ∈ cs, CnN x) (hl : cs.length ≤ 140737488355328) :
    Pact Tryz.prog 3 #[.agg (clC pe sy oa os.length oc).toArray, .agg (C.pfC p).toArray, .slice a cs.length c] (fun w => (Vw w (.slice a cs.length c) 17 cs.length (flat B.cdC cs) ∧ cnV cs w) ∧ Vw w (.slice oa os.length oc) 7 os.length (flat C.spC os)) [] (ret0 (.bool true)) := by
  refine pact Tryz.func3 rfl Tryz.ntmps3 rfl ?_
  intro W K hK
  refine J_fact (φ := os.length ≤ oc ∧ oc ≤ maxLen) (fun w H => ?_) ?_
  · obtain ⟨a', c', he, h1, h2⟩ := (hK.of H).2.shape
    cases he
    exact ⟨h1, h2⟩
  rintro ⟨ho1, ho2⟩
  unfold maxLen at ho2
  obtain ⟨T, hT⟩ : ∃ T, os.take 60 = T := ⟨_, rfl⟩
  have hTl : T.length ≤ 60 := by rw [← hT, List.length_take]; omega
  have hTe : (min (os.length : Int) 60).toNat = T.length := by rw [← hT, List.length_take]; omega
  have hTn : ∀ s ∈ T, C.SpN s := fun s hs => hos s (by rw [← hT] at hs; exact List.take_subset _ _ hs)
  have hKT : Kn K (fun w => Vw w (.slice oa T.length oc) 7 T.length (flat C.spC T)) := hK.imp fun w h => by
    have := Vw_take h.2 (by intro _; rfl) rfl 60 T.length (by rw [hT])
    rw [hT] at this
    exact this
  have kc := cands_s a c cs hcs hl
  (repeat' (first | (refine gL ?_; first | refine yL0 ?_ | refine yL ?_ | (refine yM ?_; intro _)) | (refine gD ?_; first | (refine yN ?_; try simp only [cAp, nAp]) | refine yD ?_ | (refine yE ?_; intro _)) | refine yJ ?_ | refine zd3Vd6 ?_ | (refine yI ?_ ?_ <;> intro _ <;> try exact xX) | (refine yK ?_ ?_ <;> intro hgb <;> first | subst hgb | fail_if_success have : type_of% hgb := rfl) | fail))
  rw [hTe]
  (repeat' (first | (refine gL ?_; first | refine yL0 ?_ | refine yL ?_ | (refine gL_go ?_; (refine JL_goq (kc) (hφ := (by (try simp only [cAp, nAp]); exact fun w hr => (hK w hr.1).1)) (h := ?_); rintro _ _ ⟨ds, a2, c2, rfl, hdm, hF, rfl⟩; try simp only [cAp, nAp])) | (refine yM ?_; intro _)) | (refine gD ?_; first | (refine yN ?_; try simp only [cAp, nAp]) | refine yD ?_ | (refine gD_go ?_; (refine JD_goq (kc) (hφ := (by (try simp only [cAp, nAp]); exact fun w hr => (hK w hr.1).1)) (h := ?_); rintro _ _ ⟨ds, a2, c2, rfl, hdm, hF, rfl⟩; try simp only [cAp, nAp])) | (refine yE ?_; intro _)) | refine yJ ?_ | refine zd3Vd6 ?_ | (refine yI ?_ ?_ <;> intro _ <;> try exact xX) | (refine yK ?_ ?_ <;> intro hgb <;> first | subst hgb | fail_if_success have : type_of% hgb := rfl) | fail))
  obtain ⟨hdd, hdl⟩ := cands_again hdm
  have kc2 := cands_s a2 c2 ds (fun x hx => cnN_of (hF x hx)) (by omega)
  (repeat' (first | (refine gL ?_; first | refine yL0 ?_ | refine yL ?_ | (refine gL_go ?_; (refine JL_goq (kc2) (hφ := (by (try simp only [cAp, nAp]); exact fun w hr => ⟨Src.ar xA w hr, hr.has (φ := cnV ds) xA⟩)) (h := ?_); rintro _ _ ⟨es, a3, c3, rfl, hem, hE, rfl⟩; try simp only [cAp, nAp])) | (refine yM ?_; intro _)) | (refine gD ?_; first | (refine yN ?_; try simp only [cAp, nAp]) | refine yD ?_ | (refine gD_go ?_; (refine JD_goq (kc2) (hφ := (by (try simp only [cAp, nAp]); exact fun w hr => ⟨Src.ar xA w hr, hr.has (φ := cnV ds) xA⟩)) (h := ?_); rintro _ _ ⟨es, a3, c3, rfl, hem, hE, rfl⟩; try simp only [cAp, nAp])) | (refine yE ?_; intro _)) | refine yJ ?_ | refine zd3Vd6 ?_ | (refine yI ?_ ?_ <;> intro _ <;> try exact xX) | (refine yK ?_ ?_ <;> intro hgb <;> first | subst hgb | fail_if_success have : type_of% hgb := rfl) | fail))
  rw [hdd] at hem
  have hel : es.length ≤ 10 := by have := congrArg List.length hem; simp only [List.length_map] at this; omega
  obtain ⟨i, n, hin⟩ : ∃ i n, chzN (fP pe sy T p) (ds.map cnN) = (i, n) := ⟨_, _, rfl⟩
  have ko := Pact.imp (choose_s pe sy oa T.length oc p a3 c3 es (fP pe sy T p) _ hE hel (fun x hx => lets_any pe sy oa oc T p hp hTl hTn x (hE x hx))) fun _ _ => chF_of
  rw [hem, hin] at ko
  dsimp only at ko
  (repeat' (first | (refine gL ?_; first | refine yL0 ?_ | refine yL ?_ | (refine gL_go ?_; (refine JL_goq (ko) (hφ := (by (try simp only [cAp, nAp]); exact fun w hr => ⟨⟨Src.ar xA w hr, hr.has (φ := cnV es) xA⟩, hKT w hr.1⟩)) (h := ?_); rintro _ _ ⟨d1, hd1, hn1, rfl, rfl⟩; try simp only [cAp, nAp])) | (refine yM ?_; intro _)) | (refine gD ?_; first | (refine yN ?_; try simp only [cAp, nAp]) | refine yD ?_ | (refine gD_go ?_; (refine JD_goq (ko) (hφ := (by (try simp only [cAp, nAp]); exact fun w hr => ⟨⟨Src.ar xA w hr, hr.has (φ := cnV es) xA⟩, hKT w hr.1⟩)) (h := ?_); rintro _ _ ⟨d1, hd1, hn1, rfl, rfl⟩; try simp only [cAp, nAp])) | (refine yE ?_; intro _)) | refine yJ ?_ | refine zd3Vd6 ?_ | (refine yI ?_ ?_ <;> intro _ <;> try exact xX) | (refine yK ?_ ?_ <;> intro hgb <;> first | subst hgb | fail_if_success have : type_of% hgb := rfl) | fail))
  have kp := plain_s a2 c2 ds hdl
  (repeat' (first | (refine gL ?_; first | refine yL0 ?_ | refine yL ?_ | (refine gL_go ?_; (refine JL_goq (kp) (hφ := (by (try simp only [cAp, nAp]); exact fun w hr => Src.ar xA w hr)) (h := ?_); rintro _ _ ⟨a4, c4, rfl, rfl⟩; try simp only [cAp, nAp])) | (refine yM ?_; intro _)) | (refine gD ?_; first | (refine yN ?_; try simp only [cAp, nAp]) | refine yD ?_ | (refine gD_go ?_; (refine JD_goq (kp) (hφ := (by (try simp only [cAp, nAp]); exact fun w hr => Src.ar xA w hr)) (h := ?_); rintro _ _ ⟨a4, c4, rfl, rfl⟩; try simp only [cAp, nAp])) | (refine yE ?_; intro _)) | refine yJ ?_ | refine zd3Vd6 ?_ | (refine yI ?_ ?_ <;> intro _ <;> try exact xX) | (refine yK ?_ ?_ <;> intro hgb <;> first | subst hgb | fail_if_success have : type_of% hgb := rfl) | fail))
  have kr := Pact.imp (rchoose_s pe sy oa oc T p hp hTl hTn a4 c4 ds hF hdl) fun _ _ => chF_of
  rw [hin] at kr
  dsimp only at kr
  (repeat' (first | (refine gL ?_; first | refine yL0 ?_ | refine yL ?_ | (refine gL_go ?_; (refine JL_goq (kr) (hφ := (by (try simp only [cAp, nAp]); exact fun w hr => ⟨⟨Src.ar xA w hr, hr.has (φ := cnV ds) xA⟩, hKT w hr.1⟩)) (h := ?_); rintro _ _ ⟨d2, hd2, hn2, rfl, rfl⟩; try simp only [cAp, nAp])) | (refine yM ?_; intro _)) | (refine gD ?_; first | (refine yN ?_; try simp only [cAp, nAp]) | refine yD ?_ | (refine gD_go ?_; (refine JD_goq (kr) (hφ := (by (try simp only [cAp, nAp]); exact fun w hr => ⟨⟨Src.ar xA w hr, hr.has (φ := cnV ds) xA⟩, hKT w hr.1⟩)) (h := ?_); rintro _ _ ⟨d2, hd2, hn2, rfl, rfl⟩; try simp only [cAp, nAp])) | (refine yE ?_; intro _)) | refine yJ ?_ | refine zd3Vd6 ?_ | (refine yI ?_ ?_ <;> intro _ <;> try exact xX) | (refine yK ?_ ?_ <;> intro hgb <;> first | subst hgb | fail_if_success have : type_of% hgb := rfl) | fail))
  have ks := rsame_s d1 d2 hd1 hd2
  rw [decide_eq_true (hn1.trans hn2.symm)] at ks
  (repeat' (first | (refine gL ?_; first | refine yL0 ?_ | refine yL ?_ | (refine gL_go ?_; first | (refine JL_goq (ks) (hφ := (by (try simp only [cAp, nAp]); exact fun w hr => ⟨hr.has (φ := fun w => AtV w d1) xA, hr.has (φ := fun w => AtV w d2) xA⟩)) (h := ?_); rintro _ _ ⟨rfl, rfl⟩; try simp only [cAp, nAp]) | (refine JL_goq (works_s) (hφ := xF) (h := ?_); rintro _ _ ⟨rfl, rfl⟩; try simp only [cAp, nAp])) | (refine yM ?_; intro _)) | (refine gD ?_; first | (refine yN ?_; try simp only [cAp, nAp]) | refine yD ?_ | (refine gD_go ?_; first | (refine JD_goq (ks) (hφ := (by (try simp only [cAp, nAp]); exact fun w hr => ⟨hr.has (φ := fun w => AtV w d1) xA, hr.has (φ := fun w => AtV w d2) xA⟩)) (h := ?_); rintro _ _ ⟨rfl, rfl⟩; try simp only [cAp, nAp]) | (refine JD_goq (works_s) (hφ := xF) (h := ?_); rintro _ _ ⟨rfl, rfl⟩; try simp only [cAp, nAp])) | (refine yE ?_; intro _)) | refine yJ ?_ | refine zd3Vd6 ?_ | (refine yI ?_ ?_ <;> intro _ <;> try exact xX) | (refine yK ?_ ?_ <;> intro hgb <;> first | subst hgb | fail_if_success have : type_of% hgb := rfl) | fail))
  all_goals first
    | exact J_ret1 rfl (by rfl) fun w H => ⟨_, ⟨rfl, rfl⟩, H.sel .nil⟩
    | (exfalso; first | exact absurd rfl (by assumption) | exact absurd trivial (by assumption))

theorem cand_el {w : World} (m : Nat) (d : List Value) (_ : d.length = 17) (h : Rs Tryz.prog w m 47 d) : ∃ x : B.Cd, d = B.cdC x ∧ CnN x ∧ AtV w x.toAt := by
  have h0 := leaf_of 5 47 (3 :: 22 :: 26 :: 26 :: [3, 31, 26, 4, 22, 4, 22, 4, 4, 22, 26, 32, 33]) m d (by kernel_rfl) h
  obtain ⟨pe, r, e, b0, h1⟩ := h0.i64 Tryz.underlying3
  subst e
  obtain ⟨sy, r, e, b1, h2⟩ := h1.u32 Tryz.underlying22
  subst e
  obtain ⟨ia, r, e, b2, h3⟩ := h2.u32 Tryz.underlying26
  subst e
  obtain ⟨aa, r, e, b3, h4⟩ := h3.u32 Tryz.underlying26
  subst e
  obtain ⟨d, rfl, hd, hv⟩ := attrs_leaf h4
  exact ⟨⟨d, pe, sy, ia, aa⟩, rfl, ⟨b0, b1, b2, b3, hd⟩, hv⟩
theorem cands_arg {W : World} {n : Nat} {a : Option Addr} {l c : Nat} (h : Rs Tryz.prog W n 29 [.slice a l c]) : ∃ cs : List B.Cd, cs.length = l ∧ cs.length ≤ 140737488355328 ∧ (∀ x ∈ cs, CnN x) ∧ Kn (World.all W) (fun w => Vw w (.slice a cs.length c) 17 cs.length (flat B.cdC cs) ∧ cnV cs w) := by
  obtain ⟨es, rfl, h1, h2, h3, h4, h5⟩ := h.list (sz := 17) (b := 136) (enc := B.cdC) (ok := fun x => CnN x ∧ AtV W x.toAt) Tryz.underlying29 (by kernel_rfl) (by kernel_rfl) cand_el
  exact ⟨es, rfl, by simp only [reachBytes] at h3; omega, fun x hx => (h5 x hx).1, kn_keep (fun hc h => ⟨vwKeep hc h.1, fun x hx => (h.2 x hx).keep hc⟩) ⟨h4, fun x hx => (h5 x hx).2⟩⟩
theorem client_arg {W : World} {n : Nat} {cs : Array Value} (h : Rs Tryz.prog W n 25 (Value.agg cs).cells.toList) : ∃ pe sy oa on oc m, cs = (clC pe sy oa on oc).toArray ∧ I64 pe ∧ U32 sy ∧ Rs Tryz.prog W m 23 [.slice oa on oc] := by
  have h0 := leaf_of 5 25 [3, 22, 23] n _ (by kernel_rfl) h
  obtain ⟨pe, r, e, b0, h1⟩ := h0.i64 Tryz.underlying3
  obtain ⟨sy, r2, e2, b1, h2⟩ := h1.u32 Tryz.underlying22
  obtain ⟨oa, on, oc, r3, e3, ⟨m, hm⟩, h3⟩ := h2.sl Tryz.underlying23
  obtain rfl := h3.nil'
  subst e3 e2
  have e4 : cs.toList = clC pe sy oa on oc := e
  exact ⟨pe, sy, oa, on, oc, m, by rw [← Array.toArray_toList (xs := cs), e4], b0, b1, hm⟩
theorem vpf_arg {W : World} {m : Nat} {cs : Array Value} (h : Rs Tryz.prog W m 28 (Value.agg cs).cells.toList) : ∃ p : T.Pf, cs = (T.pfC p).toArray ∧ T.PfN p := by
  have h0 := leaf_of 5 28 [26, 3] m _ (by kernel_rfl) h
  obtain ⟨a, r, e, b1, h1⟩ := h0.u32 Tryz.underlying26
  obtain ⟨l, r2, e2, b2, h2⟩ := h1.i64 Tryz.underlying3
  obtain rfl := h2.nil'
  subst e2
  have e3 : cs.toList = [.int .u32 a, .int .i64 l] := e
  exact ⟨(a, l), by rw [← Array.toArray_toList (xs := cs), e3], b1, b2⟩

theorem step_el {w : World} (m : Nat) (d : List Value) (_ : d.length = 7) (h : Rs Tryz.prog w m 120 d) : ∃ x : C.Sp, d = C.spC x ∧ C.SpN x := by
  have h0 := leaf_of 5 120 [3, 3, 3, 26, 3, 3, 3] m d (by kernel_rfl) h
  obtain ⟨op, r, e, b0, h1⟩ := h0.i64 Tryz.underlying3
  subst e
  obtain ⟨n, r, e, b1, h2⟩ := h1.i64 Tryz.underlying3
  subst e
  obtain ⟨k, r, e, b2, h3⟩ := h2.i64 Tryz.underlying3
  subst e
  obtain ⟨pa, r, e, b3, h4⟩ := h3.u32 Tryz.underlying26
  subst e
  obtain ⟨pl, r, e, b4, h5⟩ := h4.i64 Tryz.underlying3
  subst e
  obtain ⟨x, r, e, b5, h6⟩ := h5.i64 Tryz.underlying3
  subst e
  obtain ⟨y, r, e, b6, h7⟩ := h6.i64 Tryz.underlying3
  subst e
  obtain rfl := h7.nil'
  exact ⟨⟨op, n, k, pa, pl, x, y⟩, rfl, ⟨b0, b1, b2, b3, b4, b5, b6⟩⟩
theorem steps_arg {W : World} {n : Nat} {a : Option Addr} {l c : Nat} (h : Rs Tryz.prog W n 23 [.slice a l c]) : ∃ os : List C.Sp, os.length = l ∧ (∀ x ∈ os, C.SpN x) ∧ Kn (World.all W) (fun w => Vw w (.slice a os.length c) 7 os.length (flat C.spC os)) := by
  obtain ⟨es, rfl, h1, h2, h3, h4, h5⟩ := h.list (sz := 7) (b := 56) (enc := C.spC) (ok := fun x => C.SpN x) Tryz.underlying23 (by kernel_rfl) (by kernel_rfl) step_el
  exact ⟨es, rfl, h5, vwKn h4⟩
end Go.Proofs.YtdnokmpnemaoaaaGreat
namespace Go.Proofs.YtdnokmpnemaoaaaGreat
set_option linter.unusedSimpArgs false
set_option linter.unusedVariables false
open Go.RowKit Go.Pm

namespace viewChooses
theorem walk {W : World} (n0 : Nat) {c0 : Array Value} (g0 : Rs Tryz.prog W n0 25 (Value.agg c0).cells.toList) (n1 : Nat) {c1 : Array Value} (g1 : Rs Tryz.prog W n1 28 (Value.agg c1).cells.toList) (n2 : Nat) {a2 : Option Addr} {l2 c2 : Nat} (g2 : Rs Tryz.prog W n2 29 (Value.slice a2 l2 c2).cells.toList) :
    Calls Tryz.prog 3 #[.agg c0, .agg c1, .slice a2 l2 c2] W fun e w' => e = .returned (.bool true) ∧ Only [] W w' := by
  obtain ⟨pe, sy, oa, on, oc, m, rfl, _, _, hr⟩ := client_arg g0
  obtain ⟨os, rfl, ho, hk⟩ := steps_arg hr
  obtain ⟨p, rfl, hp⟩ := vpf_arg g1
  obtain ⟨cs, rfl, h1, h2, h3⟩ := cands_arg g2
  exact (chooses_s pe sy oa oc os ho p ⟨hp.1, hp.2⟩ a2 c2 cs h2 h1).law (h3.and hk)
end viewChooses
namespace viewChooses
open Go.ChangeShapes Go.WideShapes Go.ChangeAt
set_option linter.unusedVariables false

theorem own : ownKnob Tryz.prog.godebug = none := by kernel_rfl
theorem laidOut : laidOutB Tryz.prog = true := by kernel_rfl

set_option maxRecDepth 100000 in
theorem lifted (os : Os) (started : os.Started) (H : Type) (enc : TypeId × Value → H) :
    ReturnsInHanded {} Tryz.checked os 3 .any (Rows.viewChoosesSpec.pre6 enc Tryz.prog Tryz.f3 Rows.viewChoosesRow.domain false) (Rows.viewChoosesSpec.post enc Tryz.prog Tryz.f3 false true false false) := by
  refine returnsInHanded_of_change_sized (C := Tryz.checked) own started (by kernel_rfl) Tryz.func3
    (ChangeSpec.witness6 (enc := enc) (C := Tryz.checked) false ⟨#[], #[.agg #[.int .i64 0, .int .u32 0, .slice none 0 0], .agg #[.int .u32 0, .int .i64 0], .slice none 0 0], []⟩ 8 (by kernel_rfl) (by kernel_rfl) (by kernel_rfl) (by kernel_rfl)) ?_
  intro W base args ds gs before hval0 hW hcnd hsz hreach
  have hval : ∀ (j : Nat) t v, Tryz.f3.params[j]? = some t → args[j]? = some v → Value.okWide Tryz.prog W .any base t v := hval0
  have hW' := hW
  obtain ⟨p, q, hA0, hV, rfl, hfz, hnd⟩ := hW
  have hA : DataW.TrodAll enc Tryz.prog W 0 (fun _ => true) true Tryz.f3.params.toList args.toList ds p := hA0
  rw [Tryz.params3] at hA hval
  obtain ⟨v0, vs0, d0, ds0, p0, q0, hargs, rfl, rfl, h0, r0⟩ := trodAll_cons hA
  obtain ⟨v1, vs1, d1, ds1, p1, q1, rfl, rfl, rfl, h1, r1⟩ := trodAll_cons r0
  obtain ⟨v2, vs2, d2, ds2, p2, q2, rfl, rfl, rfl, h2, r2⟩ := trodAll_cons r1
  obtain ⟨rfl, rfl, rfl⟩ := trodAll_nil r2
  obtain rfl : args = #[v0, v1, v2] := by cases args; simp_all
  obtain ⟨rfl, rfl⟩ := trodVars_none hV
  have k0 := h0
  have lt0 : ∀ x ∈ p0, x.block < W.heap.size := by obtain ⟨m, hm⟩ := k0; exact DataW.trod_lt m _ _ _ hm
  obtain ⟨n0, g0⟩ := Rs.of_weights hsz 0 (by first | rfl | (simp [Tryz.params3])) rfl h0
  obtain ⟨cs0, rfl, hs0⟩ := okWide_struct Tryz.underlying25 (hval 0 25 v0 rfl rfl)
  have k1 := h1
  have lt1 : ∀ x ∈ p1, x.block < W.heap.size := by obtain ⟨m, hm⟩ := k1; exact DataW.trod_lt m _ _ _ hm
  obtain ⟨n1, g1⟩ := Rs.of_weights hsz 1 (by first | rfl | (simp [Tryz.params3])) rfl h1
  obtain ⟨cs1, rfl, hs1⟩ := okWide_struct Tryz.underlying28 (hval 1 28 v1 rfl rfl)
  have k2 := h2
  have lt2 : ∀ x ∈ p2, x.block < W.heap.size := by obtain ⟨m, hm⟩ := k2; exact DataW.trod_lt m _ _ _ hm
  obtain ⟨n2, g2⟩ := Rs.of_weights hsz 2 (by first | rfl | (simp [Tryz.params3])) rfl h2
  obtain ⟨a2, l2, c2, rfl⟩ := okWide_slice Tryz.underlying29 (hval 2 29 v2 rfl rfl)
  refine (walk n0 g0 n1 g1 n2 g2).mono fun e W' ⟨he, hg⟩ => ?_
  subst he
  have bel := hg.belowNil
  exact ⟨_, rfl, _, _, _, [], _, [], hW', trodAll_mk1 (shut_bool Tryz.underlying4 _), (trodAll_cons_mk (Below.trod laidOut (by kernel_rfl) (of_decide_eq_true (by kernel_rfl)) k0 bel lt0) (trodAll_cons_mk (Below.trod laidOut (by kernel_rfl) (of_decide_eq_true (by kernel_rfl)) k1 bel lt1) (trodAll_cons_mk (Below.trod laidOut (by kernel_rfl) (of_decide_eq_true (by kernel_rfl)) k2 bel lt2) trodAll_mk0))), rfl, bel.frame _, fun h => by cases h⟩

theorem over : Rows.viewChoosesRow.holds Tryz.pinned (OpenSpec.ofChange Rows.viewChoosesSpec) :=
  OpenClaim.holds_of_wide 3 Tryz.f3 rfl rfl rfl rfl rfl rfl rfl ⟨rfl, rfl, rfl, rfl, rfl⟩ rfl rfl rfl rfl rfl (by kernel_rfl) Tryz.func3 (by kernel_rfl)
    (of_decide_eq_true (by kernel_rfl)) (by unfold Func.isWrapper; first | (rw [if_pos (by decide +kernel)]; kernel_rfl) | (rw [if_neg (by decide +kernel)]; exact ⟨rfl, rfl⟩))
    (fun os started H enc _ => lifted os started H enc)

theorem proved : Rows.ViewChoosesSaid := over
#print axioms proved
end viewChooses
end Go.Proofs.YtdnokmpnemaoaaaGreat
