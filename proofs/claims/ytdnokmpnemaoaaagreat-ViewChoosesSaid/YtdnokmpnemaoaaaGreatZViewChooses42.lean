/-
  Ru19: merged.
-/
import Derived.Test.YtdnokmpnemaoaaaGreatZViewChooses41
namespace Go.Proofs.YtdnokmpnemaoaaaGreat.C
set_option linter.unusedSimpArgs false
set_option linter.unusedVariables false
set_option maxRecDepth 20000
set_option maxHeartbeats 4000000
open Go.RowKit Go.Pm
theorem zd27Ru19 {p q : Prop} (k : p) (h : p → q := by intro hk; first | exact J_draw (id := 8) [0, 1, 2, 3, 4, 5, 6, 7, 9, 10, 11, 12, 13, 14, 8, 15, 16, 17] [18, 19, 20] mixed xC xD xD hk | fail) : q := h k

structure Loo where
  q : List Rw
  ad : Option Addr
  cc : Nat
theorem acopyO_s (d : At) (hd : AtF d) (n m k : Nat) (hn : d.path.length = n) (hm : d.comms.length = m) (hk : d.others.length = k) : Pact Tryz.prog 27 #[.agg (atN d n m k).toArray] (fun w => AtV w d) [] (fun v L' => ∃ d', AtF d' ∧ d'.nf = d.nf ∧ v = .agg (atC d').toArray ∧ L' = [has (fun w => PathV w d'.pa d'.pc d'.path), Ar 22 1 u32C (.slice d'.ca d'.comms.length d'.cc) d'.comms, has (fun w => RawsV w d'.oa d'.oc d'.others)]) := by
  subst hn hm hk
  refine pact Tryz.func27 rfl Tryz.ntmps27 rfl ?_
  intro W K hK
  have hd1 := hd.path
  have hd2 := hd.comms
  have hd3 := hd.others
  have hcv : Kn K (fun w => Vw w (.slice d.ca d.comms.length d.cc) 1 d.comms.length (flat u32C d.comms)) := hK.imp fun _ h => h.comms
  have hov : Kn K (fun w => Vw w (.slice d.oa d.others.length d.oc) 2 d.others.length (flat rwC d.others)) := hK.imp fun _ h => h.others.vw
  (repeat' (first | (refine gL ?_; first | refine yL0 ?_ | (refine gL_c_append ?_; (refine JL_appL (fs := d.comms) u32C (tabE etab_ok (by rfl)) (by rfl) (by rfl) xA (Src.kn hcv) (by decide +kernel) (by intro _; rfl) (all_one _ (by intro _ _; rfl)) (by omega) (by rfl) (by rfl) ?_; intro ad2 c2 _ _)) | refine yL ?_ | (refine gL_go ?_; (refine JL_goq (pcopy_s d.pa d.pc d.path _ rfl (by omega) hd.num.path) (hφ := (by (try simp only [cAp, nAp]); exact fun w hr => (hK w hr.1).path)) (h := ?_); rintro _ _ ⟨q, a', c', rfl, hs, rfl⟩; try simp only [cAp, nAp])) | (refine yM ?_; intro _) | (refine yA ?_; intro _ _ _ _)) | (refine gD ?_; first | (refine yN ?_; try simp only [cAp, nAp]) | (refine gD_c_append ?_; (refine JL_appL (fs := d.comms) u32C (tabE etab_ok (by rfl)) (by rfl) (by rfl) xA (Src.kn hcv) (by decide +kernel) (by intro _; rfl) (all_one _ (by intro _ _; rfl)) (by omega) (by rfl) (by rfl) ?_; intro ad2 c2 _ _)) | refine yD ?_ | (refine yE ?_; intro _) | (refine yB ?_; intro _ _ _ _)) | refine yJ ?_ | refine zd27Ru19 ?_ | (refine yI ?_ ?_ <;> intro _ <;> try exact xX) | (refine yK ?_ ?_ <;> intro hgb <;> first | subst hgb | fail_if_success have : type_of% hgb := rfl) | fail))
  rename_i b1 b2 b3 _ _ _ b4
  refine J_loop (α := Loo) ⟨[], some ⟨b4, 0, none⟩, 0⟩ (fun x => d.others.length - x.q.length) (fun x => x.q.length ≤ d.others.length ∧ oN x.q = oN (d.others.take x.q.length)) (fun x => [(1, .pointer (some ⟨b1, 0, none⟩)), (2, .pointer (some ⟨b2, 0, none⟩)), (3, .pointer (some ⟨b3, 0, none⟩)), (4, .int .i64 x.q.length)])
    (fun x => [pts b3 (cpC d q.length a' c' ad2 c2 x.ad x.q.length x.cc) 35, Ar 79 2 rwC (.slice x.ad x.q.length x.cc) x.q, has (fun w => ∀ s ∈ x.q, rawV w s), Ar 22 1 u32C (.slice ad2 d.comms.length c2) d.comms, has (fun w => PathV w a' c' q), pts b2 [.int .i64 0, .slice none 0 0, .int .u32 0, .bool false, .int .u32 0, .bool false, .int .u32 0, .bool false, .bool false, .int .u32 0, .int .u32 0, .slice none 0 0, .slice none 0 0] 35, pts b1 (atN d d.path.length d.comms.length d.others.length) 35]) ⟨Nat.zero_le _, rfl⟩ ⟨rfl, rfl, rfl, rfl, trivial⟩ (fun w H => (Ow.hasTrue (φ := fun w => ∀ s ∈ ([] : List Rw), rawV w s) (H.arLit0 xA) (by intro _ _ h; exact absurd h List.not_mem_nil)).sel xZ) ?_
  rintro ⟨o, oa, oc⟩ ⟨ho, hsame⟩
  dsimp only at ho hsame ⊢
  by_cases hlt : o.length < d.others.length
  · obtain ⟨s, hs⟩ : ∃ s, d.others[o.length]? = some s := ⟨_, List.getElem?_eq_getElem hlt⟩
    have hm := List.mem_of_getElem? hs
    have hsn := hd.num.others s hm
    have hsn1 := hsn.2.1
    have hu : Kn K (fun w => Vw w (.slice s.a s.data.length s.c) 1 s.data.length (flat byC s.data)) := hK.imp fun _ h => h.others.raws s hm
    (repeat' (first | (refine gL ?_; first | refine yL0 ?_ | (refine gL_c_append ?_; first | ((refine JD_appL byC (tabE etab_ok (by rfl)) (by rfl) (by rfl) xA (Src.kn hu) (by decide +kernel) (by intro _; rfl) (all_one _ (by intro _ _; rfl)) (by omega) (by rfl) ?_; intro ad3 c3 _ _)) | ((refine JD_ap1 (z := Rw.mk s.kind ad3 c3 s.data) (tabE etab_ok (by rfl)) (by rfl) (by rfl) xA xA (by decide +kernel) (by rfl) (by intro _; rfl) (by rfl) (by omega) (by rfl) ?_; intro ad4 c4 _ _))) | refine yL ?_ | (refine yM ?_; intro _) | (refine yA ?_; intro _ _ _ _)) | (refine gD ?_; first | (refine yN ?_; try simp only [cAp, nAp]) | (refine gD_c_append ?_; first | ((refine JD_appL byC (tabE etab_ok (by rfl)) (by rfl) (by rfl) xA (Src.kn hu) (by decide +kernel) (by intro _; rfl) (all_one _ (by intro _ _; rfl)) (by omega) (by rfl) ?_; intro ad3 c3 _ _)) | ((refine JD_ap1 (z := Rw.mk s.kind ad3 c3 s.data) (tabE etab_ok (by rfl)) (by rfl) (by rfl) xA xA (by decide +kernel) (by rfl) (by intro _; rfl) (by rfl) (by omega) (by rfl) ?_; intro ad4 c4 _ _))) | refine yD ?_ | (refine yE ?_; intro _) | (refine yB ?_; intro _ _ _ _)) | refine yJ ?_ | refine zd27Ru19 ?_ | (refine yI ?_ ?_ <;> intro _ <;> try exact xX) | (refine yK ?_ ?_ <;> intro hgb <;> first | subst hgb | fail_if_success have : type_of% hgb := rfl) | fail))
    refine J_again ⟨o ++ [Rw.mk s.kind ad3 c3 s.data], ad4, c4⟩ (by simp; omega) ⟨by simp; omega, ?_⟩ ⟨rfl, rfl, rfl, ?_, trivial⟩ (fun w H => ?_)
    · simp only [List.length_append, List.length_cons, List.length_nil]
      rw [take_snoc hs]
      unfold oN at hsame ⊢
      rw [List.map_append, List.map_append, hsame]
      rfl
    · show some _ = some _
      simp
    · simp only [List.length_append, List.length_cons, List.length_nil]
      refine (Ow.has (M := [Ar 5 1 byC (.slice ad3 s.data.length c3) s.data, has (fun w => ∀ s ∈ o, rawV w s)]) (φ := fun w => ∀ x ∈ o ++ [Rw.mk s.kind ad3 c3 s.data], rawV w x) H xZ ?_).sel xZ
      intro w hr x hx
      rcases List.mem_append.1 hx with hx | hx
      · exact hr.has (.there .here) x hx
      · obtain rfl := List.mem_singleton.1 hx
        exact Src.ar .here w hr
  · obtain hol : o.length = d.others.length := by omega
    rw [hol, List.take_length] at hsame
    (repeat' (first | (refine gL ?_; first | refine yL0 ?_ | refine yL ?_ | (refine yM ?_; intro _) | (refine yA ?_; intro _ _ _ _)) | (refine gD ?_; first | (refine yN ?_; try simp only [cAp, nAp]) | refine yD ?_ | (refine yE ?_; intro _) | (refine yB ?_; intro _ _ _ _)) | refine yJ ?_ | refine zd27Ru19 ?_ | (refine yI ?_ ?_ <;> intro _ <;> try exact xX) | (refine yK ?_ ?_ <;> intro hgb <;> first | subst hgb | fail_if_success have : type_of% hgb := rfl) | fail))
    refine J_retC (cs := cpC d q.length a' c' ad2 c2 oa o.length oc) rfl (by rfl) xA (by rfl) fun w H => ⟨_, ⟨d.at_ q a' c' d.comms ad2 c2 o oa oc, At.at_num hd _ _ _ _ _ _ _ _ _ hs rfl hsame, d.at_nf _ _ _ _ _ _ _ _ _ hs rfl hsame, rfl, rfl⟩, ?_⟩
    exact (Ow.has (M := [Ar 79 2 rwC (.slice oa o.length oc) o, has (fun w => ∀ s ∈ o, rawV w s)]) (φ := fun w => RawsV w oa oc o) H xZ (fun w hr => ⟨Src.ar .here w hr, fun s hs => hr.has (φ := fun w => ∀ s ∈ o, rawV w s) (.there .here) s hs⟩)).sel (M := [has (fun w => PathV w a' c' q), Ar 22 1 u32C (.slice ad2 d.comms.length c2) d.comms, has (fun w => RawsV w oa oc o)]) xZ
theorem qmarked_s (d : At) (hd : AtF d) (n : Int) : Pact Tryz.prog 100 #[.agg (atC d).toArray, .int .i64 n] (fun w => AtV w d) [] (ret0 (.bool (decide (n ∈ d.comms)))) := by
  refine pact Tryz.func100 rfl Tryz.ntmps100 rfl ?_
  intro W K hK
  have hcl := hd.comms
  have hcv : Kn K (fun w => Vw w (.slice d.ca d.comms.length d.cc) 1 d.comms.length (flat u32C d.comms)) := hK.imp fun _ h => h.comms
  (repeat' (first | (refine gL ?_; first | refine yL0 ?_ | refine yL ?_ | (refine yM ?_; intro _)) | refine yJ ?_ | (refine yI ?_ ?_ <;> intro _ <;> try exact xX) | (refine yK ?_ ?_ <;> intro hgb <;> first | subst hgb | fail_if_success have : type_of% hgb := rfl) | fail))
  rename_i b0
  refine J_loop (α := Nat) 0 (fun x => d.comms.length - x) (fun x => x ≤ d.comms.length ∧ n ∉ d.comms.take x) (fun x => [(1, .int .i64 n), (2, .pointer (some ⟨b0, 0, none⟩)), (5, .int .i64 x)]) (fun x => [pts b0 (atC d) 35]) ⟨Nat.zero_le _, by simp⟩ ⟨rfl, rfl, rfl, trivial⟩ (fun w H => H.sel xZ) ?_
  rintro k ⟨hk, hz⟩
  by_cases hlt : k < d.comms.length
  · obtain ⟨x, hx⟩ : ∃ x, d.comms[k]? = some x := ⟨_, List.getElem?_eq_getElem hlt⟩
    have hxu := hd.num.comms x (List.mem_of_getElem? hx)
    unfold U32 at hxu
    by_cases hxn : x = n
    · subst hxn
      (repeat' (first | (refine gL ?_; first | refine yL0 ?_ | refine yL ?_ | (refine yM ?_; intro _)) | refine yJ ?_ | (refine yI ?_ ?_ <;> intro _ <;> try exact xX) | (refine yK ?_ ?_ <;> intro hgb <;> first | subst hgb | fail_if_success have : type_of% hgb := rfl) | fail))
      all_goals (first | (exfalso; omega) | skip)
      exact J_ret1 rfl (by rfl) fun w H => ⟨_, ⟨by rw [decide_eq_true (List.mem_of_getElem? hx)], rfl⟩, H.sel .nil⟩
    · (repeat' (first | (refine gL ?_; first | refine yL0 ?_ | refine yL ?_ | (refine yM ?_; intro _)) | refine yJ ?_ | (refine yI ?_ ?_ <;> intro _ <;> try exact xX) | (refine yK ?_ ?_ <;> intro hgb <;> first | subst hgb | fail_if_success have : type_of% hgb := rfl) | fail))
      all_goals (first | (exfalso; omega) | skip)
      exact J_again (k + 1) (by omega) ⟨by omega, by rw [take_snoc hx]; simp only [List.mem_append, List.mem_singleton]; rintro (h | h); exact hz h; exact hxn h.symm⟩ ⟨rfl, rfl, rfl, trivial⟩ (fun w H => H.sel xZ)
  · have hke : k = d.comms.length := by omega
    rw [hke, List.take_length] at hz
    (repeat' (first | (refine gL ?_; first | refine yL0 ?_ | refine yL ?_ | (refine yM ?_; intro _)) | refine yJ ?_ | (refine yI ?_ ?_ <;> intro _ <;> try exact xX) | (refine yK ?_ ?_ <;> intro hgb <;> first | subst hgb | fail_if_success have : type_of% hgb := rfl) | fail))
    exact J_ret1 rfl (by rfl) fun w H => ⟨_, ⟨by rw [decide_eq_false hz], rfl⟩, H.sel .nil⟩
theorem rwithin_b (p q : Pf) (hp : PfN p) (hq : PfN q) (b : Bool) (hb : decide (Wi p q) = b) : Pact Tryz.prog 96 #[.agg (pfC p).toArray, .agg (pfC q).toArray] (fun _ => True) [] (ret0 (.bool b)) := hb ▸ rwithin_s p q hp hq
theorem qtest_s (op n : Int) (q p : Pf) (hq : PfN q) (hp : PfN p) (d : At) (hd : AtF d) (ho : 4 ≤ op ∧ op ≤ 12) (ht : TestOk op n q) : Pact Tryz.prog 59 #[.int .i64 op, .int .i64 n, .agg (pfC q).toArray, .agg (pfC p).toArray, .agg (atC d).toArray] (fun w => AtV w d) [] (ret0 (.bool (testN op n q p d.nf))) := by
  have hpl := hd.path
  have hcl := hd.comms
  have hmed := hd.num.med
  unfold U32 at hmed
  unfold TestOk at ht
  have h6 := rhas_s d.pa d.pc d.path n (by omega) hd.num.path
  have h9 := rlen_s d.pa d.pc d.path (by omega) hd.num.path
  have h7 := rfirst_s d.pa d.pc d.path (by omega) hd.num.path
  have h8 := rorigin_s d.pa d.pc d.path (by omega) hd.num.path
  have hfr : ∀ z, firstN (pN d.path) = some z → U32 z := fun z hz => by
    cases hp : d.path with
    | nil => rw [hp] at hz; cases hz
    | cons s r =>
      rw [hp] at hz
      have hsn := (hd.num.path s (by rw [hp]; simp)).2
      cases hs : s.set with
      | true => simp [firstN, pN, hs] at hz
      | false =>
        cases hl : s.as_ with
        | nil => simp [firstN, pN, hs, hl] at hz
        | cons x l =>
          simp only [firstN, pN, List.map_cons, hs, hl, Option.some.injEq] at hz
          subst hz
          exact hsn x (by rw [hl]; simp)
  have hor : ∀ z, originN (pN d.path) = some z → U32 z := fun z hz => by
    by_cases h0 : d.path = []
    · rw [h0] at hz; cases hz
    · obtain ⟨s, hs, hs2⟩ := last_get h0
      rw [originN_last hs2] at hz
      split at hz
      · cases hz
      · exact (hd.num.path s (List.mem_of_getElem? hs)).2 z (List.mem_of_getLast? hz)
  refine pact Tryz.func59 rfl Tryz.ntmps59 rfl ?_
  intro W K hK
  have hop : op = 4 ∨ op = 5 ∨ op = 6 ∨ op = 7 ∨ op = 8 ∨ op = 9 ∨ op = 10 ∨ op = 11 ∨ op = 12 := by omega
  rcases hop with rfl | rfl | rfl | rfl | rfl | rfl | rfl | rfl | rfl
  · have e : testN 4 n q p d.nf = (decide (Wi q p) && decide (p.2 ≤ n)) := rfl
    rw [e]
    rcases hb : decide (Wi q p) with _ | _
    all_goals (
      (repeat' (first | (refine gL ?_; first | refine yL0 ?_ | refine yL ?_ | (refine gL_go ?_; (refine JL_goq (rwithin_b q p hq hp _ hb) (hφ := xF) (h := ?_); rintro _ _ ⟨rfl, rfl⟩; try simp only [cAp, nAp])) | (refine yM ?_; intro _)) | refine yJ ?_ | (refine yI ?_ ?_ <;> intro _ <;> try exact xX) | (refine yK ?_ ?_ <;> intro hgb <;> first | subst hgb | fail_if_success have : type_of% hgb := rfl) | fail))
      all_goals (first | (exfalso; omega) | skip)
      exact J_ret1 rfl (by rfl) fun w H => ⟨_, ⟨by simp, rfl⟩, H.sel .nil⟩)
  · have e : testN 5 n q p d.nf = decide (p = q) := rfl
    rw [e]
    (repeat' (first | (refine gL ?_; first | refine yL0 ?_ | refine yL ?_ | (refine yM ?_; intro _)) | refine yJ ?_ | (refine yI ?_ ?_ <;> intro _ <;> try exact xX) | (refine yK ?_ ?_ <;> intro hgb <;> first | subst hgb | fail_if_success have : type_of% hgb := rfl) | fail))
    refine J_ret1 rfl (by rfl) fun w H => ⟨_, ⟨?_, rfl⟩, H.sel .nil⟩
    simp [Prod.ext_iff]
  · (repeat' (first | (refine gL ?_; first | refine yL0 ?_ | refine yL ?_ | (refine gL_go ?_; (refine JL_goq (h6) (hφ := (by (try simp only [cAp, nAp]); exact fun w hr => (hK w hr.1).path)) (h := ?_); rintro _ _ ⟨rfl, rfl⟩; try simp only [cAp, nAp])) | (refine yM ?_; intro _)) | refine yJ ?_ | (refine yI ?_ ?_ <;> intro _ <;> try exact xX) | (refine yK ?_ ?_ <;> intro hgb <;> first | subst hgb | fail_if_success have : type_of% hgb := rfl) | fail))
    exact J_ret1 rfl (by rfl) fun w H => ⟨_, ⟨rfl, rfl⟩, H.sel .nil⟩
  · have e : testN 7 n q p d.nf = decide (firstN (pN d.path) = some n) := rfl
    rw [e]
    rcases hf : firstN (pN d.path) with _ | z
    all_goals rw [hf] at h7
    · (repeat' (first | (refine gL ?_; first | refine yL0 ?_ | refine yL ?_ | (refine gL_go ?_; (refine JL_goq (h7) (hφ := (by (try simp only [cAp, nAp]); exact fun w hr => (hK w hr.1).path)) (h := ?_); rintro _ _ ⟨rfl, rfl⟩; try simp only [cAp, nAp])) | (refine yM ?_; intro _)) | refine yJ ?_ | (refine yI ?_ ?_ <;> intro _ <;> try exact xX) | (refine yK ?_ ?_ <;> intro hgb <;> first | subst hgb | fail_if_success have : type_of% hgb := rfl) | fail))
      exact J_ret1 rfl (by rfl) fun w H => ⟨_, ⟨rfl, rfl⟩, H.sel .nil⟩
    · have hz := hfr z hf
      unfold U32 at hz
      simp only [Option.getD_some, Option.isSome_some] at h7
      (repeat' (first | (refine gL ?_; first | refine yL0 ?_ | refine yL ?_ | (refine gL_go ?_; (refine JL_goq (h7) (hφ := (by (try simp only [cAp, nAp]); exact fun w hr => (hK w hr.1).path)) (h := ?_); rintro _ _ ⟨rfl, rfl⟩; try simp only [cAp, nAp])) | (refine yM ?_; intro _)) | refine yJ ?_ | (refine yI ?_ ?_ <;> intro _ <;> try exact xX) | (refine yK ?_ ?_ <;> intro hgb <;> first | subst hgb | fail_if_success have : type_of% hgb := rfl) | fail))
      exact J_ret1 rfl (by rfl) fun w H => ⟨_, ⟨by simp, rfl⟩, H.sel .nil⟩
  · have e : testN 8 n q p d.nf = decide (originN (pN d.path) = some n) := rfl
    rw [e]
    rcases hf : originN (pN d.path) with _ | z
    all_goals rw [hf] at h8
    · (repeat' (first | (refine gL ?_; first | refine yL0 ?_ | refine yL ?_ | (refine gL_go ?_; (refine JL_goq (h8) (hφ := (by (try simp only [cAp, nAp]); exact fun w hr => (hK w hr.1).path)) (h := ?_); rintro _ _ ⟨rfl, rfl⟩; try simp only [cAp, nAp])) | (refine yM ?_; intro _)) | refine yJ ?_ | (refine yI ?_ ?_ <;> intro _ <;> try exact xX) | (refine yK ?_ ?_ <;> intro hgb <;> first | subst hgb | fail_if_success have : type_of% hgb := rfl) | fail))
      exact J_ret1 rfl (by rfl) fun w H => ⟨_, ⟨rfl, rfl⟩, H.sel .nil⟩
    · have hz := hor z hf
      unfold U32 at hz
      simp only [Option.getD_some, Option.isSome_some] at h8
      (repeat' (first | (refine gL ?_; first | refine yL0 ?_ | refine yL ?_ | (refine gL_go ?_; (refine JL_goq (h8) (hφ := (by (try simp only [cAp, nAp]); exact fun w hr => (hK w hr.1).path)) (h := ?_); rintro _ _ ⟨rfl, rfl⟩; try simp only [cAp, nAp])) | (refine yM ?_; intro _)) | refine yJ ?_ | (refine yI ?_ ?_ <;> intro _ <;> try exact xX) | (refine yK ?_ ?_ <;> intro hgb <;> first | subst hgb | fail_if_success have : type_of% hgb := rfl) | fail))
      exact J_ret1 rfl (by rfl) fun w H => ⟨_, ⟨by simp, rfl⟩, H.sel .nil⟩
  · (repeat' (first | (refine gL ?_; first | refine yL0 ?_ | refine yL ?_ | (refine gL_go ?_; (refine JL_goq (h9) (hφ := (by (try simp only [cAp, nAp]); exact fun w hr => (hK w hr.1).path)) (h := ?_); rintro _ _ ⟨rfl, rfl⟩; try simp only [cAp, nAp])) | (refine yM ?_; intro _)) | refine yJ ?_ | (refine yI ?_ ?_ <;> intro _ <;> try exact xX) | (refine yK ?_ ?_ <;> intro hgb <;> first | subst hgb | fail_if_success have : type_of% hgb := rfl) | fail))
    exact J_ret1 rfl (by rfl) fun w H => ⟨_, ⟨rfl, rfl⟩, H.sel .nil⟩
  · (repeat' (first | (refine gL ?_; first | refine yL0 ?_ | refine yL ?_ | (refine gL_go ?_; (refine JL_goq (qmarked_s d hd n) (hφ := (by (try simp only [cAp, nAp]); exact fun w hr => hK w hr.1)) (h := ?_); rintro _ _ ⟨rfl, rfl⟩; try simp only [cAp, nAp])) | (refine yM ?_; intro _)) | refine yJ ?_ | (refine yI ?_ ?_ <;> intro _ <;> try exact xX) | (refine yK ?_ ?_ <;> intro hgb <;> first | subst hgb | fail_if_success have : type_of% hgb := rfl) | fail))
    exact J_ret1 rfl (by rfl) fun w H => ⟨_, ⟨rfl, rfl⟩, H.sel .nil⟩
  · (repeat' (first | (refine gL ?_; first | refine yL0 ?_ | refine yL ?_ | (refine yM ?_; intro _)) | refine yJ ?_ | (refine yI ?_ ?_ <;> intro _ <;> try exact xX) | (refine yK ?_ ?_ <;> intro hgb <;> first | subst hgb | fail_if_success have : type_of% hgb := rfl) | fail))
    exact J_ret1 rfl (by rfl) fun w H => ⟨_, ⟨rfl, rfl⟩, H.sel .nil⟩
  · have e : testN 12 n q p d.nf = (d.hasMed && decide (n < d.med)) := by
      unfold testN At.nf
      simp only [show ¬ (12 : Int) = 4 by decide, show ¬ (12 : Int) = 5 by decide, show ¬ (12 : Int) = 6 by decide, show ¬ (12 : Int) = 7 by decide, show ¬ (12 : Int) = 8 by decide, show ¬ (12 : Int) = 9 by decide, show ¬ (12 : Int) = 10 by decide, show ¬ (12 : Int) = 11 by decide, if_false, if_true]
      cases d.hasMed <;> simp
    rw [e]
    (repeat' (first | (refine gL ?_; first | refine yL0 ?_ | refine yL ?_ | (refine yM ?_; intro _)) | refine yJ ?_ | (refine yI ?_ ?_ <;> intro _ <;> try exact xX) | (refine yK ?_ ?_ <;> intro hgb <;> first | subst hgb | fail_if_success have : type_of% hgb := rfl) | fail))
    all_goals (refine J_ret1 rfl (by rfl) fun w H => ⟨_, ⟨?_, rfl⟩, H.sel .nil⟩; simp [*])
end Go.Proofs.YtdnokmpnemaoaaaGreat.C
