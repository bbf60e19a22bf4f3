/-
  Vd1, Vd2: merged.
-/
import Derived.Test.YtdnokmpnemaoaaaGreatZViewChooses43
namespace Go.Proofs.YtdnokmpnemaoaaaGreat.B
set_option linter.unusedSimpArgs false
set_option linter.unusedVariables false
set_option maxRecDepth 20000
set_option maxHeartbeats 4000000
open Go.RowKit Go.Pm
theorem zd102Vd1 {p q : Prop} (k : p) (h : p → q := by intro hk; first | exact J_draw (id := 4) [0, 2, 1] [3, 4, 5] mixed xC xD xD hk | exact J_draw (id := 6) [0, 1, 2, 4, 5, 6, 3] [7, 8, 9] mixed xC xD xD hk | exact J_draw (id := 10) [0, 2, 1] [3, 4, 5, 6, 8, 7, 9, 10, 11, 12] mixed xC xD xD hk | fail) : q := h k

theorem rlocal_s (c : Cd) (h : CdN c) : Pact Tryz.prog 136 #[.agg (cdC c).toArray] (fun _ => True) [] (ret0 (.int .i64 (cLocal c))) := by
  obtain ⟨h0, h1⟩ := h.loc
  refine pact Tryz.func136 rfl Tryz.ntmps136 rfl ?_
  intro W K _
  (repeat' (first | (refine gL ?_; first | refine yL0 ?_ | refine yL ?_ | (refine yM ?_; intro _)) | refine yJ ?_ | (refine yI ?_ ?_ <;> intro _ <;> try exact xX) | (refine yK ?_ ?_ <;> intro hgb <;> first | subst hgb | fail_if_success have : type_of% hgb := rfl) | fail))
  all_goals (refine J_ret1 rfl (by rfl) fun w H => ⟨[], ⟨?_, rfl⟩, H.sel .nil⟩)
  · simp [cLocal, *]
  · simp [cLocal, *]
theorem rmed_s (c : Cd) (h : CdN c) : Pact Tryz.prog 138 #[.agg (cdC c).toArray] (fun _ => True) [] (ret0 (.int .i64 (cMed c))) := by
  obtain ⟨h0, h1⟩ := h.med
  refine pact Tryz.func138 rfl Tryz.ntmps138 rfl ?_
  intro W K _
  (repeat' (first | (refine gL ?_; first | refine yL0 ?_ | refine yL ?_ | (refine yM ?_; intro _)) | refine yJ ?_ | (refine yI ?_ ?_ <;> intro _ <;> try exact xX) | (refine yK ?_ ?_ <;> intro hgb <;> first | subst hgb | fail_if_success have : type_of% hgb := rfl) | fail))
  all_goals (refine J_ret1 rfl (by rfl) fun w H => ⟨[], ⟨?_, rfl⟩, H.sel .nil⟩)
  · simp [cMed, *]
  · simp [cMed, *]
theorem rnb_s (c : Cd) (h : CdN c) : Pact Tryz.prog 137 #[.agg (cdC c).toArray] (fun w => PathV w c.pa c.pc c.path) [] (ret0 (.int .u32 (cNb c))) := by
  refine pact Tryz.func137 rfl Tryz.ntmps137 rfl ?_
  intro W K hK
  (repeat' (first | (refine gL ?_; first | refine yL0 ?_ | refine yL ?_ | (refine gL_go ?_; (refine JL_goq (C.rfirst_s c.pa c.pc c.path (by have := h.f.path; omega) h.f.num.path) (hφ := (by (try simp only [cAp, nAp]); exact fun w hr => hK w hr.1)) (h := ?_); rintro _ _ ⟨rfl, rfl⟩; try simp only [cAp, nAp])) | (refine yM ?_; intro _)) | refine yJ ?_ | (refine yI ?_ ?_ <;> intro _ <;> try exact xX) | (refine yK ?_ ?_ <;> intro hgb <;> first | subst hgb | fail_if_success have : type_of% hgb := rfl) | fail))
  all_goals (refine J_ret1 rfl (by rfl) fun w H => ⟨[], ⟨?_, rfl⟩, H.sel .nil⟩)
  all_goals (unfold cNb; cases h2 : C.firstN (pN c.path) <;> simp_all)
theorem rlen_s (c : Cd) (h : CdN c) : Pact Tryz.prog 99 #[.slice c.pa c.path.length c.pc] (fun w => PathV w c.pa c.pc c.path) [] (ret0 (.int .i64 (C.lenN (pN c.path)))) := C.rlen_s c.pa c.pc c.path (by have := h.f.path; omega) h.f.num.path
def wrs (k : Int) (a b : Cd) : Bool :=
  if k = 1 then decide (cLocal a < cLocal b) else if k = 2 then decide ((C.lenN (pN b.path) : Int) < C.lenN (pN a.path)) else if k = 3 then decide (b.origin < a.origin) else if k = 4 then decide (cNb a = cNb b) && decide (cMed b < cMed a)
  else if k = 5 then decide (b.id < a.id) else if k = 6 then decide (b.addr < a.addr) else if k = 7 then decide (b.peer < a.peer) else false
theorem wrs_beat {k : Int} (hk : 1 ≤ k ∧ k ≤ 7) (o x : On) : wrs k o.c x.c = true ↔ beat k x o := by
  have : k = 1 ∨ k = 2 ∨ k = 3 ∨ k = 4 ∨ k = 5 ∨ k = 6 ∨ k = 7 := by omega
  unfold wrs beat
  rcases this with rfl | rfl | rfl | rfl | rfl | rfl | rfl <;> simp
  · intro _; exact eq_comm
theorem worse_s (k : Int) (hk : 1 ≤ k ∧ k ≤ 7) (a b : Cd) (ha : CdN a) (hb : CdN b) : Pact Tryz.prog 102 #[.int .i64 k, .agg (cdC a).toArray, .agg (cdC b).toArray] (fun w => PathV w a.pa a.pc a.path ∧ PathV w b.pa b.pc b.path) [] (ret0 (.bool (wrs k a b))) := by
  have : k = 1 ∨ k = 2 ∨ k = 3 ∨ k = 4 ∨ k = 5 ∨ k = 6 ∨ k = 7 := by omega
  refine pact Tryz.func102 rfl Tryz.ntmps102 rfl ?_
  intro W K hK
  rcases this with rfl | rfl | rfl | rfl | rfl | rfl | rfl
  · (repeat' (first | (refine gL ?_; first | refine yL0 ?_ | refine yL ?_ | (refine yM ?_; intro _)) | (refine gD ?_; first | (refine yN ?_; try simp only [cAp, nAp]) | refine yD0 ?_ | refine yD ?_ | (refine gD_go ?_; first | (refine JD_goq (rlocal_s a ha) (hφ := xF) (h := ?_); rintro _ _ ⟨rfl, rfl⟩; try simp only [cAp, nAp]) | (refine JD_goq (rlocal_s b hb) (hφ := xF) (h := ?_); rintro _ _ ⟨rfl, rfl⟩; try simp only [cAp, nAp]))) | refine yJ ?_ | refine zd102Vd1 ?_ | (refine yI ?_ ?_ <;> intro _ <;> try exact xX) | (refine yK ?_ ?_ <;> intro hgb <;> first | subst hgb | fail_if_success have : type_of% hgb := rfl) | fail))
    all_goals (first | (exfalso; omega) | skip)
    all_goals exact J_ret1 rfl (by rfl) fun w H => ⟨_, ⟨rfl, rfl⟩, H.sel .nil⟩
  · (repeat' (first | (refine gL ?_; first | refine yL0 ?_ | refine yL ?_ | (refine yM ?_; intro _)) | (refine gD ?_; first | (refine yN ?_; try simp only [cAp, nAp]) | refine yD0 ?_ | refine yD ?_ | (refine gD_go ?_; first | (refine JD_goq (rlen_s a ha) (hφ := (by (try simp only [cAp, nAp]); exact fun w hr => (hK w hr.1).1)) (h := ?_); rintro _ _ ⟨rfl, rfl⟩; try simp only [cAp, nAp]) | (refine JD_goq (rlen_s b hb) (hφ := (by (try simp only [cAp, nAp]); exact fun w hr => (hK w hr.1).2)) (h := ?_); rintro _ _ ⟨rfl, rfl⟩; try simp only [cAp, nAp]))) | refine yJ ?_ | refine zd102Vd1 ?_ | (refine yI ?_ ?_ <;> intro _ <;> try exact xX) | (refine yK ?_ ?_ <;> intro hgb <;> first | subst hgb | fail_if_success have : type_of% hgb := rfl) | fail))
    all_goals (first | (exfalso; omega) | skip)
    all_goals exact J_ret1 rfl (by rfl) fun w H => ⟨_, ⟨rfl, rfl⟩, H.sel .nil⟩
  · (repeat' (first | (refine gL ?_; first | refine yL0 ?_ | refine yL ?_ | (refine yM ?_; intro _)) | (refine gD ?_; first | (refine yN ?_; try simp only [cAp, nAp]) | refine yD0 ?_ | refine yD ?_) | refine yJ ?_ | refine zd102Vd1 ?_ | (refine yI ?_ ?_ <;> intro _ <;> try exact xX) | (refine yK ?_ ?_ <;> intro hgb <;> first | subst hgb | fail_if_success have : type_of% hgb := rfl) | fail))
    all_goals (first | (exfalso; omega) | skip)
    all_goals exact J_ret1 rfl (by rfl) fun w H => ⟨_, ⟨rfl, rfl⟩, H.sel .nil⟩
  · (repeat' (first | (refine gL ?_; first | refine yL0 ?_ | refine yL ?_ | (refine yM ?_; intro _)) | (refine gD ?_; first | (refine yN ?_; try simp only [cAp, nAp]) | refine yD0 ?_ | refine yD ?_ | (refine gD_go ?_; first | (refine JD_goq (rnb_s a ha) (hφ := (by (try simp only [cAp, nAp]); exact fun w hr => (hK w hr.1).1)) (h := ?_); rintro _ _ ⟨rfl, rfl⟩; try simp only [cAp, nAp]) | (refine JD_goq (rnb_s b hb) (hφ := (by (try simp only [cAp, nAp]); exact fun w hr => (hK w hr.1).2)) (h := ?_); rintro _ _ ⟨rfl, rfl⟩; try simp only [cAp, nAp]) | (refine JD_goq (rmed_s a ha) (hφ := xF) (h := ?_); rintro _ _ ⟨rfl, rfl⟩; try simp only [cAp, nAp]) | (refine JD_goq (rmed_s b hb) (hφ := xF) (h := ?_); rintro _ _ ⟨rfl, rfl⟩; try simp only [cAp, nAp]))) | refine yJ ?_ | refine zd102Vd1 ?_ | (refine yI ?_ ?_ <;> intro _ <;> try exact xX) | (refine yK ?_ ?_ <;> intro hgb <;> first | subst hgb | fail_if_success have : type_of% hgb := rfl) | fail))
    all_goals (first | (exfalso; omega) | skip)
    all_goals (refine J_ret1 rfl (by rfl) fun w H => ⟨_, ⟨?_, rfl⟩, H.sel .nil⟩; refine congrArg Value.bool ?_; show _ = (decide (cNb a = cNb b) && decide (cMed b < cMed a)); simp [*])
  · (repeat' (first | (refine gL ?_; first | refine yL0 ?_ | refine yL ?_ | (refine yM ?_; intro _)) | (refine gD ?_; first | (refine yN ?_; try simp only [cAp, nAp]) | refine yD0 ?_ | refine yD ?_) | refine yJ ?_ | refine zd102Vd1 ?_ | (refine yI ?_ ?_ <;> intro _ <;> try exact xX) | (refine yK ?_ ?_ <;> intro hgb <;> first | subst hgb | fail_if_success have : type_of% hgb := rfl) | fail))
    all_goals (first | (exfalso; omega) | skip)
    all_goals exact J_ret1 rfl (by rfl) fun w H => ⟨_, ⟨rfl, rfl⟩, H.sel .nil⟩
  · (repeat' (first | (refine gL ?_; first | refine yL0 ?_ | refine yL ?_ | (refine yM ?_; intro _)) | (refine gD ?_; first | (refine yN ?_; try simp only [cAp, nAp]) | refine yD0 ?_ | refine yD ?_) | refine yJ ?_ | refine zd102Vd1 ?_ | (refine yI ?_ ?_ <;> intro _ <;> try exact xX) | (refine yK ?_ ?_ <;> intro hgb <;> first | subst hgb | fail_if_success have : type_of% hgb := rfl) | fail))
    all_goals (first | (exfalso; omega) | skip)
    all_goals exact J_ret1 rfl (by rfl) fun w H => ⟨_, ⟨rfl, rfl⟩, H.sel .nil⟩
  · (repeat' (first | (refine gL ?_; first | refine yL0 ?_ | refine yL ?_ | (refine yM ?_; intro _)) | (refine gD ?_; first | (refine yN ?_; try simp only [cAp, nAp]) | refine yD0 ?_ | refine yD ?_) | refine yJ ?_ | refine zd102Vd1 ?_ | (refine yI ?_ ?_ <;> intro _ <;> try exact xX) | (refine yK ?_ ?_ <;> intro hgb <;> first | subst hgb | fail_if_success have : type_of% hgb := rfl) | fail))
    all_goals (first | (exfalso; omega) | skip)
    all_goals exact J_ret1 rfl (by rfl) fun w H => ⟨_, ⟨rfl, rfl⟩, H.sel .nil⟩
theorem zd61Vd2 {p q : Prop} (k : p) (h : p → q := by intro hk; first | exact J_draw (id := 17) [0, 1, 2, 3, 4, 5, 6, 7, 8, 9, 10, 11, 12, 13, 14, 15, 16] [17, 18, 19, 20] mixed xC xD xD hk | fail) : q := h k

def stays (s : Int) (es : List On) (o : On) : Bool := es.all fun x => !wrs s o.c x.c
theorem step_stays {s : Int} (hs : 1 ≤ s ∧ s ≤ 7) (es : List On) : stepL s es = es.filter (stays s es) := by
  refine stepL_eq s es _ fun o _ => ?_
  unfold stays
  rw [List.all_eq_true]
  constructor
  · intro h x hx hb
    have := h x hx
    rw [(wrs_beat hs o x).2 hb] at this
    cases this
  · intro h x hx
    have : wrs s o.c x.c = false := Bool.eq_false_iff.2 fun e => h x hx ((wrs_beat hs o x).1 e)
    rw [this]
    rfl
theorem step8 {cs : List Cd} {es : List On} (h : List.Sublist es (onesL cs)) : (stepL 8 es).map On.at_ = (es.map On.at_).take 1 := by
  have hp : (es.map On.at_).Pairwise (· < ·) := by
    refine List.Pairwise.sublist (h.map On.at_) ?_
    rw [onesL_at]
    exact List.Pairwise.map _ (fun a b h => Int.ofNat_lt.2 h) List.pairwise_lt_range
  cases es with
  | nil => rfl
  | cons o r =>
    have hr : ∀ y ∈ r, o.at_ < y.at_ := fun y hy => (List.pairwise_cons.1 hp).1 _ (List.mem_map.2 ⟨y, hy, rfl⟩)
    rw [stepL_eq 8 (o :: r) (fun x => decide (x.at_ = o.at_)) (fun x hx => by
      rw [decide_eq_true_eq]
      show _ ↔ ∀ y ∈ o :: r, ¬ y.at_ < x.at_
      constructor
      · intro e y hy
        rcases List.mem_cons.1 hy with rfl | hy
        · omega
        · have := hr y hy; omega
      · intro hb
        rcases List.mem_cons.1 hx with rfl | hx
        · rfl
        · exact absurd (hr x hx) (hb o (List.mem_cons_self ..)))]
    rw [List.filter_cons_of_pos (by simp), List.filter_eq_nil_iff.2 (fun y hy => by have := hr y hy; simp; omega)]
    rfl
theorem left8 (cs : List Cd) : leftL cs 8 = ((stepsN 7 (onesL cs)).map On.at_).take 1 := step8 (stepsN_subl 7 _)
structure Lj where
  k : Nat
  ad : Option Addr
  cc : Nat
set_option maxRecDepth 4000 in
theorem rleft_s (a : Option Addr) (c : Nat) (cs : List Cd) (hn : ∀ o ∈ cs, CdN o) (hl : cs.length ≤ 1000) : Pact Tryz.prog 61 #[.slice a cs.length c, .int .i64 8] (fun w => Vw w (.slice a cs.length c) 17 cs.length (flat cdC cs) ∧ candsV cs w) []
    (fun v L' => ∃ a' c', v = .slice a' (leftL cs 8).length c' ∧ L' = [Ar 3 1 i64C (.slice a' (leftL cs 8).length c') (leftL cs 8)]) := by
  refine pact Tryz.func61 rfl Tryz.ntmps61 rfl ?_
  intro W K hK
  have hv := hK.left
  rw [left8]
  (repeat' (first | (refine gL ?_; first | refine yL0 ?_ | refine yL ?_ | (refine yM ?_; intro _) | (refine yA ?_; intro _ _ _ _)) | (refine gD ?_; first | (refine yN ?_; try simp only [cAp, nAp]) | refine yD0 ?_ | refine yD ?_) | refine yJ ?_ | refine zd61Vd2 ?_ | (refine yI ?_ ?_ <;> intro _ <;> try exact xX) | (refine yK ?_ ?_ <;> intro hgb <;> first | subst hgb | fail_if_success have : type_of% hgb := rfl) | fail))
  rename_i b0
  refine J_loop (α := Lj) ⟨0, some ⟨b0, 0, none⟩, 0⟩ (fun x => cs.length - x.k) (fun x => x.k ≤ cs.length) (fun x => [(0, .slice a cs.length c), (1, .int .i64 8), (5, .slice x.ad ((onesL (cs.take x.k)).map On.at_).length x.cc), (6, .int .i64 x.k)])
    (fun x => [Ar 3 1 i64C (.slice x.ad ((onesL (cs.take x.k)).map On.at_).length x.cc) ((onesL (cs.take x.k)).map On.at_)]) (Nat.zero_le _) ⟨rfl, rfl, rfl, rfl, trivial⟩ (fun w H => (H.arLit0 .here).sel xZ) ?_
  rintro ⟨k, ad, cc⟩ hk
  dsimp only at hk ⊢
  have hok := onesL_len (cs.take k)
  have hlk : ((onesL (cs.take k)).map On.at_).length = k := by rw [List.length_map, hok, List.length_take]; omega
  by_cases hlt : k < cs.length
  · obtain ⟨x, hs⟩ : ∃ x, cs[k]? = some x := ⟨_, List.getElem?_eq_getElem hlt⟩
    (repeat' (first | (refine gL ?_; first | refine yL0 ?_ | (refine gL_c_append ?_; (refine JL_ap1 (z := (k : Int)) (tabE etab_ok xR) xR xR xA xA xC xR xL xR (by omega) xR xR ?_; intro ad2 c2 _ _)) | refine yL ?_ | (refine yM ?_; intro _) | (refine yA ?_; intro _ _ _ _)) | (refine gD ?_; first | (refine yN ?_; try simp only [cAp, nAp]) | refine yD0 ?_ | refine yD ?_) | refine yJ ?_ | refine zd61Vd2 ?_ | (refine yI ?_ ?_ <;> intro _ <;> try exact xX) | (refine yK ?_ ?_ <;> intro hgb <;> first | subst hgb | fail_if_success have : type_of% hgb := rfl) | fail))
    refine J_again ⟨k + 1, ad2, c2⟩ (by dsimp only; omega) hlt ⟨rfl, rfl, ?_, rfl, trivial⟩ (fun w H => ?_)
    · dsimp only
      rw [onesL_take hs, List.map_append, List.length_append]
      rfl
    · dsimp only
      rw [onesL_take hs, List.map_append, List.length_append]
      exact H.sel xZ
  obtain rfl : k = cs.length := by omega
  rw [List.take_length] at *
  (repeat' (first | (refine gL ?_; first | refine yL0 ?_ | refine yL ?_ | (refine yM ?_; intro _) | (refine yA ?_; intro _ _ _ _)) | (refine gD ?_; first | (refine yN ?_; try simp only [cAp, nAp]) | refine yD0 ?_ | refine yD ?_) | refine yJ ?_ | refine zd61Vd2 ?_ | (refine yI ?_ ?_ <;> intro _ <;> try exact xX) | (refine yK ?_ ?_ <;> intro hgb <;> first | subst hgb | fail_if_success have : type_of% hgb := rfl) | fail))
  refine J_loop (α := Lj) ⟨0, ad, cc⟩ (fun x => 8 - x.k) (fun x => x.k ≤ 7) (fun x => [(0, .slice a cs.length c), (1, .int .i64 8), (5, .slice x.ad ((stepsN x.k (onesL cs)).map On.at_).length x.cc), (7, .int .i64 (x.k + 1))])
    (fun x => [Ar 3 1 i64C (.slice x.ad ((stepsN x.k (onesL cs)).map On.at_).length x.cc) ((stepsN x.k (onesL cs)).map On.at_)]) (Nat.zero_le _) ⟨rfl, rfl, rfl, rfl, trivial⟩ (fun w H => H.sel xZ) ?_
  rintro ⟨s, ad, cc⟩ hs7
  dsimp only at hs7 ⊢
  have hel := stepsN_len s (onesL cs)
  rw [onesL_len] at hel
  have hsub := stepsN_sub s (onesL cs)
  by_cases hlt : s < 7
  · have hst := step_stays (s := (s : Int) + 1) (by omega) (stepsN s (onesL cs))
    have hs8 : stepsN (s + 1) (onesL cs) = (stepsN s (onesL cs)).filter (stays ((s : Int) + 1) (stepsN s (onesL cs))) := hst
    generalize stepsN s (onesL cs) = es at *
    have hml : (es.map On.at_).length = es.length := List.length_map ..
    rw [hml] at *
    (repeat' (first | (refine gL ?_; first | refine yL0 ?_ | refine yL ?_ | (refine yM ?_; intro _) | (refine yA ?_; intro _ _ _ _)) | (refine gD ?_; first | (refine yN ?_; try simp only [cAp, nAp]) | refine yD0 ?_ | refine yD ?_) | refine yJ ?_ | refine zd61Vd2 ?_ | (refine yI ?_ ?_ <;> intro _ <;> try exact xX) | (refine yK ?_ ?_ <;> intro hgb <;> first | subst hgb | fail_if_success have : type_of% hgb := rfl) | fail))
    rename_i b1
    refine J_loop (α := Lj) ⟨0, some ⟨b1, 0, none⟩, 0⟩ (fun x => es.length - x.k) (fun x => x.k ≤ es.length) (fun x => [(0, .slice a cs.length c), (1, .int .i64 8), (5, .slice ad es.length cc), (7, .int .i64 ((s : Int) + 1)), (8, .slice x.ad (((es.take x.k).filter (stays ((s : Int) + 1) es)).map On.at_).length x.cc), (9, .int .i64 x.k)])
      (fun x => [Ar 3 1 i64C (.slice ad es.length cc) (es.map On.at_), Ar 3 1 i64C (.slice x.ad (((es.take x.k).filter (stays ((s : Int) + 1) es)).map On.at_).length x.cc) (((es.take x.k).filter (stays ((s : Int) + 1) es)).map On.at_)]) (Nat.zero_le _) ⟨rfl, rfl, rfl, rfl, rfl, rfl, trivial⟩ (fun w H => (H.arLit0 .here).sel xZ) ?_
    rintro ⟨i, nad, ncc⟩ hi
    dsimp only at hi ⊢
    have hfl : (((es.take i).filter (stays ((s : Int) + 1) es)).map On.at_).length ≤ 1000 := by
      have h1 := List.length_filter_le (stays ((s : Int) + 1) es) (es.take i)
      rw [List.length_take] at h1
      rw [List.length_map]
      omega
    by_cases hil : i < es.length
    · obtain ⟨o, ho⟩ : ∃ o, es[i]? = some o := ⟨_, List.getElem?_eq_getElem hil⟩
      have hom := hsub o (List.mem_of_getElem? ho)
      obtain ⟨jo, ho1, ho2⟩ := onesL_get hom
      have hoi : (es.map On.at_)[i]? = some (jo : Int) := by rw [List.getElem?_map, ho, ← ho1]; rfl
      have hjo := (List.getElem?_eq_some_iff.1 ho2).1
      have hoc := (onesL_mem hom).1
      (repeat' (first | (refine gL ?_; first | refine yL0 ?_ | refine yL ?_ | (refine yM ?_; intro _) | (refine yA ?_; intro _ _ _ _)) | (refine gD ?_; first | (refine yN ?_; try simp only [cAp, nAp]) | refine yD0 ?_ | refine yD ?_) | refine yJ ?_ | refine zd61Vd2 ?_ | (refine yI ?_ ?_ <;> intro _ <;> try exact xX) | (refine yK ?_ ?_ <;> intro hgb <;> first | subst hgb | fail_if_success have : type_of% hgb := rfl) | fail))
      refine J_loop (α := Nat) 0 (fun k => es.length - k) (fun k => k ≤ es.length) (fun k => [(0, .slice a cs.length c), (1, .int .i64 8), (5, .slice ad es.length cc), (7, .int .i64 ((s : Int) + 1)), (8, .slice nad (((es.take i).filter (stays ((s : Int) + 1) es)).map On.at_).length ncc), (9, .int .i64 i), (10, .bool ((es.take k).all fun x => !wrs ((s : Int) + 1) o.c x.c)), (11, .int .i64 k)])
        (fun _ => [Ar 3 1 i64C (.slice ad es.length cc) (es.map On.at_), Ar 3 1 i64C (.slice nad (((es.take i).filter (stays ((s : Int) + 1) es)).map On.at_).length ncc) (((es.take i).filter (stays ((s : Int) + 1) es)).map On.at_)]) (Nat.zero_le _) ⟨rfl, rfl, rfl, rfl, rfl, rfl, rfl, rfl, trivial⟩ (fun w H => H.sel xZ) ?_
      intro k hk
      by_cases hkl : k < es.length
      · obtain ⟨x, hx⟩ : ∃ x, es[k]? = some x := ⟨_, List.getElem?_eq_getElem hkl⟩
        have hxm := hsub x (List.mem_of_getElem? hx)
        obtain ⟨jx, hx1, hx2⟩ := onesL_get hxm
        have hxi : (es.map On.at_)[k]? = some (jx : Int) := by rw [List.getElem?_map, hx, ← hx1]; rfl
        have hjx := (List.getElem?_eq_some_iff.1 hx2).1
        have hxc := (onesL_mem hxm).1
        have kw := worse_s ((s : Int) + 1) (by omega) o.c x.c (hn _ hoc) (hn _ hxc)
        have hnx : (es.take (k + 1)).all (fun x => !wrs ((s : Int) + 1) o.c x.c) = ((es.take k).all (fun x => !wrs ((s : Int) + 1) o.c x.c) && !wrs ((s : Int) + 1) o.c x.c) := by rw [take_snoc hx, List.all_append]; simp
        rcases hb : (es.take k).all fun x => !wrs ((s : Int) + 1) o.c x.c with _ | _
        all_goals rw [hb] at hnx
        · (repeat' (first | (refine gL ?_; first | refine yL0 ?_ | refine yL ?_ | (refine yM ?_; intro _) | (refine yA ?_; intro _ _ _ _)) | (refine gD ?_; first | (refine yN ?_; try simp only [cAp, nAp]) | refine yD0 ?_ | refine yD ?_ | (refine gD_go ?_; (refine JD_goq (kw) (hφ := (by (try simp only [cAp, nAp]); exact fun w hr => ⟨(hK w hr.1).2 _ hoc, (hK w hr.1).2 _ hxc⟩)) (h := ?_); rintro _ _ ⟨rfl, rfl⟩; try simp only [cAp, nAp]))) | refine yJ ?_ | refine zd61Vd2 ?_ | (refine yI ?_ ?_ <;> intro _ <;> try exact xX) | (refine yK ?_ ?_ <;> intro hgb <;> first | subst hgb | fail_if_success have : type_of% hgb := rfl) | fail))
          all_goals (first | (exfalso; omega) | skip)
          all_goals (refine J_again (k + 1) (by omega) hkl ⟨rfl, rfl, rfl, rfl, rfl, rfl, ?_, rfl, trivial⟩ (fun w H => H.sel xZ); rw [hnx]; rfl)
        · rcases hw : wrs ((s : Int) + 1) o.c x.c with _ | _
          all_goals rw [hw] at kw hnx
          all_goals (
            (repeat' (first | (refine gL ?_; first | refine yL0 ?_ | refine yL ?_ | (refine yM ?_; intro _) | (refine yA ?_; intro _ _ _ _)) | (refine gD ?_; first | (refine yN ?_; try simp only [cAp, nAp]) | refine yD0 ?_ | refine yD ?_ | (refine gD_go ?_; (refine JD_goq (kw) (hφ := (by (try simp only [cAp, nAp]); exact fun w hr => ⟨(hK w hr.1).2 _ hoc, (hK w hr.1).2 _ hxc⟩)) (h := ?_); rintro _ _ ⟨rfl, rfl⟩; try simp only [cAp, nAp]))) | refine yJ ?_ | refine zd61Vd2 ?_ | (refine yI ?_ ?_ <;> intro _ <;> try exact xX) | (refine yK ?_ ?_ <;> intro hgb <;> first | subst hgb | fail_if_success have : type_of% hgb := rfl) | fail))
            all_goals (first | (exfalso; omega) | skip)
            all_goals (refine J_again (k + 1) (by omega) hkl ⟨rfl, rfl, rfl, rfl, rfl, rfl, ?_, rfl, trivial⟩ (fun w H => H.sel xZ); rw [hnx]; rfl))
      · obtain rfl : k = es.length := by omega
        rw [List.take_length]
        have hfi : (es.take (i + 1)).filter (stays ((s : Int) + 1) es) = (es.take i).filter (stays ((s : Int) + 1) es) ++ (if stays ((s : Int) + 1) es o then [o] else []) := by
          rw [take_snoc ho, List.filter_append]
          cases hq : stays ((s : Int) + 1) es o <;> simp [List.filter_cons, hq]
        rcases hb : es.all fun x => !wrs ((s : Int) + 1) o.c x.c with _ | _
        all_goals (have hb2 : stays ((s : Int) + 1) es o = _ := hb; rw [hb2] at hfi)
        · rw [if_neg (by simp), List.append_nil] at hfi
          (repeat' (first | (refine gL ?_; first | refine yL0 ?_ | refine yL ?_ | (refine yM ?_; intro _) | (refine yA ?_; intro _ _ _ _)) | (refine gD ?_; first | (refine yN ?_; try simp only [cAp, nAp]) | refine yD0 ?_ | refine yD ?_) | refine yJ ?_ | refine zd61Vd2 ?_ | (refine yI ?_ ?_ <;> intro _ <;> try exact xX) | (refine yK ?_ ?_ <;> intro hgb <;> first | subst hgb | fail_if_success have : type_of% hgb := rfl) | fail))
          all_goals (first | (exfalso; omega) | skip)
          refine J_again ⟨i + 1, nad, ncc⟩ (by dsimp only; omega) hil ⟨rfl, rfl, rfl, rfl, ?_, rfl, trivial⟩ (fun w H => ?_)
          · dsimp only
            rw [hfi]
            rfl
          · dsimp only
            rw [hfi]
            exact H.sel xZ
        · rw [if_pos rfl] at hfi
          (repeat' (first | (refine gL ?_; first | refine yL0 ?_ | (refine gL_c_append ?_; (refine JL_ap1 (z := (jo : Int)) (tabE etab_ok xR) xR xR (show Tk _ (Ar 3 1 i64C (.slice nad (((es.take i).filter (stays ((s : Int) + 1) es)).map On.at_).length ncc) (((es.take i).filter (stays ((s : Int) + 1) es)).map On.at_)) _ by (first | ((with_reducible (repeat (first | exact Tk.here | apply Tk.there))); done) | ((simp only [List.cons_append, List.nil_append]); (with_reducible (repeat (first | exact Tk.here | apply Tk.there))); done) | fail)) xA xC xR xL xR (by omega) xR xR ?_; intro ad2 c2 _ _)) | refine yL ?_ | (refine yM ?_; intro _) | (refine yA ?_; intro _ _ _ _)) | (refine gD ?_; first | (refine yN ?_; try simp only [cAp, nAp]) | refine yD0 ?_ | refine yD ?_) | refine yJ ?_ | refine zd61Vd2 ?_ | (refine yI ?_ ?_ <;> intro _ <;> try exact xX) | (refine yK ?_ ?_ <;> intro hgb <;> first | subst hgb | fail_if_success have : type_of% hgb := rfl) | fail))
          all_goals (first | (exfalso; omega) | skip)
          refine J_again ⟨i + 1, ad2, c2⟩ (by dsimp only; omega) hil ⟨rfl, rfl, rfl, rfl, ?_, rfl, trivial⟩ (fun w H => ?_)
          · dsimp only
            rw [hfi, List.map_append, List.length_append]
            rfl
          · dsimp only
            rw [hfi, List.map_append, List.length_append]
            simp only [List.map_cons, List.map_nil, ho1]
            exact H.sel xZ
    · obtain rfl : i = es.length := by omega
      rw [List.take_length, ← hs8]
      (repeat' (first | (refine gL ?_; first | refine yL0 ?_ | refine yL ?_ | (refine yM ?_; intro _) | (refine yA ?_; intro _ _ _ _)) | (refine gD ?_; first | (refine yN ?_; try simp only [cAp, nAp]) | refine yD0 ?_ | refine yD ?_) | refine yJ ?_ | refine zd61Vd2 ?_ | (refine yI ?_ ?_ <;> intro _ <;> try exact xX) | (refine yK ?_ ?_ <;> intro hgb <;> first | subst hgb | fail_if_success have : type_of% hgb := rfl) | fail))
      all_goals (first | (exfalso; omega) | skip)
      exact J_again ⟨s + 1, nad, ncc⟩ (by dsimp only; omega) hlt ⟨rfl, rfl, rfl, rfl, trivial⟩ (fun w H => H.sel xZ)
  · obtain rfl : s = 7 := by omega
    generalize stepsN 7 (onesL cs) = es at *
    have hml : (es.map On.at_).length = es.length := List.length_map ..
    by_cases h0 : es.length = 0
    · obtain rfl := List.eq_nil_of_length_eq_zero h0
      (repeat' (first | (refine gL ?_; first | refine yL0 ?_ | refine yL ?_ | (refine yM ?_; intro _) | (refine yA ?_; intro _ _ _ _)) | (refine gD ?_; first | (refine yN ?_; try simp only [cAp, nAp]) | refine yD0 ?_ | refine yD ?_) | refine yJ ?_ | refine zd61Vd2 ?_ | (refine yI ?_ ?_ <;> intro _ <;> try exact xX) | (refine yK ?_ ?_ <;> intro hgb <;> first | subst hgb | fail_if_success have : type_of% hgb := rfl) | fail))
      all_goals (first | (exfalso; omega) | skip)
      exact J_ret1 rfl (by rfl) fun w H => ⟨_, ⟨ad, cc, rfl, rfl⟩, H.sel xZ⟩
    · have hm1 : ((es.map On.at_).take 1).length = 1 := by rw [List.length_take]; omega
      rw [hm1, hml]
      refine J_fact (φ := es.length ≤ cc ∧ cc ≤ maxLen) (fun w H => (H.arShape .here).2) ?_
      rintro ⟨hcc, hcm⟩
      unfold maxLen at hcm
      (repeat' (first | (refine gL ?_; first | refine yL0 ?_ | refine yL ?_ | (refine yM ?_; intro _) | (refine yA ?_; intro _ _ _ _)) | (refine gD ?_; first | (refine yN ?_; try simp only [cAp, nAp]) | refine yD0 ?_ | refine yD ?_) | refine yJ ?_ | refine zd61Vd2 ?_ | (refine yI ?_ ?_ <;> intro _ <;> try exact xX) | (refine yK ?_ ?_ <;> intro hgb <;> first | subst hgb | fail_if_success have : type_of% hgb := rfl) | fail))
      all_goals (first | (exfalso; omega) | skip)
      refine J_ret1 rfl (by rfl) fun w H => ⟨_, ⟨ad, cc, rfl, rfl⟩, ?_⟩
      have H2 := H.arTake .here (by intro _; rfl) 1 (by rw [hml]; omega)
      exact H2.sel xZ
theorem rpick_s (a : Option Addr) (c : Nat) (cs : List Cd) (hn : ∀ o ∈ cs, CdN o) (hl : cs.length ≤ 1000) : Pact Tryz.prog 26 #[.slice a cs.length c] (fun w => Vw w (.slice a cs.length c) 17 cs.length (flat cdC cs) ∧ candsV cs w) [] (ret0 (.int .i64 ((leftL cs 8).head?.getD (-1)))) := by
  refine pact Tryz.func26 rfl Tryz.ntmps26 rfl ?_
  intro W K hK
  have kl := rleft_s a c cs hn hl
  rcases hq : leftL cs 8 with _ | ⟨z, l⟩
  all_goals rw [hq] at kl
  · (repeat' (first | (refine gL ?_; first | refine yL0 ?_ | refine yL ?_ | (refine gL_go ?_; (refine JL_goq (kl) (hφ := (by (try simp only [cAp, nAp]); exact fun w hr => hK w hr.1)) (h := ?_); rintro _ _ ⟨a', c', rfl, rfl⟩; try simp only [cAp, nAp]))) | refine yJ ?_ | (refine yI ?_ ?_ <;> intro _ <;> try exact xX) | (refine yK ?_ ?_ <;> intro hgb <;> first | subst hgb | fail_if_success have : type_of% hgb := rfl) | fail))
    all_goals (first | (exfalso; omega) | skip)
    exact J_ret1 rfl (by rfl) fun w H => ⟨_, ⟨rfl, rfl⟩, H.sel .nil⟩
  · have hll : (z :: l).length = l.length + 1 := rfl
    have hz : (z :: l)[0]? = some z := rfl
    generalize z :: l = zs at *
    (repeat' (first | (refine gL ?_; first | refine yL0 ?_ | refine yL ?_ | (refine gL_go ?_; (refine JL_goq (kl) (hφ := (by (try simp only [cAp, nAp]); exact fun w hr => hK w hr.1)) (h := ?_); rintro _ _ ⟨a', c', rfl, rfl⟩; try simp only [cAp, nAp]))) | refine yJ ?_ | (refine yI ?_ ?_ <;> intro _ <;> try exact xX) | (refine yK ?_ ?_ <;> intro hgb <;> first | subst hgb | fail_if_success have : type_of% hgb := rfl) | fail))
    all_goals (first | (exfalso; omega) | skip)
    refine J_ret1 rfl (by rfl) fun w H => ⟨_, ⟨?_, rfl⟩, H.sel .nil⟩
    rw [List.head?_eq_getElem?, hz]
    rfl
end Go.Proofs.YtdnokmpnemaoaaaGreat.B
