/-
  Tq2, Tq3, Tq4, Tq5: merged.
-/
import Derived.Test.YtdnokmpnemaoaaaGreatZViewChooses21
namespace Go.Proofs.YtdnokmpnemaoaaaGreat.T
set_option linter.unusedSimpArgs false
set_option linter.unusedVariables false
set_option maxRecDepth 20000
set_option maxHeartbeats 4000000
open Go.RowKit Go.Pm
theorem zd148Tq2 {p q : Prop} (k : p) (h : p → q := by intro hk; first | exact J_draw (id := 2) [0, 1, 2, 3, 4, 5, 6, 7, 8, 9, 10, 12, 13, 14, 11] [15, 16, 17] mixed xC xD xD hk | fail) : q := h k

theorem rt_lo {p : Pf} (h : Rt p) : 0 ≤ p.2 := h.1
theorem rt_hi {p : Pf} (h : Rt p) : p.2 ≤ 32 := h.2.1
theorem within_s (p q : Pf) (hp : PfN p) (hq : PfN q) : Pact Tryz.prog 139 #[.agg (pfC p).toArray, .agg (pfC q).toArray] (fun _ => True) [] (ret0 (.bool (decide (Wi p q)))) := by
  refine pact Tryz.func139 rfl Tryz.ntmps139 rfl ?_
  intro W K _
  (repeat' (first | (refine gL ?_; first | refine yL0 ?_ | refine yL ?_ | (refine yM ?_; intro _)) | (refine gD ?_; first | (refine yN ?_; try simp only [cAp, nAp]) | refine yD0 ?_ | refine yD ?_ | (refine gD_go ?_; first | (refine JD_goq (right_s p hp) (hφ := xF) (h := ?_); rintro _ _ ⟨rfl, rfl⟩; try simp only [cAp, nAp]) | (refine JD_goq (right_s q hq) (hφ := xF) (h := ?_); rintro _ _ ⟨rfl, rfl⟩; try simp only [cAp, nAp]) | (refine JD_goq (mask_s q.1 p.2 hq.1 (rt_lo (by assumption)) (rt_hi (by assumption))) (hφ := xF) (h := ?_); rintro _ _ ⟨rfl, rfl⟩; try simp only [cAp, nAp]))) | refine yJ ?_ | refine J_draw (id := 1) [0] [1, 2, 3, 4, 5, 6, 7, 8, 9, 10, 11, 12, 13, 14, 15, 16, 17, 19, 20, 18, 21, 22, 23] mixed xC xD xD ?_ | (refine yI ?_ ?_ <;> intro _ <;> try exact xX) | (refine yK ?_ ?_ <;> intro hgb <;> first | subst hgb | fail_if_success have : type_of% hgb := rfl) | fail))
  all_goals (refine J_ret1 rfl (by rfl) fun w H => ⟨[], ⟨?_, rfl⟩, H.sel .nil⟩)
  all_goals congr 1
  · rename_i h1 h2 h3
    have := mask_eq (q := q) h1
    simp [Wi, h1, h2, h3, this]
  · rename_i h1 h2 h3
    simp [Wi, h1, h2, h3]
  · rename_i h1 h2
    simp [Wi, h1, h2]
  · rename_i h1
    simp [Wi, h1]
theorem bt_div (a l : Int) (h0 : 0 ≤ l) (h1 : l < 32) : a / pw (l + 1) = 2 * (a / pw l) + bt a l := by
  have h := pw_succ l h0 h1
  have h2 : a / pw l = a / pw (l + 1) / 2 := by
    rw [h, Int.mul_comm, Int.ediv_ediv_of_nonneg (Int.le_of_lt (pw_pos _))]
  unfold bt
  omega
def Com (p q : Pf) (v : Value) : Prop := ∃ n : Int, 0 ≤ n ∧ n ≤ p.2 ∧ n ≤ q.2 ∧ p.1 / pw n = q.1 / pw n ∧ (n < p.2 → n < q.2 → bt p.1 n ≠ bt q.1 n) ∧ v = .agg (pfC (p.1 - p.1 % pw n, n)).toArray
theorem common_s (p q : Pf) (hp : PfN p) (hq : PfN q) (rp : Rt p) (rq : Rt q) : Pact Tryz.prog 148 #[.agg (pfC p).toArray, .agg (pfC q).toArray] (fun _ => True) [] (fun v L' => Com p q v ∧ L' = []) := by
  refine pact Tryz.func148 rfl Tryz.ntmps148 rfl ?_
  intro W K _
  have b1 := rp.1
  have b2 := rp.2.1
  have b3 := rq.1
  have b4 := rq.2.1
  (repeat' (first | (refine gL ?_; first | refine yL0 ?_ | refine yL ?_ | (refine yM ?_; intro _)) | (refine gD ?_; first | (refine yN ?_; try simp only [cAp, nAp]) | refine yD0 ?_ | refine yD ?_) | refine yJ ?_ | refine zd148Tq2 ?_ | (refine yI ?_ ?_ <;> intro _ <;> try exact xX) | (refine yK ?_ ?_ <;> intro hgb <;> first | subst hgb | fail_if_success have : type_of% hgb := rfl) | fail))
  rename_i g1 g2 g3
  refine J_loop (α := Nat) 0 (fun k => (min p.2 q.2).toNat - k) (fun k => (k : Int) ≤ p.2 ∧ (k : Int) ≤ q.2 ∧ p.1 / pw k = q.1 / pw k) (fun k => [(2, .pointer (some ⟨g1, 0, none⟩)), (3, .pointer (some ⟨g2, 0, none⟩)), (4, .pointer (some ⟨g3, 0, none⟩)), (5, .int .i64 k)])
    (fun _ => [pts g1 (pfC p) 28, pts g2 (pfC q) 28, pts g3 [.int .u32 0, .int .i64 0] 28]) ⟨b1, b3, ?_⟩ ⟨rfl, rfl, rfl, rfl, trivial⟩ (fun w H => H.sel xZ) ?_
  · have h1 := hp.1
    have h2 := hq.1
    unfold U32 at h1 h2
    show p.1 / pw 0 = q.1 / pw 0
    rw [pw_0]
    omega
  rintro k ⟨hk1, hk2, he⟩
  by_cases hlt : (k : Int) < min p.2 q.2
  · have d1 := bt_div p.1 k (by omega) (by omega)
    have d2 := bt_div q.1 k (by omega) (by omega)
    by_cases hb : bt p.1 k = bt q.1 k
    · (repeat' (first | (refine gL ?_; first | refine yL0 ?_ | refine yL ?_ | (refine gL_go ?_; first | (refine JL_goq (bit_s p.1 k hp.1 (by omega) (by omega)) (hφ := xF) (h := ?_); rintro _ _ ⟨rfl, rfl⟩; try simp only [cAp, nAp]) | (refine JL_goq (bit_s q.1 k hq.1 (by omega) (by omega)) (hφ := xF) (h := ?_); rintro _ _ ⟨rfl, rfl⟩; try simp only [cAp, nAp])) | (refine yM ?_; intro _)) | (refine gD ?_; first | (refine yN ?_; try simp only [cAp, nAp]) | refine yD0 ?_ | refine yD ?_ | (refine gD_go ?_; first | (refine JD_goq (bit_s p.1 k hp.1 (by omega) (by omega)) (hφ := xF) (h := ?_); rintro _ _ ⟨rfl, rfl⟩; try simp only [cAp, nAp]) | (refine JD_goq (bit_s q.1 k hq.1 (by omega) (by omega)) (hφ := xF) (h := ?_); rintro _ _ ⟨rfl, rfl⟩; try simp only [cAp, nAp]))) | refine yJ ?_ | refine zd148Tq2 ?_ | (refine yI ?_ ?_ <;> intro _ <;> try exact xX) | (refine yK ?_ ?_ <;> intro hgb <;> first | subst hgb | fail_if_success have : type_of% hgb := rfl) | fail))
      refine J_again (k + 1) (by omega) ⟨by omega, by omega, ?_⟩ ⟨rfl, rfl, rfl, rfl, trivial⟩ (fun w H => H.sel xZ)
      show p.1 / pw ((k : Int) + 1) = q.1 / pw ((k : Int) + 1)
      rw [d1, d2, he, hb]
    · (repeat' (first | (refine gL ?_; first | refine yL0 ?_ | refine yL ?_ | (refine gL_go ?_; first | (refine JL_goq (bit_s p.1 k hp.1 (by omega) (by omega)) (hφ := xF) (h := ?_); rintro _ _ ⟨rfl, rfl⟩; try simp only [cAp, nAp]) | (refine JL_goq (bit_s q.1 k hq.1 (by omega) (by omega)) (hφ := xF) (h := ?_); rintro _ _ ⟨rfl, rfl⟩; try simp only [cAp, nAp]) | (refine JL_goq (first_s p.1 k hp.1 (by omega) (by omega)) (hφ := xF) (h := ?_); rintro _ _ ⟨rfl, rfl⟩; try simp only [cAp, nAp])) | (refine yM ?_; intro _)) | (refine gD ?_; first | (refine yN ?_; try simp only [cAp, nAp]) | refine yD0 ?_ | refine yD ?_ | (refine gD_go ?_; first | (refine JD_goq (bit_s p.1 k hp.1 (by omega) (by omega)) (hφ := xF) (h := ?_); rintro _ _ ⟨rfl, rfl⟩; try simp only [cAp, nAp]) | (refine JD_goq (bit_s q.1 k hq.1 (by omega) (by omega)) (hφ := xF) (h := ?_); rintro _ _ ⟨rfl, rfl⟩; try simp only [cAp, nAp]) | (refine JD_goq (first_s p.1 k hp.1 (by omega) (by omega)) (hφ := xF) (h := ?_); rintro _ _ ⟨rfl, rfl⟩; try simp only [cAp, nAp]))) | refine yJ ?_ | refine zd148Tq2 ?_ | (refine yI ?_ ?_ <;> intro _ <;> try exact xX) | (refine yK ?_ ?_ <;> intro hgb <;> first | subst hgb | fail_if_success have : type_of% hgb := rfl) | fail))
      refine J_retC (cs := [.int .u32 (p.1 - p.1 % pw k), .int .i64 k]) rfl (by rfl) xA (by rfl) fun w H => ⟨_, ⟨⟨k, by omega, hk1, hk2, he, fun _ _ => hb, rfl⟩, rfl⟩, H.sel .nil⟩
  · (repeat' (first | (refine gL ?_; first | refine yL0 ?_ | refine yL ?_ | (refine gL_go ?_; (refine JL_goq (first_s p.1 k hp.1 (by omega) (by omega)) (hφ := xF) (h := ?_); rintro _ _ ⟨rfl, rfl⟩; try simp only [cAp, nAp])) | (refine yM ?_; intro _)) | (refine gD ?_; first | (refine yN ?_; try simp only [cAp, nAp]) | refine yD0 ?_ | refine yD ?_ | (refine gD_go ?_; (refine JD_goq (first_s p.1 k hp.1 (by omega) (by omega)) (hφ := xF) (h := ?_); rintro _ _ ⟨rfl, rfl⟩; try simp only [cAp, nAp]))) | refine yJ ?_ | refine zd148Tq2 ?_ | (refine yI ?_ ?_ <;> intro _ <;> try exact xX) | (refine yK ?_ ?_ <;> intro hgb <;> first | subst hgb | fail_if_success have : type_of% hgb := rfl) | fail))
    refine J_retC (cs := [.int .u32 (p.1 - p.1 % pw k), .int .i64 k]) rfl (by rfl) xA (by rfl) fun w H => ⟨_, ⟨⟨k, by omega, hk1, hk2, he, fun _ _ => by omega, rfl⟩, rfl⟩, H.sel .nil⟩

/-! The document's answer. -/
def Ah (p q : Pf) : Prop := p.1 < q.1 ∨ (p.1 = q.1 ∧ p.2 < q.2)
instance (p q : Pf) : Decidable (Ah p q) := inferInstanceAs (Decidable (_ ∨ (_ ∧ _)))

theorem div_pw (a l m : Int) (h0 : 0 ≤ l) (h1 : l ≤ m) (h2 : m ≤ 32) : a / pw l = a / pw m / 2 ^ (m - l).toNat := by
  have : pw l = pw m * 2 ^ (m - l).toNat := by
    unfold pw
    rw [← Int.pow_add]
    congr 1
    omega
  rw [this, Int.ediv_ediv_of_nonneg (Int.le_of_lt (pw_pos _))]
theorem Wi.rt1 {p q : Pf} (h : Wi p q) : Rt p := h.1
theorem Wi.rt2 {p q : Pf} (h : Wi p q) : Rt q := h.2.1
theorem Wi.le {p q : Pf} (h : Wi p q) : p.2 ≤ q.2 := h.2.2.1
theorem Wi.refl {p : Pf} (h : Rt p) : Wi p p := ⟨h, h, Int.le_refl _, rfl⟩
theorem Wi.trans {p q r : Pf} (h : Wi p q) (k : Wi q r) : Wi p r := by
  refine ⟨h.1, k.2.1, Int.le_trans h.le k.le, ?_⟩
  rw [div_pw r.1 p.2 q.2 h.1.1 h.le (rt_hi h.2.1), k.2.2.2, ← div_pw q.1 p.2 q.2 h.1.1 h.le (rt_hi h.2.1), h.2.2.2]
theorem Wi.comp {p q r : Pf} (h : Wi p r) (k : Wi q r) (hl : p.2 ≤ q.2) : Wi p q := by
  refine ⟨h.1, k.1, hl, ?_⟩
  rw [div_pw q.1 p.2 q.2 h.1.1 hl (rt_hi k.1), ← k.2.2.2, ← div_pw r.1 p.2 q.2 h.1.1 hl (rt_hi k.1), h.2.2.2]
theorem rt_eq {p : Pf} (h : Rt p) : p.1 = pw p.2 * (p.1 / pw p.2) := by
  have := Int.mul_ediv_add_emod p.1 (pw p.2)
  have := h.2.2
  omega
theorem Wi.anti {p q : Pf} (h : Wi p q) (hl : q.2 ≤ p.2) : p = q := by
  have hle := h.le
  have e : p.2 = q.2 := by omega
  have h1 := rt_eq h.1
  have h2 := rt_eq h.2.1
  have h3 := h.2.2.2
  rw [e] at h1 h3
  have : p.1 = q.1 := by rw [h1, h2, h3]
  exact Prod.ext this e
theorem Wi.lt {p q : Pf} (h : Wi p q) (hne : p ≠ q) : p.2 < q.2 := by
  rcases Int.lt_or_le p.2 q.2 with h1 | h1
  · exact h1
  · exact (hne (h.anti h1)).elim
theorem Wi.lo {p q : Pf} (h : Wi p q) : p.1 ≤ q.1 := by
  have h1 := rt_eq h.1
  have h2 := Int.mul_ediv_add_emod q.1 (pw p.2)
  have h3 := Int.emod_nonneg q.1 (Int.ne_of_gt (pw_pos p.2))
  rw [h.2.2.2] at h2
  omega
theorem Wi.hi {p q : Pf} (h : Wi p q) : q.1 < p.1 + pw p.2 := by
  have h1 := rt_eq h.1
  have h2 := Int.mul_ediv_add_emod q.1 (pw p.2)
  have h3 := Int.emod_lt_of_pos q.1 (pw_pos p.2)
  rw [h.2.2.2] at h2
  omega

def kid (p : Pf) (i : Bool) : Pf := (p.1 + (if i then pw (p.2 + 1) else 0), p.2 + 1)
def btB (a l : Int) : Bool := decide (bt a l = 1)
theorem kid_div {p : Pf} (h : Rt p) (h1 : p.2 < 32) (i : Bool) : (kid p i).1 / pw (p.2 + 1) = 2 * (p.1 / pw p.2) + (if i then 1 else 0) := by
  have e := rt_eq h
  have hp := pw_succ p.2 h.1 h1
  have hpos := pw_pos (p.2 + 1)
  have e2 : (kid p i).1 = pw (p.2 + 1) * (2 * (p.1 / pw p.2) + (if i then 1 else 0)) := by
    show p.1 + (if i then pw (p.2 + 1) else 0) = _
    rw [Int.mul_add, ← Int.mul_assoc, Int.mul_comm (pw (p.2 + 1)) 2, ← hp, ← e]
    cases i <;> simp
  rw [e2, Int.mul_ediv_cancel_left _ (Int.ne_of_gt hpos)]
theorem kid_rt {p : Pf} (h : Rt p) (h1 : p.2 < 32) (i : Bool) : Rt (kid p i) := by
  have e := rt_eq h
  have hp := pw_succ p.2 h.1 h1
  refine ⟨by show 0 ≤ p.2 + 1; have := h.1; omega, by show p.2 + 1 ≤ 32; omega, ?_⟩
  show (kid p i).1 % pw (p.2 + 1) = 0
  have e2 : (kid p i).1 = pw (p.2 + 1) * (2 * (p.1 / pw p.2) + (if i then 1 else 0)) := by
    show p.1 + (if i then pw (p.2 + 1) else 0) = _
    rw [Int.mul_add, ← Int.mul_assoc, Int.mul_comm (pw (p.2 + 1)) 2, ← hp, ← e]
    cases i <;> simp
  rw [e2, Int.mul_emod_right]
theorem kid_wi {p q : Pf} {i : Bool} (h : Wi (kid p i) q) (hp : Rt p) : Wi p q ∧ p ≠ q ∧ btB q.1 p.2 = i := by
  have hlt : p.2 < 32 := by have := h.rt1.2.1; have e : (kid p i).2 = p.2 + 1 := rfl; omega
  have hle : p.2 + 1 ≤ q.2 := h.le
  have h3 : q.1 / pw (p.2 + 1) = (kid p i).1 / pw (p.2 + 1) := h.2.2.2
  rw [kid_div hp hlt i, bt_div q.1 p.2 hp.1 hlt] at h3
  have hb := bt_cases q.1 p.2
  have e1 : q.1 / pw p.2 = p.1 / pw p.2 := by cases i <;> simp at h3 <;> omega
  refine ⟨⟨hp, h.rt2, by omega, e1⟩, fun e => by subst e; omega, ?_⟩
  unfold btB
  cases i
  · apply decide_eq_false; simp at h3; omega
  · apply decide_eq_true; simp at h3; omega
theorem wi_kid {p q : Pf} (h : Wi p q) (hne : p ≠ q) : p.2 < 32 ∧ Wi (kid p (btB q.1 p.2)) q := by
  have hl := h.lt hne
  have hq := rt_hi h.2.1
  have hlt : p.2 < 32 := by omega
  refine ⟨hlt, kid_rt h.1 hlt _, h.rt2, by show p.2 + 1 ≤ q.2; omega, ?_⟩
  show q.1 / pw (p.2 + 1) = _
  show q.1 / pw (p.2 + 1) = (kid p (btB q.1 p.2)).1 / pw (p.2 + 1)
  rw [kid_div h.1 hlt, bt_div q.1 p.2 h.1.1 hlt, h.2.2.2]
  have hb := bt_cases q.1 p.2
  unfold btB
  rcases hb with hb | hb <;> simp [hb]

/-! Order. -/
theorem Ah.trans {p q r : Pf} (h : Ah p q) (k : Ah q r) : Ah p r := by unfold Ah at *; omega
theorem Ah.irrefl {p : Pf} : ¬ Ah p p := by unfold Ah; omega
theorem Ah.asymm {p q : Pf} (h : Ah p q) : ¬ Ah q p := by unfold Ah at *; omega
theorem Ah.total {p q : Pf} (h : ¬ Ah p q) (hne : p ≠ q) : Ah q p := by
  have : ¬ (p.1 = q.1 ∧ p.2 = q.2) := fun ⟨a, b⟩ => hne (Prod.ext a b)
  unfold Ah at *
  omega
theorem wi_ah {p q : Pf} (h : Wi p q) (hne : p ≠ q) : Ah p q := by
  have := h.lo
  have := h.lt hne
  unfold Ah
  omega

/-! Values. -/
abbrev Vt := Int × Int × Bool
abbrev vC (v : Vt) : List Value := [.int .i64 v.1, .int .i64 v.2.1, .bool v.2.2]
def VN (v : Vt) : Prop := I64 v.1 ∧ I64 v.2.1
abbrev zV : Vt := (0, 0, false)
/-! Trees. -/
inductive Tr where
  | nil
  | node (b : Nat) (p : Pf) (has : Bool) (v : Vt) (k0 k1 : Tr)
abbrev Ent := Pf × Vt
def ents : Tr → List Ent
  | .nil => []
  | .node _ p has v k0 k1 => (if has then [(p, v)] else []) ++ (ents k0 ++ ents k1)
def wf : Pf → Tr → Prop
  | _, .nil => True
  | r, .node _ p _ v k0 k1 => PfN p ∧ VN v ∧ Wi r p ∧ wf (kid p false) k0 ∧ wf (kid p true) k1
theorem wf_wi : ∀ {t : Tr} {r : Pf} {e : Ent}, wf r t → e ∈ ents t → Wi r e.1 ∧ PfN e.1 ∧ VN e.2
  | .nil, _, _, _, h => by simp [ents] at h
  | .node b p has v k0 k1, r, e, ⟨hn, hv, hw, h0, h1⟩, h => by
    simp only [ents, List.mem_append] at h
    rcases h with h | h | h
    · cases has <;> simp at h
      subst h
      exact ⟨hw, hn, hv⟩
    · obtain ⟨a, c⟩ := wf_wi h0 h
      exact ⟨hw.trans (kid_wi a hw.rt2).1, c⟩
    · obtain ⟨a, c⟩ := wf_wi h1 h
      exact ⟨hw.trans (kid_wi a hw.rt2).1, c⟩
def Srt (l : List Ent) : Prop := l.Pairwise fun x y => Ah x.1 y.1
theorem wf_srt : ∀ {t : Tr} {r : Pf}, wf r t → Srt (ents t)
  | .nil, _, _ => .nil
  | .node b p has v k0 k1, r, ⟨hn, hv, hw, h0, h1⟩ => by
    have hp := hw.rt2
    refine List.pairwise_append.2 ⟨by cases has <;> simp, List.pairwise_append.2 ⟨wf_srt h0, wf_srt h1, fun x hx y hy => ?_⟩, fun x hx y hy => ?_⟩
    · have a := (wf_wi h0 hx).1
      have c := (wf_wi h1 hy).1
      have e1 := a.hi
      have e2 := c.lo
      have e3 : (kid p false).1 = p.1 := by show p.1 + (if false = true then _ else 0) = p.1; simp
      have e4 : (kid p true).1 = p.1 + pw (p.2 + 1) := rfl
      have e5 : (kid p false).2 = p.2 + 1 := rfl
      rw [e3, e5] at e1
      rw [e4] at e2
      exact .inl (by omega)
    · cases has <;> simp at hx
      subst hx
      rcases List.mem_append.1 hy with hy | hy
      · obtain ⟨a, c, _⟩ := kid_wi (wf_wi h0 hy).1 hp
        exact wi_ah a c
      · obtain ⟨a, c, _⟩ := kid_wi (wf_wi h1 hy).1 hp
        exact wi_ah a c

theorem srt_ext : ∀ {l m : List Ent}, Srt l → Srt m → (∀ x, x ∈ l ↔ x ∈ m) → l = m
  | [], [], _, _, _ => rfl
  | [], y :: m, _, _, h => by have := (h y).2 (by simp); simp at this
  | x :: l, [], _, _, h => by have := (h x).1 (by simp); simp at this
  | x :: l, y :: m, hl, hm, h => by
    have hxy : x = y := by
      have h1 := (h x).1 (by simp)
      have h2 := (h y).2 (by simp)
      rcases List.mem_cons.1 h1 with h1 | h1
      · exact h1
      rcases List.mem_cons.1 h2 with h2 | h2
      · exact h2.symm
      exact absurd ((List.pairwise_cons.1 hl).1 y h2) ((List.pairwise_cons.1 hm).1 x h1).asymm
    subst hxy
    congr 1
    refine srt_ext (List.pairwise_cons.1 hl).2 (List.pairwise_cons.1 hm).2 fun z => ?_
    have hz := h z
    constructor
    · intro hzl
      have := hz.1 (List.mem_cons_of_mem _ hzl)
      rcases List.mem_cons.1 this with e | e
      · subst e; exact absurd ((List.pairwise_cons.1 hl).1 z hzl) Ah.irrefl
      · exact e
    · intro hzl
      have := hz.2 (List.mem_cons_of_mem _ hzl)
      rcases List.mem_cons.1 this with e | e
      · subst e; exact absurd ((List.pairwise_cons.1 hm).1 z hzl) Ah.irrefl
      · exact e
theorem srt_key {l : List Ent} (h : Srt l) {x y : Ent} (hx : x ∈ l) (hy : y ∈ l) (e : x.1 = y.1) : x = y := by
  induction h with
  | nil => simp at hx
  | cons ha _ ih =>
    rcases List.mem_cons.1 hx with h1 | h1 <;> rcases List.mem_cons.1 hy with h2 | h2
    · rw [h1, h2]
    · subst h1; exact absurd (ha y h2) (by rw [e]; exact Ah.irrefl)
    · subst h2; exact absurd (ha x h1) (by rw [e]; exact Ah.irrefl)
    · exact ih h1 h2

structure Fr where
  b : Nat
  p : Pf
  has : Bool
  v : Vt
  side : Bool
  o : Tr
def fill (f : Fr) (s : Tr) : Tr := if f.side then .node f.b f.p f.has f.v f.o s else .node f.b f.p f.has f.v s f.o
def plug : List Fr → Tr → Tr
  | [], s => s
  | f :: C, s => plug C (fill f s)
def Path (p : Pf) (C : List Fr) : Prop := ∀ f ∈ C, Wi f.p p ∧ f.p ≠ p ∧ f.side = btB p.1 f.p.2
def hreg : List Fr → Pf
  | [] => (0, 0)
  | f :: _ => kid f.p f.side
def wfC : List Fr → Prop
  | [] => True
  | f :: C => PfN f.p ∧ VN f.v ∧ Wi (hreg C) f.p ∧ wf (kid f.p (!f.side)) f.o ∧ wfC C
theorem wf_fill (f : Fr) (s : Tr) (r : Pf) : wf r (fill f s) ↔ (PfN f.p ∧ VN f.v ∧ Wi r f.p ∧ wf (kid f.p (!f.side)) f.o) ∧ wf (kid f.p f.side) s := by
  unfold fill
  cases h : f.side
  · simp only [Bool.false_eq_true, if_false, wf, Bool.not_false]
    constructor
    · rintro ⟨a, b, c, d, e⟩; exact ⟨⟨a, b, c, e⟩, d⟩
    · rintro ⟨⟨a, b, c, e⟩, d⟩; exact ⟨a, b, c, d, e⟩
  · simp only [if_true, wf, Bool.not_true]
    constructor
    · rintro ⟨a, b, c, d, e⟩; exact ⟨⟨a, b, c, d⟩, e⟩
    · rintro ⟨⟨a, b, c, d⟩, e⟩; exact ⟨a, b, c, d, e⟩
theorem wf_plug : ∀ (C : List Fr) (s : Tr), wf (0, 0) (plug C s) ↔ wfC C ∧ wf (hreg C) s
  | [], s => by simp [plug, wfC, hreg]
  | f :: C, s => by
    rw [plug, wf_plug C, wf_fill]
    simp only [wfC, hreg]
    constructor
    · rintro ⟨a, ⟨b, c, d, e⟩, g⟩; exact ⟨⟨b, c, d, e, a⟩, g⟩
    · rintro ⟨⟨b, c, d, e, a⟩, g⟩; exact ⟨a, ⟨b, c, d, e⟩, g⟩
def own (f : Fr) : List Ent := if f.has then [(f.p, f.v)] else []
def pre : List Fr → List Ent
  | [] => []
  | f :: C => pre C ++ own f ++ (if f.side then ents f.o else [])
def post : List Fr → List Ent
  | [] => []
  | f :: C => (if f.side then [] else ents f.o) ++ post C
theorem ents_plug : ∀ (C : List Fr) (s : Tr), ents (plug C s) = pre C ++ ents s ++ post C
  | [], s => by simp [plug, pre, post]
  | f :: C, s => by
    rw [plug, ents_plug C]
    unfold fill
    cases h : f.side <;> simp [ents, pre, post, own, h, List.append_assoc]
theorem r0_wi {p : Pf} (h : Rt p) (hn : PfN p) : Wi (0, 0) p := by
  have := hn.1
  unfold U32 at this
  refine ⟨⟨by decide, by decide, rfl⟩, h, h.1, ?_⟩
  show p.1 / pw 0 = 0 / pw 0
  rw [pw_0]
  omega
theorem path_reg {C : List Fr} {p : Pf} (hc : wfC C) (hp : Path p C) (h : Rt p) (hn : PfN p) : Wi (hreg C) p := by
  cases C with
  | nil => exact r0_wi h hn
  | cons f C =>
    obtain ⟨a, b, c⟩ := hp f (by simp)
    have := (wi_kid a b).2
    rw [← c] at this
    exact this
theorem out_wi : ∀ {C : List Fr} {p : Pf} {e : Ent}, wfC C → Path p C → (e ∈ pre C ∨ e ∈ post C) → ¬ Wi p e.1
  | [], _, _, _, _, h => by simp [pre, post] at h
  | f :: C, p, e, hc, hp, h => by
    obtain ⟨a, b, c⟩ := hp f (by simp)
    obtain ⟨h1, h2, h3, h4, h5⟩ := hc
    have ho : e ∈ ents f.o → ¬ Wi p e.1 := fun he hw => by
      have k1 := (kid_wi (wf_wi h4 he).1 a.rt1).2.2
      have k2 := (wi_kid a b).2
      rw [← c] at k2
      have k3 := (kid_wi (k2.trans hw) a.rt1).2.2
      rw [k1] at k3
      revert k3
      cases f.side <;> simp
    have hw : e ∈ own f → ¬ Wi p e.1 := fun he hw => by
      unfold own at he
      cases hh : f.has <;> simp [hh] at he
      subst he
      exact b (a.anti hw.le)
    have ih := fun h => out_wi (e := e) h5 (fun g hg => hp g (List.mem_cons_of_mem _ hg)) h
    rcases h with h | h
    · simp only [pre, List.mem_append] at h
      rcases h with (h | h) | h
      · exact ih (.inl h)
      · exact hw h
      · cases hs : f.side <;> simp [hs] at h
        exact ho h
    · simp only [post, List.mem_append] at h
      rcases h with h | h
      · cases hs : f.side <;> simp [hs] at h
        exact ho h
      · exact ih (.inr h)
theorem mem_plug {C : List Fr} {s : Tr} {e : Ent} : e ∈ ents (plug C s) ↔ e ∈ ents s ∨ (e ∈ pre C ∨ e ∈ post C) := by
  rw [ents_plug]
  simp only [List.mem_append]
  constructor
  · rintro ((h | h) | h)
    · exact .inr (.inl h)
    · exact .inl h
    · exact .inr (.inr h)
  · rintro (h | h | h)
    · exact .inl (.inr h)
    · exact .inl (.inl h)
    · exact .inr h

/-! What the document says, on lists. -/
def putL : List Ent → Pf → Vt → List Ent
  | [], p, v => [(p, v)]
  | x :: r, p, v => if Ah x.1 p then x :: putL r p v else if x.1 = p then (p, v) :: r else (p, v) :: x :: r
theorem mem_putL : ∀ {l : List Ent} {p : Pf} {v : Vt} {e : Ent}, Srt l → (e ∈ putL l p v ↔ e = (p, v) ∨ (e ∈ l ∧ e.1 ≠ p))
  | [], p, v, e, _ => by simp [putL]
  | x :: r, p, v, e, h => by
    obtain ⟨h1, h2⟩ := List.pairwise_cons.1 h
    unfold putL
    by_cases ha : Ah x.1 p
    · rw [if_pos ha, List.mem_cons, mem_putL h2, List.mem_cons]
      constructor
      · rintro (rfl | rfl | ⟨a, b⟩)
        · exact .inr ⟨.inl rfl, fun e => by rw [e] at ha; exact ha.irrefl⟩
        · exact .inl rfl
        · exact .inr ⟨.inr a, b⟩
      · rintro (rfl | ⟨rfl | a, b⟩)
        · exact .inr (.inl rfl)
        · exact .inl rfl
        · exact .inr (.inr ⟨a, b⟩)
    · rw [if_neg ha]
      by_cases hp : x.1 = p
      · rw [if_pos hp, List.mem_cons, List.mem_cons]
        constructor
        · rintro (rfl | a)
          · exact .inl rfl
          · exact .inr ⟨.inr a, fun e => by have := h1 _ a; rw [hp, e] at this; exact this.irrefl⟩
        · rintro (rfl | ⟨rfl | a, b⟩)
          · exact .inl rfl
          · exact absurd hp b
          · exact .inr a
      · rw [if_neg hp, List.mem_cons]
        constructor
        · rintro (rfl | a)
          · exact .inl rfl
          · refine .inr ⟨a, ?_⟩
            rcases List.mem_cons.1 a with rfl | b
            · exact hp
            · intro e
              have h3 := h1 _ b
              rw [e] at h3
              exact ha h3
        · rintro (rfl | ⟨a, b⟩)
          · exact .inl rfl
          · exact .inr a
theorem srt_putL : ∀ {l : List Ent} {p : Pf} {v : Vt}, Srt l → Srt (putL l p v)
  | [], p, v, _ => by simp [putL, Srt]
  | x :: r, p, v, h => by
    obtain ⟨h1, h2⟩ := List.pairwise_cons.1 h
    unfold putL
    by_cases ha : Ah x.1 p
    · rw [if_pos ha]
      refine List.pairwise_cons.2 ⟨fun y hy => ?_, srt_putL h2⟩
      rcases (mem_putL h2).1 hy with rfl | ⟨a, _⟩
      · exact ha
      · exact h1 y a
    · rw [if_neg ha]
      by_cases hp : x.1 = p
      · rw [if_pos hp]
        exact List.pairwise_cons.2 ⟨fun y hy => by have := h1 y hy; rw [hp] at this; exact this, h2⟩
      · rw [if_neg hp]
        have hx := Ah.total ha hp
        refine List.pairwise_cons.2 ⟨fun y hy => ?_, h⟩
        rcases List.mem_cons.1 hy with rfl | b
        · exact hx
        · exact hx.trans (h1 y b)
def dropL (l : List Ent) (p : Pf) : List Ent := l.filter fun e => decide (e.1 ≠ p)
def getL (l : List Ent) (p : Pf) : Option Vt := (l.find? fun e => decide (e.1 = p)).map (·.2)
def underL (l : List Ent) (p : Pf) : List Pf := (l.filter fun e => decide (Wi p e.1)).map (·.1)
theorem getL_mem {l : List Ent} {p : Pf} {v : Vt} (h : Srt l) : getL l p = some v ↔ (p, v) ∈ l := by
  unfold getL
  constructor
  · intro hg
    cases hf : l.find? fun e => decide (e.1 = p) with
    | none => simp [hf] at hg
    | some x =>
      have h1 := List.mem_of_find?_eq_some hf
      have h2 := List.find?_some hf
      simp [hf] at hg
      simp at h2
      have : x = (p, v) := Prod.ext h2 hg
      rw [← this]; exact h1
  · intro hm
    cases hf : l.find? fun e => decide (e.1 = p) with
    | none => have := List.find?_eq_none.1 hf _ hm; simp at this
    | some x =>
      have h1 := List.mem_of_find?_eq_some hf
      have h2 := List.find?_some hf
      simp at h2
      have := srt_key h h1 hm h2
      simp [this]
theorem getL_none {l : List Ent} {p : Pf} : getL l p = none ↔ ∀ e ∈ l, e.1 ≠ p := by
  unfold getL
  simp [List.find?_eq_none]

theorem plug_put {C : List Fr} {s s' : Tr} {p : Pf} {v : Vt} (hw : wf (0, 0) (plug C s)) (hp : Path p C) (hr : Rt p) (hs : wf (hreg C) s') (hm : ∀ e, e ∈ ents s' ↔ e = (p, v) ∨ (e ∈ ents s ∧ e.1 ≠ p)) :
    wf (0, 0) (plug C s') ∧ ents (plug C s') = putL (ents (plug C s)) p v := by
  obtain ⟨hc, h0⟩ := (wf_plug C s).1 hw
  have hw' := (wf_plug C s').2 ⟨hc, hs⟩
  refine ⟨hw', srt_ext (wf_srt hw') (srt_putL (wf_srt hw)) fun e => ?_⟩
  rw [mem_putL (wf_srt hw), mem_plug, mem_plug, hm]
  have ho : (e ∈ pre C ∨ e ∈ post C) → e.1 ≠ p := fun h he => out_wi hc hp h (by rw [he]; exact .refl hr)
  constructor
  · rintro ((h | h) | h)
    · exact .inl h
    · exact .inr ⟨.inl h.1, h.2⟩
    · exact .inr ⟨.inr h, ho h⟩
  · rintro (h | ⟨h | h, h2⟩)
    · exact .inl (.inl h)
    · exact .inl (.inr ⟨h, h2⟩)
    · exact .inr h
theorem plug_drop {C : List Fr} {s s' : Tr} {p : Pf} (hw : wf (0, 0) (plug C s)) (hp : Path p C) (hr : Rt p) (hs : wf (hreg C) s') (hm : ∀ e, e ∈ ents s' ↔ e ∈ ents s ∧ e.1 ≠ p) :
    wf (0, 0) (plug C s') ∧ ents (plug C s') = dropL (ents (plug C s)) p := by
  obtain ⟨hc, h0⟩ := (wf_plug C s).1 hw
  have hw' := (wf_plug C s').2 ⟨hc, hs⟩
  refine ⟨hw', srt_ext (wf_srt hw') ((wf_srt hw).filter _) fun e => ?_⟩
  unfold dropL
  rw [List.mem_filter, mem_plug, mem_plug, hm]
  have ho : (e ∈ pre C ∨ e ∈ post C) → e.1 ≠ p := fun h he => out_wi hc hp h (by rw [he]; exact .refl hr)
  simp only [decide_eq_true_eq]
  constructor
  · rintro (h | h)
    · exact ⟨.inl h.1, h.2⟩
    · exact ⟨.inr h, ho h⟩
  · rintro ⟨h | h, h2⟩
    · exact .inl ⟨h, h2⟩
    · exact .inr h

/-! Where p is, or is to be put. -/
def top : Tr → Option Pf
  | .nil => none
  | .node _ q _ _ _ _ => some q
def Found (p : Pf) (s : Tr) : Prop := ∀ q, top s = some q → q = p ∨ ¬ Wi q p
theorem found_get {C : List Fr} {s : Tr} {p : Pf} (hw : wf (0, 0) (plug C s)) (hp : Path p C) (hr : Rt p) {e : Ent} (he : e ∈ ents (plug C s)) (hk : e.1 = p) : e ∈ ents s := by
  rcases mem_plug.1 he with h | h
  · exact h
  · exact absurd (by rw [hk]; exact .refl hr) (out_wi ((wf_plug C s).1 hw).1 hp h)
theorem found_none {b : Nat} {q p : Pf} {has : Bool} {v : Vt} {k0 k1 : Tr} {r : Pf} (hw : wf r (.node b q has v k0 k1)) (hq : q ≠ p) (hf : ¬ Wi q p) : ∀ e ∈ ents (.node b q has v k0 k1), e.1 ≠ p := by
  intro e he hk
  have h1 : wf q (.node b q has v k0 k1) := ⟨hw.1, hw.2.1, .refl hw.2.2.1.rt2, hw.2.2.2⟩
  have := (wf_wi h1 he).1
  rw [hk] at this
  exact hf this

def isNil : Tr → Bool
  | .nil => true
  | _ => false
def lift (b : Nat) (q : Pf) (has : Bool) (v : Vt) (k0 k1 : Tr) : Tr :=
  if has then .node b q has v k0 k1 else if isNil k0 then k1 else if isNil k1 then k0 else .node b q has v k0 k1
def pruneT (p : Pf) : Tr → Tr
  | .nil => .nil
  | .node b q has v k0 k1 => if q ≠ p ∧ Wi q p then (if btB p.1 q.2 then lift b q has v k0 (pruneT p k1) else lift b q has v (pruneT p k0) k1) else lift b q has v k0 k1
theorem nil_of {t : Tr} (h : isNil t = true) : t = .nil := by cases t <;> simp [isNil] at h; rfl
theorem lift_ok {r : Pf} {b : Nat} {q : Pf} {has : Bool} {v : Vt} {k0 k1 : Tr} (h : wf r (.node b q has v k0 k1)) : wf r (lift b q has v k0 k1) ∧ ents (lift b q has v k0 k1) = ents (.node b q has v k0 k1) := by
  have up : ∀ (i : Bool) (k : Tr), wf (kid q i) k → wf r k := fun i k hk => by
    cases k with
    | nil => trivial
    | node b2 q2 h2 v2 a2 c2 => exact ⟨hk.1, hk.2.1, h.2.2.1.trans (kid_wi hk.2.2.1 h.2.2.1.rt2).1, hk.2.2.2⟩
  unfold lift
  cases has
  · simp only [Bool.false_eq_true, if_false]
    cases h0 : isNil k0
    · simp only [Bool.false_eq_true, if_false]
      cases h1 : isNil k1
      · simp only [Bool.false_eq_true, if_false]
        exact ⟨h, trivial⟩
      · obtain rfl := nil_of h1
        exact ⟨up _ _ h.2.2.2.1, by simp [ents]⟩
    · obtain rfl := nil_of h0
      exact ⟨up _ _ h.2.2.2.2, by simp [ents]⟩
  · exact ⟨h, rfl⟩
theorem prune_ok (p : Pf) : ∀ {t : Tr} {r : Pf}, wf r t → wf r (pruneT p t) ∧ ents (pruneT p t) = ents t
  | .nil, _, _ => ⟨trivial, rfl⟩
  | .node b q has v k0 k1, r, h => by
    unfold pruneT
    split
    · split
      · obtain ⟨a, c⟩ := prune_ok p h.2.2.2.2
        obtain ⟨d, e⟩ := lift_ok (r := r) (b := b) (q := q) (has := has) (v := v) (k0 := k0) (k1 := pruneT p k1) ⟨h.1, h.2.1, h.2.2.1, h.2.2.2.1, a⟩
        exact ⟨d, by rw [e]; simp [ents, c]⟩
      · obtain ⟨a, c⟩ := prune_ok p h.2.2.2.1
        obtain ⟨d, e⟩ := lift_ok (r := r) (b := b) (q := q) (has := has) (v := v) (k0 := pruneT p k0) (k1 := k1) ⟨h.1, h.2.1, h.2.2.1, a, h.2.2.2.2⟩
        exact ⟨d, by rw [e]; simp [ents, c]⟩
    · exact lift_ok h
end Go.Proofs.YtdnokmpnemaoaaaGreat.T
namespace Go.Proofs.YtdnokmpnemaoaaaGreat.T
set_option linter.unusedSimpArgs false
set_option linter.unusedVariables false
set_option maxRecDepth 20000
set_option maxHeartbeats 4000000
open Go.RowKit Go.Pm

def ptr : Tr → Option Addr
  | .nil => none
  | .node b .. => some ⟨b, 0, none⟩
abbrev ndC (p : Pf) (has : Bool) (v : Vt) (a0 a1 : Option Addr) : List Value := [.int .u32 p.1, .int .i64 p.2, .bool has, .int .i64 v.1, .int .i64 v.2.1, .bool v.2.2, .pointer a0, .pointer a1]
def trP : Tr → HP
  | .nil => sats []
  | .node b p has v k0 k1 => sats [pts b (ndC p has v (ptr k0) (ptr k1)) 178, trP k0, trP k1]
abbrev trC (a : Option Addr) (n : Int) (m : Bool) : List Value := [.pointer a, .int .i64 n, .bool m]
def frC (f : Fr) (h : Option Addr) : List Value := if f.side then ndC f.p f.has f.v (ptr f.o) h else ndC f.p f.has f.v h (ptr f.o)
def ctxP (tb : Nat) (n : Int) : List Fr → Option Addr → HP
  | [], h => sats [pts tb (trC h n true) 143]
  | f :: C, h => sats [pts f.b (frC f h) 178, trP f.o, ctxP tb n C (some ⟨f.b, 0, none⟩)]
def sideN (b : Bool) : Nat := if b then 1 else 0
def holeA (tb : Nat) : List Fr → Addr
  | [] => ⟨tb, 0, none⟩
  | f :: _ => ⟨f.b, 6 + sideN f.side, none⟩

section
variable {W : World} {K : Hl} {L R : List HP} {w : World} {tb : Nat} {n : Int} {C : List Fr} {h h' : Option Addr}
theorem owCtxTop (H : Ow W K L w) (t : Tk L (ctxP tb n [] h) R) : Ow W K (pts tb (trC h n true) 143 :: R) w := H.flat t
theorem owCtxFr {f : Fr} (H : Ow W K L w) (t : Tk L (ctxP tb n (f :: C) h) R) : Ow W K (pts f.b (frC f h) 178 :: trP f.o :: ctxP tb n C (some ⟨f.b, 0, none⟩) :: R) w := H.flat t
theorem owMkTop (H : Ow W K L w) (t : Tk L (pts tb (trC h n true) 143) R) : Ow W K (ctxP tb n [] h :: R) w := H.shut (M := [pts tb (trC h n true) 143]) (.cons t .nil) (fun _ h => h)
theorem owMkFr {f : Fr} (H : Ow W K (pts f.b (frC f h) 178 :: trP f.o :: ctxP tb n C (some ⟨f.b, 0, none⟩) :: R) w) : Ow W K (ctxP tb n (f :: C) h :: R) w := H.shut (M := [pts f.b (frC f h) 178, trP f.o, ctxP tb n C (some ⟨f.b, 0, none⟩)]) (R := R) (.cons .here (.cons .here (.cons .here .nil))) (fun _ h => h)
theorem owNodeO {b : Nat} {p : Pf} {has : Bool} {v : Vt} {k0 k1 : Tr} (H : Ow W K L w) (t : Tk L (trP (.node b p has v k0 k1)) R) : Ow W K (pts b (ndC p has v (ptr k0) (ptr k1)) 178 :: trP k0 :: trP k1 :: R) w := H.flat t
theorem owMkNode {b : Nat} {p : Pf} {has : Bool} {v : Vt} {k0 k1 : Tr} (H : Ow W K (pts b (ndC p has v (ptr k0) (ptr k1)) 178 :: trP k0 :: trP k1 :: R) w) : Ow W K (trP (.node b p has v k0 k1) :: R) w := H.shut (M := [pts b (ndC p has v (ptr k0) (ptr k1)) 178, trP k0, trP k1]) (R := R) (.cons .here (.cons .here (.cons .here .nil))) (fun _ h => h)
theorem owMkNil (H : Ow W K L w) : Ow W K (trP .nil :: L) w := H.satsNil
theorem owFill {f : Fr} {s : Tr} (H : Ow W K (pts f.b (frC f (ptr s)) 178 :: trP f.o :: trP s :: R) w) : Ow W K (trP (fill f s) :: R) w := by
  unfold frC at H
  unfold Proofs.YtdnokmpnemaoaaaGreat.T.fill
  cases hs : f.side
  · simp only [hs, Bool.false_eq_true, if_false] at H ⊢
    exact owMkNode (H.perm (.cons _ (.swap ..)))
  · simp only [hs, if_true] at H ⊢
    exact owMkNode H
theorem ptr_fill (f : Fr) (s : Tr) : ptr (fill f s) = some ⟨f.b, 0, none⟩ := by
  unfold fill
  cases f.side <;> rfl
theorem owPlug : ∀ {C : List Fr} {s : Tr} {R : List HP}, Ow W K (ctxP tb n C (ptr s) :: trP s :: R) w → Ow W K (pts tb (trC (ptr (plug C s)) n true) 143 :: trP (plug C s) :: R) w
  | [], _, _, H => owCtxTop H .here
  | f :: C, s, R, H => by
    have H1 := (owCtxFr H .here).perm (L := pts f.b (frC f (ptr s)) 178 :: trP f.o :: ctxP tb n C (some ⟨f.b, 0, none⟩) :: trP s :: R) (M := pts f.b (frC f (ptr s)) 178 :: trP f.o :: trP s :: ctxP tb n C (some ⟨f.b, 0, none⟩) :: R) (.cons _ (.cons _ (.swap ..)))
    have H2 := owFill H1
    have H3 : Ow W K (ctxP tb n C (ptr (Proofs.YtdnokmpnemaoaaaGreat.T.fill f s)) :: trP (Proofs.YtdnokmpnemaoaaaGreat.T.fill f s) :: R) w := by
      rw [ptr_fill]
      exact H2.perm (.swap ..)
    exact owPlug (C := C) (s := Proofs.YtdnokmpnemaoaaaGreat.T.fill f s) (R := R) H3
theorem hole_cell : ∀ {C : List Fr}, Ow W K (ctxP tb n C h :: R) w → w.cell? (holeA tb C) = some (.pointer h) ∧ w.frozen? (holeA tb C) = false ∧ ∀ h', Ow W K (ctxP tb n C h' :: R) (w.setCell (holeA tb C) (.pointer h'))
  | [], H => by
    have H1 := owCtxTop H .here
    have hb := H1.blk .here
    exact ⟨by rw [holeA, hb.cell]; rfl, hb.free 0, fun h' => owMkTop (h := h') (H1.set .here .z) .here⟩
  | f :: C, H => by
    have H1 := owCtxFr H .here
    have hb := H1.blk .here
    refine ⟨?_, hb.free _, fun h' => owMkFr ?_⟩
    · rw [holeA, hb.cell]
      unfold frC sideN
      cases f.side <;> rfl
    · have : SetAt (frC f h) (6 + sideN f.side) (.pointer h') (frC f h') := by
        unfold frC sideN ndC
        cases f.side
        all_goals (show SetAt _ _ _ _; repeat (first | exact SetAt.z | apply SetAt.s))
      exact H1.set .here this
end

theorem is_s (tb : Nat) (a : Option Addr) (n : Int) (m : Bool) : Pact Tryz.prog 103 #[.pointer (some ⟨tb, 0, none⟩)] (fun _ => True) [pts tb (trC a n m) 143] (fun v L' => v = .bool m ∧ L' = [pts tb (trC a n m) 143]) := by
  refine pact Tryz.func103 rfl Tryz.ntmps103 rfl ?_
  intro W K _
  (repeat' (first | (refine gL ?_; first | refine yL0 ?_ | refine yL ?_) | refine yJ ?_ | (refine yI ?_ ?_ <;> intro _ <;> try exact xX) | (refine yK ?_ ?_ <;> intro hgb <;> first | subst hgb | fail_if_success have : type_of% hgb := rfl) | fail))
  exact J_ret1 rfl (by rfl) fun w H => ⟨_, ⟨rfl, rfl⟩, H.sel xZ⟩
theorem new_s : Pact Tryz.prog 33 #[] (fun _ => True) [] (fun v L' => ∃ tb, v = .pointer (some ⟨tb, 0, none⟩) ∧ L' = [pts tb (trC none 0 true) 143, trP .nil]) := by
  refine pact Tryz.func33 rfl Tryz.ntmps33 rfl ?_
  intro W K _
  (repeat' (first | (refine gL ?_; first | refine yL0 ?_ | refine yL ?_ | (refine yM ?_; intro _)) | refine yJ ?_ | fail))
  exact J_ret1 rfl (by rfl) fun w H => ⟨_, ⟨_, rfl, rfl⟩, (owMkNil H).sel xZ⟩
theorem len_s (tb : Nat) (a : Option Addr) (n : Int) (m : Bool) : Pact Tryz.prog 68 #[.pointer (some ⟨tb, 0, none⟩)] (fun _ => True) [pts tb (trC a n m) 143] (fun v L' => v = .int .i64 (if m then n else 0) ∧ L' = [pts tb (trC a n m) 143]) := by
  refine pact Tryz.func68 rfl Tryz.ntmps68 rfl ?_
  intro W K _
  cases m
  · (repeat' (first | (refine gL ?_; first | refine yL0 ?_ | refine yL ?_ | (refine gL_go ?_; (refine JL_goq (is_s tb a n false) (hφ := xF) (h := ?_); rintro _ _ ⟨rfl, rfl⟩; try simp only [cAp, nAp]))) | refine yJ ?_ | (refine yI ?_ ?_ <;> intro _ <;> try exact xX) | (refine yK ?_ ?_ <;> intro hgb <;> first | subst hgb | fail_if_success have : type_of% hgb := rfl) | fail))
    exact J_ret1 rfl (by rfl) fun w H => ⟨_, ⟨rfl, rfl⟩, H.sel xZ⟩
  · (repeat' (first | (refine gL ?_; first | refine yL0 ?_ | refine yL ?_ | (refine gL_go ?_; (refine JL_goq (is_s tb a n true) (hφ := xF) (h := ?_); rintro _ _ ⟨rfl, rfl⟩; try simp only [cAp, nAp]))) | refine yJ ?_ | (refine yI ?_ ?_ <;> intro _ <;> try exact xX) | (refine yK ?_ ?_ <;> intro hgb <;> first | subst hgb | fail_if_success have : type_of% hgb := rfl) | fail))
    exact J_ret1 rfl (by rfl) fun w H => ⟨_, ⟨rfl, rfl⟩, H.sel xZ⟩
end Go.Proofs.YtdnokmpnemaoaaaGreat.T
