/-
  Tq6, Tq7, Tq8: merged.
-/
import Derived.Test.YtdnokmpnemaoaaaGreatZViewChooses22
namespace Go.Proofs.YtdnokmpnemaoaaaGreat.T
set_option linter.unusedSimpArgs false
set_option linter.unusedVariables false
set_option maxRecDepth 20000
set_option maxHeartbeats 4000000
open Go.RowKit Go.Pm
theorem zd104Tq6 {p q : Prop} (k : p) (h : p → q := by intro hk; first | exact J_draw (id := 3) [0, 1, 2, 3, 4, 5, 6, 7, 8, 9, 10, 11, 12, 13, 14, 15] [16, 17, 18] mixed xC xD xD hk | exact J_draw (id := 5) [0, 1, 2, 3, 4, 5, 6, 7, 9, 10, 8] [11, 12] mixed xC xD xD hk | fail) : q := h k

theorem hole_see {K : Hl} {L R : List HP} {w : World} {tb : Nat} {n : Int} {C : List Fr} {h : Option Addr} (hr : Rdw K L w) (t : Tk L (ctxP tb n C h) R) : w.cell? (holeA tb C) = some (.pointer h) := by
  obtain ⟨k, hk, i⟩ := hr.tk t
  cases C with
  | nil =>
    obtain ⟨h1, h2, a, _, d, rfl⟩ := hk
    obtain rfl : h1 = Hl.one tb (.cells (trC h n true).toArray 143 (0, 0)) := a
    have hb : Blk w tb (trC h n true).toArray 143 := ((Hl.inn_add d).1 i).1 tb _ (by simp [Hl.one])
    rw [holeA, hb.cell]
    rfl
  | cons f C =>
    obtain ⟨h1, h2, a, _, d, rfl⟩ := hk
    obtain rfl : h1 = Hl.one f.b (.cells (frC f h).toArray 178 (0, 0)) := a
    have hb : Blk w f.b (frC f h).toArray 178 := ((Hl.inn_add d).1 i).1 f.b _ (by simp [Hl.one])
    rw [holeA, hb.cell]
    unfold frC sideN
    cases f.side <;> rfl
def szT : Tr → Nat
  | .nil => 0
  | .node _ _ _ _ k0 k1 => szT k0 + szT k1 + 1
structure Pl where
  C : List Fr
  s : Tr
theorem bit_b (a l : Int) (i : Int) (hi : bt a l = i) (ha : U32 a) (h0 : 0 ≤ l) (h1 : l ≤ 31) : Pact Tryz.prog 140 #[.int .u32 a, .int .i64 l] (fun _ => True) [] (ret0 (.int .i64 i)) := hi ▸ bit_s a l ha h0 h1
theorem within_b (p q : Pf) (hp : PfN p) (hq : PfN q) (b : Bool) (hb : decide (Wi p q) = b) : Pact Tryz.prog 139 #[.agg (pfC p).toArray, .agg (pfC q).toArray] (fun _ => True) [] (ret0 (.bool b)) := hb ▸ within_s p q hp hq
theorem right_b (p : Pf) (hp : PfN p) (b : Bool) (hb : decide (Rt p) = b) : Pact Tryz.prog 65 #[.agg (pfC p).toArray] (fun _ => True) [] (ret0 (.bool b)) := hb ▸ right_s p hp
def FindR (t : Tr) (p : Pf) (tb : Nat) (n : Int) (v : Value) (L' : List HP) : Prop := ∃ C s, plug C s = t ∧ Path p C ∧ Found p s ∧ v = .pointer (some (holeA tb C)) ∧ L' = [ctxP tb n C (ptr s), trP s]
theorem find_s (tb : Nat) (n : Int) (t : Tr) (p : Pf) (hp : PfN p) (hw : wf (0, 0) t) : Pact Tryz.prog 104 #[.pointer (some ⟨tb, 0, none⟩), .agg (pfC p).toArray] (fun _ => True) [pts tb (trC (ptr t) n true) 143, trP t] (FindR t p tb n) := by
  refine pact Tryz.func104 rfl Tryz.ntmps104 rfl ?_
  intro W K _
  (repeat' (first | (refine gL ?_; first | refine yL0 ?_ | refine yL ?_ | (refine yM ?_; intro _)) | (refine gD ?_; first | (refine yN ?_; try simp only [cAp, nAp]) | refine yD0 ?_ | refine yD ?_) | refine yJ ?_ | refine zd104Tq6 ?_ | (refine yI ?_ ?_ <;> intro _ <;> try exact xX) | (refine yK ?_ ?_ <;> intro hgb <;> first | subst hgb | fail_if_success have : type_of% hgb := rfl) | fail))
  rename_i g
  refine J_scope (α := Pl) 0 (fun x => szT x.s) (fun x => plug x.C x.s = t ∧ Path p x.C) (fun x => [(0, .pointer (some ⟨tb, 0, none⟩)), (3, .pointer (some ⟨g, 0, none⟩)), (5, .pointer (some (holeA tb x.C)))])
    (fun x => [ctxP tb n x.C (ptr x.s), trP x.s, pts g (pfC p) 28]) rfl rfl ?_ ?_
  · simp only [List.map_cons, List.map_nil, List.cons_append, List.nil_append]
    (repeat' (first | (refine gL ?_; first | refine yL0 ?_ | refine yL ?_ | (refine yM ?_; intro _)) | (refine gD ?_; first | (refine yN ?_; try simp only [cAp, nAp]) | refine yD0 ?_ | refine yD ?_) | refine yJ ?_ | refine zd104Tq6 ?_ | (refine yI ?_ ?_ <;> intro _ <;> try exact xX) | (refine yK ?_ ?_ <;> intro hgb <;> first | subst hgb | fail_if_success have : type_of% hgb := rfl) | fail))
    exact J_meet ⟨[], t⟩ ⟨rfl, by intro f h; simp at h⟩ ⟨rfl, rfl, rfl, trivial⟩ (fun w H => (owMkTop H xA).sel xZ)
  rintro ⟨C, s⟩ ⟨ht, hC⟩
  dsimp only at ht hC ⊢
  simp only [List.map_cons, List.map_nil, List.cons_append, List.nil_append]
  have hws := ((wf_plug C s).1 (ht ▸ hw)).2
  cases s with
  | nil =>
    (repeat' (first | (refine gL ?_; first | refine yL0 ?_ | (refine gL_load ?_; refine JL_p rfl xR xR (pe_ldH xR xC (fun w hr => hole_see hr xA)) ?_) | refine yL ?_ | (refine yM ?_; intro _)) | (refine gD ?_; first | (refine yN ?_; try simp only [cAp, nAp]) | refine yD0 ?_ | (refine gD_load ?_; refine JL_p rfl xR xR (pe_ldH xR xC (fun w hr => hole_see hr xA)) ?_) | refine yD ?_) | refine yJ ?_ | refine zd104Tq6 ?_ | (refine yI ?_ ?_ <;> intro _ <;> try exact xX) | (refine yK ?_ ?_ <;> intro hgb <;> first | subst hgb | fail_if_success have : type_of% hgb := rfl) | fail))
    exact J_ret1 rfl (by rfl) fun w H => ⟨_, ⟨C, .nil, ht, hC, by intro q hq; simp [top] at hq, rfl, rfl⟩, H.sel xZ⟩
  | node b q has v k0 k1 =>
    refine J_heap (fun w H => owNodeO H xA) ?_
    by_cases hq : q.1 = p.1 ∧ q.2 = p.2
    · (repeat' (first | (refine gL ?_; first | refine yL0 ?_ | (refine gL_load ?_; refine JL_p rfl xR xR (pe_ldH xR xC (fun w hr => hole_see hr xA)) ?_) | refine yL ?_ | (refine yM ?_; intro _)) | (refine gD ?_; first | (refine yN ?_; try simp only [cAp, nAp]) | refine yD0 ?_ | (refine gD_load ?_; refine JL_p rfl xR xR (pe_ldH xR xC (fun w hr => hole_see hr xA)) ?_) | refine yD ?_) | refine yJ ?_ | refine zd104Tq6 ?_ | (refine yI ?_ ?_ <;> intro _ <;> try exact xX) | (refine yK ?_ ?_ <;> intro hgb <;> first | subst hgb | fail_if_success have : type_of% hgb := rfl) | fail))
      exact J_ret1 rfl (by rfl) fun w H => ⟨_, ⟨C, .node b q has v k0 k1, ht, hC, by intro x hx; cases hx; exact .inl (Prod.ext hq.1 hq.2), rfl, rfl⟩, (owMkNode (H.sb (M := [pts b (ndC q has v (ptr k0) (ptr k1)) 178, trP k0, trP k1]) xZ)).sel xZ⟩
    · have hne : q ≠ p := fun e => hq ⟨by rw [e], by rw [e]⟩
      by_cases hwi : Wi q p
      · have hl := hwi.lt hne
        have h32 := rt_hi hwi.rt2
        rcases bt_cases p.1 q.2 with hb | hb
        · (repeat' (first | (refine gL ?_; first | refine yL0 ?_ | (refine gL_load ?_; refine JL_p rfl xR xR (pe_ldH xR xC (fun w hr => hole_see hr xA)) ?_) | refine yL ?_ | (refine yM ?_; intro _)) | (refine gD ?_; first | (refine yN ?_; try simp only [cAp, nAp]) | refine yD0 ?_ | (refine gD_load ?_; refine JL_p rfl xR xR (pe_ldH xR xC (fun w hr => hole_see hr xA)) ?_) | refine yD ?_ | (refine gD_go ?_; first | (refine JD_goq (within_b q p hws.1 hp true (decide_eq_true hwi)) (hφ := xF) (h := ?_); rintro _ _ ⟨rfl, rfl⟩; try simp only [cAp, nAp]) | (refine JD_goq (bit_b p.1 q.2 0 hb hp.1 (rt_lo hwi.rt1) (by omega)) (hφ := xF) (h := ?_); rintro _ _ ⟨rfl, rfl⟩; try simp only [cAp, nAp]))) | refine yJ ?_ | refine zd104Tq6 ?_ | (refine yI ?_ ?_ <;> intro _ <;> try exact xX) | (refine yK ?_ ?_ <;> intro hgb <;> first | subst hgb | fail_if_success have : type_of% hgb := rfl) | fail))
          refine J_again ⟨⟨b, q, has, v, false, k1⟩ :: C, k0⟩ (by simp only [szT]; omega) ⟨ht, ?_⟩ ⟨rfl, rfl, rfl, trivial⟩ (fun w H => (owMkFr (f := ⟨b, q, has, v, false, k1⟩) (H.sb (M := [pts b (ndC q has v (ptr k0) (ptr k1)) 178, trP k1, ctxP tb n C (some ⟨b, 0, none⟩)]) xZ)).sel xZ)
          intro f hf
          rcases List.mem_cons.1 hf with rfl | hf
          · exact ⟨hwi, hne, by simp [btB, hb]⟩
          · exact hC f hf
        · (repeat' (first | (refine gL ?_; first | refine yL0 ?_ | (refine gL_load ?_; refine JL_p rfl xR xR (pe_ldH xR xC (fun w hr => hole_see hr xA)) ?_) | refine yL ?_ | (refine yM ?_; intro _)) | (refine gD ?_; first | (refine yN ?_; try simp only [cAp, nAp]) | refine yD0 ?_ | (refine gD_load ?_; refine JL_p rfl xR xR (pe_ldH xR xC (fun w hr => hole_see hr xA)) ?_) | refine yD ?_ | (refine gD_go ?_; first | (refine JD_goq (within_b q p hws.1 hp true (decide_eq_true hwi)) (hφ := xF) (h := ?_); rintro _ _ ⟨rfl, rfl⟩; try simp only [cAp, nAp]) | (refine JD_goq (bit_b p.1 q.2 1 hb hp.1 (rt_lo hwi.rt1) (by omega)) (hφ := xF) (h := ?_); rintro _ _ ⟨rfl, rfl⟩; try simp only [cAp, nAp]))) | refine yJ ?_ | refine zd104Tq6 ?_ | (refine yI ?_ ?_ <;> intro _ <;> try exact xX) | (refine yK ?_ ?_ <;> intro hgb <;> first | subst hgb | fail_if_success have : type_of% hgb := rfl) | fail))
          refine J_again ⟨⟨b, q, has, v, true, k0⟩ :: C, k1⟩ (by simp only [szT]; omega) ⟨ht, ?_⟩ ⟨rfl, rfl, rfl, trivial⟩ (fun w H => (owMkFr (f := ⟨b, q, has, v, true, k0⟩) (H.sb (M := [pts b (ndC q has v (ptr k0) (ptr k1)) 178, trP k0, ctxP tb n C (some ⟨b, 0, none⟩)]) xZ)).sel xZ)
          intro f hf
          rcases List.mem_cons.1 hf with rfl | hf
          · exact ⟨hwi, hne, by simp [btB, hb]⟩
          · exact hC f hf
      · (repeat' (first | (refine gL ?_; first | refine yL0 ?_ | (refine gL_load ?_; refine JL_p rfl xR xR (pe_ldH xR xC (fun w hr => hole_see hr xA)) ?_) | refine yL ?_ | (refine yM ?_; intro _)) | (refine gD ?_; first | (refine yN ?_; try simp only [cAp, nAp]) | refine yD0 ?_ | (refine gD_load ?_; refine JL_p rfl xR xR (pe_ldH xR xC (fun w hr => hole_see hr xA)) ?_) | refine yD ?_ | (refine gD_go ?_; (refine JD_goq (within_b q p hws.1 hp false (decide_eq_false hwi)) (hφ := xF) (h := ?_); rintro _ _ ⟨rfl, rfl⟩; try simp only [cAp, nAp]))) | refine yJ ?_ | refine zd104Tq6 ?_ | (refine yI ?_ ?_ <;> intro _ <;> try exact xX) | (refine yK ?_ ?_ <;> intro hgb <;> first | subst hgb | fail_if_success have : type_of% hgb := rfl) | fail))
        exact J_ret1 rfl (by rfl) fun w H => ⟨_, ⟨C, .node b q has v k0 k1, ht, hC, by intro x hx; cases hx; exact .inr hwi, rfl, rfl⟩, (owMkNode (H.sb (M := [pts b (ndC q has v (ptr k0) (ptr k1)) 178, trP k0, trP k1]) xZ)).sel xZ⟩
theorem zd64Tq7 {p q : Prop} (k : p) (h : p → q := by intro hk; first | exact J_draw (id := 5) [0, 1, 2, 3, 4, 5, 6, 7] [8, 9, 10, 11, 12, 13, 14, 15, 16] mixed xC xD xD hk | fail) : q := h k

def hereV (p : Pf) : Tr → Option Vt
  | .nil => none
  | .node _ q has v _ _ => if q = p ∧ has = true then some v else none
theorem kids_ne {r : Pf} {b : Nat} {p : Pf} {has : Bool} {v : Vt} {k0 k1 : Tr} (hw : wf r (.node b p has v k0 k1)) {e : Ent} (he : e ∈ ents k0 ∨ e ∈ ents k1) : e.1 ≠ p := by
  obtain ⟨hn, hv, hr, h0, h1⟩ := hw
  rcases he with he | he
  · exact (kid_wi (wf_wi h0 he).1 hr.rt2).2.1.symm
  · exact (kid_wi (wf_wi h1 he).1 hr.rt2).2.1.symm
theorem found_res {C : List Fr} {s : Tr} {p : Pf} (hw : wf (0, 0) (plug C s)) (hp : Path p C) (hF : Found p s) (hr : Rt p) : getL (ents (plug C s)) p = hereV p s := by
  have hs := ((wf_plug C s).1 hw).2
  have none_of : (∀ e ∈ ents s, e.1 ≠ p) → getL (ents (plug C s)) p = none := fun h => getL_none.2 fun e he hk => h e (found_get hw hp hr he hk) hk
  cases s with
  | nil => exact none_of (by simp [ents])
  | node b q has v k0 k1 =>
    show _ = if q = p ∧ has = true then some v else none
    by_cases hq : q = p
    · subst hq
      cases has
      · rw [if_neg (by simp)]
        exact none_of fun e he => kids_ne hs (by simpa [ents] using he)
      · rw [if_pos ⟨rfl, rfl⟩]
        exact (getL_mem (wf_srt hw)).2 (mem_plug.2 (.inl (by simp [ents])))
    · rw [if_neg (fun h => hq h.1)]
      exact none_of (found_none hs hq ((hF q rfl).resolve_left hq))
theorem getL_notRt {t : Tr} {p : Pf} (hw : wf (0, 0) t) (h : ¬ Rt p) : getL (ents t) p = none := getL_none.2 fun e he hk => h (hk ▸ (wf_wi hw he).1.rt2)
abbrev optV (o : Option Vt) : Value := .tuple [.agg (vC (o.getD zV)).toArray, .bool o.isSome].toArray
abbrev TrieL (tb : Nat) (n : Int) (t : Tr) : List HP := [pts tb (trC (ptr t) n true) 143, trP t]
theorem get_s (tb : Nat) (n : Int) (t : Tr) (p : Pf) (hp : PfN p) (hw : wf (0, 0) t) : Pact Tryz.prog 64 #[.pointer (some ⟨tb, 0, none⟩), .agg (pfC p).toArray] (fun _ => True) [pts tb (trC (ptr t) n true) 143, trP t] (fun v L' => v = optV (getL (ents t) p) ∧ L' = TrieL tb n t) := by
  refine pact Tryz.func64 rfl Tryz.ntmps64 rfl ?_
  intro W K _
  by_cases hr : Rt p
  · (repeat' (first | (refine gL ?_; first | refine yL0 ?_ | refine yL ?_ | (refine gL_go ?_; first | (refine JL_goq (is_s tb (ptr t) n true) (hφ := xF) (h := ?_); rintro _ _ ⟨rfl, rfl⟩; try simp only [cAp, nAp]) | (refine JL_goq (right_b p hp true (decide_eq_true hr)) (hφ := xF) (h := ?_); rintro _ _ ⟨rfl, rfl⟩; try simp only [cAp, nAp]) | (refine JL_goq (find_s tb n t p hp hw) (hφ := xF) (h := ?_); rintro _ _ ⟨C, s, ht, hC, hF, rfl, rfl⟩; try simp only [cAp, nAp])) | (refine yM ?_; intro _)) | (refine gD ?_; first | (refine yN ?_; try simp only [cAp, nAp]) | refine yD0 ?_ | refine yD ?_) | refine yJ ?_ | refine zd64Tq7 ?_ | (refine yI ?_ ?_ <;> intro _ <;> try exact xX) | (refine yK ?_ ?_ <;> intro hgb <;> first | subst hgb | fail_if_success have : type_of% hgb := rfl) | fail))
    subst ht
    have hs := ((wf_plug C s).1 hw).2
    have hg := found_res hw hC hF hr
    rw [hg]
    cases s with
    | nil =>
      (repeat' (first | (refine gL ?_; first | refine yL0 ?_ | (refine gL_load ?_; refine JL_p rfl xR xR (pe_ldH xR xC (fun w hr => hole_see hr xA)) ?_) | refine yL ?_ | (refine yM ?_; intro _)) | (refine gD ?_; first | (refine yN ?_; try simp only [cAp, nAp]) | refine yD0 ?_ | (refine gD_load ?_; refine JL_p rfl xR xR (pe_ldH xR xC (fun w hr => hole_see hr xA)) ?_) | refine yD ?_) | refine yJ ?_ | refine zd64Tq7 ?_ | (refine yI ?_ ?_ <;> intro _ <;> try exact xX) | (refine yK ?_ ?_ <;> intro hgb <;> first | subst hgb | fail_if_success have : type_of% hgb := rfl) | fail))
      exact J_retC1 (cs := vC zV) rfl (by rfl) (by rfl) xA (by rfl) fun w H => ⟨_, ⟨rfl, rfl⟩, (owPlug (C := C) (s := .nil) (H.sb (M := [ctxP tb n C (ptr .nil), trP .nil]) xZ)).sel xZ⟩
    | node b q has v k0 k1 =>
      refine JL_heap (fun w H => owNodeO H xA) ?_
      have back : ∀ {R : List HP} {w : World}, Ow W K (pts b (ndC q has v (ptr k0) (ptr k1)) 178 :: trP k0 :: trP k1 :: ctxP tb n C (ptr (.node b q has v k0 k1)) :: R) w → Ow W K (pts tb (trC (ptr (plug C (.node b q has v k0 k1))) n true) 143 :: trP (plug C (.node b q has v k0 k1)) :: R) w := fun H => owPlug (C := C) (s := .node b q has v k0 k1) ((owMkNode H).perm (.swap ..))
      by_cases hq : q.1 = p.1 ∧ q.2 = p.2
      · obtain rfl : q = p := Prod.ext hq.1 hq.2
        cases has
        · (repeat' (first | (refine gL ?_; first | refine yL0 ?_ | (refine gL_load ?_; refine JL_p rfl xR xR (pe_ldH xR xC (fun w hr => hole_see hr xA)) ?_) | refine yL ?_ | (refine yM ?_; intro _)) | (refine gD ?_; first | (refine yN ?_; try simp only [cAp, nAp]) | refine yD0 ?_ | (refine gD_load ?_; refine JL_p rfl xR xR (pe_ldH xR xC (fun w hr => hole_see hr xA)) ?_) | refine yD ?_) | refine yJ ?_ | refine zd64Tq7 ?_ | (refine yI ?_ ?_ <;> intro _ <;> try exact xX) | (refine yK ?_ ?_ <;> intro hgb <;> first | subst hgb | fail_if_success have : type_of% hgb := rfl) | fail))
          exact J_retC1 (cs := vC zV) rfl (by rfl) (by rfl) xA (by rfl) fun w H => ⟨_, ⟨by simp [hereV, optV], rfl⟩, (back (H.sb (M := [pts b (ndC q false v (ptr k0) (ptr k1)) 178, trP k0, trP k1, ctxP tb n C (ptr (.node b q false v k0 k1))]) xZ)).sel xZ⟩
        · (repeat' (first | (refine gL ?_; first | refine yL0 ?_ | (refine gL_load ?_; refine JL_p rfl xR xR (pe_ldH xR xC (fun w hr => hole_see hr xA)) ?_) | refine yL ?_ | (refine yM ?_; intro _)) | (refine gD ?_; first | (refine yN ?_; try simp only [cAp, nAp]) | refine yD0 ?_ | (refine gD_load ?_; refine JL_p rfl xR xR (pe_ldH xR xC (fun w hr => hole_see hr xA)) ?_) | refine yD ?_) | refine yJ ?_ | refine zd64Tq7 ?_ | (refine yI ?_ ?_ <;> intro _ <;> try exact xX) | (refine yK ?_ ?_ <;> intro hgb <;> first | subst hgb | fail_if_success have : type_of% hgb := rfl) | fail))
          exact J_retC1 (cs := vC v) rfl (by rfl) (by rfl) xA (by rfl) fun w H => ⟨_, ⟨by simp [hereV, optV], rfl⟩, (back (H.sb (M := [pts b (ndC q true v (ptr k0) (ptr k1)) 178, trP k0, trP k1, ctxP tb n C (ptr (.node b q true v k0 k1))]) xZ)).sel xZ⟩
      · have hne : q ≠ p := fun e => hq ⟨by rw [e], by rw [e]⟩
        (repeat' (first | (refine gL ?_; first | refine yL0 ?_ | (refine gL_load ?_; refine JL_p rfl xR xR (pe_ldH xR xC (fun w hr => hole_see hr xA)) ?_) | refine yL ?_ | (refine yM ?_; intro _)) | (refine gD ?_; first | (refine yN ?_; try simp only [cAp, nAp]) | refine yD0 ?_ | (refine gD_load ?_; refine JL_p rfl xR xR (pe_ldH xR xC (fun w hr => hole_see hr xA)) ?_) | refine yD ?_) | refine yJ ?_ | refine zd64Tq7 ?_ | (refine yI ?_ ?_ <;> intro _ <;> try exact xX) | (refine yK ?_ ?_ <;> intro hgb <;> first | subst hgb | fail_if_success have : type_of% hgb := rfl) | fail))
        exact J_retC1 (cs := vC zV) rfl (by rfl) (by rfl) xA (by rfl) fun w H => ⟨_, ⟨by simp [hereV, optV, hne], rfl⟩, (back (H.sb (M := [pts b (ndC q has v (ptr k0) (ptr k1)) 178, trP k0, trP k1, ctxP tb n C (ptr (.node b q has v k0 k1))]) xZ)).sel xZ⟩
  · rw [getL_notRt hw hr]
    (repeat' (first | (refine gL ?_; first | refine yL0 ?_ | refine yL ?_ | (refine gL_go ?_; first | (refine JL_goq (is_s tb (ptr t) n true) (hφ := xF) (h := ?_); rintro _ _ ⟨rfl, rfl⟩; try simp only [cAp, nAp]) | (refine JL_goq (right_b p hp false (decide_eq_false hr)) (hφ := xF) (h := ?_); rintro _ _ ⟨rfl, rfl⟩; try simp only [cAp, nAp])) | (refine yM ?_; intro _)) | (refine gD ?_; first | (refine yN ?_; try simp only [cAp, nAp]) | refine yD0 ?_ | refine yD ?_) | refine yJ ?_ | refine zd64Tq7 ?_ | (refine yI ?_ ?_ <;> intro _ <;> try exact xX) | (refine yK ?_ ?_ <;> intro hgb <;> first | subst hgb | fail_if_success have : type_of% hgb := rfl) | fail))
    exact J_retC1 (cs := vC zV) rfl (by rfl) (by rfl) xA (by rfl) fun w H => ⟨_, ⟨rfl, rfl⟩, H.sel xZ⟩
theorem only_s (b : Nat) (q : Pf) (has : Bool) (v : Vt) (a0 a1 : Option Addr) : Pact Tryz.prog 147 #[.pointer (some ⟨b, 0, none⟩)] (fun _ => True) [pts b (ndC q has v a0 a1) 178] (fun u L' => u = .tuple [.pointer (if a0.isSome && a1.isSome then none else if a0.isSome then a0 else a1), .bool (!(a0.isSome && a1.isSome))].toArray ∧ L' = [pts b (ndC q has v a0 a1) 178]) := by
  refine pact Tryz.func147 rfl Tryz.ntmps147 rfl ?_
  intro W K _
  cases a0 <;> cases a1
  all_goals (repeat' (first | (refine gL ?_; first | refine yL0 ?_ | refine yL ?_) | refine yJ ?_ | (refine yI ?_ ?_ <;> intro _ <;> try exact xX) | (refine yK ?_ ?_ <;> intro hgb <;> first | subst hgb | fail_if_success have : type_of% hgb := rfl) | fail))
  all_goals exact J_ret2 rfl (by rfl) (by rfl) fun w H => ⟨_, ⟨rfl, rfl⟩, H.sel xZ⟩
theorem zd116Tq8 {p q : Prop} (k : p) (h : p → q := by intro hk; first | exact J_draw (id := 3) [0, 1, 2, 3, 4, 5, 6, 7, 8, 9] [10] mixed xC xD xD hk | exact J_draw (id := 4) [0, 1, 2, 3, 4] [5] mixed xC xD xD hk | exact J_draw (id := 6) [0, 1, 2, 3, 4, 5, 6, 7, 9, 10, 11, 8] [12, 13] mixed xC xD xD hk | exact J_draw (id := 8) [0, 1, 2, 3, 4, 5, 6, 7, 8, 9, 10, 12, 13, 14, 11] [15, 16] mixed xC xD xD hk | fail) : q := h k

theorem hole_st {W : World} {K : Hl} {R : List HP} {w : World} {tb : Nat} {n : Int} {C : List Fr} {h h' : Option Addr} (H : Ow W K (ctxP tb n C h :: R) w) : ∃ u, w.cell? (holeA tb C) = some u ∧ w.frozen? (holeA tb C) = false ∧ Ow W K (ctxP tb n C h' :: R) (w.setCell (holeA tb C) (.pointer h')) := by
  obtain ⟨a, b, c⟩ := hole_cell H
  exact ⟨_, a, b, c h'⟩
structure InsOk (r : Pf) (p : Pf) (v : Vt) (s s' : Tr) : Prop where
  w : wf r s'
  m : ∀ e, e ∈ ents s' ↔ e = (p, v) ∨ (e ∈ ents s ∧ e.1 ≠ p)
theorem ins_nil {r p : Pf} {v : Vt} {bx : Nat} (hp : PfN p) (hv : VN v) (hr : Wi r p) : InsOk r p v .nil (.node bx p true v .nil .nil) :=
  ⟨⟨hp, hv, hr, trivial, trivial⟩, fun e => by simp [ents]⟩
theorem ins_mem {b : Nat} {q p : Pf} {has : Bool} {v : Vt} {k0 k1 : Tr} {r : Pf} (hw : wf r (.node b q has v k0 k1)) (hq : q ≠ p) (hf : ¬ Wi q p) {e : Ent} : e ∈ ents (.node b q has v k0 k1) ↔ e ∈ ents (.node b q has v k0 k1) ∧ e.1 ≠ p :=
  ⟨fun h => ⟨h, found_none hw hq hf e h⟩, fun h => h.1⟩
theorem ins_kid {r p q : Pf} {v vo : Vt} {bx b : Nat} {has : Bool} {k0 k1 : Tr} (hp : PfN p) (hv : VN v) (hr : Wi r p) (hw : wf r (.node b q has vo k0 k1)) (hq : q ≠ p) (hf : ¬ Wi q p) (hpq : Wi p q) :
    InsOk r p v (.node b q has vo k0 k1) (if btB q.1 p.2 then .node bx p true v .nil (.node b q has vo k0 k1) else .node bx p true v (.node b q has vo k0 k1) .nil) := by
  have hk := (wi_kid hpq (Ne.symm hq)).2
  cases hb : btB q.1 p.2
  · rw [hb] at hk
    simp only [Bool.false_eq_true, if_false]
    refine ⟨⟨hp, hv, hr, ⟨hw.1, hw.2.1, hk, hw.2.2.2⟩, trivial⟩, fun e => ?_⟩
    rw [← ins_mem hw hq hf]
    simp [ents]
  · rw [hb] at hk
    simp only [if_true]
    refine ⟨⟨hp, hv, hr, trivial, ⟨hw.1, hw.2.1, hk, hw.2.2.2⟩⟩, fun e => ?_⟩
    rw [← ins_mem hw hq hf]
    simp [ents]
theorem com_wi {p : Pf} {m : Int} (rp : Rt p) (h0 : 0 ≤ m) (h1 : m ≤ p.2) : Rt (p.1 - p.1 % pw m, m) ∧ Wi (p.1 - p.1 % pw m, m) p := by
  have e1 := Int.mul_ediv_add_emod p.1 (pw m)
  have e2 : p.1 - p.1 % pw m = pw m * (p.1 / pw m) := by omega
  have hr : Rt (p.1 - p.1 % pw m, m) := ⟨h0, Int.le_trans h1 (rt_hi rp), by show (p.1 - p.1 % pw m) % pw m = 0; rw [e2, Int.mul_emod_right]⟩
  refine ⟨hr, hr, rp, h1, ?_⟩
  show p.1 / pw m = (p.1 - p.1 % pw m) / pw m
  rw [e2, Int.mul_ediv_cancel_left _ (Int.ne_of_gt (pw_pos m))]
theorem com_sym {p q : Pf} {m : Int} (h : p.1 / pw m = q.1 / pw m) : (p.1 - p.1 % pw m, m) = (q.1 - q.1 % pw m, m) := by
  have e1 := Int.mul_ediv_add_emod p.1 (pw m)
  have e2 := Int.mul_ediv_add_emod q.1 (pw m)
  rw [h] at e1
  refine Prod.ext ?_ rfl
  show p.1 - p.1 % pw m = q.1 - q.1 % pw m
  omega
theorem btB_eq (a l : Int) (i : Int) (h : bt a l = i) : btB a l = decide (i = 1) := by unfold btB; rw [h]
theorem ins_fork {r p q : Pf} {v vo : Vt} {m : Int} {bx b bf : Nat} {has : Bool} {k0 k1 : Tr} (hp : PfN p) (hv : VN v) (hr : Wi r p) (hw : wf r (.node b q has vo k0 k1)) (hq : q ≠ p) (hf : ¬ Wi q p) (h0 : 0 ≤ m) (h1 : m ≤ p.2) (h2 : m ≤ q.2) (h3 : p.1 / pw m = q.1 / pw m)
    (h4 : m < p.2 → m < q.2 → bt p.1 m ≠ bt q.1 m) (hc : ¬ (p.1 - p.1 % pw m = p.1 ∧ m = p.2)) :
    m < p.2 ∧ m < q.2 ∧ bt p.1 m ≠ bt q.1 m ∧ InsOk r p v (.node b q has vo k0 k1) (if btB p.1 m then .node bf (p.1 - p.1 % pw m, m) false zV (.node b q has vo k0 k1) (.node bx p true v .nil .nil) else .node bf (p.1 - p.1 % pw m, m) false zV (.node bx p true v .nil .nil) (.node b q has vo k0 k1)) := by
  have rp := hr.rt2
  have rq := hw.2.2.1.rt2
  obtain ⟨rc, wp⟩ := com_wi rp h0 h1
  have wq : Wi (p.1 - p.1 % pw m, m) q := by rw [com_sym h3]; exact (com_wi rq h0 h2).2
  have np : (p.1 - p.1 % pw m, m) ≠ p := fun e => hc ⟨congrArg Prod.fst e, congrArg Prod.snd e⟩
  have l1 : m < p.2 := wp.lt np
  have nq : (p.1 - p.1 % pw m, m) ≠ q := fun e => hf (by rw [← e]; exact wp)
  have l2 : m < q.2 := wq.lt nq
  have hb := h4 l1 l2
  have kp := (wi_kid wp np).2
  have kq := (wi_kid wq nq).2
  have rl : r.2 ≤ m := by
    rcases Int.lt_or_le m r.2 with hlt | hle
    · exfalso
      have a1 := hr.2.2.2
      have a2 := hw.2.2.1.2.2.2
      have a3 : p.1 / pw (m + 1) = q.1 / pw (m + 1) := by
        rw [div_pw p.1 (m + 1) r.2 (by omega) (by omega) (rt_hi hr.1), div_pw q.1 (m + 1) r.2 (by omega) (by omega) (rt_hi hr.1), a1, a2]
      have b1 := bt_div p.1 m h0 (by have := rt_hi rp; omega)
      have b2 := bt_div q.1 m h0 (by have := rt_hi rp; omega)
      omega
    · exact hle
  have wr : Wi r (p.1 - p.1 % pw m, m) := hr.comp wp rl
  have hcn : PfN (p.1 - p.1 % pw m, m) := ⟨mask_fits p.1 m hp.1 h0, by have := rt_hi rp; unfold I64; show -9223372036854775808 ≤ m ∧ m ≤ 9223372036854775807; omega⟩
  have hz : VN zV := by unfold VN I64 zV; decide
  refine ⟨l1, l2, hb, ?_⟩
  have c1 := bt_cases p.1 m
  have c2 := bt_cases q.1 m
  have hbq : btB q.1 m = !btB p.1 m := by
    unfold btB
    rcases c1 with c1 | c1 <;> rcases c2 with c2 | c2 <;> rw [c1, c2] at hb ⊢ <;> first | rfl | (exact absurd rfl hb)
  have kq' : Wi (kid (p.1 - p.1 % pw m, m) (!btB p.1 m)) q := by rw [← hbq]; exact kq
  have kp' : Wi (kid (p.1 - p.1 % pw m, m) (btB p.1 m)) p := kp
  cases hbb : btB p.1 m
  · rw [hbb] at kp' kq'
    simp only [Bool.false_eq_true, if_false]
    refine ⟨⟨hcn, hz, wr, ⟨hp, hv, kp', trivial, trivial⟩, ⟨hw.1, hw.2.1, kq', hw.2.2.2⟩⟩, fun e => ?_⟩
    rw [← ins_mem hw hq hf]
    simp [ents]
  · rw [hbb] at kp' kq'
    simp only [if_true]
    refine ⟨⟨hcn, hz, wr, ⟨hw.1, hw.2.1, kq', hw.2.2.2⟩, ⟨hp, hv, kp', trivial, trivial⟩⟩, fun e => ?_⟩
    rw [← ins_mem hw hq hf]
    simp only [ents, List.mem_append]
    cases has <;> simp [or_comm, or_left_comm, or_assoc]
theorem owX {W : World} {K : Hl} {L R : List HP} {w : World} {bx : Nat} {p : Pf} {v : Vt} (H : Ow W K L w) (t : Tk L (pts bx (ndC p true v none none) 178) R) : Ow W K (trP (.node bx p true v .nil .nil) :: R) w :=
  owMkNode (p := p) (has := true) (v := v) (k0 := .nil) (k1 := .nil) ((owMkNil (owMkNil (H.tk t))).sb (M := [pts bx (ndC p true v none none) 178, trP .nil, trP .nil]) (.cons (.there (.there .here)) (.cons .here (.cons .here .nil))))
def InsR (tb : Nat) (n : Int) (C : List Fr) (p : Pf) (v : Vt) (s : Tr) (_ : Value) (L' : List HP) : Prop := ∃ s', InsOk (hreg C) p v s s' ∧ L' = [ctxP tb n C (ptr s'), trP s']
theorem insert_s (tb : Nat) (n : Int) (C : List Fr) (s : Tr) (bx : Nat) (p : Pf) (v : Vt) (hp : PfN p) (hv : VN v) (hw : wf (hreg C) s) (hr : Wi (hreg C) p) (hF : ∀ q, top s = some q → q ≠ p ∧ ¬ Wi q p) :
    Pact Tryz.prog 116 #[.pointer (some ⟨bx, 0, none⟩), .pointer (some (holeA tb C))] (fun _ => True) [pts bx (ndC p true v none none) 178, ctxP tb n C (ptr s), trP s] (InsR tb n C p v s) := by
  refine pact Tryz.func116 rfl Tryz.ntmps116 rfl ?_
  intro W K _
  cases s with
  | nil =>
    (repeat' (first | (refine gL ?_; first | refine yL0 ?_ | (refine gL_load ?_; refine JL_p rfl xR xR (pe_ldH xR xC (fun w hr => hole_see hr xA)) ?_) | (refine gL_store ?_; refine JL_stH (A := ctxP tb n C _) (B := ctxP tb n C _) xR xR xC xR xA (fun W K' w H => hole_st H) xR ?_) | refine yL ?_ | (refine yM ?_; intro _)) | (refine gD ?_; first | (refine yN ?_; try simp only [cAp, nAp]) | (refine gD_load ?_; refine JL_p rfl xR xR (pe_ldH xR xC (fun w hr => hole_see hr xA)) ?_) | (refine gD_store ?_; refine JL_stH (A := ctxP tb n C _) (B := ctxP tb n C _) xR xR xC xR xA (fun W K' w H => hole_st H) xR ?_) | refine yD ?_ | (refine yE ?_; intro _)) | refine yJ ?_ | refine zd116Tq8 ?_ | (refine yI ?_ ?_ <;> intro _ <;> try exact xX) | (refine yK ?_ ?_ <;> intro hgb <;> first | subst hgb | fail_if_success have : type_of% hgb := rfl) | fail))
    exact J_ret0 rfl fun w H => ⟨_, ⟨.node bx p true v .nil .nil, ins_nil hp hv hr, rfl⟩, (owMkNode (p := p) (has := true) (v := v) (k0 := .nil) (k1 := .nil) ((owMkNil (owMkNil H)).sb (M := [pts bx (ndC p true v none none) 178, trP .nil, trP .nil]) xZ)).sel xZ⟩
  | node b q has vo k0 k1 =>
    obtain ⟨hq, hf⟩ := hF q rfl
    have rp := hr.rt2
    have rq := hw.2.2.1.rt2
    refine J_heap (fun w H => owNodeO H xA) ?_
    (repeat' (first | (refine gL ?_; first | refine yL0 ?_ | (refine gL_load ?_; refine JL_p rfl xR xR (pe_ldH xR xC (fun w hr => hole_see hr xA)) ?_) | (refine gL_store ?_; refine JL_stH (A := ctxP tb n C _) (B := ctxP tb n C _) xR xR xC xR xA (fun W K' w H => hole_st H) xR ?_) | refine yL ?_ | (refine yM ?_; intro _)) | (refine gD ?_; first | (refine yN ?_; try simp only [cAp, nAp]) | (refine gD_load ?_; refine JL_p rfl xR xR (pe_ldH xR xC (fun w hr => hole_see hr xA)) ?_) | (refine gD_store ?_; refine JL_stH (A := ctxP tb n C _) (B := ctxP tb n C _) xR xR xC xR xA (fun W K' w H => hole_st H) xR ?_) | refine yD ?_ | (refine gD_go ?_; (refine JD_goq (common_s p q hp hw.1 rp rq) (hφ := xF) (h := ?_); rintro _ _ ⟨⟨m, h0, h1, h2, h3, h4, rfl⟩, rfl⟩; try simp only [cAp, nAp])) | (refine yE ?_; intro _)) | refine yJ ?_ | refine zd116Tq8 ?_ | (refine yI ?_ ?_ <;> intro _ <;> try exact xX) | (refine yK ?_ ?_ <;> intro hgb <;> first | subst hgb | fail_if_success have : type_of% hgb := rfl) | fail))
    · rename_i g5 hc bf
      obtain ⟨l1, l2, hb, hok⟩ := ins_fork (bx := bx) (b := b) (bf := bf) (has := has) (vo := vo) (k0 := k0) (k1 := k1) hp hv hr hw hq hf h0 h1 h2 h3 h4 hc
      have h32 := rt_hi rp
      rcases bt_cases p.1 m with e1 | e1
      · have e2 : bt q.1 m = 1 := by have := bt_cases q.1 m; omega
        rw [btB_eq _ _ _ e1] at hok
        (repeat' (first | (refine gL ?_; first | refine yL0 ?_ | (refine gL_load ?_; refine JL_p rfl xR xR (pe_ldH xR xC (fun w hr => hole_see hr xA)) ?_) | (refine gL_store ?_; refine JL_stH (A := ctxP tb n C _) (B := ctxP tb n C _) xR xR xC xR xA (fun W K' w H => hole_st H) xR ?_) | refine yL ?_ | (refine yM ?_; intro _)) | (refine gD ?_; first | (refine yN ?_; try simp only [cAp, nAp]) | (refine gD_load ?_; refine JL_p rfl xR xR (pe_ldH xR xC (fun w hr => hole_see hr xA)) ?_) | (refine gD_store ?_; refine JL_stH (A := ctxP tb n C _) (B := ctxP tb n C _) xR xR xC xR xA (fun W K' w H => hole_st H) xR ?_) | refine yD ?_ | (refine gD_go ?_; first | (refine JD_goq (bit_b p.1 m 0 e1 hp.1 h0 (by omega)) (hφ := xF) (h := ?_); rintro _ _ ⟨rfl, rfl⟩; try simp only [cAp, nAp]) | (refine JD_goq (bit_b q.1 m 1 e2 hw.1.1 h0 (by omega)) (hφ := xF) (h := ?_); rintro _ _ ⟨rfl, rfl⟩; try simp only [cAp, nAp])) | (refine yE ?_; intro _)) | refine yJ ?_ | refine zd116Tq8 ?_ | (refine yI ?_ ?_ <;> intro _ <;> try exact xX) | (refine yK ?_ ?_ <;> intro hgb <;> first | subst hgb | fail_if_success have : type_of% hgb := rfl) | fail))
        refine J_end0 rfl fun w H => ⟨_, ⟨_, hok, rfl⟩, ?_⟩
        have H1 := owX H (p := p) (v := v) (bx := bx) xA
        have H2 := owMkNode (H1.sb (M := [pts b (ndC q has vo (ptr k0) (ptr k1)) 178, trP k0, trP k1]) xZ)
        exact (owMkNode (k0 := .node bx p true v .nil .nil) (k1 := .node b q has vo k0 k1) (p := (p.1 - p.1 % pw m, m)) (has := false) (v := zV) (H2.sb (M := [pts bf (ndC (p.1 - p.1 % pw m, m) false zV (some ⟨bx, 0, none⟩) (some ⟨b, 0, none⟩)) 178, trP (.node bx p true v .nil .nil), trP (.node b q has vo k0 k1)]) xZ)).sel xZ
      · have e2 : bt q.1 m = 0 := by have := bt_cases q.1 m; omega
        rw [btB_eq _ _ _ e1] at hok
        (repeat' (first | (refine gL ?_; first | refine yL0 ?_ | (refine gL_load ?_; refine JL_p rfl xR xR (pe_ldH xR xC (fun w hr => hole_see hr xA)) ?_) | (refine gL_store ?_; refine JL_stH (A := ctxP tb n C _) (B := ctxP tb n C _) xR xR xC xR xA (fun W K' w H => hole_st H) xR ?_) | refine yL ?_ | (refine yM ?_; intro _)) | (refine gD ?_; first | (refine yN ?_; try simp only [cAp, nAp]) | (refine gD_load ?_; refine JL_p rfl xR xR (pe_ldH xR xC (fun w hr => hole_see hr xA)) ?_) | (refine gD_store ?_; refine JL_stH (A := ctxP tb n C _) (B := ctxP tb n C _) xR xR xC xR xA (fun W K' w H => hole_st H) xR ?_) | refine yD ?_ | (refine gD_go ?_; first | (refine JD_goq (bit_b p.1 m 1 e1 hp.1 h0 (by omega)) (hφ := xF) (h := ?_); rintro _ _ ⟨rfl, rfl⟩; try simp only [cAp, nAp]) | (refine JD_goq (bit_b q.1 m 0 e2 hw.1.1 h0 (by omega)) (hφ := xF) (h := ?_); rintro _ _ ⟨rfl, rfl⟩; try simp only [cAp, nAp])) | (refine yE ?_; intro _)) | refine yJ ?_ | refine zd116Tq8 ?_ | (refine yI ?_ ?_ <;> intro _ <;> try exact xX) | (refine yK ?_ ?_ <;> intro hgb <;> first | subst hgb | fail_if_success have : type_of% hgb := rfl) | fail))
        refine J_end0 rfl fun w H => ⟨_, ⟨_, hok, rfl⟩, ?_⟩
        have H1 := owX H (p := p) (v := v) (bx := bx) xA
        have H2 := owMkNode (H1.sb (M := [pts b (ndC q has vo (ptr k0) (ptr k1)) 178, trP k0, trP k1]) xZ)
        exact (owMkNode (k1 := .node bx p true v .nil .nil) (k0 := .node b q has vo k0 k1) (p := (p.1 - p.1 % pw m, m)) (has := false) (v := zV) (H2.sb (M := [pts bf (ndC (p.1 - p.1 % pw m, m) false zV (some ⟨b, 0, none⟩) (some ⟨bx, 0, none⟩)) 178, trP (.node b q has vo k0 k1), trP (.node bx p true v .nil .nil)]) xZ)).sel xZ
    · rename_i g5 hc
      obtain ⟨hc1, hc2⟩ := Decidable.not_not.1 hc
      have wq : Wi p q := by
        have h5 := com_sym h3
        have h6 : (p.1 - p.1 % pw m, m) = p := Prod.ext hc1 hc2
        rw [← h6, h5]
        exact (com_wi rq h0 h2).2
      have hok := ins_kid (bx := bx) hp hv hr hw hq hf wq
      have hl := wq.lt (Ne.symm hq)
      have h32 := rt_hi rq
      rcases bt_cases q.1 p.2 with e1 | e1
      · rw [btB_eq _ _ _ e1] at hok
        (repeat' (first | (refine gL ?_; first | refine yL0 ?_ | (refine gL_load ?_; refine JL_p rfl xR xR (pe_ldH xR xC (fun w hr => hole_see hr xA)) ?_) | (refine gL_store ?_; refine JL_stH (A := ctxP tb n C _) (B := ctxP tb n C _) xR xR xC xR xA (fun W K' w H => hole_st H) xR ?_) | refine yL ?_ | (refine yM ?_; intro _)) | (refine gD ?_; first | (refine yN ?_; try simp only [cAp, nAp]) | (refine gD_load ?_; refine JL_p rfl xR xR (pe_ldH xR xC (fun w hr => hole_see hr xA)) ?_) | (refine gD_store ?_; refine JL_stH (A := ctxP tb n C _) (B := ctxP tb n C _) xR xR xC xR xA (fun W K' w H => hole_st H) xR ?_) | refine yD ?_ | (refine gD_go ?_; (refine JD_goq (bit_b q.1 p.2 0 e1 hw.1.1 (rt_lo rp) (by omega)) (hφ := xF) (h := ?_); rintro _ _ ⟨rfl, rfl⟩; try simp only [cAp, nAp])) | (refine yE ?_; intro _)) | refine yJ ?_ | refine zd116Tq8 ?_ | (refine yI ?_ ?_ <;> intro _ <;> try exact xX) | (refine yK ?_ ?_ <;> intro hgb <;> first | subst hgb | fail_if_success have : type_of% hgb := rfl) | fail))
        refine J_end0 rfl fun w H => ⟨_, ⟨_, hok, rfl⟩, ?_⟩
        have H2 := owMkNode (H.sb (M := [pts b (ndC q has vo (ptr k0) (ptr k1)) 178, trP k0, trP k1]) xZ)
        exact (owMkNode (k0 := .node b q has vo k0 k1) (k1 := .nil) (p := p) (has := true) (v := v) ((owMkNil H2).sb (M := [pts bx (ndC p true v (some ⟨b, 0, none⟩) none) 178, trP (.node b q has vo k0 k1), trP .nil]) xZ)).sel xZ
      · rw [btB_eq _ _ _ e1] at hok
        (repeat' (first | (refine gL ?_; first | refine yL0 ?_ | (refine gL_load ?_; refine JL_p rfl xR xR (pe_ldH xR xC (fun w hr => hole_see hr xA)) ?_) | (refine gL_store ?_; refine JL_stH (A := ctxP tb n C _) (B := ctxP tb n C _) xR xR xC xR xA (fun W K' w H => hole_st H) xR ?_) | refine yL ?_ | (refine yM ?_; intro _)) | (refine gD ?_; first | (refine yN ?_; try simp only [cAp, nAp]) | (refine gD_load ?_; refine JL_p rfl xR xR (pe_ldH xR xC (fun w hr => hole_see hr xA)) ?_) | (refine gD_store ?_; refine JL_stH (A := ctxP tb n C _) (B := ctxP tb n C _) xR xR xC xR xA (fun W K' w H => hole_st H) xR ?_) | refine yD ?_ | (refine gD_go ?_; (refine JD_goq (bit_b q.1 p.2 1 e1 hw.1.1 (rt_lo rp) (by omega)) (hφ := xF) (h := ?_); rintro _ _ ⟨rfl, rfl⟩; try simp only [cAp, nAp])) | (refine yE ?_; intro _)) | refine yJ ?_ | refine zd116Tq8 ?_ | (refine yI ?_ ?_ <;> intro _ <;> try exact xX) | (refine yK ?_ ?_ <;> intro hgb <;> first | subst hgb | fail_if_success have : type_of% hgb := rfl) | fail))
        refine J_end0 rfl fun w H => ⟨_, ⟨_, hok, rfl⟩, ?_⟩
        have H2 := owMkNode (H.sb (M := [pts b (ndC q has vo (ptr k0) (ptr k1)) 178, trP k0, trP k1]) xZ)
        exact (owMkNode (k1 := .node b q has vo k0 k1) (k0 := .nil) (p := p) (has := true) (v := v) ((owMkNil H2).sb (M := [pts bx (ndC p true v none (some ⟨b, 0, none⟩)) 178, trP .nil, trP (.node b q has vo k0 k1)]) xZ)).sel xZ
end Go.Proofs.YtdnokmpnemaoaaaGreat.T
