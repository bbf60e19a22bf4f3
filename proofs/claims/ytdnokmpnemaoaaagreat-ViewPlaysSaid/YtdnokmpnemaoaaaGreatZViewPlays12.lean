/-
  Tq6, Tq7: merged.
-/
import Derived.Test.YtdnokmpnemaoaaaGreatZViewPlays11
namespace Go.Proofs.YtdnokmpnemaoaaaGreat.T
set_option linter.unusedSimpArgs false
set_option linter.unusedVariables false
set_option maxRecDepth 20000
set_option maxHeartbeats 4000000
open Go.RowKit Go.Pm

theorem hole_see {K : Hl} {L R : List HP} {w : World} {tb : Nat} {n : Int} {C : List Fr} {h : Option Addr} (hr : Rdw K L w) (t : Tk L (ctxP tb n C h) R) : w.cell? (holeA tb C) = some (.pointer h) := by
  obtain ⟨k, hk, i⟩ := hr.tk t
  cases C with
  | nil =>
    obtain ⟨h1, h2, a, _, d, rfl⟩ := hk
    obtain rfl : h1 = Hl.one tb (.cells (trC h n true).toArray 143 (0, 0)) := a
    have hb : Blk w tb (trC h n true).toArray 143 := ((Hl.inn_add d).1 i).1 tb _ (by simp [Hl.one])
    rw [holeA, hb.cell]
    rfl
  | cons f C =>
    obtain ⟨h1, h2, a, _, d, rfl⟩ := hk
    obtain rfl : h1 = Hl.one f.b (.cells (frC f h).toArray 178 (0, 0)) := a
    have hb : Blk w f.b (frC f h).toArray 178 := ((Hl.inn_add d).1 i).1 f.b _ (by simp [Hl.one])
    rw [holeA, hb.cell]
    unfold frC sideN
    cases f.side <;> rfl
def szT : Tr → Nat
  | .nil => 0
  | .node _ _ _ _ k0 k1 => szT k0 + szT k1 + 1
structure Pl where
  C : List Fr
  s : Tr
theorem bit_b (a l : Int) (i : Int) (hi : bt a l = i) (ha : U32 a) (h0 : 0 ≤ l) (h1 : l ≤ 31) : Pact Tryz.prog 140 #[.int .u32 a, .int .i64 l] (fun _ => True) [] (ret0 (.int .i64 i)) := hi ▸ bit_s a l ha h0 h1
theorem within_b (p q : Pf) (hp : PfN p) (hq : PfN q) (b : Bool) (hb : decide (Wi p q) = b) : Pact Tryz.prog 139 #[.agg (pfC p).toArray, .agg (pfC q).toArray] (fun _ => True) [] (ret0 (.bool b)) := hb ▸ within_s p q hp hq
theorem right_b (p : Pf) (hp : PfN p) (b : Bool) (hb : decide (Rt p) = b) : Pact Tryz.prog 65 #[.agg (pfC p).toArray] (fun _ => True) [] (ret0 (.bool b)) := hb ▸ right_s p hp
def FindR (t : Tr) (p : Pf) (tb : Nat) (n : Int) (v : Value) (L' : List HP) : Prop := ∃ C s, plug C s = t ∧ Path p C ∧ Found p s ∧ v = .pointer (some (holeA tb C)) ∧ L' = [ctxP tb n C (ptr s), trP s]
theorem find_s (tb : Nat) (n : Int) (t : Tr) (p : Pf) (hp : PfN p) (hw : wf (0, 0) t) : Pact Tryz.prog 104 #[.pointer (some ⟨tb, 0, none⟩), .agg (pfC p).toArray] (fun _ => True) [pts tb (trC (ptr t) n true) 143, trP t] (FindR t p tb n) := by
  refine pact Tryz.func104 rfl Tryz.ntmps104 rfl ?_
  intro W K _
  (repeat' (first | ((with_reducible apply gL); (first | refine yL0 ?_ | refine yL ?_ | (refine yM ?_; intro _) | fail)) | ((with_reducible apply gD); (first | (refine JD_nil ?_; try simp only [List.cons_append, List.nil_append]) | (refine JD_bar ?_; try simp only [List.cons_append, List.nil_append]) | refine yD0 ?_ | refine yD ?_ | ((with_reducible apply gD_gd); (first | (refine JD_guard xR xR ?_ ?_ <;> intro _ <;> (try (exfalso; first | contradiction | omega))) | (refine JD_guardb xR xR ?_ ?_ <;> (intro hgb; subst hgb)) | (refine JD_guardb xR xR ?_ ?_ <;> (intro hgb; fail_if_success (have : type_of% hgb := rfl))) | fail)) | fail)) | refine yJ ?_ | ((with_reducible apply gJ_if); (first | (refine J_if xR ?_ ?_ <;> intro _ <;> (try (exfalso; first | contradiction | omega))) | (refine J_ifb xR ?_ ?_ <;> (intro hgb; subst hgb)) | (refine J_ifb xR ?_ ?_ <;> intro _) | fail)) | refine J_draw (id := 3) [0, 1, 2, 3, 4, 5, 6, 7, 8, 9, 10, 11, 12, 13, 14, 15] [16, 17, 18] mixed xC xD xD ?_ | refine J_draw (id := 5) [0, 1, 2, 3, 4, 5, 6, 7, 9, 10, 8] [11, 12] mixed xC xD xD ?_ | fail))
  rename_i g
  refine J_scope (α := Pl) 0 (fun x => szT x.s) (fun x => plug x.C x.s = t ∧ Path p x.C) (fun x => [(0, .pointer (some ⟨tb, 0, none⟩)), (3, .pointer (some ⟨g, 0, none⟩)), (5, .pointer (some (holeA tb x.C)))])
    (fun x => [ctxP tb n x.C (ptr x.s), trP x.s, pts g (pfC p) 28]) rfl rfl ?_ ?_
  · simp only [List.map_cons, List.map_nil, List.cons_append, List.nil_append]
    (repeat' (first | ((with_reducible apply gL); (first | refine yL0 ?_ | refine yL ?_ | (refine yM ?_; intro _) | fail)) | ((with_reducible apply gD); (first | (refine JD_nil ?_; try simp only [List.cons_append, List.nil_append]) | (refine JD_bar ?_; try simp only [List.cons_append, List.nil_append]) | refine yD0 ?_ | refine yD ?_ | ((with_reducible apply gD_gd); (first | (refine JD_guard xR xR ?_ ?_ <;> intro _ <;> (try (exfalso; first | contradiction | omega))) | (refine JD_guardb xR xR ?_ ?_ <;> (intro hgb; subst hgb)) | (refine JD_guardb xR xR ?_ ?_ <;> (intro hgb; fail_if_success (have : type_of% hgb := rfl))) | fail)) | fail)) | refine yJ ?_ | ((with_reducible apply gJ_if); (first | (refine J_if xR ?_ ?_ <;> intro _ <;> (try (exfalso; first | contradiction | omega))) | (refine J_ifb xR ?_ ?_ <;> (intro hgb; subst hgb)) | (refine J_ifb xR ?_ ?_ <;> intro _) | fail)) | refine J_draw (id := 3) [0, 1, 2, 3, 4, 5, 6, 7, 8, 9, 10, 11, 12, 13, 14, 15] [16, 17, 18] mixed xC xD xD ?_ | refine J_draw (id := 5) [0, 1, 2, 3, 4, 5, 6, 7, 9, 10, 8] [11, 12] mixed xC xD xD ?_ | fail))
    exact J_meet ⟨[], t⟩ ⟨rfl, by intro f h; simp at h⟩ ⟨rfl, rfl, rfl, trivial⟩ (fun w H => (owMkTop H xA).sel xZ)
  rintro ⟨C, s⟩ ⟨ht, hC⟩
  dsimp only at ht hC ⊢
  simp only [List.map_cons, List.map_nil, List.cons_append, List.nil_append]
  have hws := ((wf_plug C s).1 (ht ▸ hw)).2
  cases s with
  | nil =>
    (repeat' (first | ((with_reducible apply gL); (first | refine yL0 ?_ | ((with_reducible apply gL_load); (first | refine JL_p rfl xR xR (pe_ldH xR xC (fun w hr => hole_see hr xA)) ?_ | fail)) | refine yL ?_ | (refine yM ?_; intro _) | fail)) | ((with_reducible apply gD); (first | (refine JD_nil ?_; try simp only [List.cons_append, List.nil_append]) | (refine JD_bar ?_; try simp only [List.cons_append, List.nil_append]) | refine yD0 ?_ | ((with_reducible apply gD_load); (first | refine JL_p rfl xR xR (pe_ldH xR xC (fun w hr => hole_see hr xA)) ?_ | fail)) | refine yD ?_ | ((with_reducible apply gD_gd); (first | (refine JD_guard xR xR ?_ ?_ <;> intro _ <;> (try (exfalso; first | contradiction | omega))) | (refine JD_guardb xR xR ?_ ?_ <;> (intro hgb; subst hgb)) | (refine JD_guardb xR xR ?_ ?_ <;> (intro hgb; fail_if_success (have : type_of% hgb := rfl))) | fail)) | fail)) | refine yJ ?_ | ((with_reducible apply gJ_if); (first | (refine J_if xR ?_ ?_ <;> intro _ <;> (try (exfalso; first | contradiction | omega))) | (refine J_ifb xR ?_ ?_ <;> (intro hgb; subst hgb)) | (refine J_ifb xR ?_ ?_ <;> intro _) | fail)) | refine J_draw (id := 3) [0, 1, 2, 3, 4, 5, 6, 7, 8, 9, 10, 11, 12, 13, 14, 15] [16, 17, 18] mixed xC xD xD ?_ | refine J_draw (id := 5) [0, 1, 2, 3, 4, 5, 6, 7, 9, 10, 8] [11, 12] mixed xC xD xD ?_ | fail))
    exact J_ret1 rfl (by rfl) fun w H => ⟨_, ⟨C, .nil, ht, hC, by intro q hq; simp [top] at hq, rfl, rfl⟩, H.sel xZ⟩
  | node b q has v k0 k1 =>
    refine J_heap (fun w H => owNodeO H xA) ?_
    by_cases hq : q.1 = p.1 ∧ q.2 = p.2
    · (repeat' (first | ((with_reducible apply gL); (first | refine yL0 ?_ | ((with_reducible apply gL_load); (first | refine JL_p rfl xR xR (pe_ldH xR xC (fun w hr => hole_see hr xA)) ?_ | fail)) | refine yL ?_ | (refine yM ?_; intro _) | fail)) | ((with_reducible apply gD); (first | (refine JD_nil ?_; try simp only [List.cons_append, List.nil_append]) | (refine JD_bar ?_; try simp only [List.cons_append, List.nil_append]) | refine yD0 ?_ | ((with_reducible apply gD_load); (first | refine JL_p rfl xR xR (pe_ldH xR xC (fun w hr => hole_see hr xA)) ?_ | fail)) | refine yD ?_ | ((with_reducible apply gD_gd); (first | (refine JD_guard xR xR ?_ ?_ <;> intro _ <;> (try (exfalso; first | contradiction | omega))) | (refine JD_guardb xR xR ?_ ?_ <;> (intro hgb; subst hgb)) | (refine JD_guardb xR xR ?_ ?_ <;> (intro hgb; fail_if_success (have : type_of% hgb := rfl))) | fail)) | fail)) | refine yJ ?_ | ((with_reducible apply gJ_if); (first | (refine J_if xR ?_ ?_ <;> intro _ <;> (try (exfalso; first | contradiction | omega))) | (refine J_ifb xR ?_ ?_ <;> (intro hgb; subst hgb)) | (refine J_ifb xR ?_ ?_ <;> intro _) | fail)) | refine J_draw (id := 3) [0, 1, 2, 3, 4, 5, 6, 7, 8, 9, 10, 11, 12, 13, 14, 15] [16, 17, 18] mixed xC xD xD ?_ | refine J_draw (id := 5) [0, 1, 2, 3, 4, 5, 6, 7, 9, 10, 8] [11, 12] mixed xC xD xD ?_ | fail))
      exact J_ret1 rfl (by rfl) fun w H => ⟨_, ⟨C, .node b q has v k0 k1, ht, hC, by intro x hx; cases hx; exact .inl (Prod.ext hq.1 hq.2), rfl, rfl⟩, (owMkNode (H.sb (M := [pts b (ndC q has v (ptr k0) (ptr k1)) 178, trP k0, trP k1]) xZ)).sel xZ⟩
    · have hne : q ≠ p := fun e => hq ⟨by rw [e], by rw [e]⟩
      by_cases hwi : Wi q p
      · have hl := hwi.lt hne
        have h32 := rt_hi hwi.rt2
        rcases bt_cases p.1 q.2 with hb | hb
        · (repeat' (first | ((with_reducible apply gL); (first | refine yL0 ?_ | ((with_reducible apply gL_load); (first | refine JL_p rfl xR xR (pe_ldH xR xC (fun w hr => hole_see hr xA)) ?_ | fail)) | refine yL ?_ | (refine yM ?_; intro _) | fail)) | ((with_reducible apply gD); (first | (refine JD_nil ?_; try simp only [List.cons_append, List.nil_append]) | (refine JD_bar ?_; try simp only [List.cons_append, List.nil_append]) | refine yD0 ?_ | ((with_reducible apply gD_load); (first | refine JL_p rfl xR xR (pe_ldH xR xC (fun w hr => hole_see hr xA)) ?_ | fail)) | refine yD ?_ | ((with_reducible apply gD_go); (first | (refine JD_goq (within_b q p hws.1 hp true (decide_eq_true hwi)) (hφ := xF) (h := ?_); rintro _ _ ⟨rfl, rfl⟩; try simp only [List.cons_append, List.nil_append]) | (refine JD_goq (bit_b p.1 q.2 0 hb hp.1 (rt_lo hwi.rt1) (by omega)) (hφ := xF) (h := ?_); rintro _ _ ⟨rfl, rfl⟩; try simp only [List.cons_append, List.nil_append]) | fail)) | ((with_reducible apply gD_gd); (first | (refine JD_guard xR xR ?_ ?_ <;> intro _ <;> (try (exfalso; first | contradiction | omega))) | (refine JD_guardb xR xR ?_ ?_ <;> (intro hgb; subst hgb)) | (refine JD_guardb xR xR ?_ ?_ <;> (intro hgb; fail_if_success (have : type_of% hgb := rfl))) | fail)) | fail)) | refine yJ ?_ | ((with_reducible apply gJ_if); (first | (refine J_if xR ?_ ?_ <;> intro _ <;> (try (exfalso; first | contradiction | omega))) | (refine J_ifb xR ?_ ?_ <;> (intro hgb; subst hgb)) | (refine J_ifb xR ?_ ?_ <;> intro _) | fail)) | refine J_draw (id := 3) [0, 1, 2, 3, 4, 5, 6, 7, 8, 9, 10, 11, 12, 13, 14, 15] [16, 17, 18] mixed xC xD xD ?_ | refine J_draw (id := 5) [0, 1, 2, 3, 4, 5, 6, 7, 9, 10, 8] [11, 12] mixed xC xD xD ?_ | fail))
          refine J_again ⟨⟨b, q, has, v, false, k1⟩ :: C, k0⟩ (by simp only [szT]; omega) ⟨ht, ?_⟩ ⟨rfl, rfl, rfl, trivial⟩ (fun w H => (owMkFr (f := ⟨b, q, has, v, false, k1⟩) (H.sb (M := [pts b (ndC q has v (ptr k0) (ptr k1)) 178, trP k1, ctxP tb n C (some ⟨b, 0, none⟩)]) xZ)).sel xZ)
          intro f hf
          rcases List.mem_cons.1 hf with rfl | hf
          · exact ⟨hwi, hne, by simp [btB, hb]⟩
          · exact hC f hf
        · (repeat' (first | ((with_reducible apply gL); (first | refine yL0 ?_ | ((with_reducible apply gL_load); (first | refine JL_p rfl xR xR (pe_ldH xR xC (fun w hr => hole_see hr xA)) ?_ | fail)) | refine yL ?_ | (refine yM ?_; intro _) | fail)) | ((with_reducible apply gD); (first | (refine JD_nil ?_; try simp only [List.cons_append, List.nil_append]) | (refine JD_bar ?_; try simp only [List.cons_append, List.nil_append]) | refine yD0 ?_ | ((with_reducible apply gD_load); (first | refine JL_p rfl xR xR (pe_ldH xR xC (fun w hr => hole_see hr xA)) ?_ | fail)) | refine yD ?_ | ((with_reducible apply gD_go); (first | (refine JD_goq (within_b q p hws.1 hp true (decide_eq_true hwi)) (hφ := xF) (h := ?_); rintro _ _ ⟨rfl, rfl⟩; try simp only [List.cons_append, List.nil_append]) | (refine JD_goq (bit_b p.1 q.2 1 hb hp.1 (rt_lo hwi.rt1) (by omega)) (hφ := xF) (h := ?_); rintro _ _ ⟨rfl, rfl⟩; try simp only [List.cons_append, List.nil_append]) | fail)) | ((with_reducible apply gD_gd); (first | (refine JD_guard xR xR ?_ ?_ <;> intro _ <;> (try (exfalso; first | contradiction | omega))) | (refine JD_guardb xR xR ?_ ?_ <;> (intro hgb; subst hgb)) | (refine JD_guardb xR xR ?_ ?_ <;> (intro hgb; fail_if_success (have : type_of% hgb := rfl))) | fail)) | fail)) | refine yJ ?_ | ((with_reducible apply gJ_if); (first | (refine J_if xR ?_ ?_ <;> intro _ <;> (try (exfalso; first | contradiction | omega))) | (refine J_ifb xR ?_ ?_ <;> (intro hgb; subst hgb)) | (refine J_ifb xR ?_ ?_ <;> intro _) | fail)) | refine J_draw (id := 3) [0, 1, 2, 3, 4, 5, 6, 7, 8, 9, 10, 11, 12, 13, 14, 15] [16, 17, 18] mixed xC xD xD ?_ | refine J_draw (id := 5) [0, 1, 2, 3, 4, 5, 6, 7, 9, 10, 8] [11, 12] mixed xC xD xD ?_ | fail))
          refine J_again ⟨⟨b, q, has, v, true, k0⟩ :: C, k1⟩ (by simp only [szT]; omega) ⟨ht, ?_⟩ ⟨rfl, rfl, rfl, trivial⟩ (fun w H => (owMkFr (f := ⟨b, q, has, v, true, k0⟩) (H.sb (M := [pts b (ndC q has v (ptr k0) (ptr k1)) 178, trP k0, ctxP tb n C (some ⟨b, 0, none⟩)]) xZ)).sel xZ)
          intro f hf
          rcases List.mem_cons.1 hf with rfl | hf
          · exact ⟨hwi, hne, by simp [btB, hb]⟩
          · exact hC f hf
      · (repeat' (first | ((with_reducible apply gL); (first | refine yL0 ?_ | ((with_reducible apply gL_load); (first | refine JL_p rfl xR xR (pe_ldH xR xC (fun w hr => hole_see hr xA)) ?_ | fail)) | refine yL ?_ | (refine yM ?_; intro _) | fail)) | ((with_reducible apply gD); (first | (refine JD_nil ?_; try simp only [List.cons_append, List.nil_append]) | (refine JD_bar ?_; try simp only [List.cons_append, List.nil_append]) | refine yD0 ?_ | ((with_reducible apply gD_load); (first | refine JL_p rfl xR xR (pe_ldH xR xC (fun w hr => hole_see hr xA)) ?_ | fail)) | refine yD ?_ | ((with_reducible apply gD_go); (first | (refine JD_goq (within_b q p hws.1 hp false (decide_eq_false hwi)) (hφ := xF) (h := ?_); rintro _ _ ⟨rfl, rfl⟩; try simp only [List.cons_append, List.nil_append]) | fail)) | ((with_reducible apply gD_gd); (first | (refine JD_guard xR xR ?_ ?_ <;> intro _ <;> (try (exfalso; first | contradiction | omega))) | (refine JD_guardb xR xR ?_ ?_ <;> (intro hgb; subst hgb)) | (refine JD_guardb xR xR ?_ ?_ <;> (intro hgb; fail_if_success (have : type_of% hgb := rfl))) | fail)) | fail)) | refine yJ ?_ | ((with_reducible apply gJ_if); (first | (refine J_if xR ?_ ?_ <;> intro _ <;> (try (exfalso; first | contradiction | omega))) | (refine J_ifb xR ?_ ?_ <;> (intro hgb; subst hgb)) | (refine J_ifb xR ?_ ?_ <;> intro _) | fail)) | refine J_draw (id := 3) [0, 1, 2, 3, 4, 5, 6, 7, 8, 9, 10, 11, 12, 13, 14, 15] [16, 17, 18] mixed xC xD xD ?_ | refine J_draw (id := 5) [0, 1, 2, 3, 4, 5, 6, 7, 9, 10, 8] [11, 12] mixed xC xD xD ?_ | fail))
        exact J_ret1 rfl (by rfl) fun w H => ⟨_, ⟨C, .node b q has v k0 k1, ht, hC, by intro x hx; cases hx; exact .inr hwi, rfl, rfl⟩, (owMkNode (H.sb (M := [pts b (ndC q has v (ptr k0) (ptr k1)) 178, trP k0, trP k1]) xZ)).sel xZ⟩
end Go.Proofs.YtdnokmpnemaoaaaGreat.T
namespace Go.Proofs.YtdnokmpnemaoaaaGreat.T
set_option linter.unusedSimpArgs false
set_option linter.unusedVariables false
set_option maxRecDepth 20000
set_option maxHeartbeats 4000000
open Go.RowKit Go.Pm

def hereV (p : Pf) : Tr → Option Vt
  | .nil => none
  | .node _ q has v _ _ => if q = p ∧ has = true then some v else none
theorem kids_ne {r : Pf} {b : Nat} {p : Pf} {has : Bool} {v : Vt} {k0 k1 : Tr} (hw : wf r (.node b p has v k0 k1)) {e : Ent} (he : e ∈ ents k0 ∨ e ∈ ents k1) : e.1 ≠ p := by
  obtain ⟨hn, hv, hr, h0, h1⟩ := hw
  rcases he with he | he
  · exact (kid_wi (wf_wi h0 he).1 hr.rt2).2.1.symm
  · exact (kid_wi (wf_wi h1 he).1 hr.rt2).2.1.symm
theorem found_res {C : List Fr} {s : Tr} {p : Pf} (hw : wf (0, 0) (plug C s)) (hp : Path p C) (hF : Found p s) (hr : Rt p) : getL (ents (plug C s)) p = hereV p s := by
  have hs := ((wf_plug C s).1 hw).2
  have none_of : (∀ e ∈ ents s, e.1 ≠ p) → getL (ents (plug C s)) p = none := fun h => getL_none.2 fun e he hk => h e (found_get hw hp hr he hk) hk
  cases s with
  | nil => exact none_of (by simp [ents])
  | node b q has v k0 k1 =>
    show _ = if q = p ∧ has = true then some v else none
    by_cases hq : q = p
    · subst hq
      cases has
      · rw [if_neg (by simp)]
        exact none_of fun e he => kids_ne hs (by simpa [ents] using he)
      · rw [if_pos ⟨rfl, rfl⟩]
        exact (getL_mem (wf_srt hw)).2 (mem_plug.2 (.inl (by simp [ents])))
    · rw [if_neg (fun h => hq h.1)]
      exact none_of (found_none hs hq ((hF q rfl).resolve_left hq))
theorem getL_notRt {t : Tr} {p : Pf} (hw : wf (0, 0) t) (h : ¬ Rt p) : getL (ents t) p = none := getL_none.2 fun e he hk => h (hk ▸ (wf_wi hw he).1.rt2)
abbrev optV (o : Option Vt) : Value := .tuple [.agg (vC (o.getD zV)).toArray, .bool o.isSome].toArray
abbrev TrieL (tb : Nat) (n : Int) (t : Tr) : List HP := [pts tb (trC (ptr t) n true) 143, trP t]
theorem get_s (tb : Nat) (n : Int) (t : Tr) (p : Pf) (hp : PfN p) (hw : wf (0, 0) t) : Pact Tryz.prog 64 #[.pointer (some ⟨tb, 0, none⟩), .agg (pfC p).toArray] (fun _ => True) [pts tb (trC (ptr t) n true) 143, trP t] (fun v L' => v = optV (getL (ents t) p) ∧ L' = TrieL tb n t) := by
  refine pact Tryz.func64 rfl Tryz.ntmps64 rfl ?_
  intro W K _
  by_cases hr : Rt p
  · (repeat' (first | ((with_reducible apply gL); (first | refine yL0 ?_ | refine yL ?_ | ((with_reducible apply gL_go); (first | (refine JL_goq (is_s tb (ptr t) n true) (hφ := xF) (h := ?_); rintro _ _ ⟨rfl, rfl⟩; try simp only [List.cons_append, List.nil_append]) | (refine JL_goq (right_b p hp true (decide_eq_true hr)) (hφ := xF) (h := ?_); rintro _ _ ⟨rfl, rfl⟩; try simp only [List.cons_append, List.nil_append]) | (refine JL_goq (find_s tb n t p hp hw) (hφ := xF) (h := ?_); rintro _ _ ⟨C, s, ht, hC, hF, rfl, rfl⟩; try simp only [List.cons_append, List.nil_append]) | fail)) | (refine yM ?_; intro _) | ((with_reducible apply gL_gd); (first | (refine JL_guard xR xR ?_ ?_ <;> intro _ <;> (try (exfalso; first | contradiction | omega))) | (refine JL_guardb xR xR ?_ ?_ <;> (intro hgb; subst hgb)) | (refine JL_guardb xR xR ?_ ?_ <;> (intro hgb; fail_if_success (have : type_of% hgb := rfl))) | fail)) | fail)) | ((with_reducible apply gD); (first | (refine JD_nil ?_; try simp only [List.cons_append, List.nil_append]) | (refine JD_bar ?_; try simp only [List.cons_append, List.nil_append]) | refine yD0 ?_ | refine yD ?_ | ((with_reducible apply gD_gd); (first | (refine JD_guard xR xR ?_ ?_ <;> intro _ <;> (try (exfalso; first | contradiction | omega))) | (refine JD_guardb xR xR ?_ ?_ <;> (intro hgb; subst hgb)) | (refine JD_guardb xR xR ?_ ?_ <;> (intro hgb; fail_if_success (have : type_of% hgb := rfl))) | fail)) | fail)) | refine yJ ?_ | ((with_reducible apply gJ_if); (first | (refine J_if xR ?_ ?_ <;> intro _ <;> (try (exfalso; first | contradiction | omega))) | (refine J_ifb xR ?_ ?_ <;> (intro hgb; subst hgb)) | (refine J_ifb xR ?_ ?_ <;> intro _) | fail)) | refine J_draw (id := 5) [0, 1, 2, 3, 4, 5, 6, 7] [8, 9, 10, 11, 12, 13, 14, 15, 16] mixed xC xD xD ?_ | fail))
    subst ht
    have hs := ((wf_plug C s).1 hw).2
    have hg := found_res hw hC hF hr
    rw [hg]
    cases s with
    | nil =>
      (repeat' (first | ((with_reducible apply gL); (first | refine yL0 ?_ | ((with_reducible apply gL_load); (first | refine JL_p rfl xR xR (pe_ldH xR xC (fun w hr => hole_see hr xA)) ?_ | fail)) | refine yL ?_ | (refine yM ?_; intro _) | ((with_reducible apply gL_gd); (first | (refine JL_guard xR xR ?_ ?_ <;> intro _ <;> (try (exfalso; first | contradiction | omega))) | (refine JL_guardb xR xR ?_ ?_ <;> (intro hgb; subst hgb)) | (refine JL_guardb xR xR ?_ ?_ <;> (intro hgb; fail_if_success (have : type_of% hgb := rfl))) | fail)) | fail)) | ((with_reducible apply gD); (first | (refine JD_nil ?_; try simp only [List.cons_append, List.nil_append]) | (refine JD_bar ?_; try simp only [List.cons_append, List.nil_append]) | refine yD0 ?_ | ((with_reducible apply gD_load); (first | refine JL_p rfl xR xR (pe_ldH xR xC (fun w hr => hole_see hr xA)) ?_ | fail)) | refine yD ?_ | ((with_reducible apply gD_gd); (first | (refine JD_guard xR xR ?_ ?_ <;> intro _ <;> (try (exfalso; first | contradiction | omega))) | (refine JD_guardb xR xR ?_ ?_ <;> (intro hgb; subst hgb)) | (refine JD_guardb xR xR ?_ ?_ <;> (intro hgb; fail_if_success (have : type_of% hgb := rfl))) | fail)) | fail)) | refine yJ ?_ | ((with_reducible apply gJ_if); (first | (refine J_if xR ?_ ?_ <;> intro _ <;> (try (exfalso; first | contradiction | omega))) | (refine J_ifb xR ?_ ?_ <;> (intro hgb; subst hgb)) | (refine J_ifb xR ?_ ?_ <;> intro _) | fail)) | refine J_draw (id := 5) [0, 1, 2, 3, 4, 5, 6, 7] [8, 9, 10, 11, 12, 13, 14, 15, 16] mixed xC xD xD ?_ | fail))
      exact J_retC1 (cs := vC zV) rfl (by rfl) (by rfl) xA (by rfl) fun w H => ⟨_, ⟨rfl, rfl⟩, (owPlug (C := C) (s := .nil) (H.sb (M := [ctxP tb n C (ptr .nil), trP .nil]) xZ)).sel xZ⟩
    | node b q has v k0 k1 =>
      refine JL_heap (fun w H => owNodeO H xA) ?_
      have back : ∀ {R : List HP} {w : World}, Ow W K (pts b (ndC q has v (ptr k0) (ptr k1)) 178 :: trP k0 :: trP k1 :: ctxP tb n C (ptr (.node b q has v k0 k1)) :: R) w → Ow W K (pts tb (trC (ptr (plug C (.node b q has v k0 k1))) n true) 143 :: trP (plug C (.node b q has v k0 k1)) :: R) w := fun H => owPlug (C := C) (s := .node b q has v k0 k1) ((owMkNode H).perm (.swap ..))
      by_cases hq : q.1 = p.1 ∧ q.2 = p.2
      · obtain rfl : q = p := Prod.ext hq.1 hq.2
        cases has
        · (repeat' (first | ((with_reducible apply gL); (first | refine yL0 ?_ | ((with_reducible apply gL_load); (first | refine JL_p rfl xR xR (pe_ldH xR xC (fun w hr => hole_see hr xA)) ?_ | fail)) | refine yL ?_ | (refine yM ?_; intro _) | ((with_reducible apply gL_gd); (first | (refine JL_guard xR xR ?_ ?_ <;> intro _ <;> (try (exfalso; first | contradiction | omega))) | (refine JL_guardb xR xR ?_ ?_ <;> (intro hgb; subst hgb)) | (refine JL_guardb xR xR ?_ ?_ <;> (intro hgb; fail_if_success (have : type_of% hgb := rfl))) | fail)) | fail)) | ((with_reducible apply gD); (first | (refine JD_nil ?_; try simp only [List.cons_append, List.nil_append]) | (refine JD_bar ?_; try simp only [List.cons_append, List.nil_append]) | refine yD0 ?_ | ((with_reducible apply gD_load); (first | refine JL_p rfl xR xR (pe_ldH xR xC (fun w hr => hole_see hr xA)) ?_ | fail)) | refine yD ?_ | ((with_reducible apply gD_gd); (first | (refine JD_guard xR xR ?_ ?_ <;> intro _ <;> (try (exfalso; first | contradiction | omega))) | (refine JD_guardb xR xR ?_ ?_ <;> (intro hgb; subst hgb)) | (refine JD_guardb xR xR ?_ ?_ <;> (intro hgb; fail_if_success (have : type_of% hgb := rfl))) | fail)) | fail)) | refine yJ ?_ | ((with_reducible apply gJ_if); (first | (refine J_if xR ?_ ?_ <;> intro _ <;> (try (exfalso; first | contradiction | omega))) | (refine J_ifb xR ?_ ?_ <;> (intro hgb; subst hgb)) | (refine J_ifb xR ?_ ?_ <;> intro _) | fail)) | refine J_draw (id := 5) [0, 1, 2, 3, 4, 5, 6, 7] [8, 9, 10, 11, 12, 13, 14, 15, 16] mixed xC xD xD ?_ | fail))
          exact J_retC1 (cs := vC zV) rfl (by rfl) (by rfl) xA (by rfl) fun w H => ⟨_, ⟨by simp [hereV, optV], rfl⟩, (back (H.sb (M := [pts b (ndC q false v (ptr k0) (ptr k1)) 178, trP k0, trP k1, ctxP tb n C (ptr (.node b q false v k0 k1))]) xZ)).sel xZ⟩
        · (repeat' (first | ((with_reducible apply gL); (first | refine yL0 ?_ | ((with_reducible apply gL_load); (first | refine JL_p rfl xR xR (pe_ldH xR xC (fun w hr => hole_see hr xA)) ?_ | fail)) | refine yL ?_ | (refine yM ?_; intro _) | ((with_reducible apply gL_gd); (first | (refine JL_guard xR xR ?_ ?_ <;> intro _ <;> (try (exfalso; first | contradiction | omega))) | (refine JL_guardb xR xR ?_ ?_ <;> (intro hgb; subst hgb)) | (refine JL_guardb xR xR ?_ ?_ <;> (intro hgb; fail_if_success (have : type_of% hgb := rfl))) | fail)) | fail)) | ((with_reducible apply gD); (first | (refine JD_nil ?_; try simp only [List.cons_append, List.nil_append]) | (refine JD_bar ?_; try simp only [List.cons_append, List.nil_append]) | refine yD0 ?_ | ((with_reducible apply gD_load); (first | refine JL_p rfl xR xR (pe_ldH xR xC (fun w hr => hole_see hr xA)) ?_ | fail)) | refine yD ?_ | ((with_reducible apply gD_gd); (first | (refine JD_guard xR xR ?_ ?_ <;> intro _ <;> (try (exfalso; first | contradiction | omega))) | (refine JD_guardb xR xR ?_ ?_ <;> (intro hgb; subst hgb)) | (refine JD_guardb xR xR ?_ ?_ <;> (intro hgb; fail_if_success (have : type_of% hgb := rfl))) | fail)) | fail)) | refine yJ ?_ | ((with_reducible apply gJ_if); (first | (refine J_if xR ?_ ?_ <;> intro _ <;> (try (exfalso; first | contradiction | omega))) | (refine J_ifb xR ?_ ?_ <;> (intro hgb; subst hgb)) | (refine J_ifb xR ?_ ?_ <;> intro _) | fail)) | refine J_draw (id := 5) [0, 1, 2, 3, 4, 5, 6, 7] [8, 9, 10, 11, 12, 13, 14, 15, 16] mixed xC xD xD ?_ | fail))
          exact J_retC1 (cs := vC v) rfl (by rfl) (by rfl) xA (by rfl) fun w H => ⟨_, ⟨by simp [hereV, optV], rfl⟩, (back (H.sb (M := [pts b (ndC q true v (ptr k0) (ptr k1)) 178, trP k0, trP k1, ctxP tb n C (ptr (.node b q true v k0 k1))]) xZ)).sel xZ⟩
      · have hne : q ≠ p := fun e => hq ⟨by rw [e], by rw [e]⟩
        (repeat' (first | ((with_reducible apply gL); (first | refine yL0 ?_ | ((with_reducible apply gL_load); (first | refine JL_p rfl xR xR (pe_ldH xR xC (fun w hr => hole_see hr xA)) ?_ | fail)) | refine yL ?_ | (refine yM ?_; intro _) | ((with_reducible apply gL_gd); (first | (refine JL_guard xR xR ?_ ?_ <;> intro _ <;> (try (exfalso; first | contradiction | omega))) | (refine JL_guardb xR xR ?_ ?_ <;> (intro hgb; subst hgb)) | (refine JL_guardb xR xR ?_ ?_ <;> (intro hgb; fail_if_success (have : type_of% hgb := rfl))) | fail)) | fail)) | ((with_reducible apply gD); (first | (refine JD_nil ?_; try simp only [List.cons_append, List.nil_append]) | (refine JD_bar ?_; try simp only [List.cons_append, List.nil_append]) | refine yD0 ?_ | ((with_reducible apply gD_load); (first | refine JL_p rfl xR xR (pe_ldH xR xC (fun w hr => hole_see hr xA)) ?_ | fail)) | refine yD ?_ | ((with_reducible apply gD_gd); (first | (refine JD_guard xR xR ?_ ?_ <;> intro _ <;> (try (exfalso; first | contradiction | omega))) | (refine JD_guardb xR xR ?_ ?_ <;> (intro hgb; subst hgb)) | (refine JD_guardb xR xR ?_ ?_ <;> (intro hgb; fail_if_success (have : type_of% hgb := rfl))) | fail)) | fail)) | refine yJ ?_ | ((with_reducible apply gJ_if); (first | (refine J_if xR ?_ ?_ <;> intro _ <;> (try (exfalso; first | contradiction | omega))) | (refine J_ifb xR ?_ ?_ <;> (intro hgb; subst hgb)) | (refine J_ifb xR ?_ ?_ <;> intro _) | fail)) | refine J_draw (id := 5) [0, 1, 2, 3, 4, 5, 6, 7] [8, 9, 10, 11, 12, 13, 14, 15, 16] mixed xC xD xD ?_ | fail))
        exact J_retC1 (cs := vC zV) rfl (by rfl) (by rfl) xA (by rfl) fun w H => ⟨_, ⟨by simp [hereV, optV, hne], rfl⟩, (back (H.sb (M := [pts b (ndC q has v (ptr k0) (ptr k1)) 178, trP k0, trP k1, ctxP tb n C (ptr (.node b q has v k0 k1))]) xZ)).sel xZ⟩
  · rw [getL_notRt hw hr]
    (repeat' (first | ((with_reducible apply gL); (first | refine yL0 ?_ | refine yL ?_ | ((with_reducible apply gL_go); (first | (refine JL_goq (is_s tb (ptr t) n true) (hφ := xF) (h := ?_); rintro _ _ ⟨rfl, rfl⟩; try simp only [List.cons_append, List.nil_append]) | (refine JL_goq (right_b p hp false (decide_eq_false hr)) (hφ := xF) (h := ?_); rintro _ _ ⟨rfl, rfl⟩; try simp only [List.cons_append, List.nil_append]) | fail)) | (refine yM ?_; intro _) | ((with_reducible apply gL_gd); (first | (refine JL_guard xR xR ?_ ?_ <;> intro _ <;> (try (exfalso; first | contradiction | omega))) | (refine JL_guardb xR xR ?_ ?_ <;> (intro hgb; subst hgb)) | (refine JL_guardb xR xR ?_ ?_ <;> (intro hgb; fail_if_success (have : type_of% hgb := rfl))) | fail)) | fail)) | ((with_reducible apply gD); (first | (refine JD_nil ?_; try simp only [List.cons_append, List.nil_append]) | (refine JD_bar ?_; try simp only [List.cons_append, List.nil_append]) | refine yD0 ?_ | refine yD ?_ | ((with_reducible apply gD_gd); (first | (refine JD_guard xR xR ?_ ?_ <;> intro _ <;> (try (exfalso; first | contradiction | omega))) | (refine JD_guardb xR xR ?_ ?_ <;> (intro hgb; subst hgb)) | (refine JD_guardb xR xR ?_ ?_ <;> (intro hgb; fail_if_success (have : type_of% hgb := rfl))) | fail)) | fail)) | refine yJ ?_ | ((with_reducible apply gJ_if); (first | (refine J_if xR ?_ ?_ <;> intro _ <;> (try (exfalso; first | contradiction | omega))) | (refine J_ifb xR ?_ ?_ <;> (intro hgb; subst hgb)) | (refine J_ifb xR ?_ ?_ <;> intro _) | fail)) | refine J_draw (id := 5) [0, 1, 2, 3, 4, 5, 6, 7] [8, 9, 10, 11, 12, 13, 14, 15, 16] mixed xC xD xD ?_ | fail))
    exact J_retC1 (cs := vC zV) rfl (by rfl) (by rfl) xA (by rfl) fun w H => ⟨_, ⟨rfl, rfl⟩, H.sel xZ⟩
theorem only_s (b : Nat) (q : Pf) (has : Bool) (v : Vt) (a0 a1 : Option Addr) : Pact Tryz.prog 147 #[.pointer (some ⟨b, 0, none⟩)] (fun _ => True) [pts b (ndC q has v a0 a1) 178] (fun u L' => u = .tuple [.pointer (if a0.isSome && a1.isSome then none else if a0.isSome then a0 else a1), .bool (!(a0.isSome && a1.isSome))].toArray ∧ L' = [pts b (ndC q has v a0 a1) 178]) := by
  refine pact Tryz.func147 rfl Tryz.ntmps147 rfl ?_
  intro W K _
  cases a0 <;> cases a1
  all_goals (repeat' (first | ((with_reducible apply gL); (first | refine yL0 ?_ | refine yL ?_ | ((with_reducible apply gL_gd); (first | (refine JL_guard xR xR ?_ ?_ <;> intro _ <;> (try (exfalso; first | contradiction | omega))) | (refine JL_guardb xR xR ?_ ?_ <;> (intro hgb; subst hgb)) | (refine JL_guardb xR xR ?_ ?_ <;> (intro hgb; fail_if_success (have : type_of% hgb := rfl))) | fail)) | fail)) | refine yJ ?_ | ((with_reducible apply gJ_if); (first | (refine J_if xR ?_ ?_ <;> intro _ <;> (try (exfalso; first | contradiction | omega))) | (refine J_ifb xR ?_ ?_ <;> (intro hgb; subst hgb)) | (refine J_ifb xR ?_ ?_ <;> intro _) | fail)) | fail))
  all_goals exact J_ret2 rfl (by rfl) (by rfl) fun w H => ⟨_, ⟨rfl, rfl⟩, H.sel xZ⟩
end Go.Proofs.YtdnokmpnemaoaaaGreat.T
