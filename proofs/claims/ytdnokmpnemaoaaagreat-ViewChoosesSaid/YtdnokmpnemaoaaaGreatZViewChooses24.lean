/-
  Tq9: merged.
-/
import Derived.Test.YtdnokmpnemaoaaaGreatZViewChooses23
namespace Go.Proofs.YtdnokmpnemaoaaaGreat.T
set_option linter.unusedSimpArgs false
set_option linter.unusedVariables false
set_option maxRecDepth 20000
set_option maxHeartbeats 4000000
open Go.RowKit Go.Pm
theorem zd85Tq9 {p q : Prop} (k : p) (h : p → q := by intro hk; first | exact J_draw (id := 7) [0, 1, 2, 3, 4, 5, 6, 7] [8, 9, 10] mixed xC xD xD hk | fail) : q := h k

theorem ctx_n0 {w : World} {tb : Nat} {n : Int} : ∀ {C : List Fr} {h : Option Addr} {k : Hl}, ctxP tb n C h k → k.inn w → w.cell? ⟨tb, 1, none⟩ = some (.int .i64 n)
  | [], h, k, hk, i => by
    obtain ⟨h1, h2, a, _, d, rfl⟩ := hk
    obtain rfl : h1 = Hl.one tb (.cells (trC h n true).toArray 143 (0, 0)) := a
    have hb : Blk w tb (trC h n true).toArray 143 := ((Hl.inn_add d).1 i).1 tb _ (by simp [Hl.one])
    rw [hb.cell]
    rfl
  | f :: C, h, k, hk, i => by
    obtain ⟨h1, h2, a, ⟨h3, h4, b, ⟨h5, h6, c, _, d3, rfl⟩, d2, rfl⟩, d, rfl⟩ := hk
    exact ctx_n0 c ((Hl.inn_add d3).1 ((Hl.inn_add d2).1 ((Hl.inn_add d).1 i).2).2).1
theorem ctx_n {K : Hl} {L R : List HP} {w : World} {tb : Nat} {n : Int} {C : List Fr} {h : Option Addr} (hr : Rdw K L w) (t : Tk L (ctxP tb n C h) R) : w.cell? ⟨tb, 1, none⟩ = some (.int .i64 n) := by
  obtain ⟨k, hk, i⟩ := hr.tk t
  exact ctx_n0 hk i
theorem len_putL : ∀ {l : List Ent} {p : Pf} {v : Vt}, Srt l → (putL l p v).length = if (getL l p).isSome then l.length else l.length + 1
  | [], p, v, _ => by simp [putL, getL]
  | x :: r, p, v, h => by
    obtain ⟨h1, h2⟩ := List.pairwise_cons.1 h
    have ih := len_putL (p := p) (v := v) h2
    unfold putL
    by_cases ha : Ah x.1 p
    · have hne : ¬ x.1 = p := fun e => by rw [e] at ha; exact ha.irrefl
      have e1 : getL (x :: r) p = getL r p := by unfold getL; rw [List.find?_cons_of_neg (by simpa using hne)]
      rw [if_pos ha, e1, List.length_cons, ih]
      split <;> simp
    · rw [if_neg ha]
      by_cases hp : x.1 = p
      · have e1 : getL (x :: r) p = some x.2 := by unfold getL; rw [List.find?_cons_of_pos (by simpa using hp)]; rfl
        rw [if_pos hp, e1]
        simp
      · have e1 : getL (x :: r) p = none := getL_none.2 fun e he => by
          rcases List.mem_cons.1 he with rfl | he
          · exact hp
          · intro e2
            have h3 := h1 e he
            rw [e2] at h3
            exact ha h3
        rw [if_neg hp, e1]
        simp
theorem owMkNodeB {W : World} {K : Hl} {L R : List HP} {w : World} {b : Nat} {p : Pf} {has : Bool} {v : Vt} {k0 k1 : Tr} (H : Ow W K L w) (t : Sb L [pts b (ndC p has v (ptr k0) (ptr k1)) 178, trP k0, trP k1] R) : Ow W K (trP (.node b p has v k0 k1) :: R) w := owMkNode (H.sb t)
theorem owPlugB {W : World} {K : Hl} {L R : List HP} {w : World} {tb : Nat} {n : Int} {C : List Fr} {s : Tr} (H : Ow W K L w) (t : Sb L [ctxP tb n C (ptr s), trP s] R) : Ow W K (pts tb (trC (ptr (plug C s)) n true) 143 :: trP (plug C s) :: R) w := owPlug (H.sb t)
theorem upd_mem {r : Pf} {b : Nat} {q : Pf} {has : Bool} {v vo : Vt} {k0 k1 : Tr} (hw : wf r (.node b q has vo k0 k1)) (e : Ent) : e ∈ ents (.node b q true v k0 k1) ↔ e = (q, v) ∨ (e ∈ ents (.node b q has vo k0 k1) ∧ e.1 ≠ q) := by
  have h1 := fun h => kids_ne hw (e := e) h
  constructor
  · intro h
    simp only [ents, if_true, List.mem_append, List.mem_singleton] at h
    rcases h with h | h
    · exact .inl h
    · exact .inr ⟨by simp only [ents, List.mem_append]; exact .inr h, h1 h⟩
  · rintro (h | ⟨h, h2⟩)
    · simp [ents, h]
    · simp only [ents, List.mem_append] at h
      rcases h with h | h
      · cases has <;> simp at h
        rw [h] at h2
        exact absurd rfl h2
      · simp only [ents, List.mem_append]
        exact .inr h
def putE (l : List Ent) (p : Pf) (v : Vt) : Int × List Ent := if Rt p then (if (getL l p).isSome then (0, putL l p v) else if l.length = 4096 then (4, l) else (0, putL l p v)) else (2, l)
def PutR (tb : Nat) (t : Tr) (p : Pf) (v : Vt) (u : Value) (L' : List HP) : Prop := ∃ t', wf (0, 0) t' ∧ ents t' = (putE (ents t) p v).2 ∧ u = .int .i64 (putE (ents t) p v).1 ∧ L' = TrieL tb (ents t').length t'
theorem put_s (tb : Nat) (t : Tr) (p : Pf) (v : Vt) (hp : PfN p) (hv : VN v) (hw : wf (0, 0) t) (hn : (ents t).length ≤ 4096) : Pact Tryz.prog 85 #[.pointer (some ⟨tb, 0, none⟩), .agg (pfC p).toArray, .agg (vC v).toArray] (fun _ => True) [pts tb (trC (ptr t) (ents t).length true) 143, trP t] (PutR tb t p v) := by
  refine pact Tryz.func85 rfl Tryz.ntmps85 rfl ?_
  intro W K _
  by_cases hr : Rt p
  · (repeat' (first | (refine gL ?_; first | refine yL0 ?_ | refine yL ?_ | (refine gL_go ?_; first | (refine JL_goq (is_s tb (ptr t) (ents t).length true) (hφ := xF) (h := ?_); rintro _ _ ⟨rfl, rfl⟩; try simp only [cAp, nAp]) | (refine JL_goq (right_b p hp true (decide_eq_true hr)) (hφ := xF) (h := ?_); rintro _ _ ⟨rfl, rfl⟩; try simp only [cAp, nAp]) | (refine JL_goq (find_s tb (ents t).length t p hp hw) (hφ := xF) (h := ?_); rintro _ _ ⟨C, s, ht, hC, hF, rfl, rfl⟩; try simp only [cAp, nAp])) | (refine yM ?_; intro _)) | (refine gD ?_; first | (refine yN ?_; try simp only [cAp, nAp]) | refine yD0 ?_ | refine yD ?_) | refine yJ ?_ | refine zd85Tq9 ?_ | (refine yI ?_ ?_ <;> intro _ <;> try exact xX) | (refine yK ?_ ?_ <;> intro hgb <;> first | subst hgb | fail_if_success have : type_of% hgb := rfl) | fail))
    obtain ⟨hc, hs⟩ := (wf_plug C s).1 (ht ▸ hw)
    have hg : getL (ents t) p = hereV p s := by subst ht; exact found_res hw hC hF hr
    have hrg := path_reg hc hC hr hp
    have hlen := len_putL (p := p) (v := v) (wf_srt hw)
    generalize hm : (ents t).length = m at *
    have fin : ∀ {s' : Tr}, wf (hreg C) s' → (∀ e, e ∈ ents s' ↔ e = (p, v) ∨ (e ∈ ents s ∧ e.1 ≠ p)) → wf (0, 0) (plug C s') ∧ ents (plug C s') = putL (ents t) p v := fun h1 h2 => by subst ht; exact plug_put hw hC hr h1 h2
    cases s with
    | nil =>
      by_cases hful : m = 4096
      · (repeat' (first | (refine gL ?_; first | refine yL0 ?_ | (refine gL_load ?_; (first | refine JL_p rfl xR xR (pe_ldH xR xC (fun w hr => hole_see hr xA)) ?_ | refine JL_p rfl xR xR (pe_ldH xR xC (fun w hr => ctx_n hr xA)) ?_)) | refine yL ?_ | (refine yM ?_; intro _)) | (refine gD ?_; first | (refine yN ?_; try simp only [cAp, nAp]) | refine yD0 ?_ | (refine gD_load ?_; (first | refine JL_p rfl xR xR (pe_ldH xR xC (fun w hr => hole_see hr xA)) ?_ | refine JL_p rfl xR xR (pe_ldH xR xC (fun w hr => ctx_n hr xA)) ?_)) | refine yD ?_) | refine yJ ?_ | refine zd85Tq9 ?_ | (refine yI ?_ ?_ <;> intro _ <;> try exact xX) | (refine yK ?_ ?_ <;> intro hgb <;> first | subst hgb | fail_if_success have : type_of% hgb := rfl) | fail))
        subst ht
        exact J_ret1 rfl (by rfl) fun w H => ⟨_, ⟨plug C (.nil), hw, by simp [putE, hr, hg, hereV, hm, hful], by simp [putE, hr, hg, hereV, hm, hful], by rw [TrieL, hm]⟩, (owPlugB (C := C) (s := .nil) H xZ).sel xZ⟩
      · (repeat' (first | (refine gL ?_; first | refine yL0 ?_ | (refine gL_load ?_; (first | refine JL_p rfl xR xR (pe_ldH xR xC (fun w hr => hole_see hr xA)) ?_ | refine JL_p rfl xR xR (pe_ldH xR xC (fun w hr => ctx_n hr xA)) ?_)) | refine yL ?_ | (refine yM ?_; intro _)) | (refine gD ?_; first | (refine yN ?_; try simp only [cAp, nAp]) | refine yD0 ?_ | (refine gD_load ?_; (first | refine JL_p rfl xR xR (pe_ldH xR xC (fun w hr => hole_see hr xA)) ?_ | refine JL_p rfl xR xR (pe_ldH xR xC (fun w hr => ctx_n hr xA)) ?_)) | refine yD ?_) | refine yJ ?_ | refine zd85Tq9 ?_ | (refine yI ?_ ?_ <;> intro _ <;> try exact xX) | (refine yK ?_ ?_ <;> intro hgb <;> first | subst hgb | fail_if_success have : type_of% hgb := rfl) | fail))
        rename_i bx
        (repeat' (first | (refine gL ?_; first | refine yL0 ?_ | (refine gL_load ?_; (first | refine JL_p rfl xR xR (pe_ldH xR xC (fun w hr => hole_see hr xA)) ?_ | refine JL_p rfl xR xR (pe_ldH xR xC (fun w hr => ctx_n hr xA)) ?_)) | refine yL ?_ | (refine gL_go ?_; (refine JL_goq (insert_s tb m C .nil bx p v hp hv hs hrg (by intro q h; simp [top] at h)) (hφ := xF) (h := ?_); rintro _ _ ⟨s', hok, rfl⟩; try simp only [cAp, nAp])) | (refine yM ?_; intro _)) | (refine gD ?_; first | (refine yN ?_; try simp only [cAp, nAp]) | refine yD0 ?_ | (refine gD_load ?_; (first | refine JL_p rfl xR xR (pe_ldH xR xC (fun w hr => hole_see hr xA)) ?_ | refine JL_p rfl xR xR (pe_ldH xR xC (fun w hr => ctx_n hr xA)) ?_)) | refine yD ?_) | refine yJ ?_ | refine zd85Tq9 ?_ | (refine yI ?_ ?_ <;> intro _ <;> try exact xX) | (refine yK ?_ ?_ <;> intro hgb <;> first | subst hgb | fail_if_success have : type_of% hgb := rfl) | fail))
        obtain ⟨hw', he'⟩ := fin hok.w hok.m
        refine JL_heap (fun w H => owPlugB (C := C) (s := s') H xZ) ?_
        (repeat' (first | (refine gL ?_; first | refine yL0 ?_ | refine yL ?_ | (refine yM ?_; intro _)) | (refine gD ?_; first | (refine yN ?_; try simp only [cAp, nAp]) | refine yD0 ?_ | refine yD ?_) | refine yJ ?_ | refine zd85Tq9 ?_ | (refine yI ?_ ?_ <;> intro _ <;> try exact xX) | (refine yK ?_ ?_ <;> intro hgb <;> first | subst hgb | fail_if_success have : type_of% hgb := rfl) | fail))
        exact J_ret1 rfl (by rfl) fun w H => ⟨_, ⟨_, hw', by simp [putE, hr, hg, hereV, hm, hful, he'], by simp [putE, hr, hg, hereV, hm, hful], rfl⟩, by
          rw [TrieL, he', show (putL (ents t) p v).length = m + 1 by rw [hlen, hg]; rfl]
          exact H.sel xZ⟩
    | node b q has vo k0 k1 =>
      refine JL_heap (fun w H => owNodeO H xA) ?_
      by_cases hq : q.1 = p.1 ∧ q.2 = p.2
      · obtain rfl : q = p := Prod.ext hq.1 hq.2
        have fin2 := fin (s' := .node b q true v k0 k1) ⟨hs.1, hv, hs.2.2⟩ (upd_mem hs)
        cases has
        · by_cases hful : m = 4096
          · (repeat' (first | (refine gL ?_; first | refine yL0 ?_ | (refine gL_load ?_; (first | refine JL_p rfl xR xR (pe_ldH xR xC (fun w hr => hole_see hr xA)) ?_ | refine JL_p rfl xR xR (pe_ldH xR xC (fun w hr => ctx_n hr xA)) ?_)) | refine yL ?_ | (refine yM ?_; intro _)) | (refine gD ?_; first | (refine yN ?_; try simp only [cAp, nAp]) | refine yD0 ?_ | (refine gD_load ?_; (first | refine JL_p rfl xR xR (pe_ldH xR xC (fun w hr => hole_see hr xA)) ?_ | refine JL_p rfl xR xR (pe_ldH xR xC (fun w hr => ctx_n hr xA)) ?_)) | refine yD ?_) | refine yJ ?_ | refine zd85Tq9 ?_ | (refine yI ?_ ?_ <;> intro _ <;> try exact xX) | (refine yK ?_ ?_ <;> intro hgb <;> first | subst hgb | fail_if_success have : type_of% hgb := rfl) | fail))
            subst ht
            exact J_ret1 rfl (by rfl) fun w H => ⟨_, ⟨plug C (.node b q false vo k0 k1), hw, by simp [putE, hr, hg, hereV, hm, hful], by simp [putE, hr, hg, hereV, hm, hful], by rw [TrieL, hm]⟩, (owPlugB (C := C) (s := .node b q false vo k0 k1) (owMkNodeB (k0 := k0) (k1 := k1) (v := vo) (p := q) (has := false) H xZ) xZ).sel xZ⟩
          · (repeat' (first | (refine gL ?_; first | refine yL0 ?_ | (refine gL_load ?_; (first | refine JL_p rfl xR xR (pe_ldH xR xC (fun w hr => hole_see hr xA)) ?_ | refine JL_p rfl xR xR (pe_ldH xR xC (fun w hr => ctx_n hr xA)) ?_)) | refine yL ?_ | (refine yM ?_; intro _)) | (refine gD ?_; first | (refine yN ?_; try simp only [cAp, nAp]) | refine yD0 ?_ | (refine gD_load ?_; (first | refine JL_p rfl xR xR (pe_ldH xR xC (fun w hr => hole_see hr xA)) ?_ | refine JL_p rfl xR xR (pe_ldH xR xC (fun w hr => ctx_n hr xA)) ?_)) | refine yD ?_) | refine yJ ?_ | refine zd85Tq9 ?_ | (refine yI ?_ ?_ <;> intro _ <;> try exact xX) | (refine yK ?_ ?_ <;> intro hgb <;> first | subst hgb | fail_if_success have : type_of% hgb := rfl) | fail))
            refine JL_heap (fun w H => owMkNodeB (b := b) (p := q) (has := true) (v := v) (k0 := k0) (k1 := k1) H xZ) ?_
            obtain ⟨hw', he'⟩ := fin2
            refine JL_heap (fun w H => owPlugB (C := C) (s := .node b q true v k0 k1) H xZ) ?_
            (repeat' (first | (refine gL ?_; first | refine yL0 ?_ | refine yL ?_ | (refine yM ?_; intro _)) | (refine gD ?_; first | (refine yN ?_; try simp only [cAp, nAp]) | refine yD0 ?_ | refine yD ?_) | refine yJ ?_ | refine zd85Tq9 ?_ | (refine yI ?_ ?_ <;> intro _ <;> try exact xX) | (refine yK ?_ ?_ <;> intro hgb <;> first | subst hgb | fail_if_success have : type_of% hgb := rfl) | fail))
            exact J_ret1 rfl (by rfl) fun w H => ⟨_, ⟨_, hw', by simp [putE, hr, hg, hereV, hm, hful, he'], by simp [putE, hr, hg, hereV, hm, hful], rfl⟩, by
              rw [TrieL, he', show (putL (ents t) q v).length = m + 1 by rw [hlen, hg]; simp [hereV]]
              exact H.sel xZ⟩
        · (repeat' (first | (refine gL ?_; first | refine yL0 ?_ | (refine gL_load ?_; (first | refine JL_p rfl xR xR (pe_ldH xR xC (fun w hr => hole_see hr xA)) ?_ | refine JL_p rfl xR xR (pe_ldH xR xC (fun w hr => ctx_n hr xA)) ?_)) | refine yL ?_ | (refine yM ?_; intro _)) | (refine gD ?_; first | (refine yN ?_; try simp only [cAp, nAp]) | refine yD0 ?_ | (refine gD_load ?_; (first | refine JL_p rfl xR xR (pe_ldH xR xC (fun w hr => hole_see hr xA)) ?_ | refine JL_p rfl xR xR (pe_ldH xR xC (fun w hr => ctx_n hr xA)) ?_)) | refine yD ?_) | refine yJ ?_ | refine zd85Tq9 ?_ | (refine yI ?_ ?_ <;> intro _ <;> try exact xX) | (refine yK ?_ ?_ <;> intro hgb <;> first | subst hgb | fail_if_success have : type_of% hgb := rfl) | fail))
          obtain ⟨hw', he'⟩ := fin2
          exact J_ret1 rfl (by rfl) fun w H => ⟨_, ⟨_, hw', by simp [putE, hr, hg, hereV, he'], by simp [putE, hr, hg, hereV], rfl⟩, by
            rw [TrieL, he', show (putL (ents t) q v).length = m by rw [hlen, hg]; simp [hereV]]
            exact (owPlugB (C := C) (s := .node b q true v k0 k1) (owMkNodeB (b := b) (p := q) (has := true) (v := v) (k0 := k0) (k1 := k1) H xZ) xZ).sel xZ⟩
      · have hne : q ≠ p := fun e => hq ⟨by rw [e], by rw [e]⟩
        by_cases hful : m = 4096
        · (repeat' (first | (refine gL ?_; first | refine yL0 ?_ | (refine gL_load ?_; (first | refine JL_p rfl xR xR (pe_ldH xR xC (fun w hr => hole_see hr xA)) ?_ | refine JL_p rfl xR xR (pe_ldH xR xC (fun w hr => ctx_n hr xA)) ?_)) | refine yL ?_ | (refine yM ?_; intro _)) | (refine gD ?_; first | (refine yN ?_; try simp only [cAp, nAp]) | refine yD0 ?_ | (refine gD_load ?_; (first | refine JL_p rfl xR xR (pe_ldH xR xC (fun w hr => hole_see hr xA)) ?_ | refine JL_p rfl xR xR (pe_ldH xR xC (fun w hr => ctx_n hr xA)) ?_)) | refine yD ?_) | refine yJ ?_ | refine zd85Tq9 ?_ | (refine yI ?_ ?_ <;> intro _ <;> try exact xX) | (refine yK ?_ ?_ <;> intro hgb <;> first | subst hgb | fail_if_success have : type_of% hgb := rfl) | fail))
          subst ht
          exact J_ret1 rfl (by rfl) fun w H => ⟨_, ⟨plug C (.node b q has vo k0 k1), hw, by simp [putE, hr, hg, hereV, hm, hful, hne], by simp [putE, hr, hg, hereV, hm, hful, hne], by rw [TrieL, hm]⟩, (owPlugB (C := C) (s := .node b q has vo k0 k1) (owMkNodeB (k0 := k0) (k1 := k1) (v := vo) (p := q) (has := has) H xZ) xZ).sel xZ⟩
        · (repeat' (first | (refine gL ?_; first | refine yL0 ?_ | (refine gL_load ?_; (first | refine JL_p rfl xR xR (pe_ldH xR xC (fun w hr => hole_see hr xA)) ?_ | refine JL_p rfl xR xR (pe_ldH xR xC (fun w hr => ctx_n hr xA)) ?_)) | refine yL ?_ | (refine yM ?_; intro _)) | (refine gD ?_; first | (refine yN ?_; try simp only [cAp, nAp]) | refine yD0 ?_ | (refine gD_load ?_; (first | refine JL_p rfl xR xR (pe_ldH xR xC (fun w hr => hole_see hr xA)) ?_ | refine JL_p rfl xR xR (pe_ldH xR xC (fun w hr => ctx_n hr xA)) ?_)) | refine yD ?_) | refine yJ ?_ | refine zd85Tq9 ?_ | (refine yI ?_ ?_ <;> intro _ <;> try exact xX) | (refine yK ?_ ?_ <;> intro hgb <;> first | subst hgb | fail_if_success have : type_of% hgb := rfl) | fail))
          rename_i bx
          refine JL_heap (fun w H => owMkNodeB (b := b) (p := q) (has := has) (v := vo) (k0 := k0) (k1 := k1) H xZ) ?_
          (repeat' (first | (refine gL ?_; first | refine yL0 ?_ | (refine gL_load ?_; (first | refine JL_p rfl xR xR (pe_ldH xR xC (fun w hr => hole_see hr xA)) ?_ | refine JL_p rfl xR xR (pe_ldH xR xC (fun w hr => ctx_n hr xA)) ?_)) | refine yL ?_ | (refine gL_go ?_; (refine JL_goq (insert_s tb m C (.node b q has vo k0 k1) bx p v hp hv hs hrg (by intro x h; cases h; exact ⟨hne, (hF q rfl).resolve_left hne⟩)) (hφ := xF) (h := ?_); rintro _ _ ⟨s', hok, rfl⟩; try simp only [cAp, nAp])) | (refine yM ?_; intro _)) | (refine gD ?_; first | (refine yN ?_; try simp only [cAp, nAp]) | refine yD0 ?_ | (refine gD_load ?_; (first | refine JL_p rfl xR xR (pe_ldH xR xC (fun w hr => hole_see hr xA)) ?_ | refine JL_p rfl xR xR (pe_ldH xR xC (fun w hr => ctx_n hr xA)) ?_)) | refine yD ?_) | refine yJ ?_ | refine zd85Tq9 ?_ | (refine yI ?_ ?_ <;> intro _ <;> try exact xX) | (refine yK ?_ ?_ <;> intro hgb <;> first | subst hgb | fail_if_success have : type_of% hgb := rfl) | fail))
          obtain ⟨hw', he'⟩ := fin hok.w hok.m
          refine JL_heap (fun w H => owPlugB (C := C) (s := s') H xZ) ?_
          (repeat' (first | (refine gL ?_; first | refine yL0 ?_ | refine yL ?_ | (refine yM ?_; intro _)) | (refine gD ?_; first | (refine yN ?_; try simp only [cAp, nAp]) | refine yD0 ?_ | refine yD ?_) | refine yJ ?_ | refine zd85Tq9 ?_ | (refine yI ?_ ?_ <;> intro _ <;> try exact xX) | (refine yK ?_ ?_ <;> intro hgb <;> first | subst hgb | fail_if_success have : type_of% hgb := rfl) | fail))
          exact J_ret1 rfl (by rfl) fun w H => ⟨_, ⟨_, hw', by simp [putE, hr, hg, hereV, hm, hful, hne, he'], by simp [putE, hr, hg, hereV, hm, hful, hne], rfl⟩, by
            rw [TrieL, he', show (putL (ents t) p v).length = m + 1 by rw [hlen, hg]; simp [hereV, hne]]
            exact H.sel xZ⟩
  · (repeat' (first | (refine gL ?_; first | refine yL0 ?_ | refine yL ?_ | (refine gL_go ?_; first | (refine JL_goq (is_s tb (ptr t) (ents t).length true) (hφ := xF) (h := ?_); rintro _ _ ⟨rfl, rfl⟩; try simp only [cAp, nAp]) | (refine JL_goq (right_b p hp false (decide_eq_false hr)) (hφ := xF) (h := ?_); rintro _ _ ⟨rfl, rfl⟩; try simp only [cAp, nAp])) | (refine yM ?_; intro _)) | (refine gD ?_; first | (refine yN ?_; try simp only [cAp, nAp]) | refine yD0 ?_ | refine yD ?_) | refine yJ ?_ | refine zd85Tq9 ?_ | (refine yI ?_ ?_ <;> intro _ <;> try exact xX) | (refine yK ?_ ?_ <;> intro hgb <;> first | subst hgb | fail_if_success have : type_of% hgb := rfl) | fail))
    exact J_ret1 rfl (by rfl) fun w H => ⟨_, ⟨t, hw, by simp [putE, hr], by simp [putE, hr], rfl⟩, H.sel xZ⟩
end Go.Proofs.YtdnokmpnemaoaaaGreat.T
