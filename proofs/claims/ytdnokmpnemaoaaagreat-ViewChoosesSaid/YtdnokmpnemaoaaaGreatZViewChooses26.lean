/-
  Tq11, Tq13: merged.
-/
import Derived.Test.YtdnokmpnemaoaaaGreatZViewChooses25
namespace Go.Proofs.YtdnokmpnemaoaaaGreat.T
set_option linter.unusedSimpArgs false
set_option linter.unusedVariables false
set_option maxRecDepth 20000
set_option maxHeartbeats 4000000
open Go.RowKit Go.Pm
theorem zd84Tq11 {p q : Prop} (k : p) (h : p → q := by intro hk; first | exact J_draw (id := 6) [0, 1, 2, 3, 4, 5] [6, 7, 8] mixed xC xD xD hk | exact J_draw (id := 8) [0, 1, 2, 3, 4] [5] mixed xC xD xD hk | fail) : q := h k

theorem dropL_none {l : List Ent} {p : Pf} (h : getL l p = none) : dropL l p = l := by
  unfold dropL
  exact List.filter_eq_self.2 fun e he => decide_eq_true (getL_none.1 h e he)
theorem len_dropL : ∀ {l : List Ent} {p : Pf}, Srt l → (getL l p).isSome = true → (dropL l p).length + 1 = l.length
  | [], p, _, h => by simp [getL] at h
  | x :: r, p, hs, h => by
    obtain ⟨h1, h2⟩ := List.pairwise_cons.1 hs
    by_cases hx : x.1 = p
    · have hn : getL r p = none := getL_none.2 fun e he e2 => by
        have := h1 e he
        rw [hx, e2] at this
        exact this.irrefl
      have := dropL_none hn
      unfold dropL at this ⊢
      rw [List.filter_cons_of_neg (by simpa using hx), this]
      rfl
    · have e1 : getL (x :: r) p = getL r p := by unfold getL; rw [List.find?_cons_of_neg (by simpa using hx)]
      rw [e1] at h
      have := len_dropL h2 h
      unfold dropL at this ⊢
      rw [List.filter_cons_of_pos (by simpa using hx), List.length_cons, List.length_cons, this]
theorem get_o (tb : Nat) (n : Int) (t : Tr) (p : Pf) (hp : PfN p) (hw : wf (0, 0) t) (o : Option Vt) (ho : getL (ents t) p = o) : Pact Tryz.prog 64 #[.pointer (some ⟨tb, 0, none⟩), .agg (pfC p).toArray] (fun _ => True) [pts tb (trC (ptr t) n true) 143, trP t] (fun v L' => v = optV o ∧ L' = [pts tb (trC (ptr t) n true) 143, trP t]) := ho ▸ get_s tb n t p hp hw
def DropR (tb : Nat) (t : Tr) (p : Pf) (u : Value) (L' : List HP) : Prop := ∃ t', wf (0, 0) t' ∧ ents t' = dropL (ents t) p ∧ u = .bool (getL (ents t) p).isSome ∧ L' = TrieL tb (ents t').length t'
theorem drop_s (tb : Nat) (t : Tr) (p : Pf) (hp : PfN p) (hw : wf (0, 0) t) (hn : (ents t).length ≤ 4096) : Pact Tryz.prog 84 #[.pointer (some ⟨tb, 0, none⟩), .agg (pfC p).toArray] (fun _ => True) [pts tb (trC (ptr t) (ents t).length true) 143, trP t] (DropR tb t p) := by
  refine pact Tryz.func84 rfl Tryz.ntmps84 rfl ?_
  intro W K _
  cases hg : getL (ents t) p with
  | none =>
    (repeat' (first | (refine gL ?_; first | refine yL0 ?_ | refine yL ?_ | (refine gL_go ?_; (refine JL_goq (get_o tb (ents t).length t p hp hw none hg) (hφ := xF) (h := ?_); rintro _ _ ⟨rfl, rfl⟩; try simp only [cAp, nAp])) | (refine yM ?_; intro _)) | (refine gD ?_; first | (refine yN ?_; try simp only [cAp, nAp]) | refine yD ?_ | (refine gD_go ?_; (refine JD_goq (get_o tb (ents t).length t p hp hw none hg) (hφ := xF) (h := ?_); rintro _ _ ⟨rfl, rfl⟩; try simp only [cAp, nAp]))) | refine yJ ?_ | refine zd84Tq11 ?_ | (refine yI ?_ ?_ <;> intro _ <;> try exact xX) | (refine yK ?_ ?_ <;> intro hgb <;> first | subst hgb | fail_if_success have : type_of% hgb := rfl) | fail))
    exact J_ret1 rfl (by rfl) fun w H => ⟨_, ⟨t, hw, (dropL_none hg).symm, by rw [hg]; rfl, rfl⟩, H.sel xZ⟩
  | some v0 =>
    have hr : Rt p := by
      rcases Decidable.em (Rt p) with h | h
      · exact h
      · rw [getL_notRt hw h] at hg; cases hg
    have hln := len_dropL (wf_srt hw) (p := p) (by rw [hg]; rfl)
    (repeat' (first | (refine gL ?_; first | refine yL0 ?_ | refine yL ?_ | (refine gL_go ?_; first | (refine JL_goq (get_o tb (ents t).length t p hp hw (some v0) hg) (hφ := xF) (h := ?_); rintro _ _ ⟨rfl, rfl⟩; try simp only [cAp, nAp]) | (refine JL_goq (find_s tb (ents t).length t p hp hw) (hφ := xF) (h := ?_); rintro _ _ ⟨C, s, ht, hC, hF, rfl, rfl⟩; try simp only [cAp, nAp])) | (refine yM ?_; intro _)) | (refine gD ?_; first | (refine yN ?_; try simp only [cAp, nAp]) | refine yD ?_ | (refine gD_go ?_; first | (refine JD_goq (get_o tb (ents t).length t p hp hw (some v0) hg) (hφ := xF) (h := ?_); rintro _ _ ⟨rfl, rfl⟩; try simp only [cAp, nAp]) | (refine JD_goq (find_s tb (ents t).length t p hp hw) (hφ := xF) (h := ?_); rintro _ _ ⟨C, s, ht, hC, hF, rfl, rfl⟩; try simp only [cAp, nAp]))) | refine yJ ?_ | refine zd84Tq11 ?_ | (refine yI ?_ ?_ <;> intro _ <;> try exact xX) | (refine yK ?_ ?_ <;> intro hgb <;> first | subst hgb | fail_if_success have : type_of% hgb := rfl) | fail))
    obtain ⟨hc, hs⟩ := (wf_plug C s).1 (ht ▸ hw)
    have hg2 : hereV p s = some v0 := by subst ht; rw [← found_res hw hC hF hr]; exact hg
    have fin : ∀ {s' : Tr}, wf (hreg C) s' → (∀ e, e ∈ ents s' ↔ e ∈ ents s ∧ e.1 ≠ p) → wf (0, 0) (plug C s') ∧ ents (plug C s') = dropL (ents t) p := fun h1 h2 => by subst ht; exact plug_drop hw hC hr h1 h2
    generalize hm : (ents t).length = m at *
    cases s with
    | nil => simp [hereV] at hg2
    | node b q has vo k0 k1 =>
      have hq : q = p ∧ has = true := by
        by_cases h : q = p ∧ has = true
        · exact h
        · simp only [hereV, if_neg h] at hg2; cases hg2
      obtain ⟨rfl, rfl⟩ := hq
      have hz : VN zV := by unfold VN I64 zV; decide
      obtain ⟨hw', he'⟩ := fin (s' := .node b q false zV k0 k1) ⟨hs.1, hz, hs.2.2⟩ (fun e => by
        have h1 := fun h => kids_ne hs (e := e) h
        constructor
        · intro h
          have h2 : e ∈ ents k0 ∨ e ∈ ents k1 := by simpa [ents] using h
          exact ⟨by simp only [ents, List.mem_append]; exact .inr h2, h1 h2⟩
        · rintro ⟨h, h2⟩
          simp only [ents, if_true, List.mem_append, List.mem_singleton] at h ⊢
          rcases h with h | h
          · rw [h] at h2; exact absurd rfl h2
          · exact .inr h)
      refine JL_heap (fun w H => owNodeO H xA) ?_
      (repeat' (first | (refine gL ?_; first | refine yL0 ?_ | (refine gL_load ?_; (first | refine JL_p rfl xR xR (pe_ldH xR xC (fun w hr => hole_see hr xA)) ?_ | refine JL_p rfl xR xR (pe_ldH xR xC (fun w hr => ctx_n hr xA)) ?_)) | refine yL ?_ | (refine yM ?_; intro _)) | (refine gD ?_; first | (refine yN ?_; try simp only [cAp, nAp]) | (refine gD_load ?_; (first | refine JL_p rfl xR xR (pe_ldH xR xC (fun w hr => hole_see hr xA)) ?_ | refine JL_p rfl xR xR (pe_ldH xR xC (fun w hr => ctx_n hr xA)) ?_)) | refine yD ?_) | refine yJ ?_ | refine zd84Tq11 ?_ | (refine yI ?_ ?_ <;> intro _ <;> try exact xX) | (refine yK ?_ ?_ <;> intro hgb <;> first | subst hgb | fail_if_success have : type_of% hgb := rfl) | fail))
      refine JL_heap (fun w H => owMkNodeB (b := b) (p := q) (has := false) (v := zV) (k0 := k0) (k1 := k1) H xZ) ?_
      refine JL_heap (fun w H => owPlugB (C := C) (s := .node b q false zV k0 k1) H xZ) ?_
      generalize plug C (.node b q false zV k0 k1) = t1 at *
      (repeat' (first | (refine gL ?_; first | refine yL0 ?_ | refine yL ?_ | (refine yM ?_; intro _)) | (refine gD ?_; first | (refine yN ?_; try simp only [cAp, nAp]) | refine yD ?_) | refine yJ ?_ | refine zd84Tq11 ?_ | (refine yI ?_ ?_ <;> intro _ <;> try exact xX) | (refine yK ?_ ?_ <;> intro hgb <;> first | subst hgb | fail_if_success have : type_of% hgb := rfl) | fail))
      refine JD_heapA rfl rfl (fun W K w H => owMkTop H xA) ?_
      obtain ⟨hw2, he2⟩ := prune_ok q hw'
      (repeat' (first | (refine gL ?_; first | refine yL0 ?_ | refine yL ?_ | (refine gL_go ?_; (refine JL_goq (prune_s tb ((m : Int) - 1) q hp t1 (0, 0) [] hw') (hφ := xF) (h := ?_); rintro _ _ rfl; try simp only [cAp, nAp])) | (refine yM ?_; intro _)) | (refine gD ?_; first | (refine yN ?_; try simp only [cAp, nAp]) | refine yD ?_ | (refine gD_go ?_; (refine JD_goq (prune_s tb ((m : Int) - 1) q hp t1 (0, 0) [] hw') (hφ := xF) (h := ?_); rintro _ _ rfl; try simp only [cAp, nAp]))) | refine yJ ?_ | refine zd84Tq11 ?_ | (refine yI ?_ ?_ <;> intro _ <;> try exact xX) | (refine yK ?_ ?_ <;> intro hgb <;> first | subst hgb | fail_if_success have : type_of% hgb := rfl) | fail))
      exact J_ret1 rfl (by rfl) fun w H => ⟨_, ⟨pruneT q t1, hw2, by rw [he2, he'], by rw [hg]; rfl, rfl⟩, by
        have e : (((ents (pruneT q t1)).length : Nat) : Int) = (m : Int) - 1 := by rw [he2, he']; omega
        rw [TrieL, e]
        exact (owCtxTop H xA).sel xZ⟩
theorem zd169Tq13 {p q : Prop} (k : p) (h : p → q := by intro hk; first | exact J_draw (id := 1) [0, 1, 2, 3, 4, 5, 6, 7, 8, 9, 10, 11, 12] [13, 14, 15, 16] mixed xC xD xD hk | fail) : q := h k

def TreeV (w : World) : Tr → Prop
  | .nil => True
  | .node b p has v k0 k1 => Blk w b (ndC p has v (ptr k0) (ptr k1)).toArray 178 ∧ TreeV w k0 ∧ TreeV w k1
theorem trP_v : ∀ {s : Tr} {k : Hl} {w : World}, trP s k → k.inn w → TreeV w s
  | .nil, _, _, _, _ => trivial
  | .node b p has v k0 k1, k, w, hk, i => by
    obtain ⟨h1, h2, a, ⟨h3, h4, c, ⟨h5, h6, e, _, d3, rfl⟩, d2, rfl⟩, d, rfl⟩ := hk
    have i1 := (Hl.inn_add d).1 i
    have i2 := (Hl.inn_add d2).1 i1.2
    have i3 := (Hl.inn_add d3).1 i2.2
    refine ⟨?_, trP_v c i2.1, trP_v e i3.1⟩
    obtain rfl : h1 = Hl.one b (.cells (ndC p has v (ptr k0) (ptr k1)).toArray 178 (0, 0)) := a
    exact i1.1 b _ (by simp [Hl.one])
theorem rdw_v {K : Hl} {L R : List HP} {w : World} {s : Tr} (hr : Rdw K L w) (t : Tk L (trP s) R) : TreeV w s := by
  obtain ⟨k, hk, i⟩ := hr.tk t
  exact trP_v hk i
def keysT (s : Tr) : List Pf := (ents s).map (·.1)
def pfA (p : Pf) : List Value := [.agg (pfC p).toArray]
theorem all_s (a : Option Addr) : Pact Tryz.prog 146 #[.pointer a] (fun _ => True) [] (fun v L' => ∃ g, v = .func (.func 169) #[] #[.pointer (some ⟨g, 0, none⟩)] ∧ L' = [pts g [.pointer a] 141]) := by
  refine pact Tryz.func146 rfl Tryz.ntmps146 rfl ?_
  intro W K _
  (repeat' (first | (refine gL ?_; first | refine yL0 ?_ | refine yL ?_ | (refine yM ?_; intro _)) | refine yJ ?_ | fail))
  exact J_ret1 rfl (by rfl) fun w H => ⟨_, ⟨_, rfl, rfl⟩, H.sel xZ⟩
structure Ls where
  i : Nat
  Ds : List Nat
def kp (k0 k1 : Tr) : Nat → List Pf
  | 0 => []
  | 1 => keysT k0
  | _ => keysT k0 ++ keysT k1
def AllIt (s : Tr) (g : Nat) : Prop := Iter Tryz.prog 169 (fun l => [yldV l, .pointer (some ⟨g, 0, none⟩)]) (fun w => w.cell? ⟨g, 0, none⟩ = some (.pointer (ptr s)) ∧ TreeV w s) pfA (keysT s).length (fun xs => xs = keysT s) (fun _ => True)
def ixR (Yx : List Pf → HP) (pre : List Pf) (g2 l : Nat) : Code → List Pf → List HP
  | .ret, xs => [Yx (pre ++ xs), pts g2 [yldV l] 122]
  | _, _ => [pu False]
theorem owDs {W : World} {K : Hl} {L R M : List HP} {w : World} {As : List HP} {B : HP} (H : Ow W K L w) (t : Tk L (sats As) M) (k : Tk M B R) : Ow W K (sats (B :: As) :: R) w := by
  have H2 := (H.flat t).perm (List.Perm.append_left As k.perm)
  have H3 : Ow W K ((B :: As) ++ R) w := H2.perm List.perm_middle
  obtain ⟨x, s, d, i⟩ := H3.mem
  obtain ⟨h1, h2, s1, s2, d', e⟩ := (sats_append _ _ _).1 s
  exact ⟨H.os, H.tape, H.output, H.size, H.kn, x, ⟨h1, h2, s1, s2, d', e⟩, d, i⟩
theorem all1_it : ∀ (s : Tr) (g : Nat), AllIt s g := by
  intro s
  induction s with
  | nil =>
    intro g
    refine iter Tryz.func169 rfl Tryz.ntmps169 (fun _ => rfl) ?_
    intro K0 l Y Yx hY W K hK hφ
    have h1 : Kn K (fun w => w.cell? ⟨g, 0, none⟩ = some (.pointer none)) := hφ.left
    (repeat' (first | (refine gL ?_; first | refine yL0 ?_ | refine yL ?_ | (refine yM ?_; intro _)) | (refine gD ?_; first | (refine yN ?_; try simp only [cAp, nAp]) | refine yD0 ?_ | refine yD ?_) | refine yJ ?_ | refine zd169Tq13 ?_ | (refine yI ?_ ?_ <;> intro _ <;> try exact xX) | (refine yK ?_ ?_ <;> intro hgb <;> first | subst hgb | fail_if_success have : type_of% hgb := rfl) | fail))
    exact J_ret0 rfl fun w H => ⟨[Y []], .inl ⟨[], rfl, rfl⟩, H.sel xZ⟩
  | node b p has v k0 k1 ih0 ih1 =>
    intro g
    refine iter Tryz.func169 rfl Tryz.ntmps169 (fun _ => rfl) ?_
    intro K0 l Y Yx hY W K hK hφ
    have h1 : Kn K (fun w => w.cell? ⟨g, 0, none⟩ = some (.pointer (some ⟨b, 0, none⟩))) := hφ.left
    have h2 : Kn K (fun w => Blk w b (ndC p has v (ptr k0) (ptr k1)).toArray 178) := hφ.right.left
    have h3 : Kn K (fun w => TreeV w k0) := hφ.right.right.left
    have h4 : Kn K (fun w => TreeV w k1) := hφ.right.right.right
    cases has
    · have hlen0 : (keysT (.node b p false v k0 k1)).length = (keysT k0).length + (keysT k1).length := by simp [keysT, ents]
      (repeat' (first | (refine gL ?_; first | refine yL0 ?_ | refine yL ?_ | (refine yM ?_; intro _)) | (refine gD ?_; first | (refine yN ?_; try simp only [cAp, nAp]) | refine yD0 ?_ | refine yD ?_) | refine yJ ?_ | refine zd169Tq13 ?_ | (refine yI ?_ ?_ <;> intro _ <;> try exact xX) | (refine yK ?_ ?_ <;> intro hgb <;> first | subst hgb | fail_if_success have : type_of% hgb := rfl) | fail))
      rename_i g2
      refine J_mark0 ?_
      refine J_loop (α := Ls) ⟨0, []⟩ (fun x => 2 - x.i) (fun x => x.i ≤ 2) (fun x => [(2, .pointer (some ⟨g2, 0, none⟩)), (26, .agg [.pointer (ptr k0), .pointer (ptr k1)].toArray), (27, .int .i64 x.i), (mkK, encM x.Ds)]) (fun x => [Y (([] : List Pf) ++ kp k0 k1 x.i), pts g2 [yldV l] 122, sats (x.Ds.map dfr)]) (Nat.zero_le 2) ⟨rfl, rfl, rfl, rfl, trivial⟩ (fun w H => (Ow.satsNil H).sel xZ) ?_
      rintro ⟨i, Ds⟩ hi
      dsimp only at hi ⊢
      by_cases hi0 : i = 0
      · subst hi0
        (repeat' (first | (refine gL ?_; first | refine yL0 ?_ | refine yL ?_ | (refine gL_go ?_; (refine JL_goq (all_s (ptr k0)) (hφ := xF) (h := ?_); rintro _ _ ⟨g3, rfl, rfl⟩; try simp only [cAp, nAp])) | (refine yM ?_; intro _)) | (refine gD ?_; first | (refine yN ?_; try simp only [cAp, nAp]) | refine yD0 ?_ | refine yD ?_ | (refine gD_go ?_; (refine JD_goq (all_s (ptr k0)) (hφ := xF) (h := ?_); rintro _ _ ⟨g3, rfl, rfl⟩; try simp only [cAp, nAp]))) | refine yJ ?_ | refine zd169Tq13 ?_ | (refine yI ?_ ?_ <;> intro _ <;> try exact xX) | (refine yK ?_ ?_ <;> intro hgb <;> first | subst hgb | fail_if_success have : type_of% hgb := rfl) | fail))
        refine J_heap (L' := [Y ((([] : List Pf) ++ kp k0 k1 0) ++ []), pts g2 [yldV l] 122, pts g3 [.pointer (ptr k0)] 141, sats (Ds.map dfr)]) (fun w H => by rw [List.append_nil]; exact H.sel xZ) ?_
        refine J_range (first := []) (lb := [.pointer (some ⟨g3, 0, none⟩)]) (ih0 g3) rfl (dec_enc Ds) rfl (by decide +kernel) rfl (fun _ => rfl) (fun xs => [Y ((([] : List Pf) ++ kp k0 k1 0) ++ xs), pts g2 [yldV l] 122]) (ixR Yx (([] : List Pf) ++ kp k0 k1 0) g2 l) (.cons .here (.cons .here .nil)) (fun w hr => ⟨hr.cell xA rfl, h3 w hr.1⟩) ?_ ?_ ?_
        · intro W3 K3 l3 pre x hle hlen
          simp only [parTM, pfA]
          (repeat' (first | (refine gL ?_; first | refine yL0 ?_ | refine yL ?_ | (refine yM ?_; intro _)) | (refine gD ?_; first | (refine yN ?_; try simp only [cAp, nAp]) | refine yD0 ?_ | refine yD ?_) | refine yJ ?_ | refine zd169Tq13 ?_ | (refine yI ?_ ?_ <;> intro _ <;> try exact xX) | (refine yK ?_ ?_ <;> intro hgb <;> first | subst hgb | fail_if_success have : type_of% hgb := rfl) | fail))
          refine J_body ?_
          intro K4 hle4 hrec
          have hK4 : K0.le K4 := hK.trans hle4
          (repeat' (first | (refine gL ?_; first | refine yL0 ?_ | refine yL ?_ | (refine gL_go ?_; (refine JL_y (hY ((([] : List Pf) ++ kp k0 k1 0) ++ pre) x (by rw [hlen0]; simp [kp]; omega)) xH xR xR xS xR xR ?_; rintro _ _ (⟨rfl, rfl⟩ | ⟨rfl, rfl⟩); try simp only [cAp, nAp])) | (refine yM ?_; intro _)) | (refine gD ?_; first | (refine yN ?_; try simp only [cAp, nAp]) | refine yD0 ?_ | refine yD ?_ | (refine gD_go ?_; (refine JD_y (hY ((([] : List Pf) ++ kp k0 k1 0) ++ pre) x (by rw [hlen0]; simp [kp]; omega)) xH xR xR xS xR ?_; rintro _ _ (⟨rfl, rfl⟩ | ⟨rfl, rfl⟩); try simp only [cAp, nAp]))) | refine yJ ?_ | refine zd169Tq13 ?_ | (refine yI ?_ ?_ <;> intro _ <;> try exact xX) | (refine yK ?_ ?_ <;> intro hgb <;> first | subst hgb | fail_if_success have : type_of% hgb := rfl) | fail))
          · exact J_rnd fun w H => by rw [List.append_assoc] at H; exact H.sel xZ
          · exact J_rndRet fun w H => by rw [List.append_assoc] at H; exact H.sel xZ
        · rintro D xs rfl
          simp only [List.cons_append, List.nil_append]
          (repeat' (first | (refine gL ?_; first | refine yL0 ?_ | refine yL ?_ | (refine yM ?_; intro _)) | (refine gD ?_; first | (refine yN ?_; try simp only [cAp, nAp]) | refine yD0 ?_ | refine yD ?_) | refine yJ ?_ | refine zd169Tq13 ?_ | (refine yI ?_ ?_ <;> intro _ <;> try exact xX) | (refine yK ?_ ?_ <;> intro hgb <;> first | subst hgb | fail_if_success have : type_of% hgb := rfl) | fail))
          refine J_again ⟨0 + 1, D :: Ds⟩ (by dsimp only; omega) (by dsimp only; omega) ⟨rfl, rfl, rfl, rfl, trivial⟩ (fun w H => ?_)
          have H2 := owDs (As := Ds.map dfr) (B := dfr D) H xA xA
          have e : kp k0 k1 0 ++ keysT k0 = kp k0 k1 (0 + 1) := by simp [kp]
          rw [e] at H2
          exact H2.sel xZ
        · intro D c pre _
          cases c with
          | ret =>
            simp only [ixR, List.cons_append, List.nil_append]
            refine J_ret0M (dec_enc (D :: Ds)) rfl fun w H => ⟨[Yx ((([] : List Pf) ++ kp k0 k1 0) ++ pre)], .inr ⟨_, trivial, rfl⟩, ?_⟩
            have H2 := owDs (As := Ds.map dfr) (B := dfr D) H xA xA
            exact (H2.sel (M := [sats (dfr D :: Ds.map dfr), Yx ((([] : List Pf) ++ kp k0 k1 0) ++ pre)]) xZ).flat .here
          | _ => exact J_fact (φ := False) (fun w H => H.pu (p := False) (by simp only [ixR, List.cons_append, List.nil_append]; (first | ((with_reducible (repeat (first | exact Tk.here | apply Tk.there))); done) | ((simp only [List.cons_append, List.nil_append]); (with_reducible (repeat (first | exact Tk.here | apply Tk.there))); done) | fail))) (fun h => h.elim)
      by_cases hi1 : i = 1
      · subst hi1
        (repeat' (first | (refine gL ?_; first | refine yL0 ?_ | refine yL ?_ | (refine gL_go ?_; (refine JL_goq (all_s (ptr k1)) (hφ := xF) (h := ?_); rintro _ _ ⟨g3, rfl, rfl⟩; try simp only [cAp, nAp])) | (refine yM ?_; intro _)) | (refine gD ?_; first | (refine yN ?_; try simp only [cAp, nAp]) | refine yD0 ?_ | refine yD ?_ | (refine gD_go ?_; (refine JD_goq (all_s (ptr k1)) (hφ := xF) (h := ?_); rintro _ _ ⟨g3, rfl, rfl⟩; try simp only [cAp, nAp]))) | refine yJ ?_ | refine zd169Tq13 ?_ | (refine yI ?_ ?_ <;> intro _ <;> try exact xX) | (refine yK ?_ ?_ <;> intro hgb <;> first | subst hgb | fail_if_success have : type_of% hgb := rfl) | fail))
        refine J_heap (L' := [Y ((([] : List Pf) ++ kp k0 k1 1) ++ []), pts g2 [yldV l] 122, pts g3 [.pointer (ptr k1)] 141, sats (Ds.map dfr)]) (fun w H => by rw [List.append_nil]; exact H.sel xZ) ?_
        refine J_range (first := []) (lb := [.pointer (some ⟨g3, 0, none⟩)]) (ih1 g3) rfl (dec_enc Ds) rfl (by decide +kernel) rfl (fun _ => rfl) (fun xs => [Y ((([] : List Pf) ++ kp k0 k1 1) ++ xs), pts g2 [yldV l] 122]) (ixR Yx (([] : List Pf) ++ kp k0 k1 1) g2 l) (.cons .here (.cons .here .nil)) (fun w hr => ⟨hr.cell xA rfl, h4 w hr.1⟩) ?_ ?_ ?_
        · intro W3 K3 l3 pre x hle hlen
          simp only [parTM, pfA]
          (repeat' (first | (refine gL ?_; first | refine yL0 ?_ | refine yL ?_ | (refine yM ?_; intro _)) | (refine gD ?_; first | (refine yN ?_; try simp only [cAp, nAp]) | refine yD0 ?_ | refine yD ?_) | refine yJ ?_ | refine zd169Tq13 ?_ | (refine yI ?_ ?_ <;> intro _ <;> try exact xX) | (refine yK ?_ ?_ <;> intro hgb <;> first | subst hgb | fail_if_success have : type_of% hgb := rfl) | fail))
          refine J_body ?_
          intro K4 hle4 hrec
          have hK4 : K0.le K4 := hK.trans hle4
          (repeat' (first | (refine gL ?_; first | refine yL0 ?_ | refine yL ?_ | (refine gL_go ?_; (refine JL_y (hY ((([] : List Pf) ++ kp k0 k1 1) ++ pre) x (by rw [hlen0]; simp [kp]; omega)) xH xR xR xS xR xR ?_; rintro _ _ (⟨rfl, rfl⟩ | ⟨rfl, rfl⟩); try simp only [cAp, nAp])) | (refine yM ?_; intro _)) | (refine gD ?_; first | (refine yN ?_; try simp only [cAp, nAp]) | refine yD0 ?_ | refine yD ?_ | (refine gD_go ?_; (refine JD_y (hY ((([] : List Pf) ++ kp k0 k1 1) ++ pre) x (by rw [hlen0]; simp [kp]; omega)) xH xR xR xS xR ?_; rintro _ _ (⟨rfl, rfl⟩ | ⟨rfl, rfl⟩); try simp only [cAp, nAp]))) | refine yJ ?_ | refine zd169Tq13 ?_ | (refine yI ?_ ?_ <;> intro _ <;> try exact xX) | (refine yK ?_ ?_ <;> intro hgb <;> first | subst hgb | fail_if_success have : type_of% hgb := rfl) | fail))
          · exact J_rnd fun w H => by rw [List.append_assoc] at H; exact H.sel xZ
          · exact J_rndRet fun w H => by rw [List.append_assoc] at H; exact H.sel xZ
        · rintro D xs rfl
          simp only [List.cons_append, List.nil_append]
          (repeat' (first | (refine gL ?_; first | refine yL0 ?_ | refine yL ?_ | (refine yM ?_; intro _)) | (refine gD ?_; first | (refine yN ?_; try simp only [cAp, nAp]) | refine yD0 ?_ | refine yD ?_) | refine yJ ?_ | refine zd169Tq13 ?_ | (refine yI ?_ ?_ <;> intro _ <;> try exact xX) | (refine yK ?_ ?_ <;> intro hgb <;> first | subst hgb | fail_if_success have : type_of% hgb := rfl) | fail))
          refine J_again ⟨1 + 1, D :: Ds⟩ (by dsimp only; omega) (by dsimp only; omega) ⟨rfl, rfl, rfl, rfl, trivial⟩ (fun w H => ?_)
          have H2 := owDs (As := Ds.map dfr) (B := dfr D) H xA xA
          have e : kp k0 k1 1 ++ keysT k1 = kp k0 k1 (1 + 1) := by simp [kp]
          rw [e] at H2
          exact H2.sel xZ
        · intro D c pre _
          cases c with
          | ret =>
            simp only [ixR, List.cons_append, List.nil_append]
            refine J_ret0M (dec_enc (D :: Ds)) rfl fun w H => ⟨[Yx ((([] : List Pf) ++ kp k0 k1 1) ++ pre)], .inr ⟨_, trivial, rfl⟩, ?_⟩
            have H2 := owDs (As := Ds.map dfr) (B := dfr D) H xA xA
            exact (H2.sel (M := [sats (dfr D :: Ds.map dfr), Yx ((([] : List Pf) ++ kp k0 k1 1) ++ pre)]) xZ).flat .here
          | _ => exact J_fact (φ := False) (fun w H => H.pu (p := False) (by simp only [ixR, List.cons_append, List.nil_append]; (first | ((with_reducible (repeat (first | exact Tk.here | apply Tk.there))); done) | ((simp only [List.cons_append, List.nil_append]); (with_reducible (repeat (first | exact Tk.here | apply Tk.there))); done) | fail))) (fun h => h.elim)
      obtain rfl : i = 2 := by omega
      (repeat' (first | (refine gL ?_; first | refine yL0 ?_ | refine yL ?_ | (refine yM ?_; intro _)) | (refine gD ?_; first | (refine yN ?_; try simp only [cAp, nAp]) | refine yD0 ?_ | refine yD ?_) | refine yJ ?_ | refine zd169Tq13 ?_ | (refine yI ?_ ?_ <;> intro _ <;> try exact xX) | (refine yK ?_ ?_ <;> intro hgb <;> first | subst hgb | fail_if_success have : type_of% hgb := rfl) | fail))
      exact J_end0M (dec_enc Ds) rfl fun w H => ⟨[Y (([] : List Pf) ++ kp k0 k1 2)], .inl ⟨_, by simp [kp, keysT, ents], rfl⟩, (H.sel (M := [sats (Ds.map dfr), Y (([] : List Pf) ++ kp k0 k1 2)]) xZ).flat .here⟩
    · have hlen0 : (keysT (.node b p true v k0 k1)).length = 1 + ((keysT k0).length + (keysT k1).length) := by simp [keysT, ents]; omega
      (repeat' (first | (refine gL ?_; first | refine yL0 ?_ | refine yL ?_ | (refine gL_go ?_; (refine JL_y (hY [] p (by rw [hlen0]; simp; omega)) xH xR xR xS xR xR ?_; rintro _ _ (⟨rfl, rfl⟩ | ⟨rfl, rfl⟩); try simp only [cAp, nAp])) | (refine yM ?_; intro _)) | (refine gD ?_; first | (refine yN ?_; try simp only [cAp, nAp]) | refine yD0 ?_ | refine yD ?_ | (refine gD_go ?_; (refine JD_y (hY [] p (by rw [hlen0]; simp; omega)) xH xR xR xS xR ?_; rintro _ _ (⟨rfl, rfl⟩ | ⟨rfl, rfl⟩); try simp only [cAp, nAp]))) | refine yJ ?_ | refine zd169Tq13 ?_ | (refine yI ?_ ?_ <;> intro _ <;> try exact xX) | (refine yK ?_ ?_ <;> intro hgb <;> first | subst hgb | fail_if_success have : type_of% hgb := rfl) | fail))
      · rename_i g2
        refine J_mark0 ?_
        refine J_loop (α := Ls) ⟨0, []⟩ (fun x => 2 - x.i) (fun x => x.i ≤ 2) (fun x => [(2, .pointer (some ⟨g2, 0, none⟩)), (26, .agg [.pointer (ptr k0), .pointer (ptr k1)].toArray), (27, .int .i64 x.i), (mkK, encM x.Ds)]) (fun x => [Y ([p] ++ kp k0 k1 x.i), pts g2 [yldV l] 122, sats (x.Ds.map dfr)]) (Nat.zero_le 2) ⟨rfl, rfl, rfl, rfl, trivial⟩ (fun w H => (Ow.satsNil H).sel xZ) ?_
        rintro ⟨i, Ds⟩ hi
        dsimp only at hi ⊢
        by_cases hi0 : i = 0
        · subst hi0
          (repeat' (first | (refine gL ?_; first | refine yL0 ?_ | refine yL ?_ | (refine gL_go ?_; (refine JL_goq (all_s (ptr k0)) (hφ := xF) (h := ?_); rintro _ _ ⟨g3, rfl, rfl⟩; try simp only [cAp, nAp])) | (refine yM ?_; intro _)) | (refine gD ?_; first | (refine yN ?_; try simp only [cAp, nAp]) | refine yD0 ?_ | refine yD ?_ | (refine gD_go ?_; (refine JD_goq (all_s (ptr k0)) (hφ := xF) (h := ?_); rintro _ _ ⟨g3, rfl, rfl⟩; try simp only [cAp, nAp]))) | refine yJ ?_ | refine zd169Tq13 ?_ | (refine yI ?_ ?_ <;> intro _ <;> try exact xX) | (refine yK ?_ ?_ <;> intro hgb <;> first | subst hgb | fail_if_success have : type_of% hgb := rfl) | fail))
          refine J_heap (L' := [Y (([p] ++ kp k0 k1 0) ++ []), pts g2 [yldV l] 122, pts g3 [.pointer (ptr k0)] 141, sats (Ds.map dfr)]) (fun w H => by rw [List.append_nil]; exact H.sel xZ) ?_
          refine J_range (first := []) (lb := [.pointer (some ⟨g3, 0, none⟩)]) (ih0 g3) rfl (dec_enc Ds) rfl (by decide +kernel) rfl (fun _ => rfl) (fun xs => [Y (([p] ++ kp k0 k1 0) ++ xs), pts g2 [yldV l] 122]) (ixR Yx ([p] ++ kp k0 k1 0) g2 l) (.cons .here (.cons .here .nil)) (fun w hr => ⟨hr.cell xA rfl, h3 w hr.1⟩) ?_ ?_ ?_
          · intro W3 K3 l3 pre x hle hlen
            simp only [parTM, pfA]
            (repeat' (first | (refine gL ?_; first | refine yL0 ?_ | refine yL ?_ | (refine yM ?_; intro _)) | (refine gD ?_; first | (refine yN ?_; try simp only [cAp, nAp]) | refine yD0 ?_ | refine yD ?_) | refine yJ ?_ | refine zd169Tq13 ?_ | (refine yI ?_ ?_ <;> intro _ <;> try exact xX) | (refine yK ?_ ?_ <;> intro hgb <;> first | subst hgb | fail_if_success have : type_of% hgb := rfl) | fail))
            refine J_body ?_
            intro K4 hle4 hrec
            have hK4 : K0.le K4 := hK.trans hle4
            (repeat' (first | (refine gL ?_; first | refine yL0 ?_ | refine yL ?_ | (refine gL_go ?_; (refine JL_y (hY (([p] ++ kp k0 k1 0) ++ pre) x (by rw [hlen0]; simp [kp]; omega)) xH xR xR xS xR xR ?_; rintro _ _ (⟨rfl, rfl⟩ | ⟨rfl, rfl⟩); try simp only [cAp, nAp])) | (refine yM ?_; intro _)) | (refine gD ?_; first | (refine yN ?_; try simp only [cAp, nAp]) | refine yD0 ?_ | refine yD ?_ | (refine gD_go ?_; (refine JD_y (hY (([p] ++ kp k0 k1 0) ++ pre) x (by rw [hlen0]; simp [kp]; omega)) xH xR xR xS xR ?_; rintro _ _ (⟨rfl, rfl⟩ | ⟨rfl, rfl⟩); try simp only [cAp, nAp]))) | refine yJ ?_ | refine zd169Tq13 ?_ | (refine yI ?_ ?_ <;> intro _ <;> try exact xX) | (refine yK ?_ ?_ <;> intro hgb <;> first | subst hgb | fail_if_success have : type_of% hgb := rfl) | fail))
            · exact J_rnd fun w H => by rw [List.append_assoc] at H; exact H.sel xZ
            · exact J_rndRet fun w H => by rw [List.append_assoc] at H; exact H.sel xZ
          · rintro D xs rfl
            simp only [List.cons_append, List.nil_append]
            (repeat' (first | (refine gL ?_; first | refine yL0 ?_ | refine yL ?_ | (refine yM ?_; intro _)) | (refine gD ?_; first | (refine yN ?_; try simp only [cAp, nAp]) | refine yD0 ?_ | refine yD ?_) | refine yJ ?_ | refine zd169Tq13 ?_ | (refine yI ?_ ?_ <;> intro _ <;> try exact xX) | (refine yK ?_ ?_ <;> intro hgb <;> first | subst hgb | fail_if_success have : type_of% hgb := rfl) | fail))
            refine J_again ⟨0 + 1, D :: Ds⟩ (by dsimp only; omega) (by dsimp only; omega) ⟨rfl, rfl, rfl, rfl, trivial⟩ (fun w H => ?_)
            have H2 := owDs (As := Ds.map dfr) (B := dfr D) H xA xA
            have e : kp k0 k1 0 ++ keysT k0 = kp k0 k1 (0 + 1) := by simp [kp]
            rw [e] at H2
            exact H2.sel xZ
          · intro D c pre _
            cases c with
            | ret =>
              simp only [ixR, List.cons_append, List.nil_append]
              refine J_ret0M (dec_enc (D :: Ds)) rfl fun w H => ⟨[Yx (([p] ++ kp k0 k1 0) ++ pre)], .inr ⟨_, trivial, rfl⟩, ?_⟩
              have H2 := owDs (As := Ds.map dfr) (B := dfr D) H xA xA
              exact (H2.sel (M := [sats (dfr D :: Ds.map dfr), Yx (([p] ++ kp k0 k1 0) ++ pre)]) xZ).flat .here
            | _ => exact J_fact (φ := False) (fun w H => H.pu (p := False) (by simp only [ixR, List.cons_append, List.nil_append]; (first | ((with_reducible (repeat (first | exact Tk.here | apply Tk.there))); done) | ((simp only [List.cons_append, List.nil_append]); (with_reducible (repeat (first | exact Tk.here | apply Tk.there))); done) | fail))) (fun h => h.elim)
        by_cases hi1 : i = 1
        · subst hi1
          (repeat' (first | (refine gL ?_; first | refine yL0 ?_ | refine yL ?_ | (refine gL_go ?_; (refine JL_goq (all_s (ptr k1)) (hφ := xF) (h := ?_); rintro _ _ ⟨g3, rfl, rfl⟩; try simp only [cAp, nAp])) | (refine yM ?_; intro _)) | (refine gD ?_; first | (refine yN ?_; try simp only [cAp, nAp]) | refine yD0 ?_ | refine yD ?_ | (refine gD_go ?_; (refine JD_goq (all_s (ptr k1)) (hφ := xF) (h := ?_); rintro _ _ ⟨g3, rfl, rfl⟩; try simp only [cAp, nAp]))) | refine yJ ?_ | refine zd169Tq13 ?_ | (refine yI ?_ ?_ <;> intro _ <;> try exact xX) | (refine yK ?_ ?_ <;> intro hgb <;> first | subst hgb | fail_if_success have : type_of% hgb := rfl) | fail))
          refine J_heap (L' := [Y (([p] ++ kp k0 k1 1) ++ []), pts g2 [yldV l] 122, pts g3 [.pointer (ptr k1)] 141, sats (Ds.map dfr)]) (fun w H => by rw [List.append_nil]; exact H.sel xZ) ?_
          refine J_range (first := []) (lb := [.pointer (some ⟨g3, 0, none⟩)]) (ih1 g3) rfl (dec_enc Ds) rfl (by decide +kernel) rfl (fun _ => rfl) (fun xs => [Y (([p] ++ kp k0 k1 1) ++ xs), pts g2 [yldV l] 122]) (ixR Yx ([p] ++ kp k0 k1 1) g2 l) (.cons .here (.cons .here .nil)) (fun w hr => ⟨hr.cell xA rfl, h4 w hr.1⟩) ?_ ?_ ?_
          · intro W3 K3 l3 pre x hle hlen
            simp only [parTM, pfA]
            (repeat' (first | (refine gL ?_; first | refine yL0 ?_ | refine yL ?_ | (refine yM ?_; intro _)) | (refine gD ?_; first | (refine yN ?_; try simp only [cAp, nAp]) | refine yD0 ?_ | refine yD ?_) | refine yJ ?_ | refine zd169Tq13 ?_ | (refine yI ?_ ?_ <;> intro _ <;> try exact xX) | (refine yK ?_ ?_ <;> intro hgb <;> first | subst hgb | fail_if_success have : type_of% hgb := rfl) | fail))
            refine J_body ?_
            intro K4 hle4 hrec
            have hK4 : K0.le K4 := hK.trans hle4
            (repeat' (first | (refine gL ?_; first | refine yL0 ?_ | refine yL ?_ | (refine gL_go ?_; (refine JL_y (hY (([p] ++ kp k0 k1 1) ++ pre) x (by rw [hlen0]; simp [kp]; omega)) xH xR xR xS xR xR ?_; rintro _ _ (⟨rfl, rfl⟩ | ⟨rfl, rfl⟩); try simp only [cAp, nAp])) | (refine yM ?_; intro _)) | (refine gD ?_; first | (refine yN ?_; try simp only [cAp, nAp]) | refine yD0 ?_ | refine yD ?_ | (refine gD_go ?_; (refine JD_y (hY (([p] ++ kp k0 k1 1) ++ pre) x (by rw [hlen0]; simp [kp]; omega)) xH xR xR xS xR ?_; rintro _ _ (⟨rfl, rfl⟩ | ⟨rfl, rfl⟩); try simp only [cAp, nAp]))) | refine yJ ?_ | refine zd169Tq13 ?_ | (refine yI ?_ ?_ <;> intro _ <;> try exact xX) | (refine yK ?_ ?_ <;> intro hgb <;> first | subst hgb | fail_if_success have : type_of% hgb := rfl) | fail))
            · exact J_rnd fun w H => by rw [List.append_assoc] at H; exact H.sel xZ
            · exact J_rndRet fun w H => by rw [List.append_assoc] at H; exact H.sel xZ
          · rintro D xs rfl
            simp only [List.cons_append, List.nil_append]
            (repeat' (first | (refine gL ?_; first | refine yL0 ?_ | refine yL ?_ | (refine yM ?_; intro _)) | (refine gD ?_; first | (refine yN ?_; try simp only [cAp, nAp]) | refine yD0 ?_ | refine yD ?_) | refine yJ ?_ | refine zd169Tq13 ?_ | (refine yI ?_ ?_ <;> intro _ <;> try exact xX) | (refine yK ?_ ?_ <;> intro hgb <;> first | subst hgb | fail_if_success have : type_of% hgb := rfl) | fail))
            refine J_again ⟨1 + 1, D :: Ds⟩ (by dsimp only; omega) (by dsimp only; omega) ⟨rfl, rfl, rfl, rfl, trivial⟩ (fun w H => ?_)
            have H2 := owDs (As := Ds.map dfr) (B := dfr D) H xA xA
            have e : kp k0 k1 1 ++ keysT k1 = kp k0 k1 (1 + 1) := by simp [kp]
            rw [e] at H2
            exact H2.sel xZ
          · intro D c pre _
            cases c with
            | ret =>
              simp only [ixR, List.cons_append, List.nil_append]
              refine J_ret0M (dec_enc (D :: Ds)) rfl fun w H => ⟨[Yx (([p] ++ kp k0 k1 1) ++ pre)], .inr ⟨_, trivial, rfl⟩, ?_⟩
              have H2 := owDs (As := Ds.map dfr) (B := dfr D) H xA xA
              exact (H2.sel (M := [sats (dfr D :: Ds.map dfr), Yx (([p] ++ kp k0 k1 1) ++ pre)]) xZ).flat .here
            | _ => exact J_fact (φ := False) (fun w H => H.pu (p := False) (by simp only [ixR, List.cons_append, List.nil_append]; (first | ((with_reducible (repeat (first | exact Tk.here | apply Tk.there))); done) | ((simp only [List.cons_append, List.nil_append]); (with_reducible (repeat (first | exact Tk.here | apply Tk.there))); done) | fail))) (fun h => h.elim)
        obtain rfl : i = 2 := by omega
        (repeat' (first | (refine gL ?_; first | refine yL0 ?_ | refine yL ?_ | (refine yM ?_; intro _)) | (refine gD ?_; first | (refine yN ?_; try simp only [cAp, nAp]) | refine yD0 ?_ | refine yD ?_) | refine yJ ?_ | refine zd169Tq13 ?_ | (refine yI ?_ ?_ <;> intro _ <;> try exact xX) | (refine yK ?_ ?_ <;> intro hgb <;> first | subst hgb | fail_if_success have : type_of% hgb := rfl) | fail))
        exact J_end0M (dec_enc Ds) rfl fun w H => ⟨[Y ([p] ++ kp k0 k1 2)], .inl ⟨_, by simp [kp, keysT, ents], rfl⟩, (H.sel (M := [sats (Ds.map dfr), Y ([p] ++ kp k0 k1 2)]) xZ).flat .here⟩
      · exact J_ret0 rfl fun w H => ⟨[Yx [p]], .inr ⟨[p], trivial, rfl⟩, H.sel xZ⟩
end Go.Proofs.YtdnokmpnemaoaaaGreat.T
