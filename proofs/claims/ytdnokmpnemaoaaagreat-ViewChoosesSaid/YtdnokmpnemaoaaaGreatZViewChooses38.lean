/-
  Ru6, Ru7, Ru8, Ru9: merged.
-/
import Derived.Test.YtdnokmpnemaoaaaGreatZViewChooses37
namespace Go.Proofs.YtdnokmpnemaoaaaGreat.C
set_option linter.unusedSimpArgs false
set_option linter.unusedVariables false
set_option maxRecDepth 20000
set_option maxHeartbeats 4000000
open Go.RowKit Go.Pm
theorem zd176Ru6 {p q : Prop} (k : p) (h : p → q := by intro hk; first | exact J_draw (id := 11) [0, 1, 2, 3, 4, 5, 6, 7] [8] mixed xC xD xD hk | exact J_draw (id := 15) [0, 1, 2, 3, 4, 5, 6, 7] [8] mixed xC xD xD hk | fail) : q := h k

theorem sg_one (q : List Sg) : ∀ u ∈ flat sgC q, u.oneCell' = true := all_one _ (by intro _ _; rfl)
theorem insert_0 (a : Option Addr) (b : Nat) (z : Sg) : Pact Tryz.prog 176 #[.slice a 0 0, .int .i64 0, .slice (some ⟨b, 0, none⟩) 1 1] (fun _ => True) [Ar 87 2 sgC (.slice a 0 0) [], pts b (sgC z) 87] (fun u L' => ∃ (a2 : Option Addr) (c2 : Nat), u = .slice a2 (0 + 1) c2 ∧ L' = [Ar 87 2 sgC (.slice a2 (0 + 1) c2) [z]]) := by
  refine pact Tryz.func176 rfl Tryz.ntmps176 rfl ?_
  intro W K hK
  refine J_heap (L' := [Ar 87 2 sgC (.slice a 0 0) [], pts b [.bool z.set, .slice z.a z.as_.length z.c] 87]) (fun w H => H) ?_
  (repeat' (first | (refine gL ?_; first | refine yL0 ?_ | (refine gL_c_append ?_; (refine JL_ap1 (z := z) (tabE etab_ok xR) xR xR xA xA xC xR xL xR (by simp) xR xR ?_; intro ad4 c4 _ _)) | refine yL ?_ | (refine yA ?_; intro _ _ _ _)) | (refine gD ?_; first | (refine yN ?_; try simp only [cAp, nAp]) | refine yD ?_) | refine yJ ?_ | refine zd176Ru6 ?_ | (refine yI ?_ ?_ <;> intro _ <;> try exact xX) | (refine yK ?_ ?_ <;> intro hgb <;> first | subst hgb | fail_if_success have : type_of% hgb := rfl) | fail))
  exact J_ret1 rfl (by rfl) fun w H => ⟨_, ⟨ad4, c4, rfl, rfl⟩, H.sel (M := [Ar 87 2 sgC (.slice ad4 (0 + 1) c4) [z]]) xZ⟩
theorem insert_p (g b N : Nat) (q : List Sg) (z : Sg) (hN : q.length = N) (hq : N ≤ 1000) (h0 : ¬ N = 0) : Pact Tryz.prog 176 #[.slice (some ⟨g, 0, none⟩) N N, .int .i64 0, .slice (some ⟨b, 0, none⟩) 1 1] (fun _ => True) [pts g (flat sgC q) 87, pts b (sgC z) 87] (fun u L' => ∃ (a2 : Option Addr) (c2 : Nat), u = .slice a2 (N + 1) c2 ∧ L' = [Ar 87 2 sgC (.slice a2 (N + 1) c2) (z :: q)]) := by
  refine pact Tryz.func176 rfl Tryz.ntmps176 rfl ?_
  intro W K hK
  have hlen : (flat sgC q).length = N * 2 := by rw [← hN]; exact flat_length (f := sgC) (sz := 2) (by intro _; rfl) q
  have hsrcZ : ∀ (R : List HP) (w : World), Rdw K R w → (∃ R', Tk R (pts b (sgC z) 87) R') → ∃ b' off, (some ⟨b, 0, none⟩ : Option Addr) = some ⟨b', off, none⟩ ∧ ∀ (j : Nat) (u : Value), (sgC z)[j]? = some u → w.cell? ⟨b', off + j, none⟩ = some u := fun R w hr ht => ⟨b, 0, rfl, fun j u hj => by
    obtain ⟨R', ht⟩ := ht
    have hb := hr.blk ht
    rw [Nat.zero_add]
    exact (hb.cell j).trans (by simpa using hj)⟩
  have hsrcQ : ∀ (R : List HP) (w : World), Rdw K R w → (∃ R', Tk R (pts g (flat sgC q) 87) R') → ∃ b' off, slA (some ⟨g, 0, none⟩) N 0 2 = some ⟨b', off, none⟩ ∧ ∀ (j : Nat) (u : Value), (flat sgC q)[j]? = some u → w.cell? ⟨b', off + j, none⟩ = some u := fun R w hr ht => ⟨g, 0, slA_lt (by omega), fun j u hj => by
    obtain ⟨R', ht⟩ := ht
    have hb := hr.blk ht
    rw [Nat.zero_add]
    exact (hb.cell j).trans (by simpa using hj)⟩
  have hz2 : (sgC z).length = 2 := rfl
  have hgl : ∀ G : Nat, (flat sgC (List.replicate G sg0)).length = G * 2 := fun G => by rw [flat_length (sz := 2) (by intro _; rfl), List.length_replicate]
  have hz1 : ∀ v ∈ sgC z, v.oneCell' = true := List.all_eq_true.1 (show (sgC z).all (·.oneCell') = true from rfl)
  (repeat' (first | (refine gL ?_; first | refine yL0 ?_ | (refine gL_c_append ?_; (refine JL_apZ (enc := sgC) (m := N + 1) sg0 (tabE etab_ok xR) xC Tryz.underlying3 xR xR (by omega) (by unfold zeroIs; kernel_rfl) (by intro _; rfl) (by omega) (by omega) (by unfold maxLen; omega) (by omega) xR xR ?_; intro g2 G hG1 hG2)) | refine yL ?_ | (refine yA ?_; intro _ _ _ _)) | (refine gD ?_; first | (refine yN ?_; try simp only [cAp, nAp]) | refine yD ?_) | refine yJ ?_ | refine zd176Ru6 ?_ | (refine yI ?_ ?_ <;> intro _ <;> try exact xX) | (refine yK ?_ ?_ <;> intro hgb <;> first | subst hgb | fail_if_success have : type_of% hgb := rfl) | fail))
  all_goals (first | (exfalso; omega) | skip)
  refine JL_copyP (sgC z) (tabE etab_ok xR) xR (slA_lt (by omega)) xA xR (fun w hr => hsrcZ _ w hr ⟨_, by (first | ((with_reducible (repeat (first | exact Tk.here | apply Tk.there))); done) | ((simp only [List.cons_append, List.nil_append]); (with_reducible (repeat (first | exact Tk.here | apply Tk.there))); done) | fail)⟩) (by rw [hz2]; omega) (by rw [hz2, hgl]; omega) hz1 xR xR ?_
  obtain ⟨row, hrow⟩ : ∃ row, (flat sgC (List.replicate G sg0)).take (0 + 0 * 2) ++ sgC z ++ (flat sgC (List.replicate G sg0)).drop (0 + 0 * 2 + (sgC z).length) = row := ⟨_, rfl⟩
  have hrl : row.length = G * 2 := by
    rw [← hrow, List.length_append, List.length_append, List.length_take, List.length_drop, hgl, hz2]
    omega
  rw [hrow]
  (repeat' (first | (refine gL ?_; first | refine yL0 ?_ | (refine gL_c_copy ?_; (refine JD_copyP (flat sgC q) (tabE etab_ok xR) xR (slA_lt (by omega)) xA xR (fun w hr => hsrcQ _ w hr ⟨_, by (first | ((with_reducible (repeat (first | exact Tk.here | apply Tk.there))); done) | ((simp only [List.cons_append, List.nil_append]); (with_reducible (repeat (first | exact Tk.here | apply Tk.there))); done) | fail)⟩) (by rw [hlen]; omega) (by rw [hlen, hrl]; omega) (sg_one q) xR ?_)) | refine yL ?_ | (refine yA ?_; intro _ _ _ _)) | (refine gD ?_; first | (refine yN ?_; try simp only [cAp, nAp]) | (refine gD_c_copy ?_; (refine JD_copyP (flat sgC q) (tabE etab_ok xR) xR (slA_lt (by omega)) xA xR (fun w hr => hsrcQ _ w hr ⟨_, by (first | ((with_reducible (repeat (first | exact Tk.here | apply Tk.there))); done) | ((simp only [List.cons_append, List.nil_append]); (with_reducible (repeat (first | exact Tk.here | apply Tk.there))); done) | fail)⟩) (by rw [hlen]; omega) (by rw [hlen, hrl]; omega) (sg_one q) xR ?_)) | refine yD ?_) | refine yJ ?_ | refine zd176Ru6 ?_ | (refine yI ?_ ?_ <;> intro _ <;> try exact xX) | (refine yK ?_ ?_ <;> intro hgb <;> first | subst hgb | fail_if_success have : type_of% hgb := rfl) | fail))
  all_goals (first | (exfalso; omega) | skip)
  refine J_ret1 rfl (by rfl) fun w H => ⟨_, ⟨some ⟨g2, 0, none⟩, G, rfl, rfl⟩, ?_⟩
  have hfin : row.take (0 + 1 * 2) ++ flat sgC q ++ row.drop (0 + 1 * 2 + (flat sgC q).length) = flat sgC ((z :: q) ++ List.replicate (G - (N + 1)) sg0) := by
    have h3 : flat sgC (List.replicate G sg0) = flat sgC (List.replicate (N + 1) sg0) ++ flat sgC (List.replicate (G - (N + 1)) sg0) := by
      rw [← flat_append, List.replicate_append_replicate, show N + 1 + (G - (N + 1)) = G by omega]
    have hdr : (flat sgC (List.replicate G sg0)).drop ((N + 1) * 2) = flat sgC (List.replicate (G - (N + 1)) sg0) := by
      rw [h3]
      exact List.drop_left' (hgl _)
    have e1 : row.take 2 = sgC z := by
      rw [← hrow]
      simp only [Nat.zero_mul, Nat.add_zero, List.take_zero, List.nil_append]
      exact List.take_left' hz2
    have e2 : row.drop (2 + (flat sgC q).length) = flat sgC (List.replicate (G - (N + 1)) sg0) := by
      rw [← List.drop_drop, ← hrow]
      simp only [Nat.zero_mul, Nat.add_zero, Nat.zero_add, List.take_zero, List.nil_append]
      rw [List.drop_left' hz2, List.drop_drop, hz2, hlen, show 2 + N * 2 = (N + 1) * 2 by omega]
      exact hdr
    rw [show 0 + 1 * 2 = 2 from rfl, e1, e2, flat_append]
    rfl
  rw [hfin] at H
  have hll : ((z :: q) ++ List.replicate (G - (N + 1)) sg0).length = G := by simp; omega
  have H2 := Ow.arRow (m := N + 1) (sz := 2) H .here (by intro _; rfl) (by rw [hll]; omega) (by rw [hll]; exact hG2)
  rw [hll, List.take_left' (by simp [hN])] at H2
  exact H2.sel xZ
theorem insert_s (a : Option Addr) (b N : Nat) (q : List Sg) (z : Sg) (hN : q.length = N) (hq : N ≤ 1000) : Pact Tryz.prog 176 #[.slice a N N, .int .i64 0, .slice (some ⟨b, 0, none⟩) 1 1] (fun _ => True) [Ar 87 2 sgC (.slice a N N) q, pts b (sgC z) 87] (fun u L' => ∃ (a2 : Option Addr) (c2 : Nat), u = .slice a2 (N + 1) c2 ∧ L' = [Ar 87 2 sgC (.slice a2 (N + 1) c2) (z :: q)]) := by
  by_cases h0 : N = 0
  · subst h0
    obtain rfl := List.eq_nil_of_length_eq_zero hN
    exact insert_0 a b z
  · intro W K w hK H
    subst hN
    obtain ⟨g', cur, he, H2, hcl, hct, _⟩ := Ow.slOpen (W := W) (K := K) (n := q.length) (cap := q.length) H .here h0
    subst he
    rw [← hcl, List.take_length] at hct
    subst hct
    exact insert_p g' b q.length q z rfl hq h0 W K w hK H2
theorem prepend_no (a : Option Addr) (c : Nat) (p : List Sg) (n m : Int) (h8 : p.length ≤ 1000) (hsm : ∀ s ∈ p, SgN s) (hn : 1 ≤ n ∧ n ≤ 4294967295) (hm : 1 ≤ m ∧ m ≤ 10) (hno : ¬ (ckP (pN p) 0 = true ∧ m ≤ 64 - (tot (pN p) : Int))) : Pact Tryz.prog 153 #[.slice a p.length c, .int .u32 n, .int .i64 m] (fun w => PathV w a c p) [] (fun u L' => ∃ e : Int, e ≠ 0 ∧ u = .tuple #[.slice none 0 0, .int .i64 e] ∧ L' = []) := by
  refine pact Tryz.func153 rfl Tryz.ntmps153 rfl ?_
  intro W K hK
  have hC := pchk_s a c p h8 hsm
  have hT := count_s a c p h8 hsm
  have htl := tot_le p hsm
  have htb : (tot (pN p) : Int) ≤ 35184372088832000 := by omega
  obtain ⟨N, hN⟩ : ∃ N, tot (pN p) = N := ⟨_, rfl⟩
  rw [hN] at hT htb hno
  rcases hck : ckP (pN p) 0 with _ | _
  all_goals rw [hck] at hC hno
  · (repeat' (first | (refine gL ?_; first | refine yL0 ?_ | refine yL ?_ | (refine gL_go ?_; (refine JL_goq (hC) (hφ := (by (try simp only [cAp, nAp]); exact fun w hr => hK w hr.1)) (h := ?_); rintro _ _ ⟨rfl, rfl⟩; try simp only [cAp, nAp])) | (refine yM ?_; intro _) | (refine yA ?_; intro _ _ _ _)) | refine yJ ?_ | (refine yI ?_ ?_ <;> intro _ <;> try exact xX) | (refine yK ?_ ?_ <;> intro hgb <;> first | subst hgb | fail_if_success have : type_of% hgb := rfl) | fail))
    exact J_ret2 rfl (by rfl) (by rfl) fun w H => ⟨_, ⟨2, by decide, rfl, rfl⟩, H.sel .nil⟩
  · have hno2 : 64 - (N : Int) < m := by
      rcases Int.lt_or_le (64 - (N : Int)) m with h | h
      · exact h
      · exact absurd ⟨rfl, h⟩ hno
    (repeat' (first | (refine gL ?_; first | refine yL0 ?_ | refine yL ?_ | (refine gL_go ?_; first | (refine JL_goq (hC) (hφ := (by (try simp only [cAp, nAp]); exact fun w hr => hK w hr.1)) (h := ?_); rintro _ _ ⟨rfl, rfl⟩; try simp only [cAp, nAp]) | (refine JL_goq (hT) (hφ := (by (try simp only [cAp, nAp]); exact fun w hr => hK w hr.1)) (h := ?_); rintro _ _ ⟨rfl, rfl⟩; try simp only [cAp, nAp])) | (refine yM ?_; intro _) | (refine yA ?_; intro _ _ _ _)) | refine yJ ?_ | (refine yI ?_ ?_ <;> intro _ <;> try exact xX) | (refine yK ?_ ?_ <;> intro hgb <;> first | subst hgb | fail_if_success have : type_of% hgb := rfl) | fail))
    all_goals (first | (exfalso; omega) | skip)
    exact J_ret2 rfl (by rfl) (by rfl) fun w H => ⟨_, ⟨3, by decide, rfl, rfl⟩, H.sel .nil⟩

theorem preN_ins {n : Int} {m : Nat} {P : Pa} (h : ∀ l r, P ≠ (false, l) :: r) : preN n m P = (false, List.replicate m n) :: P := by
  match P, h with
  | [], _ => rfl
  | (true, l) :: r, _ => rfl
  | (false, l) :: r, h => exact absurd rfl (h l r)
theorem tot_mem {P : Pa} {s : Bool × List Int} (h : s ∈ P) : s.2.length ≤ tot P := by
  induction P with
  | nil => cases h
  | cons t r ih =>
    rcases List.mem_cons.1 h with rfl | h
    · simp only [tot]; omega
    · have := ih h
      simp only [tot]; omega
theorem ins_has {W : World} {K : Hl} {L R R2 R3 : List HP} {w : World} {a2 g2 : Option Addr} {c2 m : Nat} {n : Int} {q : List Sg} (H : Ow W K L w) (h1 : Tk L (Ar 87 2 sgC (.slice a2 (q.length + 1) c2) (⟨false, g2, m, List.replicate m n⟩ :: q)) R) (h2 : Tk R (Ar 22 1 u32C (.slice g2 m m) (List.replicate m n)) R2) (h3 : Tk R2 (has (fun w => ∀ s ∈ q, segV w s)) R3) : Ow W K [has (fun w => PathV w a2 c2 (⟨false, g2, m, List.replicate m n⟩ :: q))] w := by
  refine (Ow.has (M := [Ar 87 2 sgC (.slice a2 (q.length + 1) c2) (⟨false, g2, m, List.replicate m n⟩ :: q), Ar 22 1 u32C (.slice g2 m m) (List.replicate m n), has (fun w => ∀ x ∈ q, segV w x)]) (φ := fun w => PathV w a2 c2 (⟨false, g2, m, List.replicate m n⟩ :: q)) H (.cons h1 (.cons h2 (.cons h3 .nil))) (fun w hr => ⟨Src.ar .here w hr, fun x hx => ?_⟩)).sel xZ
  rcases List.mem_cons.1 hx with rfl | hx
  · have h9 := Src.ar (enc := u32C) (es := List.replicate m n) (.there .here) w hr
    show Vw w (.slice g2 (List.replicate m n).length m) 1 (List.replicate m n).length (flat u32C (List.replicate m n))
    rw [List.length_replicate] at h9 ⊢
    exact h9
  · exact hr.has (.there (.there .here)) x hx
theorem prepend_yes (a : Option Addr) (c : Nat) (p : List Sg) (n : Int) (m : Nat) (h8 : p.length ≤ 1000) (hsm : ∀ s ∈ p, SgN s) (hn : 1 ≤ n ∧ n ≤ 4294967295) (hm : 1 ≤ m ∧ m ≤ 10) (hck : ckP (pN p) 0 = true) (htt : (m : Int) ≤ 64 - (tot (pN p) : Int)) : Pact Tryz.prog 153 #[.slice a p.length c, .int .u32 n, .int .i64 m] (fun w => PathV w a c p) [] (fun u L' => ∃ a' c' q, u = .tuple #[.slice a' q.length c', .int .i64 0] ∧ pN q = preN n m (pN p) ∧ L' = [has (fun w => PathV w a' c' q)]) := by
  refine pact Tryz.func153 rfl Tryz.ntmps153 rfl ?_
  intro W K hK
  have hC := pchk_s a c p h8 hsm
  have hT := count_s a c p h8 hsm
  have htl := tot_le p hsm
  have htb : (tot (pN p) : Int) ≤ 35184372088832000 := by omega
  obtain ⟨N, hN⟩ : ∃ N, tot (pN p) = N := ⟨_, rfl⟩
  rw [hN] at hT htb htt
  rw [hck] at hC
  have hsgl : ∀ g2 : Option Addr, sgC ⟨false, g2, m, List.replicate m n⟩ = [.bool false, .slice g2 m m] := fun g2 => by unfold sgC; simp
  (repeat' (first | (refine gL ?_; first | refine yL0 ?_ | refine yL ?_ | (refine gL_go ?_; first | (refine JL_goq (hC) (hφ := (by (try simp only [cAp, nAp]); exact fun w hr => hK w hr.1)) (h := ?_); rintro _ _ ⟨rfl, rfl⟩; try simp only [cAp, nAp]) | (refine JL_goq (hT) (hφ := (by (try simp only [cAp, nAp]); exact fun w hr => hK w hr.1)) (h := ?_); rintro _ _ ⟨rfl, rfl⟩; try simp only [cAp, nAp]) | (refine JL_goq (pclone_s a c p h8 hsm) (hφ := (by (try simp only [cAp, nAp]); exact fun w hr => hK w hr.1)) (h := ?_); rintro _ _ ⟨g, q, rfl, hq, rfl⟩; try simp only [cAp, nAp]) | (refine JL_goq (repeat_s _ 1 n m hm.1 hm.2) (hφ := (by (try simp only [cAp, nAp]); exact fun w hr => Src.lit xA rfl (by decide) w hr)) (h := ?_); rintro _ _ ⟨g2, rfl, rfl⟩; try simp only [cAp, nAp])) | (refine yM ?_; intro _) | (refine yA ?_; intro _ _ _ _)) | refine yJ ?_ | (refine yI ?_ ?_ <;> intro _ <;> try exact xX) | (refine yK ?_ ?_ <;> intro hgb <;> first | subst hgb | fail_if_success have : type_of% hgb := rfl) | fail))
  all_goals (first | (exfalso; omega) | skip)
  all_goals (
    have hql := pN_len hq
    have hqn := pN_num hq hsm
    have hI : ∀ b, Pact Tryz.prog 176 #[.slice g q.length q.length, .int .i64 0, .slice (some ⟨b, 0, none⟩) 1 1] (fun _ => True) [Ar 87 2 sgC (.slice g q.length q.length) q, pts b [.bool false, .slice g2 m m] 87] (fun u L' => ∃ (a2 : Option Addr) (c2 : Nat), u = .slice a2 (q.length + 1) c2 ∧ L' = [Ar 87 2 sgC (.slice a2 (q.length + 1) c2) (⟨false, g2, m, List.replicate m n⟩ :: q)]) := fun b => by
      have := insert_s g b q.length q ⟨false, g2, m, List.replicate m n⟩ rfl (by omega)
      rwa [hsgl] at this
    skip)
  · rename_i h0
    obtain ⟨s, hs⟩ : ∃ s, q[0]? = some s := ⟨_, List.getElem?_eq_getElem (by omega)⟩
    have hms := List.mem_of_getElem? hs
    have hsn1 := (hqn s hms).1
    have hsn2 : s.as_.length ≤ N := by
      rw [← hN, ← hq]
      exact tot_mem (s := (s.set, s.as_)) (List.mem_map.2 ⟨s, hms, rfl⟩)
    (repeat' (first | (refine gL ?_; first | refine yL0 ?_ | (refine gL_c_append ?_; (refine JL_app (es := List.replicate m n) (fs := s.as_) (tabE etab_ok xR) xR xR xA (fun w hr => hr.has (φ := fun w => ∀ s ∈ q, segV w s) xA s hms) xC (by intro _; rfl) (all_one _ (by intro _ _; rfl)) (by rw [List.length_replicate]; omega) xR xR ?_; intro ad5 c5 _ _)) | (refine gL_store ?_; (refine JL_stEf (z' := (⟨s.set, ad5, c5, List.replicate m n ++ s.as_⟩ : Sg)) (by rfl) (by rfl) xA hs (by rfl) (by intro _; rfl) (by rfl) (by rfl) (by (first | ((repeat (first | exact Put.e | apply Put.t | apply Put.s)); done) | fail)) (by simp [sgC]) (by rfl) (by rfl) ?_)) | refine yL ?_ | (refine gL_go ?_; (refine JL_goq (hI _) (hφ := xF) (h := ?_); rintro _ _ ⟨a2, c2, rfl, rfl⟩; try simp only [cAp, nAp])) | (refine yM ?_; intro _) | (refine yA ?_; intro _ _ _ _)) | refine yJ ?_ | (refine yI ?_ ?_ <;> intro _ <;> try exact xX) | (refine yK ?_ ?_ <;> intro hgb <;> first | subst hgb | fail_if_success have : type_of% hgb := rfl) | fail))
    · obtain ⟨r, rfl⟩ : ∃ r, q = s :: r := by
        cases q with
        | nil => cases hs
        | cons x r => cases hs; exact ⟨r, rfl⟩
      refine J_ret2 rfl (by rfl) (by rfl) fun w H => ⟨_, ⟨g, (s :: r).length, (⟨s.set, ad5, c5, List.replicate m n ++ s.as_⟩ : Sg) :: r, rfl, ?_, rfl⟩, ?_⟩
      · rw [← hq]
        have hs0 : s.set = false := Bool.eq_false_iff.2 (by assumption)
        simp only [pN, List.map_cons, hs0, preN]
      · simp only [List.set_cons_zero, List.length_cons] at H
        refine (Ow.has (M := [Ar 87 2 sgC (.slice g (r.length + 1) (r.length + 1)) ((⟨s.set, ad5, c5, List.replicate m n ++ s.as_⟩ : Sg) :: r), Ar 22 1 u32C (.slice ad5 ((List.replicate m n).length + s.as_.length) c5) (List.replicate m n ++ s.as_), has (fun w => ∀ x ∈ s :: r, segV w x)]) (φ := fun w => PathV w g (r.length + 1) ((⟨s.set, ad5, c5, List.replicate m n ++ s.as_⟩ : Sg) :: r)) H xZ (fun w hr => ⟨Src.ar .here w hr, fun x hx => ?_⟩)).sel xZ
        rcases List.mem_cons.1 hx with rfl | hx
        · have h9 := Src.ar (.there .here) w hr
          rw [← List.length_append] at h9
          exact h9
        · exact hr.has (.there (.there .here)) x (List.mem_cons_of_mem _ hx)
    · refine J_ret2 rfl (by rfl) (by rfl) fun w H => ⟨_, ⟨a2, c2, ⟨false, g2, m, List.replicate m n⟩ :: q, rfl, ?_, rfl⟩, ?_⟩
      · rw [← hq, preN_ins]
        · rfl
        · intro l r he
          obtain ⟨r', rfl⟩ : ∃ r, q = s :: r := by
            cases q with
            | nil => cases hs
            | cons x r => cases hs; exact ⟨r, rfl⟩
          simp only [pN, List.map_cons, List.cons.injEq, Prod.mk.injEq] at he
          simp_all
      · exact ins_has H xA xA xA
  · (repeat' (first | (refine gL ?_; first | refine yL0 ?_ | refine yL ?_ | (refine gL_go ?_; (refine JL_goq (hI _) (hφ := xF) (h := ?_); rintro _ _ ⟨a2, c2, rfl, rfl⟩; try simp only [cAp, nAp])) | (refine yM ?_; intro _) | (refine yA ?_; intro _ _ _ _)) | refine yJ ?_ | (refine yI ?_ ?_ <;> intro _ <;> try exact xX) | (refine yK ?_ ?_ <;> intro hgb <;> first | subst hgb | fail_if_success have : type_of% hgb := rfl) | fail))
    refine J_ret2 rfl (by rfl) (by rfl) fun w H => ⟨_, ⟨a2, c2, ⟨false, g2, m, List.replicate m n⟩ :: q, rfl, ?_, rfl⟩, ?_⟩
    · rw [← hq, preN_ins]
      · rfl
      · intro l r he
        have h9 := congrArg List.length he
        simp only [pN, List.length_map, List.length_cons] at h9
        omega
    · exact ins_has H xA xA xA

def delU (n : Int) (l : List Int) : List Int := l.filter fun c => decide (c ≠ n)
theorem delU_snoc (n : Int) {l : List Int} {j : Nat} {x : Int} (h : l[j]? = some x) : delU n (l.take (j + 1)) = delU n (l.take j) ++ (if x = n then [] else [x]) := by
  rw [take_snoc h]
  unfold delU
  rw [List.filter_append]
  congr 1
  by_cases hx : x = n <;> simp [hx]
theorem delU_len (n : Int) (l : List Int) : (delU n l).length ≤ l.length := List.length_filter_le _ _
theorem delU_no {n : Int} {l : List Int} (h : n ∉ l) : delU n l = l := by
  unfold delU
  rw [List.filter_eq_self]
  intro x hx
  exact decide_eq_true (fun e => h (e ▸ hx))
theorem do1_s (gb : Nat) (n x : Int) : Pact Tryz.prog 155 [.int .u32 x, .pointer (some ⟨gb, 0, none⟩)].toArray (fun _ => True) [pts gb [.int .u32 n] 22] (fun u L' => u = .bool (decide (x = n)) ∧ L' = [pts gb [.int .u32 n] 22]) := by
  refine pact Tryz.func155 rfl Tryz.ntmps155 rfl ?_
  intro W K hK
  (repeat' (first | (refine gL ?_; first | refine yL0 ?_ | refine yL ?_) | refine yJ ?_ | fail))
  exact J_ret1 rfl (by rfl) fun w H => ⟨_, ⟨rfl, rfl⟩, H.sel xZ⟩
theorem indU_s (a : Option Addr) (c : Nat) (l : List Int) (db : Nat) (n : Int) (hl : l.length ≤ 1000) : Pact Tryz.prog 177 #[.slice a l.length c, .func (.func 155) #[] #[.pointer (some ⟨db, 0, none⟩)]] (fun w => Vw w (.slice a l.length c) 1 l.length (flat u32C l)) [pts db [.int .u32 n] 22] (fun u L' => ∃ z : Int, ((z = -1 ∧ n ∉ l) ∨ ∃ i : Nat, z = i ∧ l[i]? = some n ∧ n ∉ l.take i) ∧ u = .int .i64 z ∧ L' = [pts db [.int .u32 n] 22]) := by
  refine pact Tryz.func177 rfl Tryz.ntmps177 rfl ?_
  intro W K hK
  have ho : ownB Tryz.prog 155 = true := by decide +kernel
  (repeat' (first | (refine gL ?_; first | refine yL0 ?_ | refine yL ?_) | refine yJ ?_ | (refine yI ?_ ?_ <;> intro _ <;> try exact xX) | (refine yK ?_ ?_ <;> intro hgb <;> first | subst hgb | fail_if_success have : type_of% hgb := rfl) | fail))
  refine J_loop (α := Nat) 0 (fun k => l.length - k) (fun k => k ≤ l.length ∧ n ∉ l.take k) (fun k => [(0, .slice a l.length c), (1, .func (.func 155) #[] #[.pointer (some ⟨db, 0, none⟩)]), (7, .int .i64 l.length), (8, .int .i64 k)]) (fun _ => [pts db [.int .u32 n] 22]) ⟨Nat.zero_le _, by simp⟩ ⟨rfl, rfl, rfl, rfl, trivial⟩ (fun w H => H.sel xZ) ?_
  rintro k ⟨hk, hall⟩
  by_cases hlt : k < l.length
  · obtain ⟨y, hy⟩ : ∃ y, l[k]? = some y := ⟨_, List.getElem?_eq_getElem hlt⟩
    have hPy := do1_s db n y
    by_cases hyn : y = n
    · rw [decide_eq_true hyn] at hPy
      (repeat' (first | (refine gL ?_; first | refine yL0 ?_ | refine yL ?_ | (refine gL_go ?_; (refine JL_goq (hPy) (hφ := xF) (h := ?_); rintro _ _ ⟨rfl, rfl⟩; try simp only [cAp, nAp]))) | refine yJ ?_ | (refine yI ?_ ?_ <;> intro _ <;> try exact xX) | (refine yK ?_ ?_ <;> intro hgb <;> first | subst hgb | fail_if_success have : type_of% hgb := rfl) | fail))
      exact J_ret1 rfl (by rfl) fun w H => ⟨_, ⟨k, .inr ⟨k, rfl, hyn ▸ hy, hall⟩, rfl, rfl⟩, H.sel xZ⟩
    · rw [decide_eq_false hyn] at hPy
      (repeat' (first | (refine gL ?_; first | refine yL0 ?_ | refine yL ?_ | (refine gL_go ?_; (refine JL_goq (hPy) (hφ := xF) (h := ?_); rintro _ _ ⟨rfl, rfl⟩; try simp only [cAp, nAp]))) | refine yJ ?_ | (refine yI ?_ ?_ <;> intro _ <;> try exact xX) | (refine yK ?_ ?_ <;> intro hgb <;> first | subst hgb | fail_if_success have : type_of% hgb := rfl) | fail))
      exact J_again (k + 1) (by omega) ⟨by omega, by rw [take_snoc hy]; simp only [List.mem_append, List.mem_singleton]; rintro (h | h); exact hall h; exact hyn h.symm⟩ ⟨rfl, rfl, rfl, rfl, trivial⟩ (fun w H => H.sel xZ)
  · obtain rfl : k = l.length := by omega
    rw [List.take_length] at hall
    (repeat' (first | (refine gL ?_; first | refine yL0 ?_ | refine yL ?_) | refine yJ ?_ | (refine yI ?_ ?_ <;> intro _ <;> try exact xX) | (refine yK ?_ ?_ <;> intro hgb <;> first | subst hgb | fail_if_success have : type_of% hgb := rfl) | fail))
    exact J_ret1 rfl (by rfl) fun w H => ⟨_, ⟨-1, .inl ⟨rfl, hall⟩, rfl, rfl⟩, H.sel xZ⟩
structure Ld where
  j : Nat
  xs : List Int
theorem deleteU_s (a : Option Addr) (c : Nat) (l : List Int) (db : Nat) (n : Int) (hl : l.length ≤ 1000) : Pact Tryz.prog 154 #[.slice a l.length c, .func (.func 155) #[] #[.pointer (some ⟨db, 0, none⟩)]] (fun _ => True) [Ar 22 1 u32C (.slice a l.length c) l, pts db [.int .u32 n] 22] (fun u L' => ∃ a' c', u = .slice a' (delU n l).length c' ∧ L' = [Ar 22 1 u32C (.slice a' (delU n l).length c') (delU n l), pts db [.int .u32 n] 22]) := by
  have ho : ownB Tryz.prog 155 = true := by decide +kernel
  refine pact Tryz.func154 rfl Tryz.ntmps154 rfl ?_
  intro W K hK
  refine J_fact (φ := l.length ≤ c ∧ c ≤ maxLen) (fun w H => (H.arShape .here).2) ?_
  rintro ⟨hnc, hcm⟩
  unfold maxLen at hcm
  (repeat' (first | (refine gL ?_; first | refine yL0 ?_ | refine yL ?_ | (refine gL_go ?_; (refine JL_goq (indU_s a c l db n hl) (hφ := (by (try simp only [cAp, nAp]); exact fun w hr => Src.ar xA w hr)) (h := ?_); rintro _ _ ⟨z, hz, rfl, rfl⟩; try simp only [cAp, nAp]))) | refine yJ ?_ | (refine yI ?_ ?_ <;> intro _ <;> try exact xX) | (refine yK ?_ ?_ <;> intro hgb <;> first | subst hgb | fail_if_success have : type_of% hgb := rfl) | fail))
  · rcases hz with ⟨_, hno⟩ | ⟨i, rfl, _⟩
    · rw [delU_no hno]
      exact J_ret1 rfl (by rfl) fun w H => ⟨_, ⟨a, c, rfl, rfl⟩, H.sel xZ⟩
    · exfalso; omega
  · rcases hz with ⟨rfl, hno⟩ | ⟨i, rfl, hin, hno⟩
    · exfalso; omega
    have hil := (List.getElem?_eq_some_iff.1 hin).1
    have hk1 : delU n (l.take (i + 1)) = l.take i := by rw [delU_snoc n hin, delU_no hno, if_pos rfl, List.append_nil]
    have hkl : (l.take i).length = i := by simp; omega
    (repeat' (first | (refine gL ?_; first | refine yL0 ?_ | refine yL ?_) | refine yJ ?_ | (refine yI ?_ ?_ <;> intro _ <;> try exact xX) | (refine yK ?_ ?_ <;> intro hgb <;> first | subst hgb | fail_if_success have : type_of% hgb := rfl) | fail))
    refine J_loop (α := Ld) ⟨i + 1, l⟩ (fun x => l.length - x.j) (fun x => x.j ≤ l.length ∧ x.xs.length = l.length ∧ (delU n (l.take x.j)).length < x.j ∧ x.xs.take (delU n (l.take x.j)).length = delU n (l.take x.j) ∧ x.xs.drop x.j = l.drop x.j)
      (fun x => [(0, .slice a l.length c), (1, .func (.func 155) #[] #[.pointer (some ⟨db, 0, none⟩)]), (5, .int .i64 (delU n (l.take x.j)).length), (6, .int .i64 x.j)]) (fun x => [Ar 22 1 u32C (.slice a l.length c) x.xs, pts db [.int .u32 n] 22]) ?_ ?_ (fun w H => H.sel xZ) ?_
    · dsimp only; rw [hk1, hkl]; exact ⟨hil, rfl, by omega, rfl, rfl⟩
    · dsimp only
      rw [hk1, hkl]
      refine ⟨rfl, rfl, rfl, ?_, trivial⟩
      show some (Value.int .i64 (IntKind.i64.wrap ((i : Int) + 1))) = some (Value.int .i64 ((i + 1 : Nat) : Int))
      rw [w_i64 (by omega) (by omega)]
      rfl
    rintro ⟨j, xs⟩ ⟨hj, hxl, hkj, hxt, hxd⟩
    dsimp only at hj hxl hkj hxt hxd ⊢
    by_cases hlt : j < l.length
    · obtain ⟨o, hs⟩ : ∃ o, l[j]? = some o := ⟨_, List.getElem?_eq_getElem hlt⟩
      have hxs : xs[j]? = some o := by have := congrArg (·[0]?) hxd; simpa [hs] using this
      have hke := delU_snoc n hs
      have hPo := do1_s db n o
      by_cases hon : o = n
      · rw [decide_eq_true hon] at hPo
        rw [if_pos hon, List.append_nil] at hke
        (repeat' (first | (refine gL ?_; first | refine yL0 ?_ | refine yL ?_ | (refine gL_go ?_; (refine JL_goq (hPo) (hφ := xF) (h := ?_); rintro _ _ ⟨rfl, rfl⟩; try simp only [cAp, nAp]))) | refine yJ ?_ | (refine yI ?_ ?_ <;> intro _ <;> try exact xX) | (refine yK ?_ ?_ <;> intro hgb <;> first | subst hgb | fail_if_success have : type_of% hgb := rfl) | fail))
        refine J_again ⟨j + 1, xs⟩ (by dsimp only; omega) ?_ ?_ (fun w H => H.sel xZ)
        · dsimp only
          rw [hke]
          exact ⟨hlt, hxl, by omega, hxt, by rw [← List.drop_drop, hxd, List.drop_drop]⟩
        · refine ⟨rfl, rfl, ?_, rfl, trivial⟩
          show some _ = some _
          rw [hke]
      · rw [decide_eq_false hon] at hPo
        rw [if_neg hon] at hke
        have hil2 : (delU n (l.take j)).length < xs.length := by omega
        (repeat' (first | (refine gL ?_; first | refine yL0 ?_ | refine yL ?_ | (refine gL_go ?_; (refine JL_goq (hPo) (hφ := xF) (h := ?_); rintro _ _ ⟨rfl, rfl⟩; try simp only [cAp, nAp]))) | refine yJ ?_ | (refine yI ?_ ?_ <;> intro _ <;> try exact xX) | (refine yK ?_ ?_ <;> intro hgb <;> first | subst hgb | fail_if_success have : type_of% hgb := rfl) | fail))
        refine J_again ⟨j + 1, xs.set (delU n (l.take j)).length o⟩ (by dsimp only; omega) ?_ ?_ (fun w H => H.sel xZ)
        · dsimp only
          rw [hke]
          refine ⟨hlt, by simp [hxl], by simp; omega, ?_, ?_⟩
          · rw [List.length_append, List.length_singleton, List.take_add_one, List.getElem?_set_self hil2, List.take_set_of_le (Nat.le_refl _), hxt]
            rfl
          · rw [List.drop_set_of_lt (by omega), ← List.drop_drop, hxd, List.drop_drop]
        · refine ⟨rfl, rfl, ?_, rfl, trivial⟩
          show some _ = some _
          rw [hke, List.length_append]
          rfl
    · obtain rfl : j = l.length := by omega
      rw [List.take_length] at *
      (repeat' (first | (refine gL ?_; first | refine yL0 ?_ | (refine gL_c_clear ?_; refine JL_clear (0 : Int) (tabE etab_ok (by rfl)) (by rfl) (by with_reducible exact Tk.here) (by rfl) (by decide +kernel) (by decide +kernel) (by intro _; rfl) (by omega) (by rfl) ?_) | refine yL ?_) | refine yJ ?_ | (refine yI ?_ ?_ <;> intro _ <;> try exact xX) | (refine yK ?_ ?_ <;> intro hgb <;> first | subst hgb | fail_if_success have : type_of% hgb := rfl) | fail))
      refine J_ret1 rfl (by rfl) fun w H => ⟨_, ⟨a, c, rfl, rfl⟩, ?_⟩
      have hkl2 := delU_len n l
      have H2 := H.arTake .here (by intro _; rfl) (delU n l).length (by simp; omega)
      rw [List.take_append_of_le_length (by simp; omega), List.take_take, Nat.min_self, hxt] at H2
      exact H2.sel xZ
theorem zd121Ru9 {p q : Prop} (k : p) (h : p → q := by intro hk; first | exact J_draw (id := 9) [0, 1, 2, 3, 4, 5, 6, 7] [8, 9, 10, 11, 12, 13] mixed xC xD xD hk | exact J_draw (id := 12) [0, 1, 2, 3, 4, 5, 6] [7, 8, 9, 10] mixed xC xD xD hk | exact J_draw (id := 13) [0, 1, 2, 3, 4, 5, 6] [7, 8, 9, 10] mixed xC xD xD hk | exact J_draw (id := 14) [0, 1, 2, 3, 4, 5] [6] mixed xC xD xD hk | exact J_draw (id := 16) [0, 1, 2, 3, 4, 5, 7, 6, 8, 9] [10, 11, 12, 13] mixed xC xD xD hk | fail) : q := h k

abbrev routeC (p : Pf) (d : At) : List Value := [.int .u32 p.1, .int .i64 p.2, .int .i64 d.origin, .slice d.pa d.path.length d.pc, .int .u32 d.next, .bool d.hasMed, .int .u32 d.med, .bool d.hasLocal, .int .u32 d.loc, .bool d.atomic, .bool d.hasMaker, .int .u32 d.makerAS, .int .u32 d.maker, .slice d.ca d.comms.length d.cc, .slice d.oa d.others.length d.oc]
def DoR (rb : Nat) (p : Pf) (d : At) (r : Option Nf) (u : Value) (L' : List HP) : Prop := ∃ (d' : At) (ok : Bool), AtF d' ∧ u = .bool ok ∧ r = (if ok = true then some d'.nf else none) ∧ L' = [pts rb (routeC p d') 157, has (fun w => AtV w d → AtV w d')]
theorem do_same {rb : Nat} {p : Pf} {d : At} {r : Option Nf} (hd : AtF d) (ok : Bool) (hr : r = (if ok = true then some d.nf else none)) {W : World} {K : Hl} {L : List HP} {w : World} {R : List HP} (H : Ow W K L w) (t : Tk L (pts rb (routeC p d) 157) R) : ∃ L', DoR rb p d r (.bool ok) L' ∧ Ow W K L' w :=
  ⟨_, ⟨d, ok, hd, rfl, hr, rfl⟩, (Ow.hasTrue (φ := fun w => AtV w d → AtV w d) (H.tk t) (fun _ h => h)).sel xZ⟩
theorem do_jump (rb : Nat) (p : Pf) (d : At) (hd : AtF d) (s : Sp) (ho : s.op = 21) : Pact Tryz.prog 121 #[.pointer (some ⟨rb, 0, none⟩), .agg (spC s).toArray] (fun w => AtV w d) [pts rb (routeC p d) 157] (DoR rb p d (some d.nf)) := by
  refine pact Tryz.func121 rfl Tryz.ntmps121 rfl ?_
  intro W K hK
  (repeat' (first | (refine gL ?_; first | refine yL0 ?_ | refine yL ?_ | (refine yM ?_; intro _)) | (refine gD ?_; first | (refine yN ?_; try simp only [cAp, nAp]) | refine yD ?_ | (refine yE ?_; intro _) | (refine yB ?_; intro _ _ _ _)) | refine yJ ?_ | refine zd121Ru9 ?_ | (refine yI ?_ ?_ <;> intro _ <;> try exact xX) | (refine yK ?_ ?_ <;> intro hgb <;> first | subst hgb | fail_if_success have : type_of% hgb := rfl) | fail))
  refine J_scope (α := Unit) 0 (fun _ => 0) (fun _ => False) (fun _ => []) (fun _ => []) rfl rfl ?_ (fun _ h => h.elim)
  simp only [List.map_cons, List.map_nil, List.cons_append, List.nil_append]
  (repeat' (first | (refine gL ?_; first | refine yL0 ?_ | refine yL ?_ | (refine yM ?_; intro _)) | (refine gD ?_; first | (refine yN ?_; try simp only [cAp, nAp]) | refine yD ?_ | (refine yE ?_; intro _) | (refine yB ?_; intro _ _ _ _)) | refine yJ ?_ | refine zd121Ru9 ?_ | (refine yI ?_ ?_ <;> intro _ <;> try exact xX) | (refine yK ?_ ?_ <;> intro hgb <;> first | subst hgb | fail_if_success have : type_of% hgb := rfl) | fail))
  all_goals (first | (exfalso; omega) | skip)
  exact J_ret1 rfl (by rfl) fun w H => do_same hd true rfl H xA
theorem do_local (rb : Nat) (p : Pf) (d : At) (hd : AtF d) (s : Sp) (ho : s.op = 25) (hn : 0 ≤ s.n ∧ s.n ≤ 4294967295) : Pact Tryz.prog 121 #[.pointer (some ⟨rb, 0, none⟩), .agg (spC s).toArray] (fun w => AtV w d) [pts rb (routeC p d) 157] (DoR rb p d (doN 5 s.n s.m d.nf)) := by
  refine pact Tryz.func121 rfl Tryz.ntmps121 rfl ?_
  intro W K hK
  (repeat' (first | (refine gL ?_; first | refine yL0 ?_ | refine yL ?_ | (refine yM ?_; intro _)) | (refine gD ?_; first | (refine yN ?_; try simp only [cAp, nAp]) | refine yD ?_ | (refine yE ?_; intro _) | (refine yB ?_; intro _ _ _ _)) | refine yJ ?_ | refine zd121Ru9 ?_ | (refine yI ?_ ?_ <;> intro _ <;> try exact xX) | (refine yK ?_ ?_ <;> intro hgb <;> first | subst hgb | fail_if_success have : type_of% hgb := rfl) | fail))
  refine J_scope (α := Unit) 0 (fun _ => 0) (fun _ => False) (fun _ => []) (fun _ => []) rfl rfl ?_ (fun _ h => h.elim)
  simp only [List.map_cons, List.map_nil, List.cons_append, List.nil_append]
  (repeat' (first | (refine gL ?_; first | refine yL0 ?_ | refine yL ?_ | (refine yM ?_; intro _)) | (refine gD ?_; first | (refine yN ?_; try simp only [cAp, nAp]) | refine yD ?_ | (refine yE ?_; intro _) | (refine yB ?_; intro _ _ _ _)) | refine yJ ?_ | refine zd121Ru9 ?_ | (refine yI ?_ ?_ <;> intro _ <;> try exact xX) | (refine yK ?_ ?_ <;> intro hgb <;> first | subst hgb | fail_if_success have : type_of% hgb := rfl) | fail))
  all_goals (first | (exfalso; omega) | skip)
  refine J_ret1 rfl (by rfl) fun w H => ⟨_, ⟨{ d with hasLocal := true, loc := s.n }, true, ⟨⟨hd.num.origin, hd.num.next, hd.num.med, hn, hd.num.makerAS, hd.num.maker, hd.num.path, hd.num.comms, hd.num.others⟩, hd.path, hd.comms, hd.others⟩, rfl, rfl, rfl⟩, ?_⟩
  exact (Ow.hasTrue (φ := fun w => AtV w d → AtV w { d with hasLocal := true, loc := s.n }) H (fun _ h => ⟨h.path, h.comms, h.others⟩)).sel xZ
theorem do_med (rb : Nat) (p : Pf) (d : At) (hd : AtF d) (s : Sp) (ho : s.op = 26) (hn : 0 ≤ s.n ∧ s.n ≤ 4294967295) : Pact Tryz.prog 121 #[.pointer (some ⟨rb, 0, none⟩), .agg (spC s).toArray] (fun w => AtV w d) [pts rb (routeC p d) 157] (DoR rb p d (doN 6 s.n s.m d.nf)) := by
  refine pact Tryz.func121 rfl Tryz.ntmps121 rfl ?_
  intro W K hK
  (repeat' (first | (refine gL ?_; first | refine yL0 ?_ | refine yL ?_ | (refine yM ?_; intro _)) | (refine gD ?_; first | (refine yN ?_; try simp only [cAp, nAp]) | refine yD ?_ | (refine yE ?_; intro _) | (refine yB ?_; intro _ _ _ _)) | refine yJ ?_ | refine zd121Ru9 ?_ | (refine yI ?_ ?_ <;> intro _ <;> try exact xX) | (refine yK ?_ ?_ <;> intro hgb <;> first | subst hgb | fail_if_success have : type_of% hgb := rfl) | fail))
  refine J_scope (α := Unit) 0 (fun _ => 0) (fun _ => False) (fun _ => []) (fun _ => []) rfl rfl ?_ (fun _ h => h.elim)
  simp only [List.map_cons, List.map_nil, List.cons_append, List.nil_append]
  (repeat' (first | (refine gL ?_; first | refine yL0 ?_ | refine yL ?_ | (refine yM ?_; intro _)) | (refine gD ?_; first | (refine yN ?_; try simp only [cAp, nAp]) | refine yD ?_ | (refine yE ?_; intro _) | (refine yB ?_; intro _ _ _ _)) | refine yJ ?_ | refine zd121Ru9 ?_ | (refine yI ?_ ?_ <;> intro _ <;> try exact xX) | (refine yK ?_ ?_ <;> intro hgb <;> first | subst hgb | fail_if_success have : type_of% hgb := rfl) | fail))
  all_goals (first | (exfalso; omega) | skip)
  refine J_ret1 rfl (by rfl) fun w H => ⟨_, ⟨{ d with hasMed := true, med := s.n }, true, ⟨⟨hd.num.origin, hd.num.next, hn, hd.num.loc, hd.num.makerAS, hd.num.maker, hd.num.path, hd.num.comms, hd.num.others⟩, hd.path, hd.comms, hd.others⟩, rfl, rfl, rfl⟩, ?_⟩
  exact (Ow.hasTrue (φ := fun w => AtV w d → AtV w { d with hasMed := true, med := s.n }) H (fun _ h => ⟨h.path, h.comms, h.others⟩)).sel xZ
end Go.Proofs.YtdnokmpnemaoaaaGreat.C
