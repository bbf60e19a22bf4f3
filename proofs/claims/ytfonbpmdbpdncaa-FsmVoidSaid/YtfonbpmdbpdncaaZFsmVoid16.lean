/-
  Fs16, Fs20, Fs21: merged.
-/
import Derived.Test.YtfonbpmdbpdncaaZFsmVoid15
namespace Go.Proofs.Ytfonbpmdbpdncaa
set_option linter.unusedSimpArgs false
set_option linter.unusedVariables false
set_option maxRecDepth 20000
set_option maxHeartbeats 4000000
open Go.RowKit Go.Pm

set_option maxRecDepth 4000 in
theorem params_s (ob : Nat) (o : Op_) (a : Option Addr) (n c : Nat) (l : List Int) (hn : l.length = n) (hb : U8s l) (hL : n ≤ 1000) : Pact Try.prog 75 #[.pointer (some ⟨ob, 0, none⟩), .slice a n c] (fun w => Vw w (.slice a n c) 1 n (flat byC l)) [pts ob (opC o) 40] (fun u L' => ∃ z r o', o'.hold = o.hold ∧ u = .tuple #[.int .i64 z, .bool r] ∧ L' = [pts ob (opC o') 40]) := by
  refine pact Try.func75 rfl Try.ntmps75 rfl ?_
  intro W K hK
  (repeat' (first | ((with_reducible apply gL); (first | refine yL0 ?_ | refine yL ?_ | fail)) | ((with_reducible apply gD); (first | (refine JD_nil ?_; try simp only [List.cons_append, List.nil_append]) | (refine JD_bar ?_; try simp only [List.cons_append, List.nil_append]) | refine yD ?_ | fail)) | refine yJ ?_ | ((with_reducible apply gJ_if); (first | (refine J_if xR ?_ ?_ <;> intro _ <;> (try (exfalso; first | contradiction | omega))) | (refine J_ifb xR ?_ ?_ <;> (intro hgb; subst hgb)) | (refine J_ifb xR ?_ ?_ <;> intro _) | fail)) | refine J_draw (id := 10) [0, 1, 2, 3, 4, 5] [6] mixed xC xD xD ?_ | fail))
  refine J_loop (α := Qbs) ⟨a, n, c, l, o⟩ (fun x => x.n) (fun x => x.l.length = x.n ∧ U8s x.l ∧ x.n ≤ 1000 ∧ x.o.hold = o.hold ∧ Kn K (fun w => Vw w (.slice x.a x.n x.c) 1 x.n (flat byC x.l))) (fun x => [(0, .pointer (some ⟨ob, 0, none⟩)), (1, .slice x.a x.n x.c)]) (fun x => [pts ob (opC x.o) 40]) ⟨hn, hb, hL, rfl, hK⟩ ⟨rfl, rfl, trivial⟩ (fun w H => H.sel xZ) ?_
  clear hK hn hb hL
  rintro ⟨a, n, c, l, o2⟩ hi
  dsimp only at hi ⊢
  obtain ⟨hn, hb, hL, ho, hK⟩ := hi
  by_cases h0 : n = 0
  · (repeat' (first | ((with_reducible apply gL); (first | refine yL0 ?_ | refine yL ?_ | fail)) | ((with_reducible apply gD); (first | (refine JD_nil ?_; try simp only [List.cons_append, List.nil_append]) | (refine JD_bar ?_; try simp only [List.cons_append, List.nil_append]) | refine yD ?_ | fail)) | refine yJ ?_ | ((with_reducible apply gJ_if); (first | (refine J_if xR ?_ ?_ <;> intro _ <;> (try (exfalso; first | contradiction | omega))) | (refine J_ifb xR ?_ ?_ <;> (intro hgb; subst hgb)) | (refine J_ifb xR ?_ ?_ <;> intro _) | fail)) | refine J_draw (id := 10) [0, 1, 2, 3, 4, 5] [6] mixed xC xD xD ?_ | fail))
    all_goals (first | (exfalso; omega) | skip)
    exact J_ret2 rfl (by rfl) (by rfl) fun w H => ⟨_, ⟨_, _, o2, ho, rfl, rfl⟩, H.sel xZ⟩
  by_cases hno : n < 2 ∨ ∃ y, l[1]? = some y ∧ (n : Int) - 2 < y
  · have k1 := partno_s a n c l hn hb hno hL
    (repeat' (first | ((with_reducible apply gL); (first | refine yL0 ?_ | refine yL ?_ | ((with_reducible apply gL_go); (first | (refine JL_goq (k1) (hφ := (by (try simp only [List.cons_append, List.nil_append]); exact fun w hr => hK w hr.1)) (h := ?_); rintro _ _ ⟨rfl, rfl⟩; try simp only [List.cons_append, List.nil_append]) | fail)) | fail)) | ((with_reducible apply gD); (first | (refine JD_nil ?_; try simp only [List.cons_append, List.nil_append]) | (refine JD_bar ?_; try simp only [List.cons_append, List.nil_append]) | refine yD ?_ | fail)) | refine yJ ?_ | ((with_reducible apply gJ_if); (first | (refine J_if xR ?_ ?_ <;> intro _ <;> (try (exfalso; first | contradiction | omega))) | (refine J_ifb xR ?_ ?_ <;> (intro hgb; subst hgb)) | (refine J_ifb xR ?_ ?_ <;> intro _) | fail)) | refine J_draw (id := 10) [0, 1, 2, 3, 4, 5] [6] mixed xC xD xD ?_ | fail))
    all_goals (first | (exfalso; omega) | skip)
    exact J_ret2 rfl (by rfl) (by rfl) fun w H => ⟨_, ⟨_, _, o2, ho, rfl, rfl⟩, H.sel xZ⟩
  · obtain ⟨x, m, h1, h2, hm⟩ := part_get hn hb hno
    have k1 := part_s a n c l hn hb x m h1 h2 hm hL
    have hK2 : Kn K (fun w => Vw w (.slice (slA a c 2 1) m (c - 2)) 1 m (flat byC ((l.drop 2).take m))) := (kn_drop hK hn 2 (n - 2) (by omega) rfl).imp fun w h => Vw_take' h (fun _ => rfl) (by rw [List.length_drop, hn]) m (by omega)
    have k2 := capabs_s ob o2 (slA a c 2 1) m (c - 2) ((l.drop 2).take m) (by rw [List.length_take, List.length_drop]; omega) ((hb.drop 2).take m) (by omega)
    (repeat' (first | ((with_reducible apply gL); (first | refine yL0 ?_ | refine yL ?_ | ((with_reducible apply gL_go); (first | (refine JL_goq (k1) (hφ := (by (try simp only [List.cons_append, List.nil_append]); exact fun w hr => hK w hr.1)) (h := ?_); rintro _ _ ⟨rfl, rfl⟩; try simp only [List.cons_append, List.nil_append]) | (refine JL_goq (k2) (hφ := (by (try simp only [List.cons_append, List.nil_append]); exact fun w hr => hK2 w hr.1)) (h := ?_); rintro _ _ ⟨r, o3, ho3, rfl, rfl⟩; try simp only [List.cons_append, List.nil_append]) | fail)) | fail)) | ((with_reducible apply gD); (first | (refine JD_nil ?_; try simp only [List.cons_append, List.nil_append]) | (refine JD_bar ?_; try simp only [List.cons_append, List.nil_append]) | refine yD ?_ | fail)) | refine yJ ?_ | ((with_reducible apply gJ_if); (first | (refine J_if xR ?_ ?_ <;> intro _ <;> (try (exfalso; first | contradiction | omega))) | (refine J_ifb xR ?_ ?_ <;> (intro hgb; subst hgb)) | (refine J_ifb xR ?_ ?_ <;> intro _) | fail)) | refine J_draw (id := 10) [0, 1, 2, 3, 4, 5] [6] mixed xC xD xD ?_ | fail))
    · exact J_ret2 rfl (by rfl) (by rfl) fun w H => ⟨_, ⟨_, _, o2, ho, rfl, rfl⟩, H.sel xZ⟩
    · exact J_ret2 rfl (by rfl) (by rfl) fun w H => ⟨_, ⟨_, _, o3, ho3.trans ho, rfl, rfl⟩, H.sel xZ⟩
    · exact J_again ⟨slA a c (m + 2) 1, n - (m + 2), c - (m + 2), l.drop (m + 2), o3⟩ (by dsimp only; omega) ⟨by simp only [List.length_drop]; omega, hb.drop _, by dsimp only; omega, ho3.trans ho, kn_drop hK hn (m + 2) _ (by omega) rfl⟩ ⟨rfl, rfl, trivial⟩ (fun w H => H.sel xZ)
theorem params0_s (ob : Nat) (o : Op_) (ho : o.as_ ≠ 0) (a : Option Addr) (c : Nat) : Pact Try.prog 75 #[.pointer (some ⟨ob, 0, none⟩), .slice a 0 c] (fun _ => True) [pts ob (opC o) 40] (fun u L' => u = .tuple #[.int .i64 2, .bool false] ∧ L' = [pts ob (opC o) 40]) := by
  refine pact Try.func75 rfl Try.ntmps75 rfl ?_
  intro W K hK
  (repeat' (first | ((with_reducible apply gL); (first | refine yL0 ?_ | refine yL ?_ | fail)) | ((with_reducible apply gD); (first | (refine JD_nil ?_; try simp only [List.cons_append, List.nil_append]) | (refine JD_bar ?_; try simp only [List.cons_append, List.nil_append]) | refine yD ?_ | fail)) | refine yJ ?_ | ((with_reducible apply gJ_if); (first | (refine J_if xR ?_ ?_ <;> intro _ <;> (try (exfalso; first | contradiction | omega))) | (refine J_ifb xR ?_ ?_ <;> (intro hgb; subst hgb)) | (refine J_ifb xR ?_ ?_ <;> intro _) | fail)) | refine J_draw (id := 10) [0, 1, 2, 3, 4, 5] [6] mixed xC xD xD ?_ | fail))
  refine J_loop (α := Unit) () (fun x => 0) (fun x => True) (fun x => [(0, .pointer (some ⟨ob, 0, none⟩)), (1, .slice a 0 c)]) (fun x => [pts ob (opC o) 40]) trivial ⟨rfl, rfl, trivial⟩ (fun w H => H.sel xZ) ?_
  intro _ _
  (repeat' (first | ((with_reducible apply gL); (first | refine yL0 ?_ | refine yL ?_ | fail)) | ((with_reducible apply gD); (first | (refine JD_nil ?_; try simp only [List.cons_append, List.nil_append]) | (refine JD_bar ?_; try simp only [List.cons_append, List.nil_append]) | refine yD ?_ | fail)) | refine yJ ?_ | ((with_reducible apply gJ_if); (first | (refine J_if xR ?_ ?_ <;> intro _ <;> (try (exfalso; first | contradiction | omega))) | (refine J_ifb xR ?_ ?_ <;> (intro hgb; subst hgb)) | (refine J_ifb xR ?_ ?_ <;> intro _) | fail)) | refine J_draw (id := 10) [0, 1, 2, 3, 4, 5] [6] mixed xC xD xD ?_ | fail))
  rw [decide_eq_false ho]
  exact J_ret2 rfl (by rfl) (by rfl) fun w H => ⟨_, ⟨rfl, rfl⟩, H.sel xZ⟩
theorem ten_get {l : List Int} (h : 10 ≤ l.length) : ∃ x0 x1 x2 x3 x4 x5 x6 x7 x8 x9, l[0]? = some x0 ∧ l[1]? = some x1 ∧ l[2]? = some x2 ∧ l[3]? = some x3 ∧ l[4]? = some x4 ∧ l[5]? = some x5 ∧ l[6]? = some x6 ∧ l[7]? = some x7 ∧ l[8]? = some x8 ∧ l[9]? = some x9 :=
  ⟨_, _, _, _, _, _, _, _, _, _, List.getElem?_eq_getElem (by omega), List.getElem?_eq_getElem (by omega), List.getElem?_eq_getElem (by omega), List.getElem?_eq_getElem (by omega), List.getElem?_eq_getElem (by omega), List.getElem?_eq_getElem (by omega), List.getElem?_eq_getElem (by omega), List.getElem?_eq_getElem (by omega), List.getElem?_eq_getElem (by omega), List.getElem?_eq_getElem (by omega)⟩
set_option maxRecDepth 4000 in
theorem oread_s (a : Option Addr) (n c : Nat) (l : List Int) (hn : l.length = n) (hb : U8s l) (hL : n ≤ 1000) : Pact Try.prog 69 #[.slice a n c] (fun w => Vw w (.slice a n c) 1 n (flat byC l)) [] (fun u L' => ∃ o z sub fa fn fc fl r, (0 ≤ o.hold ∧ o.hold ≤ 65535) ∧ fl.length = fn ∧ fn ≤ 2 ∧ u = .tuple #[.agg (opC o).toArray, .agg #[.int .i64 z, .int .i64 sub, .slice fa fn fc], .bool r] ∧ L' = [Ar 5 1 byC (.slice fa fn fc) fl]) := by
  refine pact Try.func69 rfl Try.ntmps69 rfl ?_
  intro W K hK
  refine J_fact (φ := n ≤ c) (fun w H => by obtain ⟨_, _, he, _, h3, _⟩ := hK.of H; cases he; exact h3) ?_
  intro hc
  by_cases h10 : n < 10
  · (repeat' (first | ((with_reducible apply gL); (first | refine yL0 ?_ | refine yL ?_ | ((with_reducible apply gL_go); (first | (refine JL_goq (wrong_s 0 none 0 0) (hφ := xF) (h := ?_); rintro _ _ ⟨rfl, rfl⟩; try simp only [List.cons_append, List.nil_append]) | fail)) | (refine yM ?_; intro _) | ((with_reducible apply gL_gd); (first | (refine JL_guard xR xR ?_ ?_ <;> intro _ <;> (try (exfalso; first | contradiction | omega))) | (refine JL_guardb xR xR ?_ ?_ <;> (intro hgb; subst hgb)) | (refine JL_guardb xR xR ?_ ?_ <;> (intro hgb; fail_if_success (have : type_of% hgb := rfl))) | fail)) | fail)) | ((with_reducible apply gD); (first | (refine JD_nil ?_; try simp only [List.cons_append, List.nil_append]) | (refine JD_bar ?_; try simp only [List.cons_append, List.nil_append]) | refine yD ?_ | ((with_reducible apply gD_go); (first | (refine JD_goq (wrong_s 0 none 0 0) (hφ := xF) (h := ?_); rintro _ _ ⟨rfl, rfl⟩; try simp only [List.cons_append, List.nil_append]) | fail)) | (refine yE ?_; intro _) | fail)) | refine yJ ?_ | ((with_reducible apply gJ_if); (first | (refine J_if xR ?_ ?_ <;> intro _ <;> (try (exfalso; first | contradiction | omega))) | (refine J_ifb xR ?_ ?_ <;> (intro hgb; subst hgb)) | (refine J_ifb xR ?_ ?_ <;> intro _) | fail)) | refine J_draw (id := 5) [0, 1, 4, 5, 7, 8, 2, 3, 6, 9, 10, 11] [12] mixed xC xD xD ?_ | fail))
    all_goals (first | (exfalso; omega) | skip)
    exact J_retCC (cs := opC op0) (cs' := [.int .i64 2, .int .i64 0, .slice none 0 0]) rfl (by rfl) (by rfl) (by rfl) xA xA (by rfl) (by rfl) fun w H => ⟨_, ⟨op0, 2, 0, none, 0, 0, [], false, by decide, rfl, by decide, rfl, rfl⟩, (Ow.arNil (e := 5) (sz := 1) (enc := byC) H).sel xZ⟩
  obtain ⟨x0, x1, x2, x3, x4, x5, x6, x7, x8, x9, h0, h1, h2, h3, h4, h5, h6, h7, h8, h9⟩ := ten_get (l := l) (by omega)
  have k1 := get16_s (slA a c 1 1) (n - 1) (c - 1) (l.drop 1) (by rw [List.length_drop, hn]) (hb.drop 1) x1 x2 (by rw [List.getElem?_drop]; exact h1) (by rw [List.getElem?_drop]; exact h2)
  have k2 := get16_s (slA a c 3 1) (n - 3) (c - 3) (l.drop 3) (by rw [List.length_drop, hn]) (hb.drop 3) x3 x4 (by rw [List.getElem?_drop]; exact h3) (by rw [List.getElem?_drop]; exact h4)
  have k3 := get32_s (slA a c 5 1) (n - 5) (c - 5) (l.drop 5) (by rw [List.length_drop, hn]) (hb.drop 5) x5 x6 x7 x8 (by rw [List.getElem?_drop]; exact h5) (by rw [List.getElem?_drop]; exact h6) (by rw [List.getElem?_drop]; exact h7) (by rw [List.getElem?_drop]; exact h8)
  have hd1 := kn_drop hK hn 1 (n - 1) (by omega) rfl
  have hd3 := kn_drop hK hn 3 (n - 3) (by omega) rfl
  have hd5 := kn_drop hK hn 5 (n - 5) (by omega) rfl
  have hd10 := kn_drop hK hn 10 (n - 10) (by omega) rfl
  have b1 := hb.get h1
  have b2 := hb.get h2
  have b3 := hb.get h3
  have b4 := hb.get h4
  have b9 := hb.get h9
  have g1 : 0 ≤ x1 * 256 + x2 ∧ x1 * 256 + x2 ≤ 65535 := by omega
  have g2 : 0 ≤ x3 * 256 + x4 ∧ x3 * 256 + x4 ≤ 65535 := by omega
  generalize x1 * 256 + x2 = A at k1 g1
  generalize x3 * 256 + x4 = B at k2 g2
  generalize (x5 * 256 + x6) * 65536 + (x7 * 256 + x8) = C at k3
  (repeat' (first | ((with_reducible apply gL); (first | refine yL0 ?_ | refine yL ?_ | ((with_reducible apply gL_go); (first | (refine JL_goq (wrong_s 0 none 0 0) (hφ := xF) (h := ?_); rintro _ _ ⟨rfl, rfl⟩; try simp only [List.cons_append, List.nil_append]) | (refine JL_goq (wrong_s 3 none 0 0) (hφ := xF) (h := ?_); rintro _ _ ⟨rfl, rfl⟩; try simp only [List.cons_append, List.nil_append]) | (refine JL_goq (wrong_s 6 none 0 0) (hφ := xF) (h := ?_); rintro _ _ ⟨rfl, rfl⟩; try simp only [List.cons_append, List.nil_append]) | (refine JL_goq (wrong_s 1 _ 2 2) (hφ := xF) (h := ?_); rintro _ _ ⟨rfl, rfl⟩; try simp only [List.cons_append, List.nil_append]) | (refine JL_goq (k1) (hφ := (by (try simp only [List.cons_append, List.nil_append]); exact fun w hr => hd1 w hr.1)) (h := ?_); rintro _ _ ⟨rfl, rfl⟩; try simp only [List.cons_append, List.nil_append]) | (refine JL_goq (k2) (hφ := (by (try simp only [List.cons_append, List.nil_append]); exact fun w hr => hd3 w hr.1)) (h := ?_); rintro _ _ ⟨rfl, rfl⟩; try simp only [List.cons_append, List.nil_append]) | (refine JL_goq (k3) (hφ := (by (try simp only [List.cons_append, List.nil_append]); exact fun w hr => hd5 w hr.1)) (h := ?_); rintro _ _ ⟨rfl, rfl⟩; try simp only [List.cons_append, List.nil_append]) | (refine JL_goq (params_s _ ⟨A, B, C, false, false, false, false, 0, false, false⟩ (slA a c 10 1) (n - 10) (c - 10) (l.drop 10) (by rw [List.length_drop, hn]) (hb.drop 10) (by omega)) (hφ := (by (try simp only [List.cons_append, List.nil_append]); exact fun w hr => hd10 w hr.1)) (h := ?_); rintro _ _ ⟨z, r, o3, ho3, rfl, rfl⟩; try simp only [List.cons_append, List.nil_append]) | (refine JL_goq (wrong_s _ none 0 0) (hφ := xF) (h := ?_); rintro _ _ ⟨rfl, rfl⟩; try simp only [List.cons_append, List.nil_append]) | fail)) | (refine yM ?_; intro _) | ((with_reducible apply gL_gd); (first | (refine JL_guard xR xR ?_ ?_ <;> intro _ <;> (try (exfalso; first | contradiction | omega))) | (refine JL_guardb xR xR ?_ ?_ <;> (intro hgb; subst hgb)) | (refine JL_guardb xR xR ?_ ?_ <;> (intro hgb; fail_if_success (have : type_of% hgb := rfl))) | fail)) | fail)) | ((with_reducible apply gD); (first | (refine JD_nil ?_; try simp only [List.cons_append, List.nil_append]) | (refine JD_bar ?_; try simp only [List.cons_append, List.nil_append]) | refine yD ?_ | ((with_reducible apply gD_go); (first | (refine JD_goq (wrong_s 0 none 0 0) (hφ := xF) (h := ?_); rintro _ _ ⟨rfl, rfl⟩; try simp only [List.cons_append, List.nil_append]) | (refine JD_goq (wrong_s 3 none 0 0) (hφ := xF) (h := ?_); rintro _ _ ⟨rfl, rfl⟩; try simp only [List.cons_append, List.nil_append]) | (refine JD_goq (wrong_s 6 none 0 0) (hφ := xF) (h := ?_); rintro _ _ ⟨rfl, rfl⟩; try simp only [List.cons_append, List.nil_append]) | (refine JD_goq (wrong_s 1 _ 2 2) (hφ := xF) (h := ?_); rintro _ _ ⟨rfl, rfl⟩; try simp only [List.cons_append, List.nil_append]) | (refine JD_goq (k1) (hφ := (by (try simp only [List.cons_append, List.nil_append]); exact fun w hr => hd1 w hr.1)) (h := ?_); rintro _ _ ⟨rfl, rfl⟩; try simp only [List.cons_append, List.nil_append]) | (refine JD_goq (k2) (hφ := (by (try simp only [List.cons_append, List.nil_append]); exact fun w hr => hd3 w hr.1)) (h := ?_); rintro _ _ ⟨rfl, rfl⟩; try simp only [List.cons_append, List.nil_append]) | (refine JD_goq (k3) (hφ := (by (try simp only [List.cons_append, List.nil_append]); exact fun w hr => hd5 w hr.1)) (h := ?_); rintro _ _ ⟨rfl, rfl⟩; try simp only [List.cons_append, List.nil_append]) | (refine JD_goq (params_s _ ⟨A, B, C, false, false, false, false, 0, false, false⟩ (slA a c 10 1) (n - 10) (c - 10) (l.drop 10) (by rw [List.length_drop, hn]) (hb.drop 10) (by omega)) (hφ := (by (try simp only [List.cons_append, List.nil_append]); exact fun w hr => hd10 w hr.1)) (h := ?_); rintro _ _ ⟨z, r, o3, ho3, rfl, rfl⟩; try simp only [List.cons_append, List.nil_append]) | (refine JD_goq (wrong_s _ none 0 0) (hφ := xF) (h := ?_); rintro _ _ ⟨rfl, rfl⟩; try simp only [List.cons_append, List.nil_append]) | fail)) | (refine yE ?_; intro _) | fail)) | refine yJ ?_ | ((with_reducible apply gJ_if); (first | (refine J_if xR ?_ ?_ <;> intro _ <;> (try (exfalso; first | contradiction | omega))) | (refine J_ifb xR ?_ ?_ <;> (intro hgb; subst hgb)) | (refine J_ifb xR ?_ ?_ <;> intro _) | fail)) | refine J_draw (id := 5) [0, 1, 4, 5, 7, 8, 2, 3, 6, 9, 10, 11] [12] mixed xC xD xD ?_ | fail))
  all_goals (first | (exfalso; omega) | skip)
  all_goals (first
    | exact J_retCC (cs := opC op0) (cs' := [.int .i64 2, .int .i64 _, .slice none 0 0]) rfl (by rfl) (by rfl) (by rfl) xA xA (by rfl) (by rfl) fun w H => ⟨_, ⟨op0, 2, _, none, 0, 0, [], false, (by decide), rfl, (by decide), rfl, rfl⟩, (Ow.arNil (e := 5) (sz := 1) (enc := byC) H).sel (by first | ((first | ((with_reducible (repeat (first | exact Sb.nil | apply Sb.cons | exact Tk.here | apply Tk.there))); done) | (repeat (first | exact Sb.nil | apply Sb.cons | exact Tk.here | apply Tk.there))); done) | fail)⟩
    | exact J_retCC (cs := opC op0) (cs' := [.int .i64 2, .int .i64 1, .slice _ 2 2]) rfl (by rfl) (by rfl) (by rfl) xA xA (by rfl) (by rfl) fun w H => ⟨_, ⟨op0, 2, _, _, 2, 2, [0, 4], false, (by decide), rfl, (by decide), rfl, rfl⟩, (Ow.arNums H xA (.cons (.cons .nil)) rfl rfl).sel (by first | ((first | ((with_reducible (repeat (first | exact Sb.nil | apply Sb.cons | exact Tk.here | apply Tk.there))); done) | (repeat (first | exact Sb.nil | apply Sb.cons | exact Tk.here | apply Tk.there))); done) | fail)⟩
    | exact J_retCC (cs := opC o3) (cs' := [.int .i64 0, .int .i64 0, .slice none 0 0]) rfl (by rfl) (by rfl) (by rfl) xA xA (by rfl) (by rfl) fun w H => ⟨_, ⟨o3, 0, 0, none, 0, 0, [], true, (by first | (rw [ho3]; exact g2; done) | fail), rfl, (by decide), rfl, rfl⟩, (Ow.arNil (e := 5) (sz := 1) (enc := byC) H).sel (by first | ((first | ((with_reducible (repeat (first | exact Sb.nil | apply Sb.cons | exact Tk.here | apply Tk.there))); done) | (repeat (first | exact Sb.nil | apply Sb.cons | exact Tk.here | apply Tk.there))); done) | fail)⟩
    | fail)
abbrev opB : Op_ := ⟨65002, 90, 2, false, false, false, false, 0, false, false⟩
set_option maxRecDepth 4000 in
theorem oreadB_s (a : Option Addr) (c : Nat) : Pact Try.prog 69 #[.slice a 10 c] (fun w => Vw w (.slice a 10 c) 1 10 (flat byC bB4)) [] (ret0 (.tuple #[.agg (opC opB).toArray, .agg #[.int .i64 0, .int .i64 0, .slice none 0 0], .bool true])) := by
  refine pact Try.func69 rfl Try.ntmps69 rfl ?_
  intro W K hK
  refine J_fact (φ := 10 ≤ c) (fun w H => by obtain ⟨_, _, he, _, h3, _⟩ := hK.of H; cases he; exact h3) ?_
  intro hc
  have hn : bB4.length = 10 := rfl
  have hb : U8s bB4 := by unfold U8s bB4; decide
  have h0 : bB4[0]? = some 4 := rfl
  have h9 : bB4[9]? = some 0 := rfl
  have k1 := get16_s (slA a c 1 1) 9 (c - 1) (bB4.drop 1) rfl (hb.drop 1) 253 234 rfl rfl
  have k2 := get16_s (slA a c 3 1) 7 (c - 3) (bB4.drop 3) rfl (hb.drop 3) 0 90 rfl rfl
  have k3 := get32_s (slA a c 5 1) 5 (c - 5) (bB4.drop 5) rfl (hb.drop 5) 0 0 0 2 rfl rfl rfl rfl
  rw [show (253 * 256 + 234 : Int) = 65002 from by decide] at k1
  rw [show (0 * 256 + 90 : Int) = 90 from by decide] at k2
  rw [show ((0 * 256 + 0) * 65536 + (0 * 256 + 2) : Int) = 2 from by decide] at k3
  have hd1 := kn_drop hK hn 1 9 (by omega) rfl
  have hd3 := kn_drop hK hn 3 7 (by omega) rfl
  have hd5 := kn_drop hK hn 5 5 (by omega) rfl
  generalize bB4 = B at *
  (repeat' (first | ((with_reducible apply gL); (first | refine yL0 ?_ | refine yL ?_ | ((with_reducible apply gL_go); (first | (refine JL_goq (k1) (hφ := (by (try simp only [List.cons_append, List.nil_append]); exact fun w hr => hd1 w hr.1)) (h := ?_); rintro _ _ ⟨rfl, rfl⟩; try simp only [List.cons_append, List.nil_append]) | (refine JL_goq (k2) (hφ := (by (try simp only [List.cons_append, List.nil_append]); exact fun w hr => hd3 w hr.1)) (h := ?_); rintro _ _ ⟨rfl, rfl⟩; try simp only [List.cons_append, List.nil_append]) | (refine JL_goq (k3) (hφ := (by (try simp only [List.cons_append, List.nil_append]); exact fun w hr => hd5 w hr.1)) (h := ?_); rintro _ _ ⟨rfl, rfl⟩; try simp only [List.cons_append, List.nil_append]) | (refine JL_goq (params0_s _ opB (by decide) (slA a c 10 1) (c - 10)) (hφ := xF) (h := ?_); rintro _ _ ⟨rfl, rfl⟩; try simp only [List.cons_append, List.nil_append]) | fail)) | (refine yM ?_; intro _) | ((with_reducible apply gL_gd); (first | (refine JL_guard xR xR ?_ ?_ <;> intro _ <;> (try (exfalso; first | contradiction | omega))) | (refine JL_guardb xR xR ?_ ?_ <;> (intro hgb; subst hgb)) | (refine JL_guardb xR xR ?_ ?_ <;> (intro hgb; fail_if_success (have : type_of% hgb := rfl))) | fail)) | fail)) | ((with_reducible apply gD); (first | (refine JD_nil ?_; try simp only [List.cons_append, List.nil_append]) | (refine JD_bar ?_; try simp only [List.cons_append, List.nil_append]) | refine yD ?_ | ((with_reducible apply gD_go); (first | (refine JD_goq (k1) (hφ := (by (try simp only [List.cons_append, List.nil_append]); exact fun w hr => hd1 w hr.1)) (h := ?_); rintro _ _ ⟨rfl, rfl⟩; try simp only [List.cons_append, List.nil_append]) | (refine JD_goq (k2) (hφ := (by (try simp only [List.cons_append, List.nil_append]); exact fun w hr => hd3 w hr.1)) (h := ?_); rintro _ _ ⟨rfl, rfl⟩; try simp only [List.cons_append, List.nil_append]) | (refine JD_goq (k3) (hφ := (by (try simp only [List.cons_append, List.nil_append]); exact fun w hr => hd5 w hr.1)) (h := ?_); rintro _ _ ⟨rfl, rfl⟩; try simp only [List.cons_append, List.nil_append]) | (refine JD_goq (params0_s _ opB (by decide) (slA a c 10 1) (c - 10)) (hφ := xF) (h := ?_); rintro _ _ ⟨rfl, rfl⟩; try simp only [List.cons_append, List.nil_append]) | fail)) | (refine yE ?_; intro _) | fail)) | refine yJ ?_ | ((with_reducible apply gJ_if); (first | (refine J_if xR ?_ ?_ <;> intro _ <;> (try (exfalso; first | contradiction | omega))) | (refine J_ifb xR ?_ ?_ <;> (intro hgb; subst hgb)) | (refine J_ifb xR ?_ ?_ <;> intro _) | fail)) | refine J_draw (id := 5) [0, 1, 4, 5, 7, 8, 2, 3, 6, 9, 10, 11] [12] mixed xC xD xD ?_ | fail))
  all_goals (first | (exfalso; omega) | skip)
  exact J_retCC (cs := opC opB) (cs' := [.int .i64 0, .int .i64 0, .slice none 0 0]) rfl (by rfl) (by rfl) (by rfl) xA xA (by rfl) (by rfl) fun w H => ⟨_, ⟨rfl, rfl⟩, H.sel xZ⟩
end Go.Proofs.Ytfonbpmdbpdncaa
namespace Go.Proofs.Ytfonbpmdbpdncaa
set_option linter.unusedSimpArgs false
set_option linter.unusedVariables false
set_option maxRecDepth 20000
set_option maxHeartbeats 4000000
open Go.RowKit Go.Pm

theorem hears0_s (b : Nat) (q : Bool) (s : Qse) (hs : SeOk s) (v : Value) : Pact Try.prog 58 #[.pointer (some ⟨b, 0 + 11 + 0 * 15, none⟩), .int .i64 s.now] (fun _ => True) [pts b (seC q s v) 52] (fun u L' => ∃ hd, u = .tuple #[] ∧ L' = [pts b (seC q { s with t0 := { s.t0 with heard := hd } } v) 52]) := by
  refine pact Try.func58 rfl Try.ntmps58 rfl ?_
  intro W K _
  have h1 := hs.now
  have h2 := hs.t0.hold
  obtain ⟨on, nw, ag, t0, t1⟩ := s
  dsimp only [seC] at h1 h2 ⊢
  (repeat' (first | ((with_reducible apply gL); (first | refine yL0 ?_ | refine yL ?_ | fail)) | refine yJ ?_ | ((with_reducible apply gJ_if); (first | (refine J_if xR ?_ ?_ <;> intro _ <;> (try (exfalso; first | contradiction | omega))) | (refine J_ifb xR ?_ ?_ <;> (intro hgb; subst hgb)) | (refine J_ifb xR ?_ ?_ <;> intro _) | fail)) | fail))
  all_goals exact J_end0 rfl fun w H => ⟨_, ⟨_, rfl, rfl⟩, H.sel xZ⟩
def RCol0 (s s' : Qse) (r : Bool) (ys : List (Int × Int × Int)) : Prop := ¬ (s.t1.st = 3 ∨ s.t1.st = 4) ∧ r = true ∧ s' = s ∧ ys = [] ∨ (s.t1.st = 3 ∨ s.t1.st = 4) ∧ s'.on = s.on ∧ s'.now = s.now ∧ (r = true ∧ (s'.again = s.again ∨ s.t0.st = 0) ∧ s'.t1 = tr0 ∧ s'.t0 = s.t0 ∧ ys = failL s.t1.st 1 ∨ r = false ∧ (s'.again = s.again ∨ s.t1.st = 0) ∧ s'.t0 = tr0 ∧ s'.t1 = s.t1 ∧ ys = failL s.t0.st 0)
theorem collides0_s (b : Nat) (q : Bool) (s : Qse) (hs : SeOk s) (a : Option Addr) (n c : Nat) (xs : List Ac) (hx : xs.length ≤ 10) (p : Int) : Pact Try.prog 70 #[.pointer (some ⟨b, 0, none⟩), .int .i64 0, .int .u32 p] (fun _ => True) [pts b (seC q s (.slice a n c)) 52, Ar 42 14 acC (.slice a n c) xs, hasA xs] (fun u L' => ∃ a' n' c' s' r ys zs, SeOk s' ∧ RCol0 s s' r ys ∧ Are zs ys ∧ u = .bool r ∧ L' = [pts b (seC q s' (.slice a' n' c')) 52, Ar 42 14 acC (.slice a' n' c') (xs ++ zs), hasA (xs ++ zs)]) := by
  refine pact Try.func70 rfl Try.ntmps70 rfl ?_
  intro W K _
  have kf := fail0_s b q s hs a n c xs (by omega) 6 7 none 0 0 [] rfl (by decide)
  have kg := fail1_s b q s hs a n c xs (by omega) 6 7 none 0 0 [] rfl (by decide)
  obtain ⟨on, nw, ag, t0, t1⟩ := s
  dsimp only [seC] at kf kg ⊢
  by_cases ho : t1.st = 3 ∨ t1.st = 4
  · (repeat' (first | ((with_reducible apply gL); (first | refine yL0 ?_ | refine yL ?_ | ((with_reducible apply gL_go); (first | (refine JL_goq (kf) (hφ := (by (try simp only [List.cons_append, List.nil_append]); exact fun w hr => Vw.nil w 1)) (h := ?_); rintro _ _ ⟨a3, n3, c3, ag3, z3, hag, h3, rfl, rfl⟩; try simp only [List.cons_append, List.nil_append]; dsimp only [seC]) | (refine JL_goq (kg) (hφ := (by (try simp only [List.cons_append, List.nil_append]); exact fun w hr => Vw.nil w 1)) (h := ?_); rintro _ _ ⟨a3, n3, c3, ag3, z3, hag, h3, rfl, rfl⟩; try simp only [List.cons_append, List.nil_append]; dsimp only [seC]) | fail)) | ((with_reducible apply gL_gd); (first | (refine JL_guard xR xR ?_ ?_ <;> intro _ <;> (try (exfalso; first | contradiction | omega))) | (refine JL_guardb xR xR ?_ ?_ <;> (intro hgb; subst hgb)) | (refine JL_guardb xR xR ?_ ?_ <;> (intro hgb; fail_if_success (have : type_of% hgb := rfl))) | fail)) | fail)) | refine yJ ?_ | ((with_reducible apply gJ_if); (first | (refine J_if xR ?_ ?_ <;> intro _ <;> (try (exfalso; first | contradiction | omega))) | (refine J_ifb xR ?_ ?_ <;> (intro hgb; subst hgb)) | (refine J_ifb xR ?_ ?_ <;> intro _) | fail)) | fail))
    all_goals (first | (exfalso; omega) | skip)
    all_goals (first
      | exact J_ret1 rfl (by rfl) fun w H => ⟨_, ⟨a3, n3, c3, { (⟨on, nw, ag3, t0, t1⟩ : Qse) with t0 := tr0 }, _, _, z3, SeOk.set0 (s := ⟨on, nw, ag3, t0, t1⟩) ⟨hs.now, hs.t0, hs.t1⟩ _ tr0_ok, .inr ⟨ho, rfl, rfl, .inr ⟨(by first | (decide; done) | fail), hag, rfl, rfl, rfl⟩⟩, h3, rfl, rfl⟩, H.sel (by first | ((first | ((with_reducible (repeat (first | exact Sb.nil | apply Sb.cons | exact Tk.here | apply Tk.there))); done) | (repeat (first | exact Sb.nil | apply Sb.cons | exact Tk.here | apply Tk.there))); done) | fail)⟩
      | exact J_ret1 rfl (by rfl) fun w H => ⟨_, ⟨a3, n3, c3, { (⟨on, nw, ag3, t0, t1⟩ : Qse) with t1 := tr0 }, _, _, z3, SeOk.set1 (s := ⟨on, nw, ag3, t0, t1⟩) ⟨hs.now, hs.t0, hs.t1⟩ _ tr0_ok, .inr ⟨ho, rfl, rfl, .inl ⟨(by first | (decide; done) | fail), hag, rfl, rfl, rfl⟩⟩, h3, rfl, rfl⟩, H.sel (by first | ((first | ((with_reducible (repeat (first | exact Sb.nil | apply Sb.cons | exact Tk.here | apply Tk.there))); done) | (repeat (first | exact Sb.nil | apply Sb.cons | exact Tk.here | apply Tk.there))); done) | fail)⟩
      | fail)
  · (repeat' (first | ((with_reducible apply gL); (first | refine yL0 ?_ | refine yL ?_ | ((with_reducible apply gL_gd); (first | (refine JL_guard xR xR ?_ ?_ <;> intro _ <;> (try (exfalso; first | contradiction | omega))) | (refine JL_guardb xR xR ?_ ?_ <;> (intro hgb; subst hgb)) | (refine JL_guardb xR xR ?_ ?_ <;> (intro hgb; fail_if_success (have : type_of% hgb := rfl))) | fail)) | fail)) | refine yJ ?_ | ((with_reducible apply gJ_if); (first | (refine J_if xR ?_ ?_ <;> intro _ <;> (try (exfalso; first | contradiction | omega))) | (refine J_ifb xR ?_ ?_ <;> (intro hgb; subst hgb)) | (refine J_ifb xR ?_ ?_ <;> intro _) | fail)) | fail))
    all_goals (first | (exfalso; omega) | skip)
    all_goals exact J_ret1 rfl (by rfl) fun w H => ⟨_, ⟨a, n, c, ⟨on, nw, ag, t0, t1⟩, true, [], [], hs, .inl ⟨ho, rfl, rfl, rfl⟩, trivial, rfl, rfl⟩, by rw [List.append_nil]; exact H.sel xZ⟩
def RCol1 (s s' : Qse) (r : Bool) (ys : List (Int × Int × Int)) : Prop := ¬ (s.t0.st = 3 ∨ s.t0.st = 4) ∧ r = true ∧ s' = s ∧ ys = [] ∨ (s.t0.st = 3 ∨ s.t0.st = 4) ∧ s'.on = s.on ∧ s'.now = s.now ∧ (r = true ∧ (s'.again = s.again ∨ s.t1.st = 0) ∧ s'.t0 = tr0 ∧ s'.t1 = s.t1 ∧ ys = failL s.t0.st 0 ∨ r = false ∧ (s'.again = s.again ∨ s.t0.st = 0) ∧ s'.t1 = tr0 ∧ s'.t0 = s.t0 ∧ ys = failL s.t1.st 1)
end Go.Proofs.Ytfonbpmdbpdncaa
namespace Go.Proofs.Ytfonbpmdbpdncaa
set_option linter.unusedSimpArgs false
set_option linter.unusedVariables false
set_option maxRecDepth 20000
set_option maxHeartbeats 4000000
open Go.RowKit Go.Pm

theorem hold_ok (z : Int) (h : 0 ≤ z ∧ z ≤ 65535) : (0 ≤ min 90 z * 10 ∧ min 90 z * 10 ≤ 900) := by omega
structure Qft where
  fb : Nat
  z : Int
  sub : Int
  fa : Option Addr
  fn : Nat
  fc : Nat
  fl : List Int
theorem tr4_ok (o : Op_) (N M hd sp : Int) (h : 0 ≤ N ∧ N ≤ 900) (h2 : 0 ≤ M ∧ M ≤ 900) : TrOk ⟨4, o, N, M, hd, sp⟩ := ⟨by simp only; omega, by simp only; omega, by simp only; omega⟩
theorem failL_len (st k : Int) : (failL st k).length ≤ 3 := by
  unfold failL dnL
  split <;> simp
theorem RCol0_len {s s' : Qse} {r : Bool} {ys : List (Int × Int × Int)} (h : RCol0 s s' r ys) : ys.length ≤ 3 := by
  rcases h with ⟨_, _, _, rfl⟩ | ⟨_, _, _, ⟨_, _, _, _, rfl⟩ | ⟨_, _, _, _, rfl⟩⟩
  · simp
  · exact failL_len _ _
  · exact failL_len _ _
def ROpen0 (P : Op_ → Bool → Prop) (s s' : Qse) (ys : List (Int × Int × Int)) : Prop :=
  (∃ o r, P o r ∧ (¬ r = true ∨ o.as_ ≠ 65002 ∨ o.id = 1)) ∧ s'.on = s.on ∧ (s'.again = s.again ∨ s.t1.st = 0) ∧ s'.t0 = tr0 ∧ s'.t1 = s.t1 ∧ ys = failL s.t0.st 0 ∨
  ∃ s1 r y0, RCol0 s s1 r y0 ∧ (r = false ∧ s' = s1 ∧ ys = y0 ∨ r = true ∧ s'.on = s1.on ∧ s'.again = s1.again ∧ s'.t0.st = 4 ∧ s'.t1 = s1.t1 ∧ ys = y0 ++ [(3, 0, 4)])
def ROpen1 (P : Op_ → Bool → Prop) (s s' : Qse) (ys : List (Int × Int × Int)) : Prop :=
  (∃ o r, P o r ∧ (¬ r = true ∨ o.as_ ≠ 65002 ∨ o.id = 1)) ∧ s'.on = s.on ∧ (s'.again = s.again ∨ s.t0.st = 0) ∧ s'.t1 = tr0 ∧ s'.t0 = s.t0 ∧ ys = failL s.t1.st 1 ∨
  ∃ s1 r y0, RCol1 s s1 r y0 ∧ (r = false ∧ s' = s1 ∧ ys = y0 ∨ r = true ∧ s'.on = s1.on ∧ s'.again = s1.again ∧ s'.t1.st = 4 ∧ s'.t0 = s1.t0 ∧ ys = y0 ++ [(3, 1, 4)])
set_option maxRecDepth 4000 in
theorem opened0_s (P : Op_ → Bool → Prop) (φ : World → Prop) (b : Nat) (q : Bool) (s : Qse) (hs : SeOk s) (a : Option Addr) (n c : Nat) (ba : Option Addr) (bn bc : Nat)
    (hr : Pact Try.prog 69 #[.slice ba bn bc] φ [] (fun u L' => ∃ o z sub fa fn fc fl r, P o r ∧ (0 ≤ o.hold ∧ o.hold ≤ 65535) ∧ fl.length = fn ∧ fn ≤ 2 ∧ u = .tuple #[.agg (opC o).toArray, .agg #[.int .i64 z, .int .i64 sub, .slice fa fn fc], .bool r] ∧ L' = [Ar 5 1 byC (.slice fa fn fc) fl])) :
    Pact Try.prog 60 #[.pointer (some ⟨b, 0, none⟩), .int .i64 0, .slice ba bn bc] φ [pts b (seC q s (.slice a n c)) 52, Ar 42 14 acC (.slice a n c) [], hasA []] (fun u L' => ∃ a' n' c' s' ys zs, SeOk s' ∧ ROpen0 P s s' ys ∧ Are zs ys ∧ u = .tuple #[] ∧ L' = [pts b (seC q s' (.slice a' n' c')) 52, Ar 42 14 acC (.slice a' n' c') zs, hasA zs]) := by
  refine pact Try.func60 rfl Try.ntmps60 rfl ?_
  intro W K hK
  have hnw := hs.now
  (repeat' (first | ((with_reducible apply gL); (first | refine yL0 ?_ | refine yL ?_ | (refine yM ?_; intro _) | fail)) | ((with_reducible apply gD); (first | (refine JD_nil ?_; try simp only [List.cons_append, List.nil_append]) | (refine JD_bar ?_; try simp only [List.cons_append, List.nil_append]) | refine yD ?_ | fail)) | refine yJ ?_ | ((with_reducible apply gJ_if); (first | (refine J_if xR ?_ ?_ <;> intro _ <;> (try (exfalso; first | contradiction | omega))) | (refine J_ifb xR ?_ ?_ <;> (intro hgb; subst hgb)) | (refine J_ifb xR ?_ ?_ <;> intro _) | fail)) | refine J_draw (id := 2) [0, 1, 2, 3, 4, 5, 6] [7, 8, 9] mixed xC xD xD ?_ | refine J_draw (id := 5) [0, 1, 2, 3, 4, 5, 6] [7] mixed xC xD xD ?_ | refine J_draw (id := 7) [0, 1, 2, 3, 4, 5, 6] [7] mixed xC xD xD ?_ | refine J_draw (id := 13) [0, 1, 2, 3, 4, 5, 6, 7, 8, 9] [10, 11, 12] mixed xC xD xD ?_ | fail))
  refine J_scope (α := Qft) 0 (fun _ => 0) (fun x => (∃ o r, P o r ∧ (¬ r = true ∨ o.as_ ≠ 65002 ∨ o.id = 1)) ∧ x.fl.length = x.fn ∧ x.fn ≤ 2) (fun x => [(0, .pointer (some ⟨b, 0, none⟩)), (1, .int .i64 0), (7, .pointer (some ⟨x.fb, 0, none⟩))]) (fun x => [pts b (seC q s (.slice a n c)) 52, Ar 42 14 acC (.slice a n c) [], hasA [], pts x.fb [.int .i64 x.z, .int .i64 x.sub, .slice x.fa x.fn x.fc] 34, Ar 5 1 byC (.slice x.fa x.fn x.fc) x.fl]) rfl rfl ?_ ?_
  · simp only [List.map_cons, List.map_nil, List.cons_append, List.nil_append]
    (repeat' (first | ((with_reducible apply gL); (first | refine yL0 ?_ | refine yL ?_ | ((with_reducible apply gL_go); (first | (refine JL_goq (hr) (hφ := (by (try simp only [List.cons_append, List.nil_append]); exact fun w hr => hK w hr.1)) (h := ?_); rintro _ _ ⟨o, z, sub, fa, fn, fc, fl, r, hP, ho, hfl, hf2, rfl, rfl⟩; try simp only [List.cons_append, List.nil_append]; dsimp only [seC]) | fail)) | (refine yM ?_; intro _) | fail)) | ((with_reducible apply gD); (first | (refine JD_nil ?_; try simp only [List.cons_append, List.nil_append]) | (refine JD_bar ?_; try simp only [List.cons_append, List.nil_append]) | refine yD ?_ | fail)) | refine yJ ?_ | ((with_reducible apply gJ_if); (first | (refine J_if xR ?_ ?_ <;> intro _ <;> (try (exfalso; first | contradiction | omega))) | (refine J_ifb xR ?_ ?_ <;> (intro hgb; subst hgb)) | (refine J_ifb xR ?_ ?_ <;> intro _) | fail)) | refine J_draw (id := 2) [0, 1, 2, 3, 4, 5, 6] [7, 8, 9] mixed xC xD xD ?_ | refine J_draw (id := 5) [0, 1, 2, 3, 4, 5, 6] [7] mixed xC xD xD ?_ | refine J_draw (id := 7) [0, 1, 2, 3, 4, 5, 6] [7] mixed xC xD xD ?_ | refine J_draw (id := 13) [0, 1, 2, 3, 4, 5, 6, 7, 8, 9] [10, 11, 12] mixed xC xD xD ?_ | fail))
    all_goals (first | (exfalso; omega) | skip)
    · exact J_meet ⟨_, z, sub, fa, fn, fc, fl⟩ ⟨⟨o, r, hP, .inl (by assumption)⟩, hfl, hf2⟩ ⟨rfl, rfl, rfl, trivial⟩ (fun w H => H.sel xZ)
    · exact J_meet ⟨_, 2, 2, fa, fn, fc, fl⟩ ⟨⟨o, r, hP, .inr (.inl (by assumption))⟩, hfl, hf2⟩ ⟨rfl, rfl, rfl, trivial⟩ (fun w H => H.sel xZ)
    · exact J_meet ⟨_, 2, 3, fa, fn, fc, fl⟩ ⟨⟨o, r, hP, .inr (.inr (by assumption))⟩, hfl, hf2⟩ ⟨rfl, rfl, rfl, trivial⟩ (fun w H => H.sel xZ)
    have hN := hold_ok _ ho
    generalize min 90 o.hold * 10 = N at hN ⊢
    (iterate 4 (first | ((with_reducible apply gL); (first | refine yL0 ?_ | refine yL ?_ | ((with_reducible apply gL_go); (first | (refine JL_goq (collides0_s b q s hs a n c [] (by decide) o.id) (hφ := xF) (h := ?_); rintro _ _ ⟨a3, n3, c3, s3, r3, y0, z0, hs3, hC, h0, rfl, rfl⟩; try simp only [List.cons_append, List.nil_append]; dsimp only [seC, List.nil_append]) | fail)) | (refine yM ?_; intro _) | fail)) | ((with_reducible apply gD); (first | (refine JD_nil ?_; try simp only [List.cons_append, List.nil_append]) | (refine JD_bar ?_; try simp only [List.cons_append, List.nil_append]) | refine yD ?_ | fail)) | refine yJ ?_ | ((with_reducible apply gJ_if); (first | (refine J_if xR ?_ ?_ <;> intro _ <;> (try (exfalso; first | contradiction | omega))) | (refine J_ifb xR ?_ ?_ <;> (intro hgb; subst hgb)) | (refine J_ifb xR ?_ ?_ <;> intro _) | fail)) | refine J_draw (id := 2) [0, 1, 2, 3, 4, 5, 6] [7, 8, 9] mixed xC xD xD ?_ | refine J_draw (id := 5) [0, 1, 2, 3, 4, 5, 6] [7] mixed xC xD xD ?_ | refine J_draw (id := 7) [0, 1, 2, 3, 4, 5, 6] [7] mixed xC xD xD ?_ | refine J_draw (id := 13) [0, 1, 2, 3, 4, 5, 6, 7, 8, 9] [10, 11, 12] mixed xC xD xD ?_ | fail))
    · rename_i hr3
      have hr3 : r3 = false := by simpa using hr3
      exact J_ret0 rfl fun w H => ⟨[pts b (seC q s3 (.slice a3 n3 c3)) 52, Ar 42 14 acC (.slice a3 n3 c3) z0, hasA z0], ⟨a3, n3, c3, s3, y0, z0, hs3, .inr ⟨s3, r3, y0, hC, .inl ⟨hr3, rfl, rfl⟩⟩, h0, rfl, rfl⟩, H.sel xZ⟩
    rename_i hr3
    have hr3 : r3 = true := by simpa using hr3
    have hlz := h0.len
    have hly := RCol0_len hC
    have hs4 : SeOk { s3 with t0 := ⟨4, o, N, N / 3, 0, -1⟩ } := hs3.set0 _ (tr4_ok o N _ _ _ hN (by omega))
    have kh := fun v => hears0_s b q { s3 with t0 := ⟨4, o, N, N / 3, 0, -1⟩ } hs4 v
    dsimp only at kh
    have hn3 := hs3.now
    (repeat' (first | ((with_reducible apply gL); (first | refine yL0 ?_ | refine yL ?_ | ((with_reducible apply gL_go); (first | (refine JL_goq (kh _) (hφ := xF) (h := ?_); rintro _ _ ⟨hd, rfl, rfl⟩; try simp only [List.cons_append, List.nil_append]; dsimp only [seC]) | fail)) | (refine yM ?_; intro _) | fail)) | ((with_reducible apply gD); (first | (refine JD_nil ?_; try simp only [List.cons_append, List.nil_append]) | (refine JD_bar ?_; try simp only [List.cons_append, List.nil_append]) | refine yD ?_ | fail)) | refine yJ ?_ | ((with_reducible apply gJ_if); (first | (refine J_if xR ?_ ?_ <;> intro _ <;> (try (exfalso; first | contradiction | omega))) | (refine J_ifb xR ?_ ?_ <;> (intro hgb; subst hgb)) | (refine J_ifb xR ?_ ?_ <;> intro _) | fail)) | refine J_draw (id := 2) [0, 1, 2, 3, 4, 5, 6] [7, 8, 9] mixed xC xD xD ?_ | refine J_draw (id := 5) [0, 1, 2, 3, 4, 5, 6] [7] mixed xC xD xD ?_ | refine J_draw (id := 7) [0, 1, 2, 3, 4, 5, 6] [7] mixed xC xD xD ?_ | refine J_draw (id := 13) [0, 1, 2, 3, 4, 5, 6, 7, 8, 9] [10, 11, 12] mixed xC xD xD ?_ | fail))
    · (repeat' (first | ((with_reducible apply gL); (first | refine yL0 ?_ | refine yL ?_ | ((with_reducible apply gL_go); (first | (refine JL_goq (say_s b q { s3 with t0 := ⟨4, o, N, N / 3, hd, s3.now + N / 3⟩ } a3 n3 c3 z0 (by omega) 0 4 ⟨4, 19, 19⟩ (.inr (.inr rfl)) rfl none 0 0 [] rfl (by decide) (by decide)) (hφ := (by (try simp only [List.cons_append, List.nil_append]); exact fun w hr => Vw.nil w 1)) (h := ?_); rintro _ _ ⟨a5, n5, c5, z5, h5, rfl, rfl⟩; try simp only [List.cons_append, List.nil_append]) | fail)) | (refine yM ?_; intro _) | fail)) | ((with_reducible apply gD); (first | (refine JD_nil ?_; try simp only [List.cons_append, List.nil_append]) | (refine JD_bar ?_; try simp only [List.cons_append, List.nil_append]) | refine yD ?_ | fail)) | refine yJ ?_ | ((with_reducible apply gJ_if); (first | (refine J_if xR ?_ ?_ <;> intro _ <;> (try (exfalso; first | contradiction | omega))) | (refine J_ifb xR ?_ ?_ <;> (intro hgb; subst hgb)) | (refine J_ifb xR ?_ ?_ <;> intro _) | fail)) | refine J_draw (id := 2) [0, 1, 2, 3, 4, 5, 6] [7, 8, 9] mixed xC xD xD ?_ | refine J_draw (id := 5) [0, 1, 2, 3, 4, 5, 6] [7] mixed xC xD xD ?_ | refine J_draw (id := 7) [0, 1, 2, 3, 4, 5, 6] [7] mixed xC xD xD ?_ | refine J_draw (id := 13) [0, 1, 2, 3, 4, 5, 6, 7, 8, 9] [10, 11, 12] mixed xC xD xD ?_ | fail))
      exact J_ret0 rfl fun w H => ⟨[pts b (seC q { s3 with t0 := ⟨4, o, N, N / 3, hd, s3.now + N / 3⟩ } (.slice a5 n5 c5)) 52, Ar 42 14 acC (.slice a5 n5 c5) (z0 ++ [z5]), hasA (z0 ++ [z5])], ⟨a5, n5, c5, { s3 with t0 := ⟨4, o, N, N / 3, hd, s3.now + N / 3⟩ }, y0 ++ [(3, 0, 4)], z0 ++ [z5], hs3.set0 _ (tr4_ok o N _ _ _ hN (by omega)), .inr ⟨s3, r3, y0, hC, .inr ⟨hr3, rfl, rfl, rfl, rfl, rfl⟩⟩, h0.app h5, rfl, rfl⟩, H.sel xZ⟩
    · (repeat' (first | ((with_reducible apply gL); (first | refine yL0 ?_ | refine yL ?_ | ((with_reducible apply gL_go); (first | (refine JL_goq (say_s b q { s3 with t0 := ⟨4, o, N, N / 3, hd, -1⟩ } a3 n3 c3 z0 (by omega) 0 4 ⟨4, 19, 19⟩ (.inr (.inr rfl)) rfl none 0 0 [] rfl (by decide) (by decide)) (hφ := (by (try simp only [List.cons_append, List.nil_append]); exact fun w hr => Vw.nil w 1)) (h := ?_); rintro _ _ ⟨a5, n5, c5, z5, h5, rfl, rfl⟩; try simp only [List.cons_append, List.nil_append]) | fail)) | (refine yM ?_; intro _) | fail)) | ((with_reducible apply gD); (first | (refine JD_nil ?_; try simp only [List.cons_append, List.nil_append]) | (refine JD_bar ?_; try simp only [List.cons_append, List.nil_append]) | refine yD ?_ | fail)) | refine yJ ?_ | ((with_reducible apply gJ_if); (first | (refine J_if xR ?_ ?_ <;> intro _ <;> (try (exfalso; first | contradiction | omega))) | (refine J_ifb xR ?_ ?_ <;> (intro hgb; subst hgb)) | (refine J_ifb xR ?_ ?_ <;> intro _) | fail)) | refine J_draw (id := 2) [0, 1, 2, 3, 4, 5, 6] [7, 8, 9] mixed xC xD xD ?_ | refine J_draw (id := 5) [0, 1, 2, 3, 4, 5, 6] [7] mixed xC xD xD ?_ | refine J_draw (id := 7) [0, 1, 2, 3, 4, 5, 6] [7] mixed xC xD xD ?_ | refine J_draw (id := 13) [0, 1, 2, 3, 4, 5, 6, 7, 8, 9] [10, 11, 12] mixed xC xD xD ?_ | fail))
      exact J_ret0 rfl fun w H => ⟨[pts b (seC q { s3 with t0 := ⟨4, o, N, N / 3, hd, -1⟩ } (.slice a5 n5 c5)) 52, Ar 42 14 acC (.slice a5 n5 c5) (z0 ++ [z5]), hasA (z0 ++ [z5])], ⟨a5, n5, c5, { s3 with t0 := ⟨4, o, N, N / 3, hd, -1⟩ }, y0 ++ [(3, 0, 4)], z0 ++ [z5], hs3.set0 _ (tr4_ok o N _ _ _ hN (by omega)), .inr ⟨s3, r3, y0, hC, .inr ⟨hr3, rfl, rfl, rfl, rfl, rfl⟩⟩, h0.app h5, rfl, rfl⟩, H.sel xZ⟩
  · rintro ⟨fb, z, sub, fa, fn, fc, fl⟩ hi
    dsimp only at hi ⊢
    obtain ⟨hP, hfl, hf2⟩ := hi
    simp only [List.map_cons, List.map_nil, List.cons_append, List.nil_append]
    (repeat' (first | ((with_reducible apply gL); (first | refine yL0 ?_ | refine yL ?_ | ((with_reducible apply gL_go); (first | (refine JL_goq (fail0_s b q s hs a n c [] (by decide) z sub fa fc fn fl hfl (by omega)) (hφ := (by (try simp only [List.cons_append, List.nil_append]); exact fun w hr => srcN xA hfl w hr)) (h := ?_); rintro _ _ ⟨a3, n3, c3, ag3, z3, hag, h3, rfl, rfl⟩; try simp only [List.cons_append, List.nil_append]) | fail)) | (refine yM ?_; intro _) | fail)) | ((with_reducible apply gD); (first | (refine JD_nil ?_; try simp only [List.cons_append, List.nil_append]) | (refine JD_bar ?_; try simp only [List.cons_append, List.nil_append]) | refine yD ?_ | fail)) | refine yJ ?_ | ((with_reducible apply gJ_if); (first | (refine J_if xR ?_ ?_ <;> intro _ <;> (try (exfalso; first | contradiction | omega))) | (refine J_ifb xR ?_ ?_ <;> (intro hgb; subst hgb)) | (refine J_ifb xR ?_ ?_ <;> intro _) | fail)) | refine J_draw (id := 2) [0, 1, 2, 3, 4, 5, 6] [7, 8, 9] mixed xC xD xD ?_ | refine J_draw (id := 5) [0, 1, 2, 3, 4, 5, 6] [7] mixed xC xD xD ?_ | refine J_draw (id := 7) [0, 1, 2, 3, 4, 5, 6] [7] mixed xC xD xD ?_ | refine J_draw (id := 13) [0, 1, 2, 3, 4, 5, 6, 7, 8, 9] [10, 11, 12] mixed xC xD xD ?_ | fail))
    refine J_jmp ?_
    exact J_end0 rfl fun w H => ⟨[pts b (seC q { s with again := ag3, t0 := tr0 } (.slice a3 n3 c3)) 52, Ar 42 14 acC (.slice a3 n3 c3) z3, hasA z3], ⟨a3, n3, c3, { s with again := ag3, t0 := tr0 }, failL s.t0.st 0, z3, SeOk.set0 (s := { s with again := ag3 }) ⟨hs.now, hs.t0, hs.t1⟩ _ tr0_ok, .inl ⟨hP, rfl, hag, rfl, rfl, rfl⟩, h3, rfl, rfl⟩, H.sel xZ⟩
end Go.Proofs.Ytfonbpmdbpdncaa
