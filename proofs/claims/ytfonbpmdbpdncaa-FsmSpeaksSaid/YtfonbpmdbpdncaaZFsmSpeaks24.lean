/-
  FsmSpeaks: each message that is sent may be read, the first one on a track is an OPEN, and behind a NOTIFICATION none is sent, and the track is dropped.
-/
import Derived.Test.YtfonbpmdbpdncaaZFsmSpeaks23
import Derived.HandedShaped
namespace Go.Proofs.Ytfonbpmdbpdncaa
set_option linter.unusedSimpArgs false
set_option linter.unusedVariables false
set_option maxRecDepth 20000
set_option maxHeartbeats 4000000
open Go.RowKit Go.Pm

structure Qsl where
  i : Nat
  s : Qse
  n0 : Int
  n1 : Int
structure Qsi where
  j : Nat
  n0 : Int
  n1 : Int
set_option maxRecDepth 4000 in
theorem speaks_s (q : Bool) (a : Option Addr) (n c : Nat) (es : List Qev) (hn : es.length = n) (hok : ∀ e ∈ es, EvOk e) : Pact Try.prog 4 #[.bool q, .slice a n c] (fun w => Vw w (.slice a n c) 9 n (flat evC es) ∧ ∀ e ∈ es, EvV w e) [] (ret0 (.bool true)) := by
  refine pact Try.func4 rfl Try.ntmps4 rfl ?_
  intro W K hK
  have hv := hK.left
  (repeat' (first | ((with_reducible apply gL); (first | (with_reducible apply gL_app) | (with_reducible apply gL_app0) | refine yL0 ?_ | refine yL ?_ | ((with_reducible apply gL_go); (first | (refine JL_goq (works_s) (hφ := xF) (h := ?_); rintro _ _ ⟨rfl, rfl⟩; try simp only [List.cons_append, List.nil_append]) | (refine JL_goq (one_s q) (hφ := xF) (h := ?_); rintro _ _ ⟨g, rfl, rfl⟩; try simp only [List.cons_append, List.nil_append]) | fail)) | (refine yM ?_; intro _) | ((with_reducible apply gL_gd); (first | (refine JL_guard xR xR ?_ ?_ <;> intro _ <;> (try (exfalso; first | contradiction | omega))) | (refine JL_guardb xR xR ?_ ?_ <;> (intro hgb; subst hgb)) | (refine JL_guardb xR xR ?_ ?_ <;> (intro hgb; fail_if_success (have : type_of% hgb := rfl))) | fail)) | fail)) | ((with_reducible apply gD); (first | (refine JD_nil ?_; try simp only [List.cons_append, List.nil_append]) | (refine JD_bar ?_; try simp only [List.cons_append, List.nil_append]) | (with_reducible apply gD_app) | (with_reducible apply gD_app0) | refine yD0 ?_ | refine yD ?_ | ((with_reducible apply gD_gd); (first | (refine JD_guard xR xR ?_ ?_ <;> intro _ <;> (try (exfalso; first | contradiction | omega))) | (refine JD_guardb xR xR ?_ ?_ <;> (intro hgb; subst hgb)) | (refine JD_guardb xR xR ?_ ?_ <;> (intro hgb; fail_if_success (have : type_of% hgb := rfl))) | fail)) | fail)) | refine yJ ?_ | ((with_reducible apply gJ_if); (first | (refine J_if xR ?_ ?_ <;> intro _ <;> (try (exfalso; first | contradiction | omega))) | (refine J_ifb xR ?_ ?_ <;> (intro hgb; subst hgb)) | (refine J_ifb xR ?_ ?_ <;> intro _) | fail)) | refine J_draw (id := 18) [0, 1, 2, 3, 4, 5, 6, 7, 8, 9, 10, 11, 12, 13, 14, 15, 16, 17, 18, 19, 20, 21, 22, 23, 24, 25, 26, 27, 28, 29, 30, 31, 32, 33, 34, 35, 36, 37, 38, 39, 40, 41, 42, 43, 44, 45, 46, 47, 48, 49, 50] [51, 52, 53, 54] mixed xC xD xD ?_ | fail))
  rename_i sb
  refine J_loop (α := Qsl) ⟨0, se0, 0, 0⟩ (fun x => n - x.i) (fun x => x.i ≤ n ∧ SeOk x.s ∧ SInv x.s ∧ Spk1 x.s.t0.st x.n0 ∧ Spk1 x.s.t1.st x.n1 ∧ (0 ≤ x.n0 ∧ x.n0 ≤ 12 * (x.i : Int)) ∧ (0 ≤ x.n1 ∧ x.n1 ≤ 12 * (x.i : Int))) (fun x => [(1, .slice a n c), (5, .pointer (some ⟨g, 0, none⟩)), (6, .pointer (some ⟨sb, 0, none⟩)), (7, .int .i64 x.i)]) (fun x => [pts g (seC q x.s (.slice none 0 0)) 52, pts sb [.int .i64 x.n0, .int .i64 x.n1] 27]) ⟨Nat.zero_le _, se0_ok, se0_inv, by unfold Spk1; decide, by unfold Spk1; decide, by decide, by decide⟩ ⟨rfl, rfl, rfl, rfl, trivial⟩ (fun w H => H.sel xZ) ?_
  rintro ⟨i, s, k0, k1⟩ hi
  dsimp only at hi ⊢
  obtain ⟨hin, hs, hI, hS0, hS1, hk0, hk1⟩ := hi
  by_cases hlt : i < n ∧ i < 60
  · obtain ⟨hl1, hl2⟩ := hlt
    obtain ⟨e, he⟩ : ∃ e, es[i]? = some e := ⟨_, List.getElem?_eq_getElem (by omega)⟩
    have hem := List.mem_of_getElem? he
    have kh := did3 (hear_s g q s hs e (hok e hem))
    (repeat' (first | ((with_reducible apply gL); (first | (with_reducible apply gL_app) | (with_reducible apply gL_app0) | refine yL0 ?_ | refine yL ?_ | ((with_reducible apply gL_go); (first | (refine JL_goq (kh) (hφ := (by (try simp only [List.cons_append, List.nil_append]); exact fun w hr => (hK w hr.1).2 e hem)) (h := ?_); rintro _ _ ⟨a1, c1, s1, ys, zs, hs1, hR, hA, hzc, rfl, rfl⟩; try simp only [List.cons_append, List.nil_append]) | fail)) | (refine yM ?_; intro _) | ((with_reducible apply gL_gd); (first | (refine JL_guard xR xR ?_ ?_ <;> intro _ <;> (try (exfalso; first | contradiction | omega))) | (refine JL_guardb xR xR ?_ ?_ <;> (intro hgb; subst hgb)) | (refine JL_guardb xR xR ?_ ?_ <;> (intro hgb; fail_if_success (have : type_of% hgb := rfl))) | fail)) | fail)) | ((with_reducible apply gD); (first | (refine JD_nil ?_; try simp only [List.cons_append, List.nil_append]) | (refine JD_bar ?_; try simp only [List.cons_append, List.nil_append]) | (with_reducible apply gD_app) | (with_reducible apply gD_app0) | refine yD0 ?_ | refine yD ?_ | ((with_reducible apply gD_gd); (first | (refine JD_guard xR xR ?_ ?_ <;> intro _ <;> (try (exfalso; first | contradiction | omega))) | (refine JD_guardb xR xR ?_ ?_ <;> (intro hgb; subst hgb)) | (refine JD_guardb xR xR ?_ ?_ <;> (intro hgb; fail_if_success (have : type_of% hgb := rfl))) | fail)) | fail)) | refine yJ ?_ | ((with_reducible apply gJ_if); (first | (refine J_if xR ?_ ?_ <;> intro _ <;> (try (exfalso; first | contradiction | omega))) | (refine J_ifb xR ?_ ?_ <;> (intro hgb; subst hgb)) | (refine J_ifb xR ?_ ?_ <;> intro _) | fail)) | refine J_draw (id := 18) [0, 1, 2, 3, 4, 5, 6, 7, 8, 9, 10, 11, 12, 13, 14, 15, 16, 17, 18, 19, 20, 21, 22, 23, 24, 25, 26, 27, 28, 29, 30, 31, 32, 33, 34, 35, 36, 37, 38, 39, 40, 41, 42, 43, 44, 45, 46, 47, 48, 49, 50] [51, 52, 53, 54] mixed xC xD xD ?_ | fail))
    all_goals (first | (exfalso; omega) | skip)
    obtain ⟨hE, hI1⟩ := RHear_ok hI hR
    obtain ⟨m0, m1, hP0, hM0, hM1⟩ := spk_evt hE hS0 hS1
    have hz9 : zs.length ≤ 12 := by rw [hA.len]; exact RHear_len hR
    refine J_loop (α := Qsi) ⟨0, k0, k1⟩ (fun x => zs.length - x.j) (fun x => x.j ≤ zs.length ∧ SpkOk x.n0 x.n1 (ys.drop x.j) m0 m1 ∧ (0 ≤ x.n0 ∧ x.n0 ≤ 12 * (i : Int) + x.j) ∧ (0 ≤ x.n1 ∧ x.n1 ≤ 12 * (i : Int) + x.j)) (fun x => [(1, .slice a n c), (5, .pointer (some ⟨g, 0, none⟩)), (6, .pointer (some ⟨sb, 0, none⟩)), (7, .int .i64 i), (8, .slice a1 zs.length c1), (9, .int .i64 x.j)]) (fun x => [pts g (seC q s1 (.slice none 0 0)) 52, Ar 42 14 acC (.slice a1 zs.length c1) zs, hasA zs, pts sb [.int .i64 x.n0, .int .i64 x.n1] 27]) ⟨Nat.zero_le _, hP0, by simp only; omega, by simp only; omega⟩ ⟨rfl, rfl, rfl, rfl, rfl, rfl, trivial⟩ (fun w H => H.sel xZ) ?_
    rintro ⟨j, j0, j1⟩ hj
    dsimp only at hj ⊢
    obtain ⟨hjl, hP, hj0, hj1⟩ := hj
    by_cases hjt : j < zs.length
    · obtain ⟨z, y, hz, hd, hzy, hzm⟩ := hA.at hjt
      rw [hd] at hP
      have hzk := hzy
      obtain ⟨yk, yt, ym⟩ := y
      obtain ⟨e1, e2, _⟩ := hzy
      dsimp only at e1 e2
      rcases hP with ⟨ht, h | ⟨h1, h2, h3, h⟩ | ⟨h1, h2, h⟩⟩ | ⟨ht, h | ⟨h1, h2, h3, h⟩ | ⟨h1, h2, h⟩⟩
      all_goals (dsimp only at ht)
      · obtain ⟨h1, h⟩ := h
        dsimp only at h1
        subst ht h1
        (repeat' (first | ((with_reducible apply gL); (first | (with_reducible apply gL_app) | (with_reducible apply gL_app0) | refine yL0 ?_ | ((with_reducible apply gL_bin_and); (first | (first | (refine JL_p rfl xR xR (pe_and (c := 0) xR xR (by rw [e2]; decide)) ?_)) | fail)) | refine yL ?_ | (refine yM ?_; intro _) | ((with_reducible apply gL_gd); (first | (refine JL_guard xR xR ?_ ?_ <;> intro _ <;> (try (exfalso; first | contradiction | omega))) | (refine JL_guardb xR xR ?_ ?_ <;> (intro hgb; subst hgb)) | (refine JL_guardb xR xR ?_ ?_ <;> (intro hgb; fail_if_success (have : type_of% hgb := rfl))) | fail)) | fail)) | ((with_reducible apply gD); (first | (refine JD_nil ?_; try simp only [List.cons_append, List.nil_append]) | (refine JD_bar ?_; try simp only [List.cons_append, List.nil_append]) | (with_reducible apply gD_app) | (with_reducible apply gD_app0) | refine yD0 ?_ | refine yD ?_ | ((with_reducible apply gD_gd); (first | (refine JD_guard xR xR ?_ ?_ <;> intro _ <;> (try (exfalso; first | contradiction | omega))) | (refine JD_guardb xR xR ?_ ?_ <;> (intro hgb; subst hgb)) | (refine JD_guardb xR xR ?_ ?_ <;> (intro hgb; fail_if_success (have : type_of% hgb := rfl))) | fail)) | fail)) | refine yJ ?_ | ((with_reducible apply gJ_if); (first | (refine J_if xR ?_ ?_ <;> intro _ <;> (try (exfalso; first | contradiction | omega))) | (refine J_ifb xR ?_ ?_ <;> (intro hgb; subst hgb)) | (refine J_ifb xR ?_ ?_ <;> intro _) | fail)) | refine J_draw (id := 18) [0, 1, 2, 3, 4, 5, 6, 7, 8, 9, 10, 11, 12, 13, 14, 15, 16, 17, 18, 19, 20, 21, 22, 23, 24, 25, 26, 27, 28, 29, 30, 31, 32, 33, 34, 35, 36, 37, 38, 39, 40, 41, 42, 43, 44, 45, 46, 47, 48, 49, 50] [51, 52, 53, 54] mixed xC xD xD ?_ | fail))
        all_goals (first | (exfalso; omega) | skip)
        exact J_again ⟨j + 1, 0, j1⟩ (by dsimp only; omega) ⟨by dsimp only; omega, h, by dsimp only; omega, by dsimp only; omega⟩ ⟨rfl, rfl, rfl, rfl, rfl, rfl, trivial⟩ (fun w H => H.sel xZ)
      · dsimp only at h1 h2 h3
        subst ht h1
        have hbq : decide (j0 = 0) = decide (ym = 1) := decide_eq_decide.2 h2
        have kmv : ∀ w, kwA zs w → Vw w (.slice z.a z.b.length z.c) 1 z.b.length (flat byC z.b) := fun w hw => kwA.get hw hzm e1
        by_cases hm3 : ym = 3
        · obtain ⟨z2', zs2, hd2, hk2, ht2⟩ := h3 hm3
          have hl2' : j + 1 < zs.length := by
            have e9 := congrArg List.length hd2
            rw [List.length_drop, List.length_cons] at e9
            rw [hA.len]
            omega
          obtain ⟨z2, y2, hz2, hd3, hzy2, _⟩ := hA.at hl2'
          rw [hd2] at hd3
          injection hd3 with hd4 _
          subst hd4
          have g1 : z2.kind = 2 := hzy2.1.trans hk2
          have g2 : z2.track = 0 := hzy2.2.1.trans ht2
          (repeat' (first | ((with_reducible apply gL); (first | (with_reducible apply gL_app) | (with_reducible apply gL_app0) | refine yL0 ?_ | ((with_reducible apply gL_bin_and); (first | (first | (refine JL_p rfl xR xR (pe_and (c := 0) xR xR (by rw [e2]; decide)) ?_)) | fail)) | refine yL ?_ | ((with_reducible apply gL_go); (first | (refine JL_goq (message_k z ym 0 e1 hzk) (hφ := (by (try simp only [List.cons_append, List.nil_append]); exact fun w hr => kmv w (hr.has (φ := kwA zs) xA))) (h := ?_); rintro _ _ ⟨hm, ba, bn, bc, bl, rfl, rfl⟩; try simp only [List.cons_append, List.nil_append]) | fail)) | (refine yM ?_; intro _) | ((with_reducible apply gL_gd); (first | (refine JL_guard xR xR ?_ ?_ <;> intro _ <;> (try (exfalso; first | contradiction | omega))) | (refine JL_guardb xR xR ?_ ?_ <;> (intro hgb; subst hgb)) | (refine JL_guardb xR xR ?_ ?_ <;> (intro hgb; fail_if_success (have : type_of% hgb := rfl))) | fail)) | fail)) | ((with_reducible apply gD); (first | (refine JD_nil ?_; try simp only [List.cons_append, List.nil_append]) | (refine JD_bar ?_; try simp only [List.cons_append, List.nil_append]) | (with_reducible apply gD_app) | (with_reducible apply gD_app0) | refine yD0 ?_ | refine yD ?_ | ((with_reducible apply gD_gd); (first | (refine JD_guard xR xR ?_ ?_ <;> intro _ <;> (try (exfalso; first | contradiction | omega))) | (refine JD_guardb xR xR ?_ ?_ <;> (intro hgb; subst hgb)) | (refine JD_guardb xR xR ?_ ?_ <;> (intro hgb; fail_if_success (have : type_of% hgb := rfl))) | fail)) | fail)) | refine yJ ?_ | ((with_reducible apply gJ_if); (first | (refine J_if xR ?_ ?_ <;> intro _ <;> (try (exfalso; first | contradiction | omega))) | (refine J_ifb xR ?_ ?_ <;> (intro hgb; subst hgb)) | (refine J_ifb xR ?_ ?_ <;> intro _) | fail)) | refine J_draw (id := 18) [0, 1, 2, 3, 4, 5, 6, 7, 8, 9, 10, 11, 12, 13, 14, 15, 16, 17, 18, 19, 20, 21, 22, 23, 24, 25, 26, 27, 28, 29, 30, 31, 32, 33, 34, 35, 36, 37, 38, 39, 40, 41, 42, 43, 44, 45, 46, 47, 48, 49, 50] [51, 52, 53, 54] mixed xC xD xD ?_ | fail))
          all_goals (first | (exfalso; omega) | (exfalso; exact absurd hbq (by assumption)) | skip)
          all_goals exact J_again ⟨j + 1, j0 + 1, j1⟩ (by dsimp only; omega) ⟨by dsimp only; omega, h, by dsimp only; omega, by dsimp only; omega⟩ ⟨rfl, rfl, rfl, rfl, rfl, rfl, trivial⟩ (fun w H => H.sel xZ)
        · (repeat' (first | ((with_reducible apply gL); (first | (with_reducible apply gL_app) | (with_reducible apply gL_app0) | refine yL0 ?_ | ((with_reducible apply gL_bin_and); (first | (first | (refine JL_p rfl xR xR (pe_and (c := 0) xR xR (by rw [e2]; decide)) ?_)) | fail)) | refine yL ?_ | ((with_reducible apply gL_go); (first | (refine JL_goq (message_k z ym 0 e1 hzk) (hφ := (by (try simp only [List.cons_append, List.nil_append]); exact fun w hr => kmv w (hr.has (φ := kwA zs) xA))) (h := ?_); rintro _ _ ⟨hm, ba, bn, bc, bl, rfl, rfl⟩; try simp only [List.cons_append, List.nil_append]) | fail)) | (refine yM ?_; intro _) | ((with_reducible apply gL_gd); (first | (refine JL_guard xR xR ?_ ?_ <;> intro _ <;> (try (exfalso; first | contradiction | omega))) | (refine JL_guardb xR xR ?_ ?_ <;> (intro hgb; subst hgb)) | (refine JL_guardb xR xR ?_ ?_ <;> (intro hgb; fail_if_success (have : type_of% hgb := rfl))) | fail)) | fail)) | ((with_reducible apply gD); (first | (refine JD_nil ?_; try simp only [List.cons_append, List.nil_append]) | (refine JD_bar ?_; try simp only [List.cons_append, List.nil_append]) | (with_reducible apply gD_app) | (with_reducible apply gD_app0) | refine yD0 ?_ | refine yD ?_ | ((with_reducible apply gD_gd); (first | (refine JD_guard xR xR ?_ ?_ <;> intro _ <;> (try (exfalso; first | contradiction | omega))) | (refine JD_guardb xR xR ?_ ?_ <;> (intro hgb; subst hgb)) | (refine JD_guardb xR xR ?_ ?_ <;> (intro hgb; fail_if_success (have : type_of% hgb := rfl))) | fail)) | fail)) | refine yJ ?_ | ((with_reducible apply gJ_if); (first | (refine J_if xR ?_ ?_ <;> intro _ <;> (try (exfalso; first | contradiction | omega))) | (refine J_ifb xR ?_ ?_ <;> (intro hgb; subst hgb)) | (refine J_ifb xR ?_ ?_ <;> intro _) | fail)) | refine J_draw (id := 18) [0, 1, 2, 3, 4, 5, 6, 7, 8, 9, 10, 11, 12, 13, 14, 15, 16, 17, 18, 19, 20, 21, 22, 23, 24, 25, 26, 27, 28, 29, 30, 31, 32, 33, 34, 35, 36, 37, 38, 39, 40, 41, 42, 43, 44, 45, 46, 47, 48, 49, 50] [51, 52, 53, 54] mixed xC xD xD ?_ | fail))
          all_goals (first | (exfalso; omega) | (exfalso; exact absurd hbq (by assumption)) | skip)
          all_goals exact J_again ⟨j + 1, j0 + 1, j1⟩ (by dsimp only; omega) ⟨by dsimp only; omega, h, by dsimp only; omega, by dsimp only; omega⟩ ⟨rfl, rfl, rfl, rfl, rfl, rfl, trivial⟩ (fun w H => H.sel xZ)
      · dsimp only at h1 h2
        subst ht
        (repeat' (first | ((with_reducible apply gL); (first | (with_reducible apply gL_app) | (with_reducible apply gL_app0) | refine yL0 ?_ | ((with_reducible apply gL_bin_and); (first | (first | (refine JL_p rfl xR xR (pe_and (c := 0) xR xR (by rw [e2]; decide)) ?_)) | fail)) | refine yL ?_ | (refine yM ?_; intro _) | ((with_reducible apply gL_gd); (first | (refine JL_guard xR xR ?_ ?_ <;> intro _ <;> (try (exfalso; first | contradiction | omega))) | (refine JL_guardb xR xR ?_ ?_ <;> (intro hgb; subst hgb)) | (refine JL_guardb xR xR ?_ ?_ <;> (intro hgb; fail_if_success (have : type_of% hgb := rfl))) | fail)) | fail)) | ((with_reducible apply gD); (first | (refine JD_nil ?_; try simp only [List.cons_append, List.nil_append]) | (refine JD_bar ?_; try simp only [List.cons_append, List.nil_append]) | (with_reducible apply gD_app) | (with_reducible apply gD_app0) | refine yD0 ?_ | refine yD ?_ | ((with_reducible apply gD_gd); (first | (refine JD_guard xR xR ?_ ?_ <;> intro _ <;> (try (exfalso; first | contradiction | omega))) | (refine JD_guardb xR xR ?_ ?_ <;> (intro hgb; subst hgb)) | (refine JD_guardb xR xR ?_ ?_ <;> (intro hgb; fail_if_success (have : type_of% hgb := rfl))) | fail)) | fail)) | refine yJ ?_ | ((with_reducible apply gJ_if); (first | (refine J_if xR ?_ ?_ <;> intro _ <;> (try (exfalso; first | contradiction | omega))) | (refine J_ifb xR ?_ ?_ <;> (intro hgb; subst hgb)) | (refine J_ifb xR ?_ ?_ <;> intro _) | fail)) | refine J_draw (id := 18) [0, 1, 2, 3, 4, 5, 6, 7, 8, 9, 10, 11, 12, 13, 14, 15, 16, 17, 18, 19, 20, 21, 22, 23, 24, 25, 26, 27, 28, 29, 30, 31, 32, 33, 34, 35, 36, 37, 38, 39, 40, 41, 42, 43, 44, 45, 46, 47, 48, 49, 50] [51, 52, 53, 54] mixed xC xD xD ?_ | fail))
        all_goals (first | (exfalso; omega) | skip)
        exact J_again ⟨j + 1, j0, j1⟩ (by dsimp only; omega) ⟨by dsimp only; omega, h, by dsimp only; omega, by dsimp only; omega⟩ ⟨rfl, rfl, rfl, rfl, rfl, rfl, trivial⟩ (fun w H => H.sel xZ)
      · obtain ⟨h1, h⟩ := h
        dsimp only at h1
        subst ht h1
        (repeat' (first | ((with_reducible apply gL); (first | (with_reducible apply gL_app) | (with_reducible apply gL_app0) | refine yL0 ?_ | ((with_reducible apply gL_bin_and); (first | (first | (refine JL_p rfl xR xR (pe_and (c := 1) xR xR (by rw [e2]; decide)) ?_)) | fail)) | refine yL ?_ | (refine yM ?_; intro _) | ((with_reducible apply gL_gd); (first | (refine JL_guard xR xR ?_ ?_ <;> intro _ <;> (try (exfalso; first | contradiction | omega))) | (refine JL_guardb xR xR ?_ ?_ <;> (intro hgb; subst hgb)) | (refine JL_guardb xR xR ?_ ?_ <;> (intro hgb; fail_if_success (have : type_of% hgb := rfl))) | fail)) | fail)) | ((with_reducible apply gD); (first | (refine JD_nil ?_; try simp only [List.cons_append, List.nil_append]) | (refine JD_bar ?_; try simp only [List.cons_append, List.nil_append]) | (with_reducible apply gD_app) | (with_reducible apply gD_app0) | refine yD0 ?_ | refine yD ?_ | ((with_reducible apply gD_gd); (first | (refine JD_guard xR xR ?_ ?_ <;> intro _ <;> (try (exfalso; first | contradiction | omega))) | (refine JD_guardb xR xR ?_ ?_ <;> (intro hgb; subst hgb)) | (refine JD_guardb xR xR ?_ ?_ <;> (intro hgb; fail_if_success (have : type_of% hgb := rfl))) | fail)) | fail)) | refine yJ ?_ | ((with_reducible apply gJ_if); (first | (refine J_if xR ?_ ?_ <;> intro _ <;> (try (exfalso; first | contradiction | omega))) | (refine J_ifb xR ?_ ?_ <;> (intro hgb; subst hgb)) | (refine J_ifb xR ?_ ?_ <;> intro _) | fail)) | refine J_draw (id := 18) [0, 1, 2, 3, 4, 5, 6, 7, 8, 9, 10, 11, 12, 13, 14, 15, 16, 17, 18, 19, 20, 21, 22, 23, 24, 25, 26, 27, 28, 29, 30, 31, 32, 33, 34, 35, 36, 37, 38, 39, 40, 41, 42, 43, 44, 45, 46, 47, 48, 49, 50] [51, 52, 53, 54] mixed xC xD xD ?_ | fail))
        all_goals (first | (exfalso; omega) | skip)
        exact J_again ⟨j + 1, j0, 0⟩ (by dsimp only; omega) ⟨by dsimp only; omega, h, by dsimp only; omega, by dsimp only; omega⟩ ⟨rfl, rfl, rfl, rfl, rfl, rfl, trivial⟩ (fun w H => H.sel xZ)
      · dsimp only at h1 h2 h3
        subst ht h1
        have hbq : decide (j1 = 0) = decide (ym = 1) := decide_eq_decide.2 h2
        have kmv : ∀ w, kwA zs w → Vw w (.slice z.a z.b.length z.c) 1 z.b.length (flat byC z.b) := fun w hw => kwA.get hw hzm e1
        by_cases hm3 : ym = 3
        · obtain ⟨z2', zs2, hd2, hk2, ht2⟩ := h3 hm3
          have hl2' : j + 1 < zs.length := by
            have e9 := congrArg List.length hd2
            rw [List.length_drop, List.length_cons] at e9
            rw [hA.len]
            omega
          obtain ⟨z2, y2, hz2, hd3, hzy2, _⟩ := hA.at hl2'
          rw [hd2] at hd3
          injection hd3 with hd4 _
          subst hd4
          have g1 : z2.kind = 2 := hzy2.1.trans hk2
          have g2 : z2.track = 1 := hzy2.2.1.trans ht2
          (repeat' (first | ((with_reducible apply gL); (first | (with_reducible apply gL_app) | (with_reducible apply gL_app0) | refine yL0 ?_ | ((with_reducible apply gL_bin_and); (first | (first | (refine JL_p rfl xR xR (pe_and (c := 1) xR xR (by rw [e2]; decide)) ?_)) | fail)) | refine yL ?_ | ((with_reducible apply gL_go); (first | (refine JL_goq (message_k z ym 1 e1 hzk) (hφ := (by (try simp only [List.cons_append, List.nil_append]); exact fun w hr => kmv w (hr.has (φ := kwA zs) xA))) (h := ?_); rintro _ _ ⟨hm, ba, bn, bc, bl, rfl, rfl⟩; try simp only [List.cons_append, List.nil_append]) | fail)) | (refine yM ?_; intro _) | ((with_reducible apply gL_gd); (first | (refine JL_guard xR xR ?_ ?_ <;> intro _ <;> (try (exfalso; first | contradiction | omega))) | (refine JL_guardb xR xR ?_ ?_ <;> (intro hgb; subst hgb)) | (refine JL_guardb xR xR ?_ ?_ <;> (intro hgb; fail_if_success (have : type_of% hgb := rfl))) | fail)) | fail)) | ((with_reducible apply gD); (first | (refine JD_nil ?_; try simp only [List.cons_append, List.nil_append]) | (refine JD_bar ?_; try simp only [List.cons_append, List.nil_append]) | (with_reducible apply gD_app) | (with_reducible apply gD_app0) | refine yD0 ?_ | refine yD ?_ | ((with_reducible apply gD_gd); (first | (refine JD_guard xR xR ?_ ?_ <;> intro _ <;> (try (exfalso; first | contradiction | omega))) | (refine JD_guardb xR xR ?_ ?_ <;> (intro hgb; subst hgb)) | (refine JD_guardb xR xR ?_ ?_ <;> (intro hgb; fail_if_success (have : type_of% hgb := rfl))) | fail)) | fail)) | refine yJ ?_ | ((with_reducible apply gJ_if); (first | (refine J_if xR ?_ ?_ <;> intro _ <;> (try (exfalso; first | contradiction | omega))) | (refine J_ifb xR ?_ ?_ <;> (intro hgb; subst hgb)) | (refine J_ifb xR ?_ ?_ <;> intro _) | fail)) | refine J_draw (id := 18) [0, 1, 2, 3, 4, 5, 6, 7, 8, 9, 10, 11, 12, 13, 14, 15, 16, 17, 18, 19, 20, 21, 22, 23, 24, 25, 26, 27, 28, 29, 30, 31, 32, 33, 34, 35, 36, 37, 38, 39, 40, 41, 42, 43, 44, 45, 46, 47, 48, 49, 50] [51, 52, 53, 54] mixed xC xD xD ?_ | fail))
          all_goals (first | (exfalso; omega) | (exfalso; exact absurd hbq (by assumption)) | skip)
          all_goals exact J_again ⟨j + 1, j0, j1 + 1⟩ (by dsimp only; omega) ⟨by dsimp only; omega, h, by dsimp only; omega, by dsimp only; omega⟩ ⟨rfl, rfl, rfl, rfl, rfl, rfl, trivial⟩ (fun w H => H.sel xZ)
        · (repeat' (first | ((with_reducible apply gL); (first | (with_reducible apply gL_app) | (with_reducible apply gL_app0) | refine yL0 ?_ | ((with_reducible apply gL_bin_and); (first | (first | (refine JL_p rfl xR xR (pe_and (c := 1) xR xR (by rw [e2]; decide)) ?_)) | fail)) | refine yL ?_ | ((with_reducible apply gL_go); (first | (refine JL_goq (message_k z ym 1 e1 hzk) (hφ := (by (try simp only [List.cons_append, List.nil_append]); exact fun w hr => kmv w (hr.has (φ := kwA zs) xA))) (h := ?_); rintro _ _ ⟨hm, ba, bn, bc, bl, rfl, rfl⟩; try simp only [List.cons_append, List.nil_append]) | fail)) | (refine yM ?_; intro _) | ((with_reducible apply gL_gd); (first | (refine JL_guard xR xR ?_ ?_ <;> intro _ <;> (try (exfalso; first | contradiction | omega))) | (refine JL_guardb xR xR ?_ ?_ <;> (intro hgb; subst hgb)) | (refine JL_guardb xR xR ?_ ?_ <;> (intro hgb; fail_if_success (have : type_of% hgb := rfl))) | fail)) | fail)) | ((with_reducible apply gD); (first | (refine JD_nil ?_; try simp only [List.cons_append, List.nil_append]) | (refine JD_bar ?_; try simp only [List.cons_append, List.nil_append]) | (with_reducible apply gD_app) | (with_reducible apply gD_app0) | refine yD0 ?_ | refine yD ?_ | ((with_reducible apply gD_gd); (first | (refine JD_guard xR xR ?_ ?_ <;> intro _ <;> (try (exfalso; first | contradiction | omega))) | (refine JD_guardb xR xR ?_ ?_ <;> (intro hgb; subst hgb)) | (refine JD_guardb xR xR ?_ ?_ <;> (intro hgb; fail_if_success (have : type_of% hgb := rfl))) | fail)) | fail)) | refine yJ ?_ | ((with_reducible apply gJ_if); (first | (refine J_if xR ?_ ?_ <;> intro _ <;> (try (exfalso; first | contradiction | omega))) | (refine J_ifb xR ?_ ?_ <;> (intro hgb; subst hgb)) | (refine J_ifb xR ?_ ?_ <;> intro _) | fail)) | refine J_draw (id := 18) [0, 1, 2, 3, 4, 5, 6, 7, 8, 9, 10, 11, 12, 13, 14, 15, 16, 17, 18, 19, 20, 21, 22, 23, 24, 25, 26, 27, 28, 29, 30, 31, 32, 33, 34, 35, 36, 37, 38, 39, 40, 41, 42, 43, 44, 45, 46, 47, 48, 49, 50] [51, 52, 53, 54] mixed xC xD xD ?_ | fail))
          all_goals (first | (exfalso; omega) | (exfalso; exact absurd hbq (by assumption)) | skip)
          all_goals exact J_again ⟨j + 1, j0, j1 + 1⟩ (by dsimp only; omega) ⟨by dsimp only; omega, h, by dsimp only; omega, by dsimp only; omega⟩ ⟨rfl, rfl, rfl, rfl, rfl, rfl, trivial⟩ (fun w H => H.sel xZ)
      · dsimp only at h1 h2
        subst ht
        (repeat' (first | ((with_reducible apply gL); (first | (with_reducible apply gL_app) | (with_reducible apply gL_app0) | refine yL0 ?_ | ((with_reducible apply gL_bin_and); (first | (first | (refine JL_p rfl xR xR (pe_and (c := 1) xR xR (by rw [e2]; decide)) ?_)) | fail)) | refine yL ?_ | (refine yM ?_; intro _) | ((with_reducible apply gL_gd); (first | (refine JL_guard xR xR ?_ ?_ <;> intro _ <;> (try (exfalso; first | contradiction | omega))) | (refine JL_guardb xR xR ?_ ?_ <;> (intro hgb; subst hgb)) | (refine JL_guardb xR xR ?_ ?_ <;> (intro hgb; fail_if_success (have : type_of% hgb := rfl))) | fail)) | fail)) | ((with_reducible apply gD); (first | (refine JD_nil ?_; try simp only [List.cons_append, List.nil_append]) | (refine JD_bar ?_; try simp only [List.cons_append, List.nil_append]) | (with_reducible apply gD_app) | (with_reducible apply gD_app0) | refine yD0 ?_ | refine yD ?_ | ((with_reducible apply gD_gd); (first | (refine JD_guard xR xR ?_ ?_ <;> intro _ <;> (try (exfalso; first | contradiction | omega))) | (refine JD_guardb xR xR ?_ ?_ <;> (intro hgb; subst hgb)) | (refine JD_guardb xR xR ?_ ?_ <;> (intro hgb; fail_if_success (have : type_of% hgb := rfl))) | fail)) | fail)) | refine yJ ?_ | ((with_reducible apply gJ_if); (first | (refine J_if xR ?_ ?_ <;> intro _ <;> (try (exfalso; first | contradiction | omega))) | (refine J_ifb xR ?_ ?_ <;> (intro hgb; subst hgb)) | (refine J_ifb xR ?_ ?_ <;> intro _) | fail)) | refine J_draw (id := 18) [0, 1, 2, 3, 4, 5, 6, 7, 8, 9, 10, 11, 12, 13, 14, 15, 16, 17, 18, 19, 20, 21, 22, 23, 24, 25, 26, 27, 28, 29, 30, 31, 32, 33, 34, 35, 36, 37, 38, 39, 40, 41, 42, 43, 44, 45, 46, 47, 48, 49, 50] [51, 52, 53, 54] mixed xC xD xD ?_ | fail))
        all_goals (first | (exfalso; omega) | skip)
        exact J_again ⟨j + 1, j0, j1⟩ (by dsimp only; omega) ⟨by dsimp only; omega, h, by dsimp only; omega, by dsimp only; omega⟩ ⟨rfl, rfl, rfl, rfl, rfl, rfl, trivial⟩ (fun w H => H.sel xZ)
    · have hje : j = zs.length := by omega
      rw [List.drop_eq_nil_of_le (by rw [← hA.len]; omega)] at hP
      obtain ⟨rfl, rfl⟩ := hP
      have kt0 := Track0_s g q s1 (.slice none 0 0)
      have kt1 := Track1_s g q s1 (.slice none 0 0)
      (repeat' (first | ((with_reducible apply gL); (first | (with_reducible apply gL_app) | (with_reducible apply gL_app0) | refine yL0 ?_ | refine yL ?_ | (refine yM ?_; intro _) | ((with_reducible apply gL_gd); (first | (refine JL_guard xR xR ?_ ?_ <;> intro _ <;> (try (exfalso; first | contradiction | omega))) | (refine JL_guardb xR xR ?_ ?_ <;> (intro hgb; subst hgb)) | (refine JL_guardb xR xR ?_ ?_ <;> (intro hgb; fail_if_success (have : type_of% hgb := rfl))) | fail)) | fail)) | ((with_reducible apply gD); (first | (refine JD_nil ?_; try simp only [List.cons_append, List.nil_append]) | (refine JD_bar ?_; try simp only [List.cons_append, List.nil_append]) | (with_reducible apply gD_app) | (with_reducible apply gD_app0) | refine yD0 ?_ | refine yD ?_ | ((with_reducible apply gD_gd); (first | (refine JD_guard xR xR ?_ ?_ <;> intro _ <;> (try (exfalso; first | contradiction | omega))) | (refine JD_guardb xR xR ?_ ?_ <;> (intro hgb; subst hgb)) | (refine JD_guardb xR xR ?_ ?_ <;> (intro hgb; fail_if_success (have : type_of% hgb := rfl))) | fail)) | fail)) | refine yJ ?_ | ((with_reducible apply gJ_if); (first | (refine J_if xR ?_ ?_ <;> intro _ <;> (try (exfalso; first | contradiction | omega))) | (refine J_ifb xR ?_ ?_ <;> (intro hgb; subst hgb)) | (refine J_ifb xR ?_ ?_ <;> intro _) | fail)) | refine J_draw (id := 18) [0, 1, 2, 3, 4, 5, 6, 7, 8, 9, 10, 11, 12, 13, 14, 15, 16, 17, 18, 19, 20, 21, 22, 23, 24, 25, 26, 27, 28, 29, 30, 31, 32, 33, 34, 35, 36, 37, 38, 39, 40, 41, 42, 43, 44, 45, 46, 47, 48, 49, 50] [51, 52, 53, 54] mixed xC xD xD ?_ | fail))
      all_goals (first | (exfalso; omega) | skip)
      refine J_loop (α := Qsi) ⟨0, j0, j1⟩ (fun x => 2 - x.j) (fun x => (x.j = 0 ∧ x.n0 = j0 ∧ x.n1 = j1 ∨ x.j = 1 ∧ Spk1 s1.t0.st x.n0 ∧ x.n1 = j1 ∨ x.j = 2 ∧ Spk1 s1.t0.st x.n0 ∧ Spk1 s1.t1.st x.n1) ∧ (0 ≤ x.n0 ∧ x.n0 ≤ 12 * (i : Int) + 12) ∧ (0 ≤ x.n1 ∧ x.n1 ≤ 12 * (i : Int) + 12)) (fun x => [(1, .slice a n c), (5, .pointer (some ⟨g, 0, none⟩)), (6, .pointer (some ⟨sb, 0, none⟩)), (7, .int .i64 i), (13, .int .i64 x.j)]) (fun x => [pts g (seC q s1 (.slice none 0 0)) 52, pts sb [.int .i64 x.n0, .int .i64 x.n1] 27]) ⟨.inl ⟨rfl, rfl, rfl⟩, by dsimp only; omega, by dsimp only; omega⟩ ⟨rfl, rfl, rfl, rfl, rfl, trivial⟩ (fun w H => H.sel xZ) ?_
      rintro ⟨t, x0, x1⟩ hx
      dsimp only at hx ⊢
      obtain ⟨hx, hx0, hx1⟩ := hx
      rcases hx with ⟨rfl, rfl, rfl⟩ | ⟨rfl, hx, rfl⟩ | ⟨rfl, hx, hy⟩
      · (repeat' (first | ((with_reducible apply gL); (first | (with_reducible apply gL_app) | (with_reducible apply gL_app0) | refine yL0 ?_ | refine yL ?_ | ((with_reducible apply gL_go); (first | (refine JL_goq (kt0) (hφ := xF) (h := ?_); rintro _ _ ⟨rfl, rfl⟩; try simp only [List.cons_append, List.nil_append]) | fail)) | (refine yM ?_; intro _) | ((with_reducible apply gL_gd); (first | (refine JL_guard xR xR ?_ ?_ <;> intro _ <;> (try (exfalso; first | contradiction | omega))) | (refine JL_guardb xR xR ?_ ?_ <;> (intro hgb; subst hgb)) | (refine JL_guardb xR xR ?_ ?_ <;> (intro hgb; fail_if_success (have : type_of% hgb := rfl))) | fail)) | fail)) | ((with_reducible apply gD); (first | (refine JD_nil ?_; try simp only [List.cons_append, List.nil_append]) | (refine JD_bar ?_; try simp only [List.cons_append, List.nil_append]) | (with_reducible apply gD_app) | (with_reducible apply gD_app0) | refine yD0 ?_ | refine yD ?_ | ((with_reducible apply gD_gd); (first | (refine JD_guard xR xR ?_ ?_ <;> intro _ <;> (try (exfalso; first | contradiction | omega))) | (refine JD_guardb xR xR ?_ ?_ <;> (intro hgb; subst hgb)) | (refine JD_guardb xR xR ?_ ?_ <;> (intro hgb; fail_if_success (have : type_of% hgb := rfl))) | fail)) | fail)) | refine yJ ?_ | ((with_reducible apply gJ_if); (first | (refine J_if xR ?_ ?_ <;> intro _ <;> (try (exfalso; first | contradiction | omega))) | (refine J_ifb xR ?_ ?_ <;> (intro hgb; subst hgb)) | (refine J_ifb xR ?_ ?_ <;> intro _) | fail)) | refine J_draw (id := 18) [0, 1, 2, 3, 4, 5, 6, 7, 8, 9, 10, 11, 12, 13, 14, 15, 16, 17, 18, 19, 20, 21, 22, 23, 24, 25, 26, 27, 28, 29, 30, 31, 32, 33, 34, 35, 36, 37, 38, 39, 40, 41, 42, 43, 44, 45, 46, 47, 48, 49, 50] [51, 52, 53, 54] mixed xC xD xD ?_ | fail))
        all_goals (first | (exfalso; omega) | skip)
        · exact J_again ⟨1, 0, x1⟩ (by dsimp only; omega) ⟨.inr (.inl ⟨rfl, by unfold Spk1; dsimp only; omega, rfl⟩), by dsimp only; omega, by dsimp only; omega⟩ ⟨rfl, rfl, rfl, rfl, rfl, trivial⟩ (fun w H => H.sel xZ)
        · exact J_again ⟨1, x0, x1⟩ (by dsimp only; omega) ⟨.inr (.inl ⟨rfl, by unfold Spk1; dsimp only; omega, rfl⟩), by dsimp only; omega, by dsimp only; omega⟩ ⟨rfl, rfl, rfl, rfl, rfl, trivial⟩ (fun w H => H.sel xZ)
      · (repeat' (first | ((with_reducible apply gL); (first | (with_reducible apply gL_app) | (with_reducible apply gL_app0) | refine yL0 ?_ | refine yL ?_ | ((with_reducible apply gL_go); (first | (refine JL_goq (kt1) (hφ := xF) (h := ?_); rintro _ _ ⟨rfl, rfl⟩; try simp only [List.cons_append, List.nil_append]) | fail)) | (refine yM ?_; intro _) | ((with_reducible apply gL_gd); (first | (refine JL_guard xR xR ?_ ?_ <;> intro _ <;> (try (exfalso; first | contradiction | omega))) | (refine JL_guardb xR xR ?_ ?_ <;> (intro hgb; subst hgb)) | (refine JL_guardb xR xR ?_ ?_ <;> (intro hgb; fail_if_success (have : type_of% hgb := rfl))) | fail)) | fail)) | ((with_reducible apply gD); (first | (refine JD_nil ?_; try simp only [List.cons_append, List.nil_append]) | (refine JD_bar ?_; try simp only [List.cons_append, List.nil_append]) | (with_reducible apply gD_app) | (with_reducible apply gD_app0) | refine yD0 ?_ | refine yD ?_ | ((with_reducible apply gD_gd); (first | (refine JD_guard xR xR ?_ ?_ <;> intro _ <;> (try (exfalso; first | contradiction | omega))) | (refine JD_guardb xR xR ?_ ?_ <;> (intro hgb; subst hgb)) | (refine JD_guardb xR xR ?_ ?_ <;> (intro hgb; fail_if_success (have : type_of% hgb := rfl))) | fail)) | fail)) | refine yJ ?_ | ((with_reducible apply gJ_if); (first | (refine J_if xR ?_ ?_ <;> intro _ <;> (try (exfalso; first | contradiction | omega))) | (refine J_ifb xR ?_ ?_ <;> (intro hgb; subst hgb)) | (refine J_ifb xR ?_ ?_ <;> intro _) | fail)) | refine J_draw (id := 18) [0, 1, 2, 3, 4, 5, 6, 7, 8, 9, 10, 11, 12, 13, 14, 15, 16, 17, 18, 19, 20, 21, 22, 23, 24, 25, 26, 27, 28, 29, 30, 31, 32, 33, 34, 35, 36, 37, 38, 39, 40, 41, 42, 43, 44, 45, 46, 47, 48, 49, 50] [51, 52, 53, 54] mixed xC xD xD ?_ | fail))
        all_goals (first | (exfalso; omega) | skip)
        · exact J_again ⟨2, x0, 0⟩ (by dsimp only; omega) ⟨.inr (.inr ⟨rfl, hx, by unfold Spk1; dsimp only; omega⟩), by dsimp only; omega, by dsimp only; omega⟩ ⟨rfl, rfl, rfl, rfl, rfl, trivial⟩ (fun w H => H.sel xZ)
        · exact J_again ⟨2, x0, x1⟩ (by dsimp only; omega) ⟨.inr (.inr ⟨rfl, hx, by unfold Spk1; dsimp only; omega⟩), by dsimp only; omega, by dsimp only; omega⟩ ⟨rfl, rfl, rfl, rfl, rfl, trivial⟩ (fun w H => H.sel xZ)
      · (repeat' (first | ((with_reducible apply gL); (first | (with_reducible apply gL_app) | (with_reducible apply gL_app0) | refine yL0 ?_ | refine yL ?_ | (refine yM ?_; intro _) | ((with_reducible apply gL_gd); (first | (refine JL_guard xR xR ?_ ?_ <;> intro _ <;> (try (exfalso; first | contradiction | omega))) | (refine JL_guardb xR xR ?_ ?_ <;> (intro hgb; subst hgb)) | (refine JL_guardb xR xR ?_ ?_ <;> (intro hgb; fail_if_success (have : type_of% hgb := rfl))) | fail)) | fail)) | ((with_reducible apply gD); (first | (refine JD_nil ?_; try simp only [List.cons_append, List.nil_append]) | (refine JD_bar ?_; try simp only [List.cons_append, List.nil_append]) | (with_reducible apply gD_app) | (with_reducible apply gD_app0) | refine yD0 ?_ | refine yD ?_ | ((with_reducible apply gD_gd); (first | (refine JD_guard xR xR ?_ ?_ <;> intro _ <;> (try (exfalso; first | contradiction | omega))) | (refine JD_guardb xR xR ?_ ?_ <;> (intro hgb; subst hgb)) | (refine JD_guardb xR xR ?_ ?_ <;> (intro hgb; fail_if_success (have : type_of% hgb := rfl))) | fail)) | fail)) | refine yJ ?_ | ((with_reducible apply gJ_if); (first | (refine J_if xR ?_ ?_ <;> intro _ <;> (try (exfalso; first | contradiction | omega))) | (refine J_ifb xR ?_ ?_ <;> (intro hgb; subst hgb)) | (refine J_ifb xR ?_ ?_ <;> intro _) | fail)) | refine J_draw (id := 18) [0, 1, 2, 3, 4, 5, 6, 7, 8, 9, 10, 11, 12, 13, 14, 15, 16, 17, 18, 19, 20, 21, 22, 23, 24, 25, 26, 27, 28, 29, 30, 31, 32, 33, 34, 35, 36, 37, 38, 39, 40, 41, 42, 43, 44, 45, 46, 47, 48, 49, 50] [51, 52, 53, 54] mixed xC xD xD ?_ | fail))
        all_goals (first | (exfalso; omega) | skip)
        exact J_again ⟨i + 1, s1, x0, x1⟩ (by dsimp only; omega) ⟨by dsimp only; omega, hs1, hI1, hx, hy, by dsimp only; omega, by dsimp only; omega⟩ ⟨rfl, rfl, rfl, rfl, trivial⟩ (fun w H => H.sel xZ)
  · (repeat' (first | ((with_reducible apply gL); (first | (with_reducible apply gL_app) | (with_reducible apply gL_app0) | refine yL0 ?_ | refine yL ?_ | (refine yM ?_; intro _) | ((with_reducible apply gL_gd); (first | (refine JL_guard xR xR ?_ ?_ <;> intro _ <;> (try (exfalso; first | contradiction | omega))) | (refine JL_guardb xR xR ?_ ?_ <;> (intro hgb; subst hgb)) | (refine JL_guardb xR xR ?_ ?_ <;> (intro hgb; fail_if_success (have : type_of% hgb := rfl))) | fail)) | fail)) | ((with_reducible apply gD); (first | (refine JD_nil ?_; try simp only [List.cons_append, List.nil_append]) | (refine JD_bar ?_; try simp only [List.cons_append, List.nil_append]) | (with_reducible apply gD_app) | (with_reducible apply gD_app0) | refine yD0 ?_ | refine yD ?_ | ((with_reducible apply gD_gd); (first | (refine JD_guard xR xR ?_ ?_ <;> intro _ <;> (try (exfalso; first | contradiction | omega))) | (refine JD_guardb xR xR ?_ ?_ <;> (intro hgb; subst hgb)) | (refine JD_guardb xR xR ?_ ?_ <;> (intro hgb; fail_if_success (have : type_of% hgb := rfl))) | fail)) | fail)) | refine yJ ?_ | ((with_reducible apply gJ_if); (first | (refine J_if xR ?_ ?_ <;> intro _ <;> (try (exfalso; first | contradiction | omega))) | (refine J_ifb xR ?_ ?_ <;> (intro hgb; subst hgb)) | (refine J_ifb xR ?_ ?_ <;> intro _) | fail)) | refine J_draw (id := 18) [0, 1, 2, 3, 4, 5, 6, 7, 8, 9, 10, 11, 12, 13, 14, 15, 16, 17, 18, 19, 20, 21, 22, 23, 24, 25, 26, 27, 28, 29, 30, 31, 32, 33, 34, 35, 36, 37, 38, 39, 40, 41, 42, 43, 44, 45, 46, 47, 48, 49, 50] [51, 52, 53, 54] mixed xC xD xD ?_ | fail))
    all_goals (first | (exfalso; omega) | skip)
    all_goals exact J_ret1 rfl (by rfl) fun w H => ⟨_, ⟨rfl, rfl⟩, H.sel .nil⟩
end Go.Proofs.Ytfonbpmdbpdncaa
namespace Go.Proofs.Ytfonbpmdbpdncaa
set_option linter.unusedSimpArgs false
set_option linter.unusedVariables false
open Go.RowKit Go.Pm

theorem kn_keep {W : World} {φ : World → Prop} (hk : ∀ {w w' : World}, (∀ b o u, w.cell? ⟨b, o, none⟩ = some u → w'.cell? ⟨b, o, none⟩ = some u) → φ w → φ w') (h : φ W) : Kn (World.all W) φ :=
  Kn.all (fun w ho => hk (fun b o u hu => by
    rw [World.cell?_of_block (w := W) (ho.block b (World.block_lt_of_cell? _ _ hu) (by simp))]
    exact hu) h) fun w w' hh hr => hk (fun b o u hu => by rw [cell?_heap hh]; exact hu) hr
theorem u8_el {w : World} (m : Nat) (d : List Value) (_ : d.length = 1) (h : Rs Try.prog w m 5 d) : ∃ z : Int, d = byC z ∧ (0 ≤ z ∧ z ≤ 255) := by
  have h0 := leaf_of 5 5 [5] m d (by kernel_rfl) h
  obtain ⟨z, r, e, hb, h1⟩ := h0.u8 Try.underlying5
  subst e
  obtain rfl := h1.nil'
  exact ⟨z, rfl, hb⟩
theorem bytes_el {w : World} {n : Nat} {a : Option Addr} {l c : Nat} (h : Rs Try.prog w n 30 [.slice a l c]) : ∃ B : List Int, B.length = l ∧ U8s B ∧ Vw w (.slice a B.length c) 1 B.length (flat byC B) := by
  obtain ⟨es, h0, h1, h2, h3, h4, h5⟩ := h.list (sz := 1) (b := 1) (enc := byC) (ok := fun z => 0 ≤ z ∧ z ≤ 255) Try.underlying30 (by kernel_rfl) (by kernel_rfl) u8_el
  exact ⟨es, h0, h5, h4⟩
theorem ev_el {w : World} (m : Nat) (d : List Value) (_ : d.length = 9) (h : Rs Try.prog w m 36 d) : ∃ e : Qev, d = evC e ∧ EvOk e ∧ EvV w e := by
  have h0 := leaf_of 5 36 [3, 3, 3, 3, 3, 30, 3, 3, 30] m d (by kernel_rfl) h
  obtain ⟨dd, r, e, b0, h1⟩ := h0.i64 Try.underlying3
  subst e
  obtain ⟨now, r, e, b1, h2⟩ := h1.i64 Try.underlying3
  subst e
  obtain ⟨n, r, e, b2, h3⟩ := h2.i64 Try.underlying3
  subst e
  obtain ⟨tr, r, e, b3, h4⟩ := h3.i64 Try.underlying3
  subst e
  obtain ⟨kd, r, e, b4, h5⟩ := h4.i64 Try.underlying3
  subst e
  obtain ⟨ma, ml, mc, r, e, ⟨m1, hm⟩, h6⟩ := h5.sl Try.underlying30
  subst e
  obtain ⟨z, r, e, b6, h7⟩ := h6.i64 Try.underlying3
  subst e
  obtain ⟨sub, r, e, b7, h8⟩ := h7.i64 Try.underlying3
  subst e
  obtain ⟨fa, fl, fc, r, e, ⟨m2, hf⟩, h9⟩ := h8.sl Try.underlying30
  subst e
  obtain rfl := h9.nil'
  obtain ⟨B, rfl, hB, hv⟩ := bytes_el hm
  obtain ⟨C, rfl, hC, hw⟩ := bytes_el hf
  exact ⟨⟨dd, now, n, tr, kd, ma, mc, B, z, sub, fa, fc, C⟩, rfl, ⟨b0, hB, hC⟩, hv, hw⟩
theorem events_arg {W : World} {n : Nat} {a : Option Addr} {l c : Nat} (h : Rs Try.prog W n 22 [.slice a l c]) : ∃ es : List Qev, es.length = l ∧ (∀ e ∈ es, EvOk e) ∧ Kn (World.all W) (fun w => Vw w (.slice a l c) 9 l (flat evC es) ∧ ∀ e ∈ es, EvV w e) := by
  obtain ⟨es, h0, h1, h2, h3, h4, h5⟩ := h.list (sz := 9) (b := 104) (enc := evC) (ok := fun e => EvOk e ∧ EvV W e) Try.underlying22 (by kernel_rfl) (by kernel_rfl) ev_el
  rw [h0] at h4
  exact ⟨es, h0, fun x hx => (h5 x hx).1, kn_keep (fun hc h => ⟨vwKeep hc h.1, fun x hx => ⟨vwKeep hc (h.2 x hx).1, vwKeep hc (h.2 x hx).2⟩⟩) ⟨h4, fun x hx => (h5 x hx).2⟩⟩
end Go.Proofs.Ytfonbpmdbpdncaa
namespace Go.Proofs.Ytfonbpmdbpdncaa
set_option linter.unusedSimpArgs false
set_option linter.unusedVariables false
open Go.RowKit Go.Pm

namespace fsmSpeaks
theorem walk {W : World} (n0 : Nat) {a0 : Bool} (g0 : Rs Try.prog W n0 4 (Value.bool a0).cells.toList) (n1 : Nat) {a1 : Option Addr} {l1 c1 : Nat} (g1 : Rs Try.prog W n1 22 (Value.slice a1 l1 c1).cells.toList) :
    Calls Try.prog 4 #[.bool a0, .slice a1 l1 c1] W fun e w' => e = .returned (.bool true) ∧ Only [] W w' := by
  obtain ⟨es, h0, h1, h2⟩ := events_arg g1
  exact (speaks_s a0 a1 l1 c1 es h0 h1).law h2
end fsmSpeaks
namespace fsmSpeaks
open Go.ChangeShapes Go.WideShapes Go.ChangeAt
set_option linter.unusedVariables false

theorem own : ownKnob Try.prog.godebug = none := by kernel_rfl
theorem laidOut : laidOutB Try.prog = true := by kernel_rfl

set_option maxRecDepth 100000 in
theorem lifted (os : Os) (started : os.Started) (H : Type) (enc : TypeId × Value → H) :
    ReturnsInHanded {} Try.checked os 4 .any (Rows.fsmSpeaksSpec.pre6 enc Try.prog Try.f4 Rows.fsmSpeaksRow.domain false) (Rows.fsmSpeaksSpec.post enc Try.prog Try.f4 false true false false) := by
  refine returnsInHanded_of_change_sized (C := Try.checked) own started (by kernel_rfl) Try.func4
    (ChangeSpec.witness6 (enc := enc) (C := Try.checked) false ⟨#[], #[.bool false, .slice none 0 0], []⟩ 8 (by kernel_rfl) (by kernel_rfl) (by kernel_rfl) (by kernel_rfl)) ?_
  intro W base args ds gs before hval0 hW hcnd hsz hreach
  have hval : ∀ (j : Nat) t v, Try.f4.params[j]? = some t → args[j]? = some v → Value.okWide Try.prog W .any base t v := hval0
  have hW' := hW
  obtain ⟨p, q, hA0, hV, rfl, hfz, hnd⟩ := hW
  have hA : DataW.TrodAll enc Try.prog W 0 (fun _ => true) true Try.f4.params.toList args.toList ds p := hA0
  rw [Try.params4] at hA hval
  obtain ⟨v0, vs0, d0, ds0, p0, q0, hargs, rfl, rfl, h0, r0⟩ := trodAll_cons hA
  obtain ⟨v1, vs1, d1, ds1, p1, q1, rfl, rfl, rfl, h1, r1⟩ := trodAll_cons r0
  obtain ⟨rfl, rfl, rfl⟩ := trodAll_nil r1
  obtain rfl : args = #[v0, v1] := by cases args; simp_all
  obtain ⟨rfl, rfl⟩ := trodVars_none hV
  have k0 := h0
  have lt0 : ∀ x ∈ p0, x.block < W.heap.size := by obtain ⟨m, hm⟩ := k0; exact DataW.trod_lt m _ _ _ hm
  obtain ⟨n0, g0⟩ := Rs.of_weights hsz 0 (by first | rfl | (simp [Try.params4])) rfl h0
  obtain ⟨a0, rfl⟩ := okWide_bool Try.underlying4 (hval 0 4 v0 rfl rfl)
  have k1 := h1
  have lt1 : ∀ x ∈ p1, x.block < W.heap.size := by obtain ⟨m, hm⟩ := k1; exact DataW.trod_lt m _ _ _ hm
  obtain ⟨n1, g1⟩ := Rs.of_weights hsz 1 (by first | rfl | (simp [Try.params4])) rfl h1
  obtain ⟨a1, l1, c1, rfl⟩ := okWide_slice Try.underlying22 (hval 1 22 v1 rfl rfl)
  refine (walk n0 g0 n1 g1).mono fun e W' ⟨he, hg⟩ => ?_
  subst he
  have bel := hg.belowNil
  exact ⟨_, rfl, _, _, _, [], _, [], hW', trodAll_mk1 (shut_bool Try.underlying4 _), (trodAll_cons_mk (Below.trod laidOut (by kernel_rfl) (of_decide_eq_true (by kernel_rfl)) k0 bel lt0) (trodAll_cons_mk (Below.trod laidOut (by kernel_rfl) (of_decide_eq_true (by kernel_rfl)) k1 bel lt1) trodAll_mk0)), rfl, bel.frame _, fun h => by cases h⟩

theorem over : Rows.fsmSpeaksRow.holds Try.pinned (OpenSpec.ofChange Rows.fsmSpeaksSpec) :=
  OpenClaim.holds_of_wide 4 Try.f4 rfl rfl rfl rfl rfl rfl rfl ⟨rfl, rfl, rfl, rfl, rfl⟩ rfl rfl rfl rfl rfl (by kernel_rfl) Try.func4 (by kernel_rfl)
    (of_decide_eq_true (by kernel_rfl)) (by unfold Func.isWrapper; first | (rw [if_pos (by decide +kernel)]; kernel_rfl) | (rw [if_neg (by decide +kernel)]; exact ⟨rfl, rfl⟩))
    (fun os started H enc _ => lifted os started H enc)

theorem proved : Rows.FsmSpeaksSaid := over
#print axioms proved
end fsmSpeaks
end Go.Proofs.Ytfonbpmdbpdncaa
