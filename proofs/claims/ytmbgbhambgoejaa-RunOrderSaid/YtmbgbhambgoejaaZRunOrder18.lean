/-
  Ru12, Ru13, Cq11, Cq13, Cq14, Cq15: merged.
-/
import Derived.Test.YtmbgbhambgoejaaZRunOrder17
namespace Go.Proofs.Ytmbgbhambgoejaa.C
set_option linter.unusedSimpArgs false
set_option linter.unusedVariables false
set_option maxRecDepth 20000
set_option maxHeartbeats 4000000
open Go.RowKit Go.Pm

theorem otest_s (rb : Nat) (p : Pf) (hp : PfN p) (d : At) (hd : AtF d) (s : Sp) (hsn : SpN s) (ho : 4 ≤ s.op ∧ s.op ≤ 12) (ht : TestOk s.op s.n (s.a, s.l)) : Pact Try.prog 38 #[.pointer (some ⟨rb, 0, none⟩), .agg (spC s).toArray] (fun w => AtV w d) [pts rb (routeC p d) 70] (fun u L' => u = .bool (testN s.op s.n (s.a, s.l) p d.nf) ∧ L' = [pts rb (routeC p d) 70]) := by
  have hcl := hd.comms
  have hq : PfN (s.a, s.l) := ⟨hsn.a, hsn.l⟩
  have hC := contains_s d.ca d.cc d.comms s.n (by omega)
  unfold TestOk at ht
  have hmed := hd.num.med
  unfold U32 at hmed
  refine pact Try.func38 rfl Try.ntmps38 rfl ?_
  intro W K hK
  by_cases o4 : s.op = 4
  · have e : testN s.op s.n (s.a, s.l) p d.nf = (decide (Wi (s.a, s.l) p) && decide (p.2 ≤ s.n)) := by unfold testN; rw [if_pos o4]
    rw [e]
    rcases hb : decide (Wi (s.a, s.l) p) with _ | _
    all_goals (
      (repeat' (first | ((with_reducible apply gL); (first | refine yL0 ?_ | refine yL ?_ | ((with_reducible apply gL_go); (first | (refine JL_goq (within_b (s.a, s.l) p hq hp _ hb) (hφ := xF) (h := ?_); rintro _ _ ⟨rfl, rfl⟩; try simp only [List.cons_append, List.nil_append]) | fail)) | (refine yM ?_; intro _) | fail)) | ((with_reducible apply gD); (first | (refine JD_nil ?_; try simp only [List.cons_append, List.nil_append]) | (refine JD_bar ?_; try simp only [List.cons_append, List.nil_append]) | refine yD0 ?_ | refine yD ?_ | ((with_reducible apply gD_go); (first | (refine JD_goq (within_b (s.a, s.l) p hq hp _ hb) (hφ := xF) (h := ?_); rintro _ _ ⟨rfl, rfl⟩; try simp only [List.cons_append, List.nil_append]) | fail)) | ((with_reducible apply gD_gd); (first | (refine JD_guard xR xR ?_ ?_ <;> intro _ <;> (try (exfalso; first | contradiction | omega))) | (refine JD_guardb xR xR ?_ ?_ <;> (intro hgb; subst hgb)) | (refine JD_guardb xR xR ?_ ?_ <;> (intro hgb; fail_if_success (have : type_of% hgb := rfl))) | fail)) | fail)) | refine yJ ?_ | ((with_reducible apply gJ_if); (first | (refine J_if xR ?_ ?_ <;> intro _ <;> (try (exfalso; first | contradiction | omega))) | (refine J_ifb xR ?_ ?_ <;> (intro hgb; subst hgb)) | (refine J_ifb xR ?_ ?_ <;> intro _) | fail)) | refine J_draw (id := 3) [0, 1, 2, 3, 4, 5] [6, 7, 8, 9, 10, 11, 12, 13, 14, 15, 16, 17] mixed xC xD xD ?_ | refine J_draw (id := 5) [0, 1, 2, 3, 4, 5] [6, 7] mixed xC xD xD ?_ | refine J_draw (id := 7) [0, 1, 2, 3, 4, 5, 6, 7] [8, 9] mixed xC xD xD ?_ | refine J_draw (id := 9) [0, 1, 2, 3, 4, 5, 6] [7, 8] mixed xC xD xD ?_ | refine J_draw (id := 11) [0, 1, 2, 3, 4, 5, 6, 7, 8, 9, 10, 11, 12, 13] [14, 15, 16] mixed xC xD xD ?_ | fail))
      all_goals (first | (exfalso; omega) | skip)
      exact J_ret1 rfl (by rfl) fun w H => ⟨_, ⟨by simp, rfl⟩, H.sel xZ⟩)
  by_cases o5 : s.op = 5
  · have e : testN s.op s.n (s.a, s.l) p d.nf = decide (p = (s.a, s.l)) := by unfold testN; rw [if_neg o4, if_pos o5]
    rw [e]
    (repeat' (first | ((with_reducible apply gL); (first | refine yL0 ?_ | refine yL ?_ | (refine yM ?_; intro _) | fail)) | ((with_reducible apply gD); (first | (refine JD_nil ?_; try simp only [List.cons_append, List.nil_append]) | (refine JD_bar ?_; try simp only [List.cons_append, List.nil_append]) | refine yD0 ?_ | refine yD ?_ | ((with_reducible apply gD_gd); (first | (refine JD_guard xR xR ?_ ?_ <;> intro _ <;> (try (exfalso; first | contradiction | omega))) | (refine JD_guardb xR xR ?_ ?_ <;> (intro hgb; subst hgb)) | (refine JD_guardb xR xR ?_ ?_ <;> (intro hgb; fail_if_success (have : type_of% hgb := rfl))) | fail)) | fail)) | refine yJ ?_ | ((with_reducible apply gJ_if); (first | (refine J_if xR ?_ ?_ <;> intro _ <;> (try (exfalso; first | contradiction | omega))) | (refine J_ifb xR ?_ ?_ <;> (intro hgb; subst hgb)) | (refine J_ifb xR ?_ ?_ <;> intro _) | fail)) | refine J_draw (id := 3) [0, 1, 2, 3, 4, 5] [6, 7, 8, 9, 10, 11, 12, 13, 14, 15, 16, 17] mixed xC xD xD ?_ | refine J_draw (id := 5) [0, 1, 2, 3, 4, 5] [6, 7] mixed xC xD xD ?_ | refine J_draw (id := 7) [0, 1, 2, 3, 4, 5, 6, 7] [8, 9] mixed xC xD xD ?_ | refine J_draw (id := 9) [0, 1, 2, 3, 4, 5, 6] [7, 8] mixed xC xD xD ?_ | refine J_draw (id := 11) [0, 1, 2, 3, 4, 5, 6, 7, 8, 9, 10, 11, 12, 13] [14, 15, 16] mixed xC xD xD ?_ | fail))
    all_goals (first | (exfalso; omega) | skip)
    refine J_ret1 rfl (by rfl) fun w H => ⟨_, ⟨?_, rfl⟩, H.sel xZ⟩
    simp [Prod.ext_iff]
  by_cases o10 : s.op = 10
  · have e : testN s.op s.n (s.a, s.l) p d.nf = decide (s.n ∈ d.comms) := by unfold testN; rw [if_neg o4, if_neg o5, if_neg (by omega), if_neg (by omega), if_neg (by omega), if_neg (by omega), if_pos o10]; rfl
    rw [e]
    (repeat' (first | ((with_reducible apply gL); (first | refine yL0 ?_ | refine yL ?_ | ((with_reducible apply gL_go); (first | (refine JL_goq (hC) (hφ := (by (try simp only [List.cons_append, List.nil_append]); exact fun w hr => (hK w hr.1).comms)) (h := ?_); rintro _ _ ⟨rfl, rfl⟩; try simp only [List.cons_append, List.nil_append]) | fail)) | (refine yM ?_; intro _) | fail)) | ((with_reducible apply gD); (first | (refine JD_nil ?_; try simp only [List.cons_append, List.nil_append]) | (refine JD_bar ?_; try simp only [List.cons_append, List.nil_append]) | refine yD0 ?_ | refine yD ?_ | ((with_reducible apply gD_go); (first | (refine JD_goq (hC) (hφ := (by (try simp only [List.cons_append, List.nil_append]); exact fun w hr => (hK w hr.1).comms)) (h := ?_); rintro _ _ ⟨rfl, rfl⟩; try simp only [List.cons_append, List.nil_append]) | fail)) | ((with_reducible apply gD_gd); (first | (refine JD_guard xR xR ?_ ?_ <;> intro _ <;> (try (exfalso; first | contradiction | omega))) | (refine JD_guardb xR xR ?_ ?_ <;> (intro hgb; subst hgb)) | (refine JD_guardb xR xR ?_ ?_ <;> (intro hgb; fail_if_success (have : type_of% hgb := rfl))) | fail)) | fail)) | refine yJ ?_ | ((with_reducible apply gJ_if); (first | (refine J_if xR ?_ ?_ <;> intro _ <;> (try (exfalso; first | contradiction | omega))) | (refine J_ifb xR ?_ ?_ <;> (intro hgb; subst hgb)) | (refine J_ifb xR ?_ ?_ <;> intro _) | fail)) | refine J_draw (id := 3) [0, 1, 2, 3, 4, 5] [6, 7, 8, 9, 10, 11, 12, 13, 14, 15, 16, 17] mixed xC xD xD ?_ | refine J_draw (id := 5) [0, 1, 2, 3, 4, 5] [6, 7] mixed xC xD xD ?_ | refine J_draw (id := 7) [0, 1, 2, 3, 4, 5, 6, 7] [8, 9] mixed xC xD xD ?_ | refine J_draw (id := 9) [0, 1, 2, 3, 4, 5, 6] [7, 8] mixed xC xD xD ?_ | refine J_draw (id := 11) [0, 1, 2, 3, 4, 5, 6, 7, 8, 9, 10, 11, 12, 13] [14, 15, 16] mixed xC xD xD ?_ | fail))
    all_goals (first | (exfalso; omega) | skip)
    exact J_ret1 rfl (by rfl) fun w H => ⟨_, ⟨rfl, rfl⟩, H.sel xZ⟩
  by_cases o11 : s.op = 11
  · have e : testN s.op s.n (s.a, s.l) p d.nf = decide (d.origin = s.n) := by unfold testN; rw [if_neg o4, if_neg o5, if_neg (by omega), if_neg (by omega), if_neg (by omega), if_neg (by omega), if_neg (by omega), if_pos o11]; rfl
    rw [e]
    (repeat' (first | ((with_reducible apply gL); (first | refine yL0 ?_ | refine yL ?_ | (refine yM ?_; intro _) | fail)) | ((with_reducible apply gD); (first | (refine JD_nil ?_; try simp only [List.cons_append, List.nil_append]) | (refine JD_bar ?_; try simp only [List.cons_append, List.nil_append]) | refine yD0 ?_ | refine yD ?_ | ((with_reducible apply gD_gd); (first | (refine JD_guard xR xR ?_ ?_ <;> intro _ <;> (try (exfalso; first | contradiction | omega))) | (refine JD_guardb xR xR ?_ ?_ <;> (intro hgb; subst hgb)) | (refine JD_guardb xR xR ?_ ?_ <;> (intro hgb; fail_if_success (have : type_of% hgb := rfl))) | fail)) | fail)) | refine yJ ?_ | ((with_reducible apply gJ_if); (first | (refine J_if xR ?_ ?_ <;> intro _ <;> (try (exfalso; first | contradiction | omega))) | (refine J_ifb xR ?_ ?_ <;> (intro hgb; subst hgb)) | (refine J_ifb xR ?_ ?_ <;> intro _) | fail)) | refine J_draw (id := 3) [0, 1, 2, 3, 4, 5] [6, 7, 8, 9, 10, 11, 12, 13, 14, 15, 16, 17] mixed xC xD xD ?_ | refine J_draw (id := 5) [0, 1, 2, 3, 4, 5] [6, 7] mixed xC xD xD ?_ | refine J_draw (id := 7) [0, 1, 2, 3, 4, 5, 6, 7] [8, 9] mixed xC xD xD ?_ | refine J_draw (id := 9) [0, 1, 2, 3, 4, 5, 6] [7, 8] mixed xC xD xD ?_ | refine J_draw (id := 11) [0, 1, 2, 3, 4, 5, 6, 7, 8, 9, 10, 11, 12, 13] [14, 15, 16] mixed xC xD xD ?_ | fail))
    all_goals (first | (exfalso; omega) | skip)
    exact J_ret1 rfl (by rfl) fun w H => ⟨_, ⟨rfl, rfl⟩, H.sel xZ⟩
  by_cases o12 : s.op = 12
  · have e : testN s.op s.n (s.a, s.l) p d.nf = (d.hasMed && decide (s.n < d.med)) := by
      unfold testN; rw [if_neg o4, if_neg o5, if_neg (by omega), if_neg (by omega), if_neg (by omega), if_neg (by omega), if_neg (by omega), if_neg (by omega), if_pos o12]
      unfold At.nf
      dsimp only
      cases d.hasMed <;> simp
    rw [e]
    (repeat' (first | ((with_reducible apply gL); (first | refine yL0 ?_ | refine yL ?_ | (refine yM ?_; intro _) | fail)) | ((with_reducible apply gD); (first | (refine JD_nil ?_; try simp only [List.cons_append, List.nil_append]) | (refine JD_bar ?_; try simp only [List.cons_append, List.nil_append]) | refine yD0 ?_ | refine yD ?_ | ((with_reducible apply gD_gd); (first | (refine JD_guard xR xR ?_ ?_ <;> intro _ <;> (try (exfalso; first | contradiction | omega))) | (refine JD_guardb xR xR ?_ ?_ <;> (intro hgb; subst hgb)) | (refine JD_guardb xR xR ?_ ?_ <;> (intro hgb; fail_if_success (have : type_of% hgb := rfl))) | fail)) | fail)) | refine yJ ?_ | ((with_reducible apply gJ_if); (first | (refine J_if xR ?_ ?_ <;> intro _ <;> (try (exfalso; first | contradiction | omega))) | (refine J_ifb xR ?_ ?_ <;> (intro hgb; subst hgb)) | (refine J_ifb xR ?_ ?_ <;> intro _) | fail)) | refine J_draw (id := 3) [0, 1, 2, 3, 4, 5] [6, 7, 8, 9, 10, 11, 12, 13, 14, 15, 16, 17] mixed xC xD xD ?_ | refine J_draw (id := 5) [0, 1, 2, 3, 4, 5] [6, 7] mixed xC xD xD ?_ | refine J_draw (id := 7) [0, 1, 2, 3, 4, 5, 6, 7] [8, 9] mixed xC xD xD ?_ | refine J_draw (id := 9) [0, 1, 2, 3, 4, 5, 6] [7, 8] mixed xC xD xD ?_ | refine J_draw (id := 11) [0, 1, 2, 3, 4, 5, 6, 7, 8, 9, 10, 11, 12, 13] [14, 15, 16] mixed xC xD xD ?_ | fail))
    all_goals (first | (exfalso; omega) | skip)
    all_goals (refine J_ret1 rfl (by rfl) fun w H => ⟨_, ⟨?_, rfl⟩, H.sel xZ⟩; simp [*])
  · (repeat' (first | ((with_reducible apply gL); (first | refine yL0 ?_ | refine yL ?_ | ((with_reducible apply gL_go); (first | (refine JL_goq (rpath_s rb p d hd s.op s.n (by omega) (by omega) (s.a, s.l)) (hφ := (by (try simp only [List.cons_append, List.nil_append]); exact fun w hr => hK w hr.1)) (h := ?_); rintro _ _ ⟨rfl, rfl⟩; try simp only [List.cons_append, List.nil_append]) | fail)) | (refine yM ?_; intro _) | fail)) | ((with_reducible apply gD); (first | (refine JD_nil ?_; try simp only [List.cons_append, List.nil_append]) | (refine JD_bar ?_; try simp only [List.cons_append, List.nil_append]) | refine yD0 ?_ | refine yD ?_ | ((with_reducible apply gD_go); (first | (refine JD_goq (rpath_s rb p d hd s.op s.n (by omega) (by omega) (s.a, s.l)) (hφ := (by (try simp only [List.cons_append, List.nil_append]); exact fun w hr => hK w hr.1)) (h := ?_); rintro _ _ ⟨rfl, rfl⟩; try simp only [List.cons_append, List.nil_append]) | fail)) | ((with_reducible apply gD_gd); (first | (refine JD_guard xR xR ?_ ?_ <;> intro _ <;> (try (exfalso; first | contradiction | omega))) | (refine JD_guardb xR xR ?_ ?_ <;> (intro hgb; subst hgb)) | (refine JD_guardb xR xR ?_ ?_ <;> (intro hgb; fail_if_success (have : type_of% hgb := rfl))) | fail)) | fail)) | refine yJ ?_ | ((with_reducible apply gJ_if); (first | (refine J_if xR ?_ ?_ <;> intro _ <;> (try (exfalso; first | contradiction | omega))) | (refine J_ifb xR ?_ ?_ <;> (intro hgb; subst hgb)) | (refine J_ifb xR ?_ ?_ <;> intro _) | fail)) | refine J_draw (id := 3) [0, 1, 2, 3, 4, 5] [6, 7, 8, 9, 10, 11, 12, 13, 14, 15, 16, 17] mixed xC xD xD ?_ | refine J_draw (id := 5) [0, 1, 2, 3, 4, 5] [6, 7] mixed xC xD xD ?_ | refine J_draw (id := 7) [0, 1, 2, 3, 4, 5, 6, 7] [8, 9] mixed xC xD xD ?_ | refine J_draw (id := 9) [0, 1, 2, 3, 4, 5, 6] [7, 8] mixed xC xD xD ?_ | refine J_draw (id := 11) [0, 1, 2, 3, 4, 5, 6, 7, 8, 9, 10, 11, 12, 13] [14, 15, 16] mixed xC xD xD ?_ | fail))
    all_goals (first | (exfalso; omega) | skip)
    exact J_ret1 rfl (by rfl) fun w H => ⟨_, ⟨rfl, rfl⟩, H.sel xZ⟩
end Go.Proofs.Ytmbgbhambgoejaa.C
namespace Go.Proofs.Ytmbgbhambgoejaa.C
set_option linter.unusedSimpArgs false
set_option linter.unusedVariables false
set_option maxRecDepth 20000
set_option maxHeartbeats 4000000
open Go.RowKit Go.Pm

structure Lpl where
  k : Nat
  n : Nat
  d : At
def PlayR (rb : Nat) (p : Pf) (d0 : At) (r : Option Nf × Nat) (u : Value) (L' : List HP) : Prop := ∃ d' : At, AtF d' ∧ u = .tuple #[.bool r.1.isSome, .int .i64 r.2] ∧ (∀ x, r.1 = some x → x = d'.nf) ∧ L' = [pts rb (routeC p d') 70, has (fun w => AtV w d0 → AtV w d')]
theorem play_s (rb : Nat) (p : Pf) (hp : PfN p) (d0 : At) (hd0 : AtF d0) (a : Option Addr) (c : Nat) (T : List Sp) (hT : RightT T) (hsn : ∀ s ∈ T, SpN s) (h0 : 0 < T.length) (hl : T.length ≤ 4096) : Pact Try.prog 22 #[.pointer (some ⟨rb, 0, none⟩), .slice a T.length c] (fun w => AtV w d0 ∧ Vw w (.slice a T.length c) 7 T.length (flat spC T)) [pts rb (routeC p d0) 70] (PlayR rb p d0 (playW T p 0 d0.nf)) := by
  refine pact Try.func22 rfl Try.ntmps22 rfl ?_
  intro W K hK
  have hkv : Kn K (fun w => Vw w (.slice a T.length c) 7 T.length (flat spC T)) := hK.imp fun w h => h.2
  obtain ⟨r0, hr0⟩ : ∃ r, playW T p 0 d0.nf = r := ⟨_, rfl⟩
  rw [hr0]
  (repeat' (first | ((with_reducible apply gL); (first | refine yL0 ?_ | refine yL ?_ | (refine yM ?_; intro _) | ((with_reducible apply gL_gd); (first | (refine JL_guard xR xR ?_ ?_ <;> intro _ <;> (try (exfalso; first | contradiction | omega))) | (refine JL_guardb xR xR ?_ ?_ <;> (intro hgb; subst hgb)) | (refine JL_guardb xR xR ?_ ?_ <;> (intro hgb; fail_if_success (have : type_of% hgb := rfl))) | fail)) | fail)) | refine yJ ?_ | ((with_reducible apply gJ_if); (first | (refine J_if xR ?_ ?_ <;> intro _ <;> (try (exfalso; first | contradiction | omega))) | (refine J_ifb xR ?_ ?_ <;> (intro hgb; subst hgb)) | (refine J_ifb xR ?_ ?_ <;> intro _) | fail)) | fail))
  refine J_loop (α := Lpl) ⟨0, 1, d0⟩ (fun x => T.length - x.k) (fun x => x.k < T.length ∧ x.n ≤ x.k + 1 ∧ AtF x.d ∧ r0.1 = (playW T p x.k x.d.nf).1 ∧ r0.2 + 1 = x.n + (playW T p x.k x.d.nf).2) (fun x => [(0, .pointer (some ⟨rb, 0, none⟩)), (1, .slice a T.length c), (6, .int .i64 x.k), (7, .int .i64 x.n)])
    (fun x => [pts rb (routeC p x.d) 70, has (fun w => AtV w d0 → AtV w x.d)]) ⟨h0, by show 1 ≤ 0 + 1; omega, hd0, by rw [hr0], by rw [hr0]; show r0.2 + 1 = 1 + r0.2; omega⟩ ⟨rfl, rfl, rfl, rfl, trivial⟩ (fun w H => (Ow.hasTrue (φ := fun w => AtV w d0 → AtV w d0) H (fun _ h => h)).sel xZ) ?_
  rintro ⟨k, n, d⟩ ⟨hk, hn, hd, hr1, hr2⟩
  dsimp only at hk hn hd hr1 hr2 ⊢
  obtain ⟨s, hs⟩ : ∃ s, T[k]? = some s := ⟨_, List.getElem?_eq_getElem hk⟩
  have hok := hT k s hs
  have hsm := hsn s (List.mem_of_getElem? hs)
  by_cases o22 : s.op = 22
  · rw [playW_acc hs o22] at hr1 hr2
    (repeat' (first | ((with_reducible apply gL); (first | refine yL0 ?_ | refine yL ?_ | (refine yM ?_; intro _) | ((with_reducible apply gL_gd); (first | (refine JL_guard xR xR ?_ ?_ <;> intro _ <;> (try (exfalso; first | contradiction | omega))) | (refine JL_guardb xR xR ?_ ?_ <;> (intro hgb; subst hgb)) | (refine JL_guardb xR xR ?_ ?_ <;> (intro hgb; fail_if_success (have : type_of% hgb := rfl))) | fail)) | fail)) | refine yJ ?_ | ((with_reducible apply gJ_if); (first | (refine J_if xR ?_ ?_ <;> intro _ <;> (try (exfalso; first | contradiction | omega))) | (refine J_ifb xR ?_ ?_ <;> (intro hgb; subst hgb)) | (refine J_ifb xR ?_ ?_ <;> intro _) | fail)) | fail))
    all_goals (first | (exfalso; omega) | skip)
    refine J_ret2 rfl (by rfl) (by rfl) fun w H => ⟨_, ⟨d, hd, ?_, fun x hx => by rw [hr1] at hx; exact (Option.some.inj hx).symm, rfl⟩, H.sel xZ⟩
    rw [hr1, show r0.2 = n by omega, o22]
    rfl
  by_cases o23 : s.op = 23
  · rw [playW_rej hs o23] at hr1 hr2
    (repeat' (first | ((with_reducible apply gL); (first | refine yL0 ?_ | refine yL ?_ | (refine yM ?_; intro _) | ((with_reducible apply gL_gd); (first | (refine JL_guard xR xR ?_ ?_ <;> intro _ <;> (try (exfalso; first | contradiction | omega))) | (refine JL_guardb xR xR ?_ ?_ <;> (intro hgb; subst hgb)) | (refine JL_guardb xR xR ?_ ?_ <;> (intro hgb; fail_if_success (have : type_of% hgb := rfl))) | fail)) | fail)) | refine yJ ?_ | ((with_reducible apply gJ_if); (first | (refine J_if xR ?_ ?_ <;> intro _ <;> (try (exfalso; first | contradiction | omega))) | (refine J_ifb xR ?_ ?_ <;> (intro hgb; subst hgb)) | (refine J_ifb xR ?_ ?_ <;> intro _) | fail)) | fail))
    all_goals (first | (exfalso; omega) | skip)
    refine J_ret2 rfl (by rfl) (by rfl) fun w H => ⟨_, ⟨d, hd, ?_, fun x hx => (by rw [hr1] at hx; cases hx), rfl⟩, H.sel xZ⟩
    rw [hr1, show r0.2 = n by omega, o23]
    rfl
  by_cases o12 : s.op ≤ 12
  · obtain ⟨h1, h2, h3, h4, h5⟩ : (4 ≤ s.op ∧ s.op ≤ 12) ∧ TestOk s.op s.n (s.a, s.l) ∧ s.m = 0 ∧ ((k : Int) < s.x ∧ s.x < T.length) ∧ ((k : Int) < s.y ∧ s.y < T.length) := by
      rcases hok with h | h | h | h
      · exact h
      · omega
      · omega
      · omega
    have hnx : nextN s p d.nf = some ((if testN s.op s.n (s.a, s.l) p d.nf then s.x else s.y), d.nf) := by unfold nextN; rw [if_pos o12]
    rw [playW_step hs hok o22 o23 hnx] at hr1 hr2
    have hB := otest_s rb p hp d hd s hsm h1 h2
    rcases hb : testN s.op s.n (s.a, s.l) p d.nf with _ | _
    all_goals rw [hb] at hB hr1 hr2
    · rw [if_neg (by simp)] at hr1 hr2
      (repeat' (first | ((with_reducible apply gL); (first | refine yL0 ?_ | refine yL ?_ | ((with_reducible apply gL_go); (first | (refine JL_goq (hB) (hφ := (by (try simp only [List.cons_append, List.nil_append]); exact fun w hr => hr.has (φ := fun w => AtV w d0 → AtV w d) xA (hK w hr.1).1)) (h := ?_); rintro _ _ ⟨rfl, rfl⟩; try simp only [List.cons_append, List.nil_append]) | fail)) | (refine yM ?_; intro _) | ((with_reducible apply gL_gd); (first | (refine JL_guard xR xR ?_ ?_ <;> intro _ <;> (try (exfalso; first | contradiction | omega))) | (refine JL_guardb xR xR ?_ ?_ <;> (intro hgb; subst hgb)) | (refine JL_guardb xR xR ?_ ?_ <;> (intro hgb; fail_if_success (have : type_of% hgb := rfl))) | fail)) | fail)) | refine yJ ?_ | ((with_reducible apply gJ_if); (first | (refine J_if xR ?_ ?_ <;> intro _ <;> (try (exfalso; first | contradiction | omega))) | (refine J_ifb xR ?_ ?_ <;> (intro hgb; subst hgb)) | (refine J_ifb xR ?_ ?_ <;> intro _) | fail)) | fail))
      all_goals (first | (exfalso; omega) | skip)
      refine J_again ⟨s.y.toNat, n + 1, d⟩ (by dsimp only; omega) ⟨by dsimp only; omega, by dsimp only; omega, hd, hr1, by dsimp only at hr2 ⊢; omega⟩ ⟨rfl, rfl, ?_, rfl, trivial⟩ (fun w H => H.sel xZ)
      show some (Value.int .i64 s.y) = some (Value.int .i64 (s.y.toNat : Int))
      rw [show (s.y.toNat : Int) = s.y by omega]
    · rw [if_pos rfl] at hr1 hr2
      (repeat' (first | ((with_reducible apply gL); (first | refine yL0 ?_ | refine yL ?_ | ((with_reducible apply gL_go); (first | (refine JL_goq (hB) (hφ := (by (try simp only [List.cons_append, List.nil_append]); exact fun w hr => hr.has (φ := fun w => AtV w d0 → AtV w d) xA (hK w hr.1).1)) (h := ?_); rintro _ _ ⟨rfl, rfl⟩; try simp only [List.cons_append, List.nil_append]) | fail)) | (refine yM ?_; intro _) | ((with_reducible apply gL_gd); (first | (refine JL_guard xR xR ?_ ?_ <;> intro _ <;> (try (exfalso; first | contradiction | omega))) | (refine JL_guardb xR xR ?_ ?_ <;> (intro hgb; subst hgb)) | (refine JL_guardb xR xR ?_ ?_ <;> (intro hgb; fail_if_success (have : type_of% hgb := rfl))) | fail)) | fail)) | refine yJ ?_ | ((with_reducible apply gJ_if); (first | (refine J_if xR ?_ ?_ <;> intro _ <;> (try (exfalso; first | contradiction | omega))) | (refine J_ifb xR ?_ ?_ <;> (intro hgb; subst hgb)) | (refine J_ifb xR ?_ ?_ <;> intro _) | fail)) | fail))
      all_goals (first | (exfalso; omega) | skip)
      refine J_again ⟨s.x.toNat, n + 1, d⟩ (by dsimp only; omega) ⟨by dsimp only; omega, by dsimp only; omega, hd, hr1, by dsimp only at hr2 ⊢; omega⟩ ⟨rfl, rfl, ?_, rfl, trivial⟩ (fun w H => H.sel xZ)
      show some (Value.int .i64 s.x) = some (Value.int .i64 (s.x.toNat : Int))
      rw [show (s.x.toNat : Int) = s.x by omega]
  · have hdo : s.op = 21 ∨ ((24 ≤ s.op ∧ s.op ≤ 29) ∧ ActOk (s.op - 20) s.n s.m) := by
      rcases hok with h | h | h | h
      · omega
      · exact .inl h.1
      · omega
      · exact .inr ⟨h.1, h.2.1⟩
    have hx : (k : Int) < s.x ∧ s.x < T.length := by
      rcases hok with h | h | h | h
      · omega
      · exact h.2.2.2.2.1
      · omega
      · exact h.2.2.2.1
    have hD := rdo_s rb p d hd s hdo
    obtain ⟨r, hr⟩ : ∃ r, (if s.op = 21 then some d.nf else doN (s.op - 20) s.n s.m d.nf) = r := ⟨_, rfl⟩
    rw [hr] at hD
    have hnx : nextN s p d.nf = r.map fun y => (s.x, y) := by
      unfold nextN
      rw [if_neg o12, ← hr]
      split <;> rfl
    (repeat' (first | ((with_reducible apply gL); (first | refine yL0 ?_ | refine yL ?_ | ((with_reducible apply gL_go); (first | (refine JL_goq (hD) (hφ := (by (try simp only [List.cons_append, List.nil_append]); exact fun w hr => hr.has (φ := fun w => AtV w d0 → AtV w d) xA (hK w hr.1).1)) (h := ?_); rintro _ _ ⟨d', ok, hd', rfl, hrr, rfl⟩; try simp only [List.cons_append, List.nil_append]) | fail)) | (refine yM ?_; intro _) | ((with_reducible apply gL_gd); (first | (refine JL_guard xR xR ?_ ?_ <;> intro _ <;> (try (exfalso; first | contradiction | omega))) | (refine JL_guardb xR xR ?_ ?_ <;> (intro hgb; subst hgb)) | (refine JL_guardb xR xR ?_ ?_ <;> (intro hgb; fail_if_success (have : type_of% hgb := rfl))) | fail)) | fail)) | refine yJ ?_ | ((with_reducible apply gJ_if); (first | (refine J_if xR ?_ ?_ <;> intro _ <;> (try (exfalso; first | contradiction | omega))) | (refine J_ifb xR ?_ ?_ <;> (intro hgb; subst hgb)) | (refine J_ifb xR ?_ ?_ <;> intro _) | fail)) | fail))
    all_goals (first | (exfalso; omega) | skip)
    · obtain rfl : ok = false := Bool.eq_false_iff.2 (by assumption)
      rw [if_neg (by simp)] at hrr
      rw [hrr] at hnx
      rw [playW_no hs o22 hnx] at hr1 hr2
      refine J_ret2 rfl (by rfl) (by rfl) fun w H => ⟨_, ⟨d', hd', ?_, fun x hx => (by rw [hr1] at hx; cases hx), rfl⟩, ?_⟩
      · rw [hr1, show r0.2 = n by omega]
        rfl
      · exact (Ow.has (M := [has (fun w => AtV w d → AtV w d'), has (fun w => AtV w d0 → AtV w d)]) (φ := fun w => AtV w d0 → AtV w d') H xZ (fun w hr h => hr.has (φ := fun w => AtV w d → AtV w d') .here (hr.has (φ := fun w => AtV w d0 → AtV w d) (.there .here) h))).sel xZ
    · obtain rfl : ok = true := by first | assumption | exact Decidable.not_not.1 (by assumption)
      rw [if_pos rfl] at hrr
      rw [hrr] at hnx
      rw [playW_step hs hok o22 o23 hnx] at hr1 hr2
      refine J_again ⟨s.x.toNat, n + 1, d'⟩ (by dsimp only; omega) ⟨by dsimp only; omega, by dsimp only; omega, hd', hr1, by dsimp only at hr2 ⊢; omega⟩ ⟨rfl, rfl, ?_, rfl, trivial⟩ (fun w H => ?_)
      · show some (Value.int .i64 s.x) = some (Value.int .i64 (s.x.toNat : Int))
        rw [show (s.x.toNat : Int) = s.x by omega]
      · exact (Ow.has (M := [has (fun w => AtV w d → AtV w d'), has (fun w => AtV w d0 → AtV w d)]) (φ := fun w => AtV w d0 → AtV w d') H xZ (fun w hr h => hr.has (φ := fun w => AtV w d → AtV w d') .here (hr.has (φ := fun w => AtV w d0 → AtV w d) (.there .here) h))).sel xZ
end Go.Proofs.Ytmbgbhambgoejaa.C
namespace Go.Proofs.Ytmbgbhambgoejaa.C
set_option linter.unusedSimpArgs false
set_option linter.unusedVariables false
set_option maxRecDepth 20000
set_option maxHeartbeats 4000000
open Go.RowKit Go.Pm

def KidS (φ : St → World → Prop) (a : Option Addr) (c : Nat) (l : List St) (w : World) : Prop := (l ≠ [] → Vw w (.slice a l.length c) 10 l.length (flat stC l)) ∧ ∀ s ∈ l, φ s w
theorem LsF.len {d : Nat} {l : List St} (h : LsF d l) : l.length ≤ 6 := by
  cases d with
  | zero => rw [show l = [] from h]; simp
  | succ d => exact h.1
theorem LsF.sub {d : Nat} {l : List St} {s : St} (h : LsF d l) (hs : s ∈ l) : StN s ∧ CdF 5 s.cd ∧ LsF (d - 1) s.th ∧ LsF (d - 1) s.el := by
  cases d with
  | zero => rw [show l = [] from h] at hs; cases hs
  | succ d => exact h.2 s hs
theorem LsF.kids {d : Nat} {l : List St} (h : LsF d l) {a : Option Addr} {c : Nat} {w : World} (hv : LsV w d a c l) : KidS (fun s w => SeenS (d - 1) s w) a c l w := by
  cases d with
  | zero => rw [show l = [] from h]; exact ⟨fun h => absurd rfl h, fun y hy => absurd hy List.not_mem_nil⟩
  | succ d => exact ⟨fun _ => hv.1, hv.2⟩
def bareB (s : St) : Bool := noneB s.cd && decide (s.th.length + s.el.length = 0)
def stG (gc : Cd → Bool) (gl : List St → Bool) (s : St) : Bool := if s.op = 1 then decide (s.n = 0 ∧ s.m = 0) && (gc s.cd && (gl s.th && gl s.el)) else decide (ActOk s.op s.n s.m) && bareB s
def rightB : Nat → List St → Bool
  | 0, _ => true
  | d + 1, l => l.all (stG (condB 5) (rightB d))
theorem rightB_eq {d : Nat} {l : List St} (h : LsF d l) : rightB d l = l.all (stG (condB 5) (rightB (d - 1))) := by
  cases d with
  | zero => rw [show l = [] from h]; rfl
  | succ d => rfl
theorem bareStmt_s (s : St) (hc : s.cd.l.length ≤ 5) (ht : s.th.length ≤ 6) (he : s.el.length ≤ 6) : Pact Try.prog 31 #[.agg (stC s).toArray] (fun _ => True) [] (ret0 (.bool (bareB s))) := by
  refine pact Try.func31 rfl Try.ntmps31 rfl ?_
  intro W K _
  (repeat' (first | ((with_reducible apply gL); (first | refine yL0 ?_ | refine yL ?_ | (refine yM ?_; intro _) | ((with_reducible apply gL_gd); (first | (refine JL_guard xR xR ?_ ?_ <;> intro _ <;> (try (exfalso; first | contradiction | omega))) | (refine JL_guardb xR xR ?_ ?_ <;> (intro hgb; subst hgb)) | (refine JL_guardb xR xR ?_ ?_ <;> (intro hgb; fail_if_success (have : type_of% hgb := rfl))) | fail)) | fail)) | refine yJ ?_ | fail))
  all_goals (refine J_ret1 rfl (by rfl) fun w H => ⟨_, ⟨?_, rfl⟩, H.sel .nil⟩; refine congrArg Value.bool ?_; unfold bareB noneB; rw [Bool.eq_iff_iff]; simp only [Bool.and_eq_true, decide_eq_true_eq, true_iff, Bool.false_eq_true, false_iff] <;> omega)
theorem bareStmt_b (s : St) (hc : s.cd.l.length ≤ 5) (ht : s.th.length ≤ 6) (he : s.el.length ≤ 6) (b : Bool) (hb : bareB s = b) : Pact Try.prog 31 #[.agg (stC s).toArray] (fun _ => True) [] (ret0 (.bool b)) := hb ▸ bareStmt_s s hc ht he
theorem right1_s (s : St) (φ : World → Prop) (gc : Bool) (gt ge : Bool) (db : Nat) (deep : Int) (hd : 0 ≤ deep ∧ deep ≤ 63) (hl : s.cd.l.length ≤ 5 ∧ s.th.length ≤ 6 ∧ s.el.length ≤ 6)
    (hC : Pact Try.prog 32 #[.agg (cdC s.cd).toArray, .int .i64 (deep + 1)] φ [] (ret0 (.bool gc)))
    (hT : Pact Try.prog 16 #[.slice s.ta s.th.length s.tc, .int .i64 (deep + 1)] φ [] (ret0 (.bool gt)))
    (hE : Pact Try.prog 16 #[.slice s.ea s.el.length s.ec, .int .i64 (deep + 1)] φ [] (ret0 (.bool ge))) :
    Pact Try.prog 29 [.agg (stC s).toArray, .pointer (some ⟨db, 0, none⟩)].toArray φ [pts db [.int .i64 deep] 3] (fun u L' => u = .bool (!(if s.op = 1 then decide (s.n = 0 ∧ s.m = 0) && (gc && (gt && ge)) else decide (ActOk s.op s.n s.m) && bareB s)) ∧ L' = [pts db [.int .i64 deep] 3]) := by
  refine pact Try.func29 rfl Try.ntmps29 rfl ?_
  intro W K hK
  by_cases ho : s.op = 1
  · rw [if_pos ho]
    rcases gc with _ | _ <;> rcases gt with _ | _ <;> rcases ge with _ | _
    all_goals (
      (repeat' (first | ((with_reducible apply gL); (first | (with_reducible apply gL_app) | (with_reducible apply gL_app0) | refine yL0 ?_ | refine yL ?_ | ((with_reducible apply gL_go); (first | (refine JL_goq (hC) (hφ := (by (try simp only [List.cons_append, List.nil_append]); exact fun w hr => hK w hr.1)) (h := ?_); rintro _ _ ⟨rfl, rfl⟩; try simp only [List.cons_append, List.nil_append]) | (refine JL_goq (hT) (hφ := (by (try simp only [List.cons_append, List.nil_append]); exact fun w hr => hK w hr.1)) (h := ?_); rintro _ _ ⟨rfl, rfl⟩; try simp only [List.cons_append, List.nil_append]) | (refine JL_goq (hE) (hφ := (by (try simp only [List.cons_append, List.nil_append]); exact fun w hr => hK w hr.1)) (h := ?_); rintro _ _ ⟨rfl, rfl⟩; try simp only [List.cons_append, List.nil_append]) | fail)) | (refine yM ?_; intro _) | ((with_reducible apply gL_gd); (first | (refine JL_guard xR xR ?_ ?_ <;> intro _ <;> (try (exfalso; first | contradiction | omega))) | (refine JL_guardb xR xR ?_ ?_ <;> (intro hgb; subst hgb)) | (refine JL_guardb xR xR ?_ ?_ <;> (intro hgb; fail_if_success (have : type_of% hgb := rfl))) | fail)) | fail)) | refine yJ ?_ | ((with_reducible apply gJ_if); (first | (refine J_if xR ?_ ?_ <;> intro _ <;> (try (exfalso; first | contradiction | omega))) | (refine J_ifb xR ?_ ?_ <;> (intro hgb; subst hgb)) | (refine J_ifb xR ?_ ?_ <;> intro _) | fail)) | fail)))
    all_goals (refine J_ret1 rfl (by rfl) fun w H => ⟨_, ⟨?_, rfl⟩, H.sel xZ⟩; refine congrArg Value.bool ?_; rw [Bool.eq_iff_iff]; simp only [Bool.and_true, Bool.and_false, Bool.true_and, Bool.false_and, Bool.not_eq_true', decide_eq_true_eq, decide_eq_false_iff_not, true_iff, Bool.false_eq_true, Bool.not_false, Bool.not_true, iff_true, iff_false, false_iff] <;> omega)
  · rw [if_neg ho]
    rcases hba : decide (ActOk s.op s.n s.m) with _ | _
    all_goals rcases hbb : bareB s with _ | _
    all_goals (
      (repeat' (first | ((with_reducible apply gL); (first | (with_reducible apply gL_app) | (with_reducible apply gL_app0) | refine yL0 ?_ | refine yL ?_ | ((with_reducible apply gL_go); (first | (refine JL_goq (act_b s.op s.n s.m _ hba) (hφ := xF) (h := ?_); rintro _ _ ⟨rfl, rfl⟩; try simp only [List.cons_append, List.nil_append]) | (refine JL_goq (bareStmt_b s hl.1 hl.2.1 hl.2.2 _ hbb) (hφ := xF) (h := ?_); rintro _ _ ⟨rfl, rfl⟩; try simp only [List.cons_append, List.nil_append]) | fail)) | (refine yM ?_; intro _) | ((with_reducible apply gL_gd); (first | (refine JL_guard xR xR ?_ ?_ <;> intro _ <;> (try (exfalso; first | contradiction | omega))) | (refine JL_guardb xR xR ?_ ?_ <;> (intro hgb; subst hgb)) | (refine JL_guardb xR xR ?_ ?_ <;> (intro hgb; fail_if_success (have : type_of% hgb := rfl))) | fail)) | fail)) | refine yJ ?_ | ((with_reducible apply gJ_if); (first | (refine J_if xR ?_ ?_ <;> intro _ <;> (try (exfalso; first | contradiction | omega))) | (refine J_ifb xR ?_ ?_ <;> (intro hgb; subst hgb)) | (refine J_ifb xR ?_ ?_ <;> intro _) | fail)) | fail)))
    all_goals (first | (exfalso; omega) | skip)
    all_goals exact J_ret1 rfl (by rfl) fun w H => ⟨_, ⟨rfl, rfl⟩, H.sel xZ⟩
theorem right_core (a : Option Addr) (c : Nat) (l : List St) (φ : St → World → Prop) (g : St → Bool) (deep : Int) (hl : l.length ≤ 6) (h1 : ∀ db : Nat, ∀ s ∈ l, Pact Try.prog 29 [.agg (stC s).toArray, .pointer (some ⟨db, 0, none⟩)].toArray (φ s) [pts db [.int .i64 deep] 3] (fun u L' => u = .bool (!g s) ∧ L' = [pts db [.int .i64 deep] 3])) : Pact Try.prog 16 #[.slice a l.length c, .int .i64 deep] (KidS φ a c l) [] (ret0 (.bool (l.all g))) := by
  refine pact Try.func16 rfl Try.ntmps16 rfl ?_
  intro W K hK
  (repeat' (first | ((with_reducible apply gL); (first | refine yL0 ?_ | refine yL ?_ | ((with_reducible apply gL_go); (first | (refine JL_goq (contS_s a c l φ 29 _ deep (fun s => !g s) hl (by decide +kernel) (h1 _)) (hφ := (by (try simp only [List.cons_append, List.nil_append]); exact fun w hr => hK w hr.1)) (h := ?_); rintro _ _ ⟨rfl, rfl⟩; try simp only [List.cons_append, List.nil_append]) | fail)) | (refine yM ?_; intro _) | fail)) | refine yJ ?_ | fail))
  refine J_ret1 rfl (by rfl) fun w H => ⟨_, ⟨?_, rfl⟩, H.sel .nil⟩
  rw [any_not]
  cases l.all g <;> rfl
theorem pright_s : ∀ (d : Nat) (a : Option Addr) (c : Nat) (l : List St) (deep : Int), LsF d l → 0 ≤ deep ∧ deep + d + 6 ≤ 64 → Pact Try.prog 16 #[.slice a l.length c, .int .i64 deep] (fun w => LsV w d a c l) [] (ret0 (.bool (rightB d l))) := by
  intro d
  induction d with
  | zero =>
    intro a c l deep hl hd
    rw [rightB_eq hl]
    exact preP (right_core a c l (fun s w => SeenS (0 - 1) s w) _ deep hl.len (fun db s hs => absurd hs (by rw [show l = [] from hl]; exact List.not_mem_nil))) fun w h => hl.kids h
  | succ d ih =>
    intro a c l deep hl hd
    rw [rightB_eq hl]
    refine preP (right_core a c l (fun s w => SeenS (d + 1 - 1) s w) _ deep hl.len (fun db s hs => ?_)) fun w h => hl.kids h
    obtain ⟨h1, h2, h3, h4⟩ := hl.sub hs
    exact right1_s s (SeenS d s) _ _ _ db deep (by omega) ⟨h2.len, h3.len, h4.len⟩ (preP (rightCond_s 5 s.cd (deep + 1) h2 (by omega)) fun w h => h.1) (preP (ih s.ta s.tc s.th (deep + 1) h3 (by omega)) fun w h => h.2.1) (preP (ih s.ea s.ec s.el (deep + 1) h4 (by omega)) fun w h => h.2.2)
end Go.Proofs.Ytmbgbhambgoejaa.C
namespace Go.Proofs.Ytmbgbhambgoejaa.C
set_option linter.unusedSimpArgs false
set_option linter.unusedVariables false
open Go.RowKit Go.Pm

def sizeG (g : List St → Nat) (s : St) : Nat := if s.op = 1 then tests 5 s.cd + g s.th + g s.el + (if 0 < s.el.length then 1 else 0) else 1
def sizeL : Nat → List St → Nat
  | 0, _ => 0
  | d + 1, l => (l.map (sizeG (sizeL d))).sum
def testG (g : List St → Nat) (s : St) : Nat := if s.op = 1 then tests 5 s.cd + g s.th + g s.el else 0
def testL : Nat → List St → Nat
  | 0, _ => 0
  | d + 1, l => (l.map (testG (testL d))).sum
def bnd : Nat → Nat
  | 0 => 0
  | d + 1 => 6 * (3126 + 2 * bnd d)
theorem sizeL_eq {d : Nat} {l : List St} (h : LsF d l) : sizeL d l = (l.map (sizeG (sizeL (d - 1)))).sum := by
  cases d with
  | zero => rw [show l = [] from h]; rfl
  | succ d => rfl
theorem sizeL_le : ∀ {d : Nat} {l : List St}, LsF d l → sizeL d l ≤ bnd d
  | 0, _, _ => Nat.le_refl _
  | d + 1, l, h => by
    have h1 := sum_le (l := l) (f := sizeG (sizeL d)) (b := 3126 + 2 * bnd d) fun s hs => by
      obtain ⟨_, h2, h3, h4⟩ := h.2 s hs
      have a1 := tests_le h2
      have a2 := sizeL_le h3
      have a3 := sizeL_le h4
      have e : (5 : Nat) ^ 5 = 3125 := rfl
      unfold sizeG
      split <;> (try split) <;> omega
    have h2 : l.length * (3126 + 2 * bnd d) ≤ 6 * (3126 + 2 * bnd d) := Nat.mul_le_mul_right _ h.1
    show (l.map (sizeG (sizeL d))).sum ≤ 6 * (3126 + 2 * bnd d)
    omega
theorem bnd_le {d : Nat} (h : d ≤ 5) : bnd d ≤ 430000000 := by
  have : ∀ d, d ≤ 5 → bnd d ≤ 430000000 := by decide
  exact this d h
end Go.Proofs.Ytmbgbhambgoejaa.C
namespace Go.Proofs.Ytmbgbhambgoejaa.C
set_option linter.unusedSimpArgs false
set_option linter.unusedVariables false
open Go.RowKit Go.Pm

def leafS (x : Cd) (X Y : Int) : Sp := ⟨x.op, x.n, 0, x.pa, x.pl, X, Y⟩
def seqP (f : Nat → Cd → Int → Int → List Sp) (t : Cd → Nat) (sw : Bool) (X Y : Int) : Nat → List Cd → List Sp
  | _, [] => []
  | k, y :: r =>
    let nx : Int := if r = [] then (if sw then Y else X) else (k : Int) + t y
    let p := if sw then f k y X nx else f k y nx Y
    p ++ seqP f t sw X Y (k + p.length) r
def putG (f : Nat → Cd → Int → Int → List Sp) (t : Cd → Nat) (k : Nat) (x : Cd) (X Y : Int) : List Sp :=
  if x.op = 1 then seqP f t false X Y k x.l else if x.op = 2 then seqP f t true X Y k x.l else if x.op = 3 then (x.l.head?.elim [] fun y => f k y Y X) else [leafS x X Y]
def putL : Nat → Nat → Cd → Int → Int → List Sp
  | 0, k, x, X, Y => putG (fun _ _ _ _ => []) (fun _ => 0) k x X Y
  | d + 1, k, x, X, Y => putG (putL d) (tests d) k x X Y
theorem drop_cons {α : Type} {l : List α} {k : Nat} {y : α} (h : l[k]? = some y) : l.drop k = y :: l.drop (k + 1) := by
  rw [← (List.getElem?_eq_some_iff.1 h).2, List.getElem_cons_drop]
structure Lp where
  i : Nat
  T : List Sp
  a : Option Addr
  c : Nat
def PutOk (F : FuncId) (y : Cd) (φ : World → Prop) (f : Nat → Int → Int → List Sp) (m : Nat) : Prop := ∀ (a : Option Addr) (c : Nat) (T : List Sp) (X Y : Int) (T2 : List Sp), T.length + m ≤ 500000000 → T ++ f T.length X Y = T2 → Pact Try.prog F #[.slice a T.length c, .agg (cdC y).toArray, .int .i64 X, .int .i64 Y] φ [Ar 63 7 spC (.slice a T.length c) T] (fun u L' => ∃ a' c', u = .slice a' T2.length c' ∧ L' = [Ar 63 7 spC (.slice a' T2.length c') T2])
end Go.Proofs.Ytmbgbhambgoejaa.C
namespace Go.Proofs.Ytmbgbhambgoejaa.C
set_option linter.unusedSimpArgs false
set_option linter.unusedVariables false
open Go.RowKit Go.Pm

theorem cond_head {d : Nat} {x : Cd} (h : CdF d x) (hc : condB d x = true) (ho : 1 ≤ x.op ∧ x.op ≤ 3) : (x.op = 3 → x.l.length = 1) ∧ (x.op < 3 → 2 ≤ x.l.length) ∧ ∀ y ∈ x.l, condB (d - 1) y = true := by
  rw [condB_eq h, condG, if_pos ho, Bool.and_eq_true] at hc
  obtain ⟨h1, h2⟩ := hc
  simp only [okHead, decide_eq_true_eq] at h1
  exact ⟨h1.2.2.1, h1.2.2.2, List.all_eq_true.1 h2⟩
theorem cond_leaf {d : Nat} {x : Cd} (h : CdF d x) (hc : condB d x = true) (ho : ¬ (1 ≤ x.op ∧ x.op ≤ 3)) : x.l = [] ∧ TestOk x.op x.n (x.pa, x.pl) := by
  rw [condB_eq h, condG, if_neg ho, okLeaf, Bool.and_eq_true, decide_eq_true_eq, decide_eq_true_eq] at hc
  exact ⟨List.eq_nil_of_length_eq_zero hc.1, hc.2⟩
theorem cond_zero {x : Cd} (h : CdF 0 x) (hc : condB 0 x = true) : ¬ (1 ≤ x.op ∧ x.op ≤ 3) := fun ho => by
  obtain ⟨h1, h2, _⟩ := cond_head h hc ho
  have h3 := congrArg List.length h.2
  simp only [List.length_nil] at h3
  omega
theorem putL_eq {d : Nat} {x : Cd} (h : CdF d x) (hc : condB d x = true) (k : Nat) (X Y : Int) : putL d k x X Y = putG (putL (d - 1)) (tests (d - 1)) k x X Y := by
  cases d with
  | zero =>
    have ho := cond_zero h hc
    unfold putL putG
    rw [if_neg (by omega), if_neg (by omega), if_neg (by omega), if_neg (by omega), if_neg (by omega), if_neg (by omega)]
  | succ d => rfl
theorem seqP_len {f : Nat → Cd → Int → Int → List Sp} {t : Cd → Nat} {X Y : Int} (sw : Bool) : ∀ {l : List Cd} {k : Nat}, (∀ y ∈ l, ∀ k X Y, (f k y X Y).length = t y) → (seqP f t sw X Y k l).length = (l.map t).sum
  | [], _, _ => rfl
  | y :: r, k, hf => by
    have h1 := fun k X Y => hf y (by simp) k X Y
    have ih := fun k => seqP_len (X := X) (Y := Y) sw (l := r) (k := k) fun z hz => hf z (List.mem_cons_of_mem _ hz)
    simp only [seqP, List.length_append, List.map_cons, List.sum_cons, ih]
    cases sw <;> simp only [Bool.false_eq_true, if_false, if_true, h1]
theorem putL_len : ∀ {d : Nat} {x : Cd}, CdF d x → condB d x = true → ∀ k X Y, (putL d k x X Y).length = tests d x
  | 0, x, h, hc, k, X, Y => by
    have ho := cond_zero h hc
    rw [putL_eq h hc, putG, if_neg (by omega), if_neg (by omega), if_neg (by omega)]
    rfl
  | d + 1, x, h, hc, k, X, Y => by
    rw [putL_eq h hc, putG, tests_eq h]
    by_cases ho : 1 ≤ x.op ∧ x.op ≤ 3
    · obtain ⟨h1, h2, h3⟩ := cond_head h hc ho
      have hf : ∀ y ∈ x.l, ∀ k X Y, (putL d k y X Y).length = tests d y := fun y hy k X Y => putL_len (h.2.2 y hy) (h3 y hy) k X Y
      have hne : x.l ≠ [] := fun e => by
        rw [e] at h1 h2
        simp only [List.length_nil] at h1 h2
        omega
      rw [if_neg hne]
      by_cases o1 : x.op = 1
      · rw [if_pos o1]; exact seqP_len _ hf
      · rw [if_neg o1]
        by_cases o2 : x.op = 2
        · rw [if_pos o2]; exact seqP_len _ hf
        · rw [if_neg o2, if_pos (by omega)]
          obtain ⟨y, r, hyr⟩ := List.exists_cons_of_ne_nil hne
          have h4 := h1 (by omega)
          rw [hyr] at h4 hf ⊢
          have hr : r = [] := List.eq_nil_of_length_eq_zero (by simpa using h4)
          subst hr
          simpa using hf y (by simp) k Y X
    · obtain ⟨h1, _⟩ := cond_leaf h hc ho
      rw [if_pos h1, if_neg (by omega), if_neg (by omega), if_neg (by omega)]
      rfl
theorem PutOk.mono {F : FuncId} {y : Cd} {φ ψ : World → Prop} {f : Nat → Int → Int → List Sp} {m m' : Nat} (h : PutOk F y φ f m) (hm : m ≤ m') (hφ : ∀ w, ψ w → φ w) : PutOk F y ψ f m' := fun a c T X Y T2 h1 h2 => preP (h a c T X Y T2 (by omega) h2) hφ
/-! Statements. -/
def codeS (g : Nat → List St → List Sp) (gs : List St → Nat) (k : Nat) (s : St) : List Sp :=
  if s.op = 1 then
    if s.el.length = 0 then
      let P := putL 5 k s.cd ((k : Int) + tests 5 s.cd) ((k : Int) + tests 5 s.cd + gs s.th)
      P ++ g (k + P.length) s.th
    else
      let P := putL 5 k s.cd ((k : Int) + tests 5 s.cd) ((k : Int) + tests 5 s.cd + gs s.th + 1)
      let B := P ++ g (k + P.length) s.th
      (B ++ [⟨21, 0, 0, 0, 0, (k : Int) + tests 5 s.cd + gs s.th + 1 + gs s.el, 0⟩]) ++ g (k + B.length + 1) s.el
  else [⟨20 + s.op, s.n, s.m, 0, 0, if 3 < s.op then (k : Int) + 1 else 0, 0⟩]
def codeG (g : Nat → List St → List Sp) (gs : List St → Nat) : Nat → List St → List Sp
  | _, [] => []
  | k, s :: r => codeS g gs k s ++ codeG g gs (k + (codeS g gs k s).length) r
def codeL : Nat → Nat → List St → List Sp
  | 0, _, _ => []
  | d + 1, k, l => codeG (codeL d) (sizeL d) k l
theorem codeL_eq {d : Nat} {l : List St} (h : LsF d l) (k : Nat) : codeL d k l = codeG (codeL (d - 1)) (sizeL (d - 1)) k l := by
  cases d with
  | zero => rw [show l = [] from h]; rfl
  | succ d => rfl
theorem right_st {d : Nat} {l : List St} (h : LsF d l) (hr : rightB d l = true) {s : St} (hs : s ∈ l) : (s.op = 1 → (s.n = 0 ∧ s.m = 0) ∧ condB 5 s.cd = true ∧ rightB (d - 1) s.th = true ∧ rightB (d - 1) s.el = true) ∧ (s.op ≠ 1 → ActOk s.op s.n s.m ∧ s.th.length + s.el.length = 0) := by
  rw [rightB_eq h] at hr
  have h1 := List.all_eq_true.1 hr s hs
  unfold stG at h1
  constructor
  · intro ho
    rw [if_pos ho] at h1
    simpa using h1
  · intro ho
    rw [if_neg ho, Bool.and_eq_true, decide_eq_true_eq, bareB, Bool.and_eq_true, decide_eq_true_eq] at h1
    exact ⟨h1.1, h1.2.2⟩
theorem codeG_len {g : Nat → List St → List Sp} {gs : List St → Nat} : ∀ {l : List St} {k : Nat}, (∀ s ∈ l, ∀ k, (codeS g gs k s).length = sizeG gs s) → (codeG g gs k l).length = (l.map (sizeG gs)).sum
  | [], _, _ => rfl
  | s :: r, k, h => by
    rw [codeG, List.length_append, codeG_len fun z hz => h z (List.mem_cons_of_mem _ hz), h s (by simp)]
    simp
theorem codeS_len {g : Nat → List St → List Sp} {gs : List St → Nat} {s : St} (hp : s.op = 1 → ∀ k X Y, (putL 5 k s.cd X Y).length = tests 5 s.cd) (ht : s.op = 1 → ∀ k, (g k s.th).length = gs s.th) (he : s.op = 1 → ∀ k, (g k s.el).length = gs s.el) (h0 : s.el.length = 0 → gs s.el = 0) (k : Nat) : (codeS g gs k s).length = sizeG gs s := by
  unfold codeS sizeG
  by_cases ho : s.op = 1
  · rw [if_pos ho, if_pos ho]
    by_cases hl : s.el.length = 0
    · rw [if_pos hl, if_neg (by omega), h0 hl]
      simp only [List.length_append, hp ho, ht ho]
      omega
    · rw [if_neg hl, if_pos (by omega)]
      simp only [List.length_append, hp ho, ht ho, he ho, List.length_cons, List.length_nil]
      omega
  · rw [if_neg ho, if_neg ho]
    rfl
theorem codeL_len : ∀ {d : Nat} {l : List St}, LsF d l → rightB d l = true → ∀ k, (codeL d k l).length = sizeL d l
  | 0, _, _, _, _ => rfl
  | d + 1, l, h, hr, k => by
    rw [codeL_eq h, sizeL_eq h]
    refine codeG_len fun s hs k => ?_
    obtain ⟨_, h2, h3, h4⟩ := h.2 s hs
    obtain ⟨r1, _⟩ := right_st h hr hs
    refine codeS_len (fun ho k X Y => putL_len h2 (r1 ho).2.1 k X Y) (fun ho k => codeL_len h3 (r1 ho).2.2.1 k) (fun ho k => codeL_len h4 (r1 ho).2.2.2 k) (fun h0 => ?_) k
    rw [List.eq_nil_of_length_eq_zero h0]
    cases d <;> rfl
end Go.Proofs.Ytmbgbhambgoejaa.C
