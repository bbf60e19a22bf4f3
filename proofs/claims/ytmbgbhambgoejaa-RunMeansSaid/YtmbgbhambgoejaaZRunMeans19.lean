/-
  Ru18, Ru11, Ru12: merged.
-/
import Derived.Test.YtmbgbhambgoejaaZRunMeans18
namespace Go.Proofs.Ytmbgbhambgoejaa.C
set_option linter.unusedSimpArgs false
set_option linter.unusedVariables false
set_option maxRecDepth 20000
set_option maxHeartbeats 4000000
open Go.RowKit Go.Pm

structure Lpr where
  i : Nat
  q : List Sg
  ad : Option Addr
  cc : Nat
theorem pre_bound {p q : List Sg} {n : Int} {i : Nat} (hi : i ≤ 10) (hck : ckP (pN p) 0 = true) (hn : 0 ≤ n ∧ n ≤ 4294967295) (hp : ∀ s ∈ p, SgN s) (hq : pN q = preI n i (pN p)) : q.length ≤ 65 ∧ ∀ s ∈ q, s.as_.length ≤ 1000 := by
  have ht := ((ckP_iff (pN p) 0 (by omega)).1 hck).2
  have hl := len_tot hck
  have h1 := preI_len n i (pN p)
  have h2 := congrArg List.length hq
  have h0 : q.length = (pN q).length := by simp [pN]
  refine ⟨by omega, fun s hs => ?_⟩
  have hmem : (s.set, s.as_) ∈ preI n i (pN p) := hq ▸ List.mem_map.2 ⟨s, hs, rfl⟩
  cases i with
  | zero => have := tot_mem hmem; simp only [preI] at hmem; have := tot_mem hmem; simp at this; omega
  | succ i =>
    have key : ∀ P : Pa, tot P ≤ 64 → ∀ s ∈ preN n (i + 1) P, s.2.length ≤ 1000 := by
      intro P hP s hs
      have hall : ∀ t ∈ P, t.2.length ≤ 64 := fun t ht => by have := tot_mem ht; omega
      match P, hall, hs with
      | [], hall, hs => simp [preN] at hs; subst hs; simp; omega
      | (true, l) :: r, hall, hs =>
        rcases List.mem_cons.1 hs with rfl | hs
        · simp; omega
        · have := hall s hs; omega
      | (false, l) :: r, hall, hs =>
        rcases List.mem_cons.1 hs with rfl | hs
        · have := hall (false, l) (by simp); simp at this ⊢; omega
        · have := hall s (List.mem_cons_of_mem _ hs); omega
    exact key (pN p) (by omega) (s.set, s.as_) hmem
theorem rprepend_yes (a : Option Addr) (c : Nat) (p : List Sg) (n : Int) (m : Nat) (h8 : p.length ≤ 1000) (hsm : ∀ s ∈ p, SgN s) (hn : 1 ≤ n ∧ n ≤ 4294967295) (hm : 1 ≤ m ∧ m ≤ 10) (hck : ckP (pN p) 0 = true) (htt : (m : Int) ≤ 64 - (tot (pN p) : Int)) : Pact Try.prog 45 #[.slice a p.length c, .int .u32 n, .int .i64 m] (fun w => PathV w a c p) [] (fun u L' => ∃ a' c' q, u = .tuple #[.slice a' q.length c', .int .i64 0] ∧ pN q = preN n m (pN p) ∧ L' = [has (fun w => PathV w a' c' q)]) := by
  refine pact Try.func45 rfl Try.ntmps45 rfl ?_
  intro W K hK
  have hv : Kn K (fun w => Vw w (.slice a p.length c) 2 p.length (flat sgC p)) := hK.imp fun _ h => h.vw
  have hC := pcheck_s a c p h8 hsm
  rw [hck] at hC
  (repeat' (first | ((with_reducible apply gL); (first | refine yL0 ?_ | refine yL ?_ | ((with_reducible apply gL_go); (first | (refine JL_goq (hC) (hφ := (by (try simp only [List.cons_append, List.nil_append]); exact fun w hr => hK w hr.1)) (h := ?_); rintro _ _ ⟨rfl, rfl⟩; try simp only [List.cons_append, List.nil_append]) | fail)) | (refine yM ?_; intro _) | (refine yA ?_; intro _ _ _ _) | ((with_reducible apply gL_gd); (first | (refine JL_guard xR xR ?_ ?_ <;> intro _ <;> (try (exfalso; first | contradiction | omega))) | (refine JL_guardb xR xR ?_ ?_ <;> (intro hgb; subst hgb)) | (refine JL_guardb xR xR ?_ ?_ <;> (intro hgb; fail_if_success (have : type_of% hgb := rfl))) | fail)) | fail)) | refine yJ ?_ | ((with_reducible apply gJ_if); (first | (refine J_if xR ?_ ?_ <;> intro _ <;> (try (exfalso; first | contradiction | omega))) | (refine J_ifb xR ?_ ?_ <;> (intro hgb; subst hgb)) | (refine J_ifb xR ?_ ?_ <;> intro _) | fail)) | fail))
  all_goals (first | (exfalso; omega) | skip)
  refine J_loop (α := Nat) 0 (fun x => p.length - x) (fun x => x ≤ p.length) (fun x => [(0, .slice a p.length c), (1, .int .u32 n), (2, .int .i64 m), (8, .int .i64 (tot (pN (p.take x)))), (9, .int .i64 x)]) (fun x => []) (Nat.zero_le _) ⟨rfl, rfl, rfl, rfl, rfl, trivial⟩ (fun w H => H) ?_
  rintro k hk
  have htk := tot_le (p.take k) (fun s hs => hsm s (List.take_subset _ _ hs))
  have hlk : (p.take k).length ≤ 1000 := by rw [List.length_take]; omega
  obtain ⟨N, hN⟩ : ∃ N, tot (pN (p.take k)) = N := ⟨_, rfl⟩
  rw [hN] at htk ⊢
  have hNb : N ≤ 35184372088832000 := by omega
  by_cases hlt : k < p.length
  · obtain ⟨s, hs⟩ : ∃ s, p[k]? = some s := ⟨_, List.getElem?_eq_getElem hlt⟩
    have hm := List.mem_of_getElem? hs
    have hsn1 := (hsm s hm).1
    (repeat' (first | ((with_reducible apply gL); (first | refine yL0 ?_ | refine yL ?_ | (refine yM ?_; intro _) | (refine yA ?_; intro _ _ _ _) | ((with_reducible apply gL_gd); (first | (refine JL_guard xR xR ?_ ?_ <;> intro _ <;> (try (exfalso; first | contradiction | omega))) | (refine JL_guardb xR xR ?_ ?_ <;> (intro hgb; subst hgb)) | (refine JL_guardb xR xR ?_ ?_ <;> (intro hgb; fail_if_success (have : type_of% hgb := rfl))) | fail)) | fail)) | refine yJ ?_ | ((with_reducible apply gJ_if); (first | (refine J_if xR ?_ ?_ <;> intro _ <;> (try (exfalso; first | contradiction | omega))) | (refine J_ifb xR ?_ ?_ <;> (intro hgb; subst hgb)) | (refine J_ifb xR ?_ ?_ <;> intro _) | fail)) | fail))
    refine J_again (k + 1) (by omega) (by omega) ⟨rfl, rfl, rfl, ?_, rfl, trivial⟩ (fun w H => H.sel .nil)
    rw [take_snoc hs]
    unfold pN
    rw [List.map_append, tot_append]
    unfold pN at hN
    rw [hN]
    show some _ = some _
    simp [tot]
  · have hke : k = p.length := by omega
    rw [hke, List.take_length] at hN
    rw [hN] at htt
    (repeat' (first | ((with_reducible apply gL); (first | refine yL0 ?_ | refine yL ?_ | ((with_reducible apply gL_go); (first | (refine JL_goq (pcopyO_s a c p _ rfl (by omega) hsm) (hφ := (by (try simp only [List.cons_append, List.nil_append]); exact fun w hr => hK w hr.1)) (h := ?_); rintro _ _ ⟨q0, a0, c0, rfl, hq0, rfl⟩; try simp only [List.cons_append, List.nil_append]) | fail)) | (refine yM ?_; intro _) | (refine yA ?_; intro _ _ _ _) | ((with_reducible apply gL_gd); (first | (refine JL_guard xR xR ?_ ?_ <;> intro _ <;> (try (exfalso; first | contradiction | omega))) | (refine JL_guardb xR xR ?_ ?_ <;> (intro hgb; subst hgb)) | (refine JL_guardb xR xR ?_ ?_ <;> (intro hgb; fail_if_success (have : type_of% hgb := rfl))) | fail)) | fail)) | refine yJ ?_ | ((with_reducible apply gJ_if); (first | (refine J_if xR ?_ ?_ <;> intro _ <;> (try (exfalso; first | contradiction | omega))) | (refine J_ifb xR ?_ ?_ <;> (intro hgb; subst hgb)) | (refine J_ifb xR ?_ ?_ <;> intro _) | fail)) | fail))
    all_goals (first | (exfalso; omega) | skip)
    refine J_loop (α := Lpr) ⟨0, q0, a0, c0⟩ (fun x => m - x.i) (fun x => x.i ≤ m ∧ pN x.q = preI n x.i (pN p)) (fun x => [(1, .int .u32 n), (2, .int .i64 m), (10, .slice x.ad x.q.length x.cc), (11, .int .i64 x.i)]) (fun x => [Ar 56 2 sgC (.slice x.ad x.q.length x.cc) x.q, has (fun w => ∀ s ∈ x.q, segV w s)]) ⟨Nat.zero_le _, hq0⟩ ⟨rfl, rfl, rfl, rfl, trivial⟩ (fun w H => H.sel xZ) ?_
    rintro ⟨i, q, ad, cc⟩ ⟨hi, hq⟩
    dsimp only at hi hq ⊢
    obtain ⟨hb1, hb2⟩ := pre_bound (by omega) hck (by omega) hsm hq
    by_cases him : i < m
    · have hsucc := preI_succ n i (pN p)
      rw [← hq] at hsucc
      by_cases hA : ∃ l r, pN q = (false, l) :: r
      · obtain ⟨l, r, hlr⟩ := hA
        obtain ⟨s, q', rfl, hset, has_, hq'⟩ := pN_head hlr
        have hs : (s :: q')[0]? = some s := rfl
        have hms : s ∈ s :: q' := by simp
        have hsb := hb2 s hms
        have hql : (s :: q').length = q'.length + 1 := rfl
        (repeat' (first | ((with_reducible apply gL); (first | refine yL0 ?_ | ((with_reducible apply gL_c_append); (first | (refine JL_appY (enc := u32C) n s.as_ (tabE etab_ok xR) xR xR xA xR (fun w hr => hr.has (φ := fun w => ∀ x ∈ s :: q', segV w x) xA s hms) xC (by intro _; rfl) (all_one _ (by intro _ _; rfl)) (by omega) xR xR ?_; intro ad5 c5 _ _) | fail)) | ((with_reducible apply gL_store); (first | (refine JL_stEf (z' := (⟨s.set, ad5, c5, n :: s.as_⟩ : Sg)) (by rfl) (by rfl) xA hs (by rfl) (by intro _; rfl) (by rfl) (by rfl) (by (first | ((repeat (first | exact Put.e | apply Put.t | apply Put.s)); done) | fail)) (by simp [sgC, Nat.add_comm]) (by rfl) (by rfl) ?_) | fail)) | refine yL ?_ | (refine yM ?_; intro _) | (refine yA ?_; intro _ _ _ _) | ((with_reducible apply gL_gd); (first | (refine JL_guard xR xR ?_ ?_ <;> intro _ <;> (try (exfalso; first | contradiction | omega))) | (refine JL_guardb xR xR ?_ ?_ <;> (intro hgb; subst hgb)) | (refine JL_guardb xR xR ?_ ?_ <;> (intro hgb; fail_if_success (have : type_of% hgb := rfl))) | fail)) | fail)) | refine yJ ?_ | ((with_reducible apply gJ_if); (first | (refine J_if xR ?_ ?_ <;> intro _ <;> (try (exfalso; first | contradiction | omega))) | (refine J_ifb xR ?_ ?_ <;> (intro hgb; subst hgb)) | (refine J_ifb xR ?_ ?_ <;> intro _) | fail)) | fail))
        all_goals (first | (exfalso; omega) | (exfalso; simp_all; done) | skip)
        simp only [List.set_cons_zero]
        refine J_again ⟨i + 1, (⟨s.set, ad5, c5, n :: s.as_⟩ : Sg) :: q', ad, cc⟩ (by dsimp only; omega) ⟨by dsimp only; omega, ?_⟩ ⟨rfl, rfl, rfl, rfl, trivial⟩ (fun w H => ?_)
        · dsimp only
          rw [hsucc]
          simp only [pN, List.map_cons, hset, preN]
          rfl
        · refine (Ow.has (M := [Ar 25 1 u32C (.slice ad5 (1 + s.as_.length) c5) (n :: s.as_), has (fun w => ∀ x ∈ s :: q', segV w x)]) (φ := fun w => ∀ x ∈ (⟨s.set, ad5, c5, n :: s.as_⟩ : Sg) :: q', segV w x) H xZ ?_).sel xZ
          intro w hr x hx
          rcases List.mem_cons.1 hx with rfl | hx
          · have h9 := Src.ar (enc := u32C) (es := n :: s.as_) .here w hr
            rw [Nat.add_comm] at h9
            exact h9
          · exact hr.has (φ := fun w => ∀ x ∈ s :: q', segV w x) (.there .here) x (List.mem_cons_of_mem _ hx)
      · have hA2 : ∀ l r, pN q ≠ (false, l) :: r := fun l r h => hA ⟨l, r, h⟩
        rw [preN_ins hA2] at hsucc
        have hset : ∀ s, q[0]? = some s → s.set = true := fun s hs => by
          cases q with
          | nil => cases hs
          | cons x r =>
            have hxs : x = s := Option.some.inj hs
            subst hxs
            rcases hx : x.set with _ | _
            · refine absurd ?_ (hA2 x.as_ (pN r))
              simp only [pN, List.map_cons, hx]
            · rfl
        by_cases hq0l : q.length = 0
        · obtain rfl := List.eq_nil_of_length_eq_zero hq0l
          (repeat' (first | ((with_reducible apply gL); (first | refine yL0 ?_ | ((with_reducible apply gL_c_append); (first | (first | (refine JL_appY (enc := sgC) sg0 [] (tabE etab_ok xR) xR xR xA xR (Src.ar xA) xC (by intro _; rfl) (sg_one []) (by simp) xR xR ?_; intro ad6 c6 _ _) | (refine JL_appY (enc := u32C) n [] (tabE etab_ok xR) xR xR xA xR (fun w hr => Vw.nil w 1) xC (by intro _; rfl) (by intro _ h; cases h) (by simp) xR xR ?_; intro ad5 c5 _ _)) | fail)) | ((with_reducible apply gL_load); (first | (refine JL_p rfl xR xR (pe_elF xR (Src.ar xA) xL xR xC (show [sg0][0]? = some sg0 from rfl) xR) ?_) | fail)) | ((with_reducible apply gL_store); (first | (refine JL_stEf (z' := (⟨false, ad5, c5, [n]⟩ : Sg)) (by rfl) (by rfl) xA (show [sg0][0]? = some sg0 from rfl) (by rfl) (by intro _; rfl) (by rfl) (by rfl) (by (first | ((repeat (first | exact Put.e | apply Put.t | apply Put.s)); done) | fail)) (by rfl) (by rfl) (by rfl) ?_) | fail)) | refine yL ?_ | (refine yM ?_; intro _) | (refine yA ?_; intro _ _ _ _) | ((with_reducible apply gL_gd); (first | (refine JL_guard xR xR ?_ ?_ <;> intro _ <;> (try (exfalso; first | contradiction | omega))) | (refine JL_guardb xR xR ?_ ?_ <;> (intro hgb; subst hgb)) | (refine JL_guardb xR xR ?_ ?_ <;> (intro hgb; fail_if_success (have : type_of% hgb := rfl))) | fail)) | fail)) | refine yJ ?_ | ((with_reducible apply gJ_if); (first | (refine J_if xR ?_ ?_ <;> intro _ <;> (try (exfalso; first | contradiction | omega))) | (refine J_ifb xR ?_ ?_ <;> (intro hgb; subst hgb)) | (refine J_ifb xR ?_ ?_ <;> intro _) | fail)) | fail))
          all_goals (first | (exfalso; omega) | skip)
          refine J_again ⟨i + 1, [(⟨false, ad5, c5, [n]⟩ : Sg)], ad6, c6⟩ (by dsimp only; omega) ⟨by dsimp only; omega, hsucc.symm⟩ ⟨rfl, rfl, rfl, rfl, trivial⟩ (fun w H => ?_)
          refine (Ow.has (M := [Ar 25 1 u32C (.slice ad5 (1 + 0) c5) [n]]) (φ := fun w => ∀ x ∈ [(⟨false, ad5, c5, [n]⟩ : Sg)], segV w x) H (.cons xA .nil) ?_).sel (M := [Ar 56 2 sgC (.slice ad6 (1 + 0) c6) [(⟨false, ad5, c5, [n]⟩ : Sg)], has (fun w => ∀ x ∈ [(⟨false, ad5, c5, [n]⟩ : Sg)], segV w x)]) xZ
          intro w hr x hx
          obtain rfl := List.mem_singleton.1 hx
          exact Src.ar (enc := u32C) (es := [n]) .here w hr
        · obtain ⟨s, r, rfl⟩ := List.exists_cons_of_length_pos (l := q) (by omega)
          have hs : (s :: r)[0]? = some s := rfl
          have hset := hset s rfl
          have hql : (s :: r).length = r.length + 1 := rfl
          (repeat' (first | ((with_reducible apply gL); (first | refine yL0 ?_ | ((with_reducible apply gL_c_append); (first | (first | (refine JL_appY (enc := sgC) sg0 (s :: r) (tabE etab_ok xR) xR xR xA xR (Src.ar xA) xC (by intro _; rfl) (sg_one (s :: r)) (by omega) xR xR ?_; intro ad6 c6 _ _) | (refine JL_appY (enc := u32C) n [] (tabE etab_ok xR) xR xR xA xR (fun w hr => Vw.nil w 1) xC (by intro _; rfl) (by intro _ h; cases h) (by simp) xR xR ?_; intro ad5 c5 _ _)) | fail)) | ((with_reducible apply gL_load); (first | (first | (refine JL_p rfl xR xR (pe_elF xR (Src.ar xA) xL xR xC (show (sg0 :: s :: r)[0]? = some sg0 from rfl) xR) ?_) | (refine JL_p rfl xR xR (pe_elF xR (Src.ar xA) xL xR xC hs xR) ?_)) | fail)) | ((with_reducible apply gL_store); (first | (refine JL_stEf (z' := (⟨false, ad5, c5, [n]⟩ : Sg)) (by rfl) (by rfl) xA (show (sg0 :: s :: r)[0]? = some sg0 from rfl) (by rfl) (by intro _; rfl) (by rfl) (by rfl) (by (first | ((repeat (first | exact Put.e | apply Put.t | apply Put.s)); done) | fail)) (by rfl) (by rfl) (by rfl) ?_) | fail)) | refine yL ?_ | (refine yM ?_; intro _) | (refine yA ?_; intro _ _ _ _) | ((with_reducible apply gL_gd); (first | (refine JL_guard xR xR ?_ ?_ <;> intro _ <;> (try (exfalso; first | contradiction | omega))) | (refine JL_guardb xR xR ?_ ?_ <;> (intro hgb; subst hgb)) | (refine JL_guardb xR xR ?_ ?_ <;> (intro hgb; fail_if_success (have : type_of% hgb := rfl))) | fail)) | fail)) | refine yJ ?_ | ((with_reducible apply gJ_if); (first | (refine J_if xR ?_ ?_ <;> intro _ <;> (try (exfalso; first | contradiction | omega))) | (refine J_ifb xR ?_ ?_ <;> (intro hgb; subst hgb)) | (refine J_ifb xR ?_ ?_ <;> intro _) | fail)) | fail))
          all_goals (first | (exfalso; omega) | (exfalso; simp_all; done) | skip)
          have hl2 : 1 + (s :: r).length = ((⟨false, ad5, c5, [n]⟩ : Sg) :: s :: r).length := by simp; omega
          simp only [List.set_cons_zero]
          refine J_again ⟨i + 1, (⟨false, ad5, c5, [n]⟩ : Sg) :: s :: r, ad6, c6⟩ (by dsimp only; omega) ⟨by dsimp only; omega, hsucc.symm⟩ ⟨rfl, rfl, ?_, rfl, trivial⟩ (fun w H => ?_)
          · show some (Value.slice ad6 (1 + (s :: r).length) c6) = some (Value.slice ad6 ((⟨false, ad5, c5, [n]⟩ : Sg) :: s :: r).length c6)
            rw [hl2]
          · rw [hl2] at H
            refine (Ow.has (M := [Ar 25 1 u32C (.slice ad5 (1 + 0) c5) [n], has (fun w => ∀ x ∈ s :: r, segV w x)]) (φ := fun w => ∀ x ∈ (⟨false, ad5, c5, [n]⟩ : Sg) :: s :: r, segV w x) H (.cons xA (.cons xA .nil)) ?_).sel xZ
            intro w hr x hx
            rcases List.mem_cons.1 hx with rfl | hx
            · exact Src.ar (enc := u32C) (es := [n]) .here w hr
            · exact hr.has (φ := fun w => ∀ x ∈ s :: r, segV w x) (.there .here) x hx
    · obtain rfl : i = m := by omega
      (repeat' (first | ((with_reducible apply gL); (first | refine yL0 ?_ | refine yL ?_ | (refine yM ?_; intro _) | (refine yA ?_; intro _ _ _ _) | ((with_reducible apply gL_gd); (first | (refine JL_guard xR xR ?_ ?_ <;> intro _ <;> (try (exfalso; first | contradiction | omega))) | (refine JL_guardb xR xR ?_ ?_ <;> (intro hgb; subst hgb)) | (refine JL_guardb xR xR ?_ ?_ <;> (intro hgb; fail_if_success (have : type_of% hgb := rfl))) | fail)) | fail)) | refine yJ ?_ | ((with_reducible apply gJ_if); (first | (refine J_if xR ?_ ?_ <;> intro _ <;> (try (exfalso; first | contradiction | omega))) | (refine J_ifb xR ?_ ?_ <;> (intro hgb; subst hgb)) | (refine J_ifb xR ?_ ?_ <;> intro _) | fail)) | fail))
      all_goals (first | (exfalso; omega) | skip)
      have hmp : preI n i (pN p) = preN n i (pN p) := by
        obtain ⟨j, rfl⟩ : ∃ j, i = j + 1 := ⟨i - 1, by omega⟩
        rfl
      refine J_ret2 rfl (by rfl) (by rfl) fun w H => ⟨_, ⟨ad, cc, q, rfl, hq.trans hmp, rfl⟩, ?_⟩
      exact (Ow.has (M := [Ar 56 2 sgC (.slice ad q.length cc) q, has (fun w => ∀ s ∈ q, segV w s)]) (φ := fun w => PathV w ad cc q) H xZ (fun w hr => ⟨Src.ar .here w hr, fun s hs => hr.has (φ := fun w => ∀ s ∈ q, segV w s) (.there .here) s hs⟩)).sel xZ
end Go.Proofs.Ytmbgbhambgoejaa.C
namespace Go.Proofs.Ytmbgbhambgoejaa.C
set_option linter.unusedSimpArgs false
set_option linter.unusedVariables false
set_option maxRecDepth 20000
set_option maxHeartbeats 4000000
open Go.RowKit Go.Pm

theorem rdo_s (rb : Nat) (p : Pf) (d : At) (hd : AtF d) (s : Sp) (hs : s.op = 21 ∨ ((24 ≤ s.op ∧ s.op ≤ 29) ∧ ActOk (s.op - 20) s.n s.m)) : Pact Try.prog 39 #[.pointer (some ⟨rb, 0, none⟩), .agg (spC s).toArray] (fun w => AtV w d) [pts rb (routeC p d) 70] (DoR rb p d (if s.op = 21 then some d.nf else doN (s.op - 20) s.n s.m d.nf)) := by
  rcases hs with h | ⟨⟨h1, h2⟩, h3⟩
  · rw [if_pos h]
    exact do_jump rb p d hd s h
  · rw [if_neg (by omega)]
    unfold ActOk at h3
    have : s.op = 24 ∨ s.op = 25 ∨ s.op = 26 ∨ s.op = 27 ∨ s.op = 28 ∨ s.op = 29 := by omega
    rcases this with h | h | h | h | h | h
    · have := do_prepend rb p d hd s h (by omega) (by omega)
      rwa [show s.op - 20 = 4 by omega]
    · have := do_local rb p d hd s h (by omega)
      rwa [show s.op - 20 = 5 by omega]
    · have := do_med rb p d hd s h (by omega)
      rwa [show s.op - 20 = 6 by omega]
    · have := do_add rb p d hd s h (by omega)
      rwa [show s.op - 20 = 7 by omega]
    · have := do_drop rb p d hd s h (by omega)
      rwa [show s.op - 20 = 8 by omega]
    · have := do_clear rb p d hd s h (by omega)
      rwa [show s.op - 20 = 9 by omega]
theorem mask_eq {p q : Pf} (hp : Rt p) : q.1 - q.1 % pw p.2 = p.1 ↔ q.1 / pw p.2 = p.1 / pw p.2 := by
  have h1 := Int.mul_ediv_add_emod q.1 (pw p.2)
  have h2 := Int.mul_ediv_add_emod p.1 (pw p.2)
  have h3 := hp.2.2
  have hpos := pw_pos p.2
  constructor
  · intro h
    have h4 : pw p.2 * (q.1 / pw p.2) = pw p.2 * (p.1 / pw p.2) := by omega
    exact Int.eq_of_mul_eq_mul_left (Int.ne_of_gt hpos) h4
  · intro h
    rw [h] at h1
    omega
theorem within_s (p q : Pf) (hp : PfN p) (hq : PfN q) : Pact Try.prog 55 #[.agg (pfC p).toArray, .agg (pfC q).toArray] (fun _ => True) [] (ret0 (.bool (decide (Wi p q)))) := by
  refine pact Try.func55 rfl Try.ntmps55 rfl ?_
  intro W K _
  (repeat' (first | ((with_reducible apply gL); (first | refine yL0 ?_ | refine yL ?_ | (refine yM ?_; intro _) | fail)) | ((with_reducible apply gD); (first | (refine JD_nil ?_; try simp only [List.cons_append, List.nil_append]) | (refine JD_bar ?_; try simp only [List.cons_append, List.nil_append]) | refine yD0 ?_ | refine yD ?_ | ((with_reducible apply gD_go); (first | (refine JD_goq (right_s p hp) (hφ := xF) (h := ?_); rintro _ _ ⟨rfl, rfl⟩; try simp only [List.cons_append, List.nil_append]) | (refine JD_goq (right_s q hq) (hφ := xF) (h := ?_); rintro _ _ ⟨rfl, rfl⟩; try simp only [List.cons_append, List.nil_append]) | (refine JD_goq (mask_s q.1 p.2 hq.1 (by rename_i h1 _ _; exact h1.1) (by rename_i h1 _ _; exact h1.2.1)) (hφ := xF) (h := ?_); rintro _ _ ⟨rfl, rfl⟩; try simp only [List.cons_append, List.nil_append]) | fail)) | ((with_reducible apply gD_gd); (first | (refine JD_guard xR xR ?_ ?_ <;> intro _ <;> (try (exfalso; first | contradiction | omega))) | (refine JD_guardb xR xR ?_ ?_ <;> (intro hgb; subst hgb)) | (refine JD_guardb xR xR ?_ ?_ <;> (intro hgb; fail_if_success (have : type_of% hgb := rfl))) | fail)) | fail)) | refine yJ ?_ | refine J_draw (id := 1) [0] [1, 2, 3, 4, 5, 6, 7, 8, 9, 10, 11, 12, 13, 14, 15, 16, 17, 19, 20, 18, 21, 22, 23] mixed xC xD xD ?_ | fail))
  all_goals (refine J_ret1 rfl (by rfl) fun w H => ⟨[], ⟨?_, rfl⟩, H.sel .nil⟩)
  all_goals congr 1
  · rename_i h1 h2 h3
    have := mask_eq (q := q) h1
    simp [Wi, h1, h2, h3, this]
  · rename_i h1 h2 h3
    simp [Wi, h1, h2, h3]
  · rename_i h1 h2
    simp [Wi, h1, h2]
  · rename_i h1
    simp [Wi, h1]
theorem within_b (p q : Pf) (hp : PfN p) (hq : PfN q) (b : Bool) (hb : decide (Wi p q) = b) : Pact Try.prog 55 #[.agg (pfC p).toArray, .agg (pfC q).toArray] (fun _ => True) [] (ret0 (.bool b)) := hb ▸ within_s p q hp hq
theorem rpath_s (rb : Nat) (p : Pf) (d : At) (hd : AtF d) (op n : Int) (ho : 6 ≤ op ∧ op ≤ 9) (hn : 0 ≤ n ∧ n ≤ 4294967295) (q : Pf) : Pact Try.prog 57 #[.pointer (some ⟨rb, 0, none⟩), .int .i64 op, .int .i64 n] (fun w => AtV w d) [pts rb (routeC p d) 70] (fun u L' => u = .bool (testN op n q p d.nf) ∧ L' = [pts rb (routeC p d) 70]) := by
  have hpl := hd.path
  have h6 := phas_s d.pa d.pc d.path n (by omega) hd.num.path
  have h9 := plen_s d.pa d.pc d.path (by omega) hd.num.path
  have h7 := pfirst_s d.pa d.pc d.path (by omega) hd.num.path
  have h8 := porigin_s d.pa d.pc d.path (by omega) hd.num.path
  refine pact Try.func57 rfl Try.ntmps57 rfl ?_
  intro W K hK
  have : op = 6 ∨ op = 7 ∨ op = 8 ∨ op = 9 := by omega
  rcases this with rfl | rfl | rfl | rfl
  · (repeat' (first | ((with_reducible apply gL); (first | refine yL0 ?_ | refine yL ?_ | ((with_reducible apply gL_go); (first | (refine JL_goq (h6) (hφ := (by (try simp only [List.cons_append, List.nil_append]); exact fun w hr => (hK w hr.1).path)) (h := ?_); rintro _ _ ⟨rfl, rfl⟩; try simp only [List.cons_append, List.nil_append]) | fail)) | ((with_reducible apply gL_gd); (first | (refine JL_guard xR xR ?_ ?_ <;> intro _ <;> (try (exfalso; first | contradiction | omega))) | (refine JL_guardb xR xR ?_ ?_ <;> (intro hgb; subst hgb)) | (refine JL_guardb xR xR ?_ ?_ <;> (intro hgb; fail_if_success (have : type_of% hgb := rfl))) | fail)) | fail)) | refine yJ ?_ | ((with_reducible apply gJ_if); (first | (refine J_if xR ?_ ?_ <;> intro _ <;> (try (exfalso; first | contradiction | omega))) | (refine J_ifb xR ?_ ?_ <;> (intro hgb; subst hgb)) | (refine J_ifb xR ?_ ?_ <;> intro _) | fail)) | fail))
    exact J_ret1 rfl (by rfl) fun w H => ⟨_, ⟨rfl, rfl⟩, H.sel xZ⟩
  · have e : testN 7 n q p d.nf = decide (firstN (pN d.path) = some n) := rfl
    rw [e]
    rcases hf : firstN (pN d.path) with _ | z
    all_goals rw [hf] at h7
    · (repeat' (first | ((with_reducible apply gL); (first | refine yL0 ?_ | refine yL ?_ | ((with_reducible apply gL_go); (first | (refine JL_goq (h7) (hφ := (by (try simp only [List.cons_append, List.nil_append]); exact fun w hr => (hK w hr.1).path)) (h := ?_); rintro _ _ ⟨rfl, rfl⟩; try simp only [List.cons_append, List.nil_append]) | fail)) | ((with_reducible apply gL_gd); (first | (refine JL_guard xR xR ?_ ?_ <;> intro _ <;> (try (exfalso; first | contradiction | omega))) | (refine JL_guardb xR xR ?_ ?_ <;> (intro hgb; subst hgb)) | (refine JL_guardb xR xR ?_ ?_ <;> (intro hgb; fail_if_success (have : type_of% hgb := rfl))) | fail)) | fail)) | refine yJ ?_ | ((with_reducible apply gJ_if); (first | (refine J_if xR ?_ ?_ <;> intro _ <;> (try (exfalso; first | contradiction | omega))) | (refine J_ifb xR ?_ ?_ <;> (intro hgb; subst hgb)) | (refine J_ifb xR ?_ ?_ <;> intro _) | fail)) | fail))
      exact J_ret1 rfl (by rfl) fun w H => ⟨_, ⟨rfl, rfl⟩, H.sel xZ⟩
    · (repeat' (first | ((with_reducible apply gL); (first | refine yL0 ?_ | refine yL ?_ | ((with_reducible apply gL_go); (first | (refine JL_goq (h7) (hφ := (by (try simp only [List.cons_append, List.nil_append]); exact fun w hr => (hK w hr.1).path)) (h := ?_); rintro _ _ ⟨rfl, rfl⟩; try simp only [List.cons_append, List.nil_append]) | fail)) | ((with_reducible apply gL_gd); (first | (refine JL_guard xR xR ?_ ?_ <;> intro _ <;> (try (exfalso; first | contradiction | omega))) | (refine JL_guardb xR xR ?_ ?_ <;> (intro hgb; subst hgb)) | (refine JL_guardb xR xR ?_ ?_ <;> (intro hgb; fail_if_success (have : type_of% hgb := rfl))) | fail)) | fail)) | refine yJ ?_ | ((with_reducible apply gJ_if); (first | (refine J_if xR ?_ ?_ <;> intro _ <;> (try (exfalso; first | contradiction | omega))) | (refine J_ifb xR ?_ ?_ <;> (intro hgb; subst hgb)) | (refine J_ifb xR ?_ ?_ <;> intro _) | fail)) | fail))
      exact J_ret1 rfl (by rfl) fun w H => ⟨_, ⟨by simp, rfl⟩, H.sel xZ⟩
  · have e : testN 8 n q p d.nf = decide (originN (pN d.path) = some n) := rfl
    rw [e]
    rcases hf : originN (pN d.path) with _ | z
    all_goals rw [hf] at h8
    · (repeat' (first | ((with_reducible apply gL); (first | refine yL0 ?_ | refine yL ?_ | ((with_reducible apply gL_go); (first | (refine JL_goq (h8) (hφ := (by (try simp only [List.cons_append, List.nil_append]); exact fun w hr => (hK w hr.1).path)) (h := ?_); rintro _ _ ⟨rfl, rfl⟩; try simp only [List.cons_append, List.nil_append]) | fail)) | ((with_reducible apply gL_gd); (first | (refine JL_guard xR xR ?_ ?_ <;> intro _ <;> (try (exfalso; first | contradiction | omega))) | (refine JL_guardb xR xR ?_ ?_ <;> (intro hgb; subst hgb)) | (refine JL_guardb xR xR ?_ ?_ <;> (intro hgb; fail_if_success (have : type_of% hgb := rfl))) | fail)) | fail)) | refine yJ ?_ | ((with_reducible apply gJ_if); (first | (refine J_if xR ?_ ?_ <;> intro _ <;> (try (exfalso; first | contradiction | omega))) | (refine J_ifb xR ?_ ?_ <;> (intro hgb; subst hgb)) | (refine J_ifb xR ?_ ?_ <;> intro _) | fail)) | fail))
      exact J_ret1 rfl (by rfl) fun w H => ⟨_, ⟨rfl, rfl⟩, H.sel xZ⟩
    · (repeat' (first | ((with_reducible apply gL); (first | refine yL0 ?_ | refine yL ?_ | ((with_reducible apply gL_go); (first | (refine JL_goq (h8) (hφ := (by (try simp only [List.cons_append, List.nil_append]); exact fun w hr => (hK w hr.1).path)) (h := ?_); rintro _ _ ⟨rfl, rfl⟩; try simp only [List.cons_append, List.nil_append]) | fail)) | ((with_reducible apply gL_gd); (first | (refine JL_guard xR xR ?_ ?_ <;> intro _ <;> (try (exfalso; first | contradiction | omega))) | (refine JL_guardb xR xR ?_ ?_ <;> (intro hgb; subst hgb)) | (refine JL_guardb xR xR ?_ ?_ <;> (intro hgb; fail_if_success (have : type_of% hgb := rfl))) | fail)) | fail)) | refine yJ ?_ | ((with_reducible apply gJ_if); (first | (refine J_if xR ?_ ?_ <;> intro _ <;> (try (exfalso; first | contradiction | omega))) | (refine J_ifb xR ?_ ?_ <;> (intro hgb; subst hgb)) | (refine J_ifb xR ?_ ?_ <;> intro _) | fail)) | fail))
      exact J_ret1 rfl (by rfl) fun w H => ⟨_, ⟨by simp, rfl⟩, H.sel xZ⟩
  · (repeat' (first | ((with_reducible apply gL); (first | refine yL0 ?_ | refine yL ?_ | ((with_reducible apply gL_go); (first | (refine JL_goq (h9) (hφ := (by (try simp only [List.cons_append, List.nil_append]); exact fun w hr => (hK w hr.1).path)) (h := ?_); rintro _ _ ⟨rfl, rfl⟩; try simp only [List.cons_append, List.nil_append]) | fail)) | ((with_reducible apply gL_gd); (first | (refine JL_guard xR xR ?_ ?_ <;> intro _ <;> (try (exfalso; first | contradiction | omega))) | (refine JL_guardb xR xR ?_ ?_ <;> (intro hgb; subst hgb)) | (refine JL_guardb xR xR ?_ ?_ <;> (intro hgb; fail_if_success (have : type_of% hgb := rfl))) | fail)) | fail)) | refine yJ ?_ | ((with_reducible apply gJ_if); (first | (refine J_if xR ?_ ?_ <;> intro _ <;> (try (exfalso; first | contradiction | omega))) | (refine J_ifb xR ?_ ?_ <;> (intro hgb; subst hgb)) | (refine J_ifb xR ?_ ?_ <;> intro _) | fail)) | fail))
    exact J_ret1 rfl (by rfl) fun w H => ⟨_, ⟨rfl, rfl⟩, H.sel xZ⟩
end Go.Proofs.Ytmbgbhambgoejaa.C
namespace Go.Proofs.Ytmbgbhambgoejaa.C
set_option linter.unusedSimpArgs false
set_option linter.unusedVariables false
set_option maxRecDepth 20000
set_option maxHeartbeats 4000000
open Go.RowKit Go.Pm

theorem otest_s (rb : Nat) (p : Pf) (hp : PfN p) (d : At) (hd : AtF d) (s : Sp) (hsn : SpN s) (ho : 4 ≤ s.op ∧ s.op ≤ 12) (ht : TestOk s.op s.n (s.a, s.l)) : Pact Try.prog 38 #[.pointer (some ⟨rb, 0, none⟩), .agg (spC s).toArray] (fun w => AtV w d) [pts rb (routeC p d) 70] (fun u L' => u = .bool (testN s.op s.n (s.a, s.l) p d.nf) ∧ L' = [pts rb (routeC p d) 70]) := by
  have hcl := hd.comms
  have hq : PfN (s.a, s.l) := ⟨hsn.a, hsn.l⟩
  have hC := contains_s d.ca d.cc d.comms s.n (by omega)
  unfold TestOk at ht
  have hmed := hd.num.med
  unfold U32 at hmed
  refine pact Try.func38 rfl Try.ntmps38 rfl ?_
  intro W K hK
  by_cases o4 : s.op = 4
  · have e : testN s.op s.n (s.a, s.l) p d.nf = (decide (Wi (s.a, s.l) p) && decide (p.2 ≤ s.n)) := by unfold testN; rw [if_pos o4]
    rw [e]
    rcases hb : decide (Wi (s.a, s.l) p) with _ | _
    all_goals (
      (repeat' (first | ((with_reducible apply gL); (first | refine yL0 ?_ | refine yL ?_ | ((with_reducible apply gL_go); (first | (refine JL_goq (within_b (s.a, s.l) p hq hp _ hb) (hφ := xF) (h := ?_); rintro _ _ ⟨rfl, rfl⟩; try simp only [List.cons_append, List.nil_append]) | fail)) | (refine yM ?_; intro _) | fail)) | ((with_reducible apply gD); (first | (refine JD_nil ?_; try simp only [List.cons_append, List.nil_append]) | (refine JD_bar ?_; try simp only [List.cons_append, List.nil_append]) | refine yD0 ?_ | refine yD ?_ | ((with_reducible apply gD_go); (first | (refine JD_goq (within_b (s.a, s.l) p hq hp _ hb) (hφ := xF) (h := ?_); rintro _ _ ⟨rfl, rfl⟩; try simp only [List.cons_append, List.nil_append]) | fail)) | ((with_reducible apply gD_gd); (first | (refine JD_guard xR xR ?_ ?_ <;> intro _ <;> (try (exfalso; first | contradiction | omega))) | (refine JD_guardb xR xR ?_ ?_ <;> (intro hgb; subst hgb)) | (refine JD_guardb xR xR ?_ ?_ <;> (intro hgb; fail_if_success (have : type_of% hgb := rfl))) | fail)) | fail)) | refine yJ ?_ | ((with_reducible apply gJ_if); (first | (refine J_if xR ?_ ?_ <;> intro _ <;> (try (exfalso; first | contradiction | omega))) | (refine J_ifb xR ?_ ?_ <;> (intro hgb; subst hgb)) | (refine J_ifb xR ?_ ?_ <;> intro _) | fail)) | refine J_draw (id := 3) [0, 1, 2, 3, 4, 5] [6, 7, 8, 9, 10, 11, 12, 13, 14, 15, 16, 17] mixed xC xD xD ?_ | refine J_draw (id := 5) [0, 1, 2, 3, 4, 5] [6, 7] mixed xC xD xD ?_ | refine J_draw (id := 7) [0, 1, 2, 3, 4, 5, 6, 7] [8, 9] mixed xC xD xD ?_ | refine J_draw (id := 9) [0, 1, 2, 3, 4, 5, 6] [7, 8] mixed xC xD xD ?_ | refine J_draw (id := 11) [0, 1, 2, 3, 4, 5, 6, 7, 8, 9, 10, 11, 12, 13] [14, 15, 16] mixed xC xD xD ?_ | fail))
      all_goals (first | (exfalso; omega) | skip)
      exact J_ret1 rfl (by rfl) fun w H => ⟨_, ⟨by simp, rfl⟩, H.sel xZ⟩)
  by_cases o5 : s.op = 5
  · have e : testN s.op s.n (s.a, s.l) p d.nf = decide (p = (s.a, s.l)) := by unfold testN; rw [if_neg o4, if_pos o5]
    rw [e]
    (repeat' (first | ((with_reducible apply gL); (first | refine yL0 ?_ | refine yL ?_ | (refine yM ?_; intro _) | fail)) | ((with_reducible apply gD); (first | (refine JD_nil ?_; try simp only [List.cons_append, List.nil_append]) | (refine JD_bar ?_; try simp only [List.cons_append, List.nil_append]) | refine yD0 ?_ | refine yD ?_ | ((with_reducible apply gD_gd); (first | (refine JD_guard xR xR ?_ ?_ <;> intro _ <;> (try (exfalso; first | contradiction | omega))) | (refine JD_guardb xR xR ?_ ?_ <;> (intro hgb; subst hgb)) | (refine JD_guardb xR xR ?_ ?_ <;> (intro hgb; fail_if_success (have : type_of% hgb := rfl))) | fail)) | fail)) | refine yJ ?_ | ((with_reducible apply gJ_if); (first | (refine J_if xR ?_ ?_ <;> intro _ <;> (try (exfalso; first | contradiction | omega))) | (refine J_ifb xR ?_ ?_ <;> (intro hgb; subst hgb)) | (refine J_ifb xR ?_ ?_ <;> intro _) | fail)) | refine J_draw (id := 3) [0, 1, 2, 3, 4, 5] [6, 7, 8, 9, 10, 11, 12, 13, 14, 15, 16, 17] mixed xC xD xD ?_ | refine J_draw (id := 5) [0, 1, 2, 3, 4, 5] [6, 7] mixed xC xD xD ?_ | refine J_draw (id := 7) [0, 1, 2, 3, 4, 5, 6, 7] [8, 9] mixed xC xD xD ?_ | refine J_draw (id := 9) [0, 1, 2, 3, 4, 5, 6] [7, 8] mixed xC xD xD ?_ | refine J_draw (id := 11) [0, 1, 2, 3, 4, 5, 6, 7, 8, 9, 10, 11, 12, 13] [14, 15, 16] mixed xC xD xD ?_ | fail))
    all_goals (first | (exfalso; omega) | skip)
    refine J_ret1 rfl (by rfl) fun w H => ⟨_, ⟨?_, rfl⟩, H.sel xZ⟩
    simp [Prod.ext_iff]
  by_cases o10 : s.op = 10
  · have e : testN s.op s.n (s.a, s.l) p d.nf = decide (s.n ∈ d.comms) := by unfold testN; rw [if_neg o4, if_neg o5, if_neg (by omega), if_neg (by omega), if_neg (by omega), if_neg (by omega), if_pos o10]; rfl
    rw [e]
    (repeat' (first | ((with_reducible apply gL); (first | refine yL0 ?_ | refine yL ?_ | ((with_reducible apply gL_go); (first | (refine JL_goq (hC) (hφ := (by (try simp only [List.cons_append, List.nil_append]); exact fun w hr => (hK w hr.1).comms)) (h := ?_); rintro _ _ ⟨rfl, rfl⟩; try simp only [List.cons_append, List.nil_append]) | fail)) | (refine yM ?_; intro _) | fail)) | ((with_reducible apply gD); (first | (refine JD_nil ?_; try simp only [List.cons_append, List.nil_append]) | (refine JD_bar ?_; try simp only [List.cons_append, List.nil_append]) | refine yD0 ?_ | refine yD ?_ | ((with_reducible apply gD_go); (first | (refine JD_goq (hC) (hφ := (by (try simp only [List.cons_append, List.nil_append]); exact fun w hr => (hK w hr.1).comms)) (h := ?_); rintro _ _ ⟨rfl, rfl⟩; try simp only [List.cons_append, List.nil_append]) | fail)) | ((with_reducible apply gD_gd); (first | (refine JD_guard xR xR ?_ ?_ <;> intro _ <;> (try (exfalso; first | contradiction | omega))) | (refine JD_guardb xR xR ?_ ?_ <;> (intro hgb; subst hgb)) | (refine JD_guardb xR xR ?_ ?_ <;> (intro hgb; fail_if_success (have : type_of% hgb := rfl))) | fail)) | fail)) | refine yJ ?_ | ((with_reducible apply gJ_if); (first | (refine J_if xR ?_ ?_ <;> intro _ <;> (try (exfalso; first | contradiction | omega))) | (refine J_ifb xR ?_ ?_ <;> (intro hgb; subst hgb)) | (refine J_ifb xR ?_ ?_ <;> intro _) | fail)) | refine J_draw (id := 3) [0, 1, 2, 3, 4, 5] [6, 7, 8, 9, 10, 11, 12, 13, 14, 15, 16, 17] mixed xC xD xD ?_ | refine J_draw (id := 5) [0, 1, 2, 3, 4, 5] [6, 7] mixed xC xD xD ?_ | refine J_draw (id := 7) [0, 1, 2, 3, 4, 5, 6, 7] [8, 9] mixed xC xD xD ?_ | refine J_draw (id := 9) [0, 1, 2, 3, 4, 5, 6] [7, 8] mixed xC xD xD ?_ | refine J_draw (id := 11) [0, 1, 2, 3, 4, 5, 6, 7, 8, 9, 10, 11, 12, 13] [14, 15, 16] mixed xC xD xD ?_ | fail))
    all_goals (first | (exfalso; omega) | skip)
    exact J_ret1 rfl (by rfl) fun w H => ⟨_, ⟨rfl, rfl⟩, H.sel xZ⟩
  by_cases o11 : s.op = 11
  · have e : testN s.op s.n (s.a, s.l) p d.nf = decide (d.origin = s.n) := by unfold testN; rw [if_neg o4, if_neg o5, if_neg (by omega), if_neg (by omega), if_neg (by omega), if_neg (by omega), if_neg (by omega), if_pos o11]; rfl
    rw [e]
    (repeat' (first | ((with_reducible apply gL); (first | refine yL0 ?_ | refine yL ?_ | (refine yM ?_; intro _) | fail)) | ((with_reducible apply gD); (first | (refine JD_nil ?_; try simp only [List.cons_append, List.nil_append]) | (refine JD_bar ?_; try simp only [List.cons_append, List.nil_append]) | refine yD0 ?_ | refine yD ?_ | ((with_reducible apply gD_gd); (first | (refine JD_guard xR xR ?_ ?_ <;> intro _ <;> (try (exfalso; first | contradiction | omega))) | (refine JD_guardb xR xR ?_ ?_ <;> (intro hgb; subst hgb)) | (refine JD_guardb xR xR ?_ ?_ <;> (intro hgb; fail_if_success (have : type_of% hgb := rfl))) | fail)) | fail)) | refine yJ ?_ | ((with_reducible apply gJ_if); (first | (refine J_if xR ?_ ?_ <;> intro _ <;> (try (exfalso; first | contradiction | omega))) | (refine J_ifb xR ?_ ?_ <;> (intro hgb; subst hgb)) | (refine J_ifb xR ?_ ?_ <;> intro _) | fail)) | refine J_draw (id := 3) [0, 1, 2, 3, 4, 5] [6, 7, 8, 9, 10, 11, 12, 13, 14, 15, 16, 17] mixed xC xD xD ?_ | refine J_draw (id := 5) [0, 1, 2, 3, 4, 5] [6, 7] mixed xC xD xD ?_ | refine J_draw (id := 7) [0, 1, 2, 3, 4, 5, 6, 7] [8, 9] mixed xC xD xD ?_ | refine J_draw (id := 9) [0, 1, 2, 3, 4, 5, 6] [7, 8] mixed xC xD xD ?_ | refine J_draw (id := 11) [0, 1, 2, 3, 4, 5, 6, 7, 8, 9, 10, 11, 12, 13] [14, 15, 16] mixed xC xD xD ?_ | fail))
    all_goals (first | (exfalso; omega) | skip)
    exact J_ret1 rfl (by rfl) fun w H => ⟨_, ⟨rfl, rfl⟩, H.sel xZ⟩
  by_cases o12 : s.op = 12
  · have e : testN s.op s.n (s.a, s.l) p d.nf = (d.hasMed && decide (s.n < d.med)) := by
      unfold testN; rw [if_neg o4, if_neg o5, if_neg (by omega), if_neg (by omega), if_neg (by omega), if_neg (by omega), if_neg (by omega), if_neg (by omega), if_pos o12]
      unfold At.nf
      dsimp only
      cases d.hasMed <;> simp
    rw [e]
    (repeat' (first | ((with_reducible apply gL); (first | refine yL0 ?_ | refine yL ?_ | (refine yM ?_; intro _) | fail)) | ((with_reducible apply gD); (first | (refine JD_nil ?_; try simp only [List.cons_append, List.nil_append]) | (refine JD_bar ?_; try simp only [List.cons_append, List.nil_append]) | refine yD0 ?_ | refine yD ?_ | ((with_reducible apply gD_gd); (first | (refine JD_guard xR xR ?_ ?_ <;> intro _ <;> (try (exfalso; first | contradiction | omega))) | (refine JD_guardb xR xR ?_ ?_ <;> (intro hgb; subst hgb)) | (refine JD_guardb xR xR ?_ ?_ <;> (intro hgb; fail_if_success (have : type_of% hgb := rfl))) | fail)) | fail)) | refine yJ ?_ | ((with_reducible apply gJ_if); (first | (refine J_if xR ?_ ?_ <;> intro _ <;> (try (exfalso; first | contradiction | omega))) | (refine J_ifb xR ?_ ?_ <;> (intro hgb; subst hgb)) | (refine J_ifb xR ?_ ?_ <;> intro _) | fail)) | refine J_draw (id := 3) [0, 1, 2, 3, 4, 5] [6, 7, 8, 9, 10, 11, 12, 13, 14, 15, 16, 17] mixed xC xD xD ?_ | refine J_draw (id := 5) [0, 1, 2, 3, 4, 5] [6, 7] mixed xC xD xD ?_ | refine J_draw (id := 7) [0, 1, 2, 3, 4, 5, 6, 7] [8, 9] mixed xC xD xD ?_ | refine J_draw (id := 9) [0, 1, 2, 3, 4, 5, 6] [7, 8] mixed xC xD xD ?_ | refine J_draw (id := 11) [0, 1, 2, 3, 4, 5, 6, 7, 8, 9, 10, 11, 12, 13] [14, 15, 16] mixed xC xD xD ?_ | fail))
    all_goals (first | (exfalso; omega) | skip)
    all_goals (refine J_ret1 rfl (by rfl) fun w H => ⟨_, ⟨?_, rfl⟩, H.sel xZ⟩; simp [*])
  · (repeat' (first | ((with_reducible apply gL); (first | refine yL0 ?_ | refine yL ?_ | ((with_reducible apply gL_go); (first | (refine JL_goq (rpath_s rb p d hd s.op s.n (by omega) (by omega) (s.a, s.l)) (hφ := (by (try simp only [List.cons_append, List.nil_append]); exact fun w hr => hK w hr.1)) (h := ?_); rintro _ _ ⟨rfl, rfl⟩; try simp only [List.cons_append, List.nil_append]) | fail)) | (refine yM ?_; intro _) | fail)) | ((with_reducible apply gD); (first | (refine JD_nil ?_; try simp only [List.cons_append, List.nil_append]) | (refine JD_bar ?_; try simp only [List.cons_append, List.nil_append]) | refine yD0 ?_ | refine yD ?_ | ((with_reducible apply gD_go); (first | (refine JD_goq (rpath_s rb p d hd s.op s.n (by omega) (by omega) (s.a, s.l)) (hφ := (by (try simp only [List.cons_append, List.nil_append]); exact fun w hr => hK w hr.1)) (h := ?_); rintro _ _ ⟨rfl, rfl⟩; try simp only [List.cons_append, List.nil_append]) | fail)) | ((with_reducible apply gD_gd); (first | (refine JD_guard xR xR ?_ ?_ <;> intro _ <;> (try (exfalso; first | contradiction | omega))) | (refine JD_guardb xR xR ?_ ?_ <;> (intro hgb; subst hgb)) | (refine JD_guardb xR xR ?_ ?_ <;> (intro hgb; fail_if_success (have : type_of% hgb := rfl))) | fail)) | fail)) | refine yJ ?_ | ((with_reducible apply gJ_if); (first | (refine J_if xR ?_ ?_ <;> intro _ <;> (try (exfalso; first | contradiction | omega))) | (refine J_ifb xR ?_ ?_ <;> (intro hgb; subst hgb)) | (refine J_ifb xR ?_ ?_ <;> intro _) | fail)) | refine J_draw (id := 3) [0, 1, 2, 3, 4, 5] [6, 7, 8, 9, 10, 11, 12, 13, 14, 15, 16, 17] mixed xC xD xD ?_ | refine J_draw (id := 5) [0, 1, 2, 3, 4, 5] [6, 7] mixed xC xD xD ?_ | refine J_draw (id := 7) [0, 1, 2, 3, 4, 5, 6, 7] [8, 9] mixed xC xD xD ?_ | refine J_draw (id := 9) [0, 1, 2, 3, 4, 5, 6] [7, 8] mixed xC xD xD ?_ | refine J_draw (id := 11) [0, 1, 2, 3, 4, 5, 6, 7, 8, 9, 10, 11, 12, 13] [14, 15, 16] mixed xC xD xD ?_ | fail))
    all_goals (first | (exfalso; omega) | skip)
    exact J_ret1 rfl (by rfl) fun w H => ⟨_, ⟨rfl, rfl⟩, H.sel xZ⟩
end Go.Proofs.Ytmbgbhambgoejaa.C
