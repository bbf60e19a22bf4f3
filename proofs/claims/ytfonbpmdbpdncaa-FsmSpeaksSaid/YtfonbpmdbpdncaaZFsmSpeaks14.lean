/-
  Fs13: merged.
-/
import Derived.Test.YtfonbpmdbpdncaaZFsmSpeaks13
namespace Go.Proofs.Ytfonbpmdbpdncaa
set_option linter.unusedSimpArgs false
set_option linter.unusedVariables false
set_option maxRecDepth 20000
set_option maxHeartbeats 4000000
open Go.RowKit Go.Pm

theorem bE_bX {z s : Int} {l : List Int} (h : bE z s l = 0) : 2 ≤ (bX z s l).length ∧ (bX z s l).length ≤ 4077 := by
  unfold bE at h
  split at h
  case isTrue h1 =>
    split at h
    case isTrue h2 =>
      unfold bX
      rw [if_pos ⟨h1.1, h1.2, h2⟩]
      simp only [List.length_cons]
      omega
    case isFalse => exact absurd h (by decide)
  case isFalse => exact absurd h (by decide)
theorem app3 {α : Type} (xs us vs zs : List α) : xs ++ (us ++ (vs ++ zs)) = ((xs ++ us) ++ vs) ++ zs := by simp
theorem fail0_s (b : Nat) (q : Bool) (s : Qse) (hs : SeOk s) (a : Option Addr) (n c : Nat) (xs : List Ac) (hx : xs.length ≤ 40) (z sub : Int) (fa : Option Addr) (fc fn : Nat) (fl : List Int) (hn : fl.length = fn) (hl : fn ≤ 4076) : Pact Try.prog 47 #[.pointer (some ⟨b, 0, none⟩), .int .i64 0, .agg #[.int .i64 z, .int .i64 sub, .slice fa fn fc]] (fun w => Vw w (.slice fa fn fc) 1 fn (flat byC fl)) [pts b (seC q s (.slice a n c)) 52, Ar 42 14 acC (.slice a n c) xs, hasA xs] (fun u L' => ∃ a' n' c' ag zs, (ag = s.again ∨ s.t1.st = 0) ∧ Are zs ((3, 0, 3) :: (2, 0, 0) :: dnL s.t0.st 0) ∧ u = .tuple #[] ∧ L' = [pts b (seC q { s with again := ag, t0 := tr0 } (.slice a' n' c')) 52, Ar 42 14 acC (.slice a' n' c') (xs ++ zs), hasA (xs ++ zs)]) := by
  subst hn
  refine pact Try.func47 rfl Try.ntmps47 rfl ?_
  intro W K hK
  have k1 := build_u z sub fa fc fl hl
  unfold BuildR at k1
  have k2 := build_u 6 0 none 0 [] (by decide)
  unfold BuildR at k2
  rw [show bX 6 0 [] = [6, 0] from by decide, show bE 6 0 [] = 0 from by decide] at k2
  have hX := @bE_bX z sub fl
  obtain ⟨X, eX⟩ : ∃ X, bX z sub fl = X := ⟨_, rfl⟩
  obtain ⟨E, eE⟩ : ∃ E, bE z sub fl = E := ⟨_, rfl⟩
  rw [eX, eE] at k1 hX
  clear eX eE
  (repeat' (first | ((with_reducible apply gL); (first | refine yL0 ?_ | refine yL ?_ | ((with_reducible apply gL_go); (first | (refine JL_goq (k1) (hφ := (by (try simp only [List.cons_append, List.nil_append]); exact fun w hr => hK w hr.1)) (h := ?_); rintro _ _ ⟨a1, c1, rfl, rfl⟩; try simp only [List.cons_append, List.nil_append]) | (refine JL_goq (k2) (hφ := (by (try simp only [List.cons_append, List.nil_append]); exact fun w hr => Vw.nil w 1)) (h := ?_); rintro _ _ ⟨a2, c2, rfl, rfl⟩; try simp only [List.cons_append, List.nil_append]) | (refine JL_goq (say_s b q s a n c xs (by omega) 0 3 ⟨3, 21, 4096⟩ (.inr (.inl rfl)) rfl a1 X.length c1 X rfl (by have := hX (by omega); simp only; omega) (by have := hX (by omega); simp only; omega)) (hφ := (by (try simp only [List.cons_append, List.nil_append]); exact fun w hr => Src.ar xA w hr)) (h := ?_); rintro _ _ ⟨a3, n3, c3, z3, h3, rfl, rfl⟩; try simp only [List.cons_append, List.nil_append]) | (refine JL_goq (say_s b q s a n c xs (by omega) 0 3 ⟨3, 21, 4096⟩ (.inr (.inl rfl)) rfl a2 2 c2 [6, 0] rfl (by decide) (by decide)) (hφ := (by (try simp only [List.cons_append, List.nil_append]); exact fun w hr => Src.ar xA w hr)) (h := ?_); rintro _ _ ⟨a3, n3, c3, z3, h3, rfl, rfl⟩; try simp only [List.cons_append, List.nil_append]) | (refine JL_goq (do_s b q s a3 n3 c3 (xs ++ [z3]) (by simp only [List.length_append, List.length_singleton]; omega) 2 0 (by decide)) (hφ := xF) (h := ?_); rintro _ _ ⟨a4, n4, c4, z4, h4, rfl, rfl⟩; try simp only [List.cons_append, List.nil_append]) | (refine JL_goq (lose0_s b q s hs a4 n4 c4 ((xs ++ [z3]) ++ [z4]) (by simp only [List.length_append, List.length_singleton]; omega) false) (hφ := xF) (h := ?_); rintro _ _ ⟨a5, n5, c5, ag, z5, hag, h5, rfl, rfl⟩; try simp only [List.cons_append, List.nil_append]) | fail)) | (refine yM ?_; intro _) | fail)) | refine yJ ?_ | ((with_reducible apply gJ_if); (first | (refine J_if xR ?_ ?_ <;> intro _ <;> (try (exfalso; first | contradiction | omega))) | (refine J_ifb xR ?_ ?_ <;> (intro hgb; subst hgb)) | (refine J_ifb xR ?_ ?_ <;> intro _) | fail)) | fail))
  all_goals exact J_end0 rfl fun w H => ⟨_, ⟨a5, n5, c5, ag, [z3] ++ ([z4] ++ z5), hag, h3.app (h4.app h5), rfl, rfl⟩, by rw [app3]; exact H.sel xZ⟩
theorem fail1_s (b : Nat) (q : Bool) (s : Qse) (hs : SeOk s) (a : Option Addr) (n c : Nat) (xs : List Ac) (hx : xs.length ≤ 40) (z sub : Int) (fa : Option Addr) (fc fn : Nat) (fl : List Int) (hn : fl.length = fn) (hl : fn ≤ 4076) : Pact Try.prog 47 #[.pointer (some ⟨b, 0, none⟩), .int .i64 1, .agg #[.int .i64 z, .int .i64 sub, .slice fa fn fc]] (fun w => Vw w (.slice fa fn fc) 1 fn (flat byC fl)) [pts b (seC q s (.slice a n c)) 52, Ar 42 14 acC (.slice a n c) xs, hasA xs] (fun u L' => ∃ a' n' c' ag zs, (ag = s.again ∨ s.t0.st = 0) ∧ Are zs ((3, 1, 3) :: (2, 1, 0) :: dnL s.t1.st 1) ∧ u = .tuple #[] ∧ L' = [pts b (seC q { s with again := ag, t1 := tr0 } (.slice a' n' c')) 52, Ar 42 14 acC (.slice a' n' c') (xs ++ zs), hasA (xs ++ zs)]) := by
  subst hn
  refine pact Try.func47 rfl Try.ntmps47 rfl ?_
  intro W K hK
  have k1 := build_u z sub fa fc fl hl
  unfold BuildR at k1
  have k2 := build_u 6 0 none 0 [] (by decide)
  unfold BuildR at k2
  rw [show bX 6 0 [] = [6, 0] from by decide, show bE 6 0 [] = 0 from by decide] at k2
  have hX := @bE_bX z sub fl
  obtain ⟨X, eX⟩ : ∃ X, bX z sub fl = X := ⟨_, rfl⟩
  obtain ⟨E, eE⟩ : ∃ E, bE z sub fl = E := ⟨_, rfl⟩
  rw [eX, eE] at k1 hX
  clear eX eE
  (repeat' (first | ((with_reducible apply gL); (first | refine yL0 ?_ | refine yL ?_ | ((with_reducible apply gL_go); (first | (refine JL_goq (k1) (hφ := (by (try simp only [List.cons_append, List.nil_append]); exact fun w hr => hK w hr.1)) (h := ?_); rintro _ _ ⟨a1, c1, rfl, rfl⟩; try simp only [List.cons_append, List.nil_append]) | (refine JL_goq (k2) (hφ := (by (try simp only [List.cons_append, List.nil_append]); exact fun w hr => Vw.nil w 1)) (h := ?_); rintro _ _ ⟨a2, c2, rfl, rfl⟩; try simp only [List.cons_append, List.nil_append]) | (refine JL_goq (say_s b q s a n c xs (by omega) 1 3 ⟨3, 21, 4096⟩ (.inr (.inl rfl)) rfl a1 X.length c1 X rfl (by have := hX (by omega); simp only; omega) (by have := hX (by omega); simp only; omega)) (hφ := (by (try simp only [List.cons_append, List.nil_append]); exact fun w hr => Src.ar xA w hr)) (h := ?_); rintro _ _ ⟨a3, n3, c3, z3, h3, rfl, rfl⟩; try simp only [List.cons_append, List.nil_append]) | (refine JL_goq (say_s b q s a n c xs (by omega) 1 3 ⟨3, 21, 4096⟩ (.inr (.inl rfl)) rfl a2 2 c2 [6, 0] rfl (by decide) (by decide)) (hφ := (by (try simp only [List.cons_append, List.nil_append]); exact fun w hr => Src.ar xA w hr)) (h := ?_); rintro _ _ ⟨a3, n3, c3, z3, h3, rfl, rfl⟩; try simp only [List.cons_append, List.nil_append]) | (refine JL_goq (do_s b q s a3 n3 c3 (xs ++ [z3]) (by simp only [List.length_append, List.length_singleton]; omega) 2 1 (by decide)) (hφ := xF) (h := ?_); rintro _ _ ⟨a4, n4, c4, z4, h4, rfl, rfl⟩; try simp only [List.cons_append, List.nil_append]) | (refine JL_goq (lose1_s b q s hs a4 n4 c4 ((xs ++ [z3]) ++ [z4]) (by simp only [List.length_append, List.length_singleton]; omega) false) (hφ := xF) (h := ?_); rintro _ _ ⟨a5, n5, c5, ag, z5, hag, h5, rfl, rfl⟩; try simp only [List.cons_append, List.nil_append]) | fail)) | (refine yM ?_; intro _) | fail)) | refine yJ ?_ | ((with_reducible apply gJ_if); (first | (refine J_if xR ?_ ?_ <;> intro _ <;> (try (exfalso; first | contradiction | omega))) | (refine J_ifb xR ?_ ?_ <;> (intro hgb; subst hgb)) | (refine J_ifb xR ?_ ?_ <;> intro _) | fail)) | fail))
  all_goals exact J_end0 rfl fun w H => ⟨_, ⟨a5, n5, c5, ag, [z3] ++ ([z4] ++ z5), hag, h3.app (h4.app h5), rfl, rfl⟩, by rw [app3]; exact H.sel xZ⟩
end Go.Proofs.Ytfonbpmdbpdncaa
