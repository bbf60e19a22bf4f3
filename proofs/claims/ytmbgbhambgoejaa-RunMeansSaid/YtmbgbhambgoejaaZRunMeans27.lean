/-
  RunMeans: a policy's table plays as the policy means.
-/
import Derived.Test.YtmbgbhambgoejaaZRunMeans26
import Derived.HandedShaped
namespace Go.Proofs.Ytmbgbhambgoejaa.C
set_option linter.unusedSimpArgs false
set_option linter.unusedVariables false
set_option maxRecDepth 20000
set_option maxHeartbeats 4000000
open Go.RowKit Go.Pm

theorem few_keep {d : At} (h1 : d.path.length ≤ 8) (h2 : d.comms.length ≤ 40) (h3 : d.others.length ≤ 8) : d.tr.nf = d.nf := by
  unfold At.tr
  rw [List.take_of_length_le h1, List.take_of_length_le h2, List.take_of_length_le h3]
  exact At.at_nf _ _ _ _ _ _ _ _ _ _ rfl rfl rfl
theorem tr_small {d e : At} (h : e.nf = d.tr.nf) : e.path.length ≤ 8 ∧ e.comms.length ≤ 40 ∧ e.others.length ≤ 8 := by
  have h1 := pN_len (p := e.path) (q := d.tr.path) (congrArg Nf.path h)
  have h2 : e.comms = d.tr.comms := congrArg Nf.comms h
  have h3 := oN_len (p := e.others) (q := d.tr.others) (congrArg Nf.others h)
  rw [h1, h2, h3]
  refine ⟨?_, ?_, ?_⟩ <;> simp [At.tr, At.at_] <;> omega
theorem make_spn {ys : List St} (hys : LsF 5 ys) (hr : rightB 5 ys = true) (hs : sizeL 5 ys < 4096) : checkE (makeT ys) = 0 ∧ (∀ s ∈ makeT ys, SpN s) ∧ 0 < (makeT ys).length ∧ (makeT ys).length ≤ 4096 := by
  obtain ⟨h1, _, h2⟩ := make_ok hys hr hs
  have hcl := codeL_len hys hr 0
  have e1 : makeT ys = codeL 5 0 ys ++ [endS] := by unfold makeT; rw [if_pos ⟨hr, hs⟩]
  refine ⟨h1, h2, ?_, ?_⟩ <;> rw [e1, List.length_append, hcl] <;> simp <;> omega
theorem same_t (d e : At) (hd : AtF d) (he : AtF e) (h : d.nf = e.nf) : Pact Try.prog 12 #[.agg (atC d).toArray, .agg (atC e).toArray] (fun w => AtV w d ∧ AtV w e) [] (ret0 (.bool true)) := by
  have := rsame_s d e hd he
  rwa [decide_eq_true h] at this
theorem means_s (nm : ByteArray) (la : Option Addr) (lc : Nat) (l : List St) (hl : LsR 5 l) (p : Pf) (hp : PfN p) (d : At) (hd : AtN d) : Pact Try.prog 3 #[.agg #[.string nm, .slice la l.length lc], .agg (pfC p).toArray, .agg (atC d).toArray] (fun w => LsV w 5 la lc l ∧ AtV w d) [] (ret0 (.bool true)) := by
  refine pact Try.func3 rfl Try.ntmps3 rfl ?_
  intro W K hK
  (repeat' (first | ((with_reducible apply gL); (first | refine yL0 ?_ | refine yL ?_ | ((with_reducible apply gL_go); (first | (refine JL_goq (works27_s) (hφ := xF) (h := ?_); rintro _ _ ⟨rfl, rfl⟩; try simp only [List.cons_append, List.nil_append]) | (refine JL_goq (few_s 5 la lc l hl (by omega)) (hφ := (by (try simp only [List.cons_append, List.nil_append]); exact fun w hr => (hK w hr.1).1)) (h := ?_); rintro _ _ ⟨a1, c1, ys, hys, rfl, rfl⟩; try simp only [List.cons_append, List.nil_append]) | (refine JL_goq (_root_.Go.Proofs.Ytmbgbhambgoejaa.few_s d hd) (hφ := (by (try simp only [List.cons_append, List.nil_append]); exact fun w hr => (hK w hr.1).2)) (h := ?_); rintro _ _ ⟨d1, hd1, hn1, rfl, rfl⟩; try simp only [List.cons_append, List.nil_append]) | fail)) | (refine yM ?_; intro _) | ((with_reducible apply gL_gd); (first | (refine JL_guard xR xR ?_ ?_ <;> intro _ <;> (try (exfalso; first | contradiction | omega))) | (refine JL_guardb xR xR ?_ ?_ <;> (intro hgb; subst hgb)) | (refine JL_guardb xR xR ?_ ?_ <;> (intro hgb; fail_if_success (have : type_of% hgb := rfl))) | fail)) | fail)) | ((with_reducible apply gD); (first | (refine JD_nil ?_; try simp only [List.cons_append, List.nil_append]) | (refine JD_bar ?_; try simp only [List.cons_append, List.nil_append]) | refine yD ?_ | ((with_reducible apply gD_go); (first | (refine JD_goq (works27_s) (hφ := xF) (h := ?_); rintro _ _ ⟨rfl, rfl⟩; try simp only [List.cons_append, List.nil_append]) | (refine JD_goq (few_s 5 la lc l hl (by omega)) (hφ := (by (try simp only [List.cons_append, List.nil_append]); exact fun w hr => (hK w hr.1).1)) (h := ?_); rintro _ _ ⟨a1, c1, ys, hys, rfl, rfl⟩; try simp only [List.cons_append, List.nil_append]) | (refine JD_goq (_root_.Go.Proofs.Ytmbgbhambgoejaa.few_s d hd) (hφ := (by (try simp only [List.cons_append, List.nil_append]); exact fun w hr => (hK w hr.1).2)) (h := ?_); rintro _ _ ⟨d1, hd1, hn1, rfl, rfl⟩; try simp only [List.cons_append, List.nil_append]) | fail)) | (refine yE ?_; intro _) | fail)) | refine yJ ?_ | ((with_reducible apply gJ_if); (first | (refine J_if xR ?_ ?_ <;> intro _ <;> (try (exfalso; first | contradiction | omega))) | (refine J_ifb xR ?_ ?_ <;> (intro hgb; subst hgb)) | (refine J_ifb xR ?_ ?_ <;> intro _) | fail)) | refine J_draw (id := 3) [0, 1, 3, 2, 5, 4] [6, 7] mixed xC xD xD ?_ | refine J_draw (id := 7) [0, 1, 2, 3, 4, 5, 6, 7, 8, 9, 10, 11] [12] mixed xC xD xD ?_ | fail))
  all_goals (first | (exfalso; rename_i h; exact h trivial) | skip)
  have hR := rRight_s 5 a1 c1 ys 1 hys (by omega)
  have hM := Make_s nm a1 c1 ys hys
  rcases hr : rightB 5 ys with _ | _
  all_goals rw [hr] at hR
  · have e2 : makeE ys = 260 := by unfold makeE; rw [hr, if_neg (by simp)]
    rw [e2] at hM
    (repeat' (first | ((with_reducible apply gL); (first | refine yL0 ?_ | refine yL ?_ | ((with_reducible apply gL_go); (first | (refine JL_goq (hM) (hφ := (by (try simp only [List.cons_append, List.nil_append]); exact fun w hr => hr.has (φ := fun w => LsV w 5 a1 c1 ys) xA)) (h := ?_); rintro _ _ ⟨a2, c2, rfl, rfl⟩; try simp only [List.cons_append, List.nil_append]) | (refine JL_goq (hR) (hφ := (by (try simp only [List.cons_append, List.nil_append]); exact fun w hr => hr.has (φ := fun w => LsV w 5 a1 c1 ys) xA)) (h := ?_); rintro _ _ ⟨rfl, rfl⟩; try simp only [List.cons_append, List.nil_append]) | fail)) | (refine yM ?_; intro _) | ((with_reducible apply gL_gd); (first | (refine JL_guard xR xR ?_ ?_ <;> intro _ <;> (try (exfalso; first | contradiction | omega))) | (refine JL_guardb xR xR ?_ ?_ <;> (intro hgb; subst hgb)) | (refine JL_guardb xR xR ?_ ?_ <;> (intro hgb; fail_if_success (have : type_of% hgb := rfl))) | fail)) | fail)) | ((with_reducible apply gD); (first | (refine JD_nil ?_; try simp only [List.cons_append, List.nil_append]) | (refine JD_bar ?_; try simp only [List.cons_append, List.nil_append]) | refine yD ?_ | ((with_reducible apply gD_go); (first | (refine JD_goq (hM) (hφ := (by (try simp only [List.cons_append, List.nil_append]); exact fun w hr => hr.has (φ := fun w => LsV w 5 a1 c1 ys) xA)) (h := ?_); rintro _ _ ⟨a2, c2, rfl, rfl⟩; try simp only [List.cons_append, List.nil_append]) | (refine JD_goq (hR) (hφ := (by (try simp only [List.cons_append, List.nil_append]); exact fun w hr => hr.has (φ := fun w => LsV w 5 a1 c1 ys) xA)) (h := ?_); rintro _ _ ⟨rfl, rfl⟩; try simp only [List.cons_append, List.nil_append]) | fail)) | (refine yE ?_; intro _) | fail)) | refine yJ ?_ | ((with_reducible apply gJ_if); (first | (refine J_if xR ?_ ?_ <;> intro _ <;> (try (exfalso; first | contradiction | omega))) | (refine J_ifb xR ?_ ?_ <;> (intro hgb; subst hgb)) | (refine J_ifb xR ?_ ?_ <;> intro _) | fail)) | refine J_draw (id := 3) [0, 1, 3, 2, 5, 4] [6, 7] mixed xC xD xD ?_ | refine J_draw (id := 7) [0, 1, 2, 3, 4, 5, 6, 7, 8, 9, 10, 11] [12] mixed xC xD xD ?_ | fail))
    all_goals (first | (exfalso; omega) | skip)
    exact J_ret1 rfl (by rfl) fun w H => ⟨_, ⟨rfl, rfl⟩, H.sel .nil⟩
  by_cases hs : sizeL 5 ys < 4096
  · have e2 : makeE ys = 0 := by unfold makeE; rw [if_pos hr, if_pos hs]
    rw [e2] at hM
    obtain ⟨k1, k2, k3, k4⟩ := make_spn hys hr hs
    obtain ⟨s1, s2, s3⟩ := tr_small hn1
    have hP : ∀ a2 c2 d2, AtF d2 → d2.nf = d1.tr.nf → Pact Try.prog 10 #[.slice a2 (makeT ys).length c2, .agg (pfC p).toArray, .agg (atC d2).toArray] (fun w => AtV w d2 ∧ Vw w (.slice a2 (makeT ys).length c2) 7 (makeT ys).length (flat spC (makeT ys))) [] (PlR (accM (meanL p 5 ys d1.nf))) := fun a2 c2 d2 h2 hn2 => by
      have := Play_s a2 c2 (makeT ys) p hp d2 h2 k1 k2 k3 k4
      rwa [make_play hys hr hs, hn2, few_keep s1 s2 s3] at this
    have hN := mean_s p hp 5 a1 c1 ys hys hr d1 hd1
    obtain ⟨M, hM0⟩ : ∃ M, meanL p 5 ys d1.nf = M := ⟨_, rfl⟩
    rw [hM0] at hN
    simp only [hM0] at hP
    obtain ⟨y, e, b⟩ := M
    rcases e with _ | _
    · rcases b with _ | _
      · have hacc : accM (y, false, false) = none := rfl
        simp only [hacc] at hP
        (repeat' (first | ((with_reducible apply gL); (first | refine yL0 ?_ | refine yL ?_ | ((with_reducible apply gL_go); (first | (refine JL_goq (hM) (hφ := (by (try simp only [List.cons_append, List.nil_append]); exact fun w hr => hr.has (φ := fun w => LsV w 5 a1 c1 ys) xA)) (h := ?_); rintro _ _ ⟨a2, c2, rfl, rfl⟩; try simp only [List.cons_append, List.nil_append]) | (refine JL_goq (_root_.Go.Proofs.Ytmbgbhambgoejaa.few_s d1 hd1.num) (hφ := (by (try simp only [List.cons_append, List.nil_append]); exact fun w hr => hr.has (φ := fun w => AtV w d1) xA)) (h := ?_); rintro _ _ ⟨d2, hd2, hn2, rfl, rfl⟩; try simp only [List.cons_append, List.nil_append]) | (refine JL_goq (hP a2 c2 d2 hd2 hn2) (hφ := (by (try simp only [List.cons_append, List.nil_append]); exact fun w hr => ⟨hr.has (φ := fun w => AtV w d2) xA, Src.ar xA w hr⟩)) (h := ?_); rintro _ _ ⟨d3, hd3, hn3, rfl, rfl⟩; try simp only [List.cons_append, List.nil_append]) | (refine JL_goq (hN) (hφ := (by (try simp only [List.cons_append, List.nil_append]); exact fun w hr => ⟨hr.has (φ := fun w => LsV w 5 a1 c1 ys) xA, hr.has (φ := fun w => AtV w d1) xA⟩)) (h := ?_); rintro _ _ ⟨d4, hd4, hn4, rfl, rfl⟩; try simp only [List.cons_append, List.nil_append]) | (refine JL_goq (same_t d3 at0 hd3 at0_f hn3) (hφ := (by (try simp only [List.cons_append, List.nil_append]); exact fun w hr => ⟨hr.has (φ := fun w => AtV w d3) xA, at0_v w⟩)) (h := ?_); rintro _ _ ⟨rfl, rfl⟩; try simp only [List.cons_append, List.nil_append]) | fail)) | (refine yM ?_; intro _) | ((with_reducible apply gL_gd); (first | (refine JL_guard xR xR ?_ ?_ <;> intro _ <;> (try (exfalso; first | contradiction | omega))) | (refine JL_guardb xR xR ?_ ?_ <;> (intro hgb; subst hgb)) | (refine JL_guardb xR xR ?_ ?_ <;> (intro hgb; fail_if_success (have : type_of% hgb := rfl))) | fail)) | fail)) | ((with_reducible apply gD); (first | (refine JD_nil ?_; try simp only [List.cons_append, List.nil_append]) | (refine JD_bar ?_; try simp only [List.cons_append, List.nil_append]) | refine yD ?_ | ((with_reducible apply gD_go); (first | (refine JD_goq (hM) (hφ := (by (try simp only [List.cons_append, List.nil_append]); exact fun w hr => hr.has (φ := fun w => LsV w 5 a1 c1 ys) xA)) (h := ?_); rintro _ _ ⟨a2, c2, rfl, rfl⟩; try simp only [List.cons_append, List.nil_append]) | (refine JD_goq (_root_.Go.Proofs.Ytmbgbhambgoejaa.few_s d1 hd1.num) (hφ := (by (try simp only [List.cons_append, List.nil_append]); exact fun w hr => hr.has (φ := fun w => AtV w d1) xA)) (h := ?_); rintro _ _ ⟨d2, hd2, hn2, rfl, rfl⟩; try simp only [List.cons_append, List.nil_append]) | (refine JD_goq (hP a2 c2 d2 hd2 hn2) (hφ := (by (try simp only [List.cons_append, List.nil_append]); exact fun w hr => ⟨hr.has (φ := fun w => AtV w d2) xA, Src.ar xA w hr⟩)) (h := ?_); rintro _ _ ⟨d3, hd3, hn3, rfl, rfl⟩; try simp only [List.cons_append, List.nil_append]) | (refine JD_goq (hN) (hφ := (by (try simp only [List.cons_append, List.nil_append]); exact fun w hr => ⟨hr.has (φ := fun w => LsV w 5 a1 c1 ys) xA, hr.has (φ := fun w => AtV w d1) xA⟩)) (h := ?_); rintro _ _ ⟨d4, hd4, hn4, rfl, rfl⟩; try simp only [List.cons_append, List.nil_append]) | (refine JD_goq (same_t d3 at0 hd3 at0_f hn3) (hφ := (by (try simp only [List.cons_append, List.nil_append]); exact fun w hr => ⟨hr.has (φ := fun w => AtV w d3) xA, at0_v w⟩)) (h := ?_); rintro _ _ ⟨rfl, rfl⟩; try simp only [List.cons_append, List.nil_append]) | fail)) | (refine yE ?_; intro _) | fail)) | refine yJ ?_ | ((with_reducible apply gJ_if); (first | (refine J_if xR ?_ ?_ <;> intro _ <;> (try (exfalso; first | contradiction | omega))) | (refine J_ifb xR ?_ ?_ <;> (intro hgb; subst hgb)) | (refine J_ifb xR ?_ ?_ <;> intro _) | fail)) | refine J_draw (id := 3) [0, 1, 3, 2, 5, 4] [6, 7] mixed xC xD xD ?_ | refine J_draw (id := 7) [0, 1, 2, 3, 4, 5, 6, 7, 8, 9, 10, 11] [12] mixed xC xD xD ?_ | fail))
        all_goals (first | (exfalso; omega) | skip)
        exact J_ret1 rfl (by rfl) fun w H => ⟨_, ⟨rfl, rfl⟩, H.sel .nil⟩
      · have hacc : accM (y, false, true) = none := rfl
        simp only [hacc] at hP
        (repeat' (first | ((with_reducible apply gL); (first | refine yL0 ?_ | refine yL ?_ | ((with_reducible apply gL_go); (first | (refine JL_goq (hM) (hφ := (by (try simp only [List.cons_append, List.nil_append]); exact fun w hr => hr.has (φ := fun w => LsV w 5 a1 c1 ys) xA)) (h := ?_); rintro _ _ ⟨a2, c2, rfl, rfl⟩; try simp only [List.cons_append, List.nil_append]) | (refine JL_goq (_root_.Go.Proofs.Ytmbgbhambgoejaa.few_s d1 hd1.num) (hφ := (by (try simp only [List.cons_append, List.nil_append]); exact fun w hr => hr.has (φ := fun w => AtV w d1) xA)) (h := ?_); rintro _ _ ⟨d2, hd2, hn2, rfl, rfl⟩; try simp only [List.cons_append, List.nil_append]) | (refine JL_goq (hP a2 c2 d2 hd2 hn2) (hφ := (by (try simp only [List.cons_append, List.nil_append]); exact fun w hr => ⟨hr.has (φ := fun w => AtV w d2) xA, Src.ar xA w hr⟩)) (h := ?_); rintro _ _ ⟨d3, hd3, hn3, rfl, rfl⟩; try simp only [List.cons_append, List.nil_append]) | (refine JL_goq (hN) (hφ := (by (try simp only [List.cons_append, List.nil_append]); exact fun w hr => ⟨hr.has (φ := fun w => LsV w 5 a1 c1 ys) xA, hr.has (φ := fun w => AtV w d1) xA⟩)) (h := ?_); rintro _ _ ⟨d4, hd4, hn4, rfl, rfl⟩; try simp only [List.cons_append, List.nil_append]) | (refine JL_goq (same_t d3 at0 hd3 at0_f hn3) (hφ := (by (try simp only [List.cons_append, List.nil_append]); exact fun w hr => ⟨hr.has (φ := fun w => AtV w d3) xA, at0_v w⟩)) (h := ?_); rintro _ _ ⟨rfl, rfl⟩; try simp only [List.cons_append, List.nil_append]) | fail)) | (refine yM ?_; intro _) | ((with_reducible apply gL_gd); (first | (refine JL_guard xR xR ?_ ?_ <;> intro _ <;> (try (exfalso; first | contradiction | omega))) | (refine JL_guardb xR xR ?_ ?_ <;> (intro hgb; subst hgb)) | (refine JL_guardb xR xR ?_ ?_ <;> (intro hgb; fail_if_success (have : type_of% hgb := rfl))) | fail)) | fail)) | ((with_reducible apply gD); (first | (refine JD_nil ?_; try simp only [List.cons_append, List.nil_append]) | (refine JD_bar ?_; try simp only [List.cons_append, List.nil_append]) | refine yD ?_ | ((with_reducible apply gD_go); (first | (refine JD_goq (hM) (hφ := (by (try simp only [List.cons_append, List.nil_append]); exact fun w hr => hr.has (φ := fun w => LsV w 5 a1 c1 ys) xA)) (h := ?_); rintro _ _ ⟨a2, c2, rfl, rfl⟩; try simp only [List.cons_append, List.nil_append]) | (refine JD_goq (_root_.Go.Proofs.Ytmbgbhambgoejaa.few_s d1 hd1.num) (hφ := (by (try simp only [List.cons_append, List.nil_append]); exact fun w hr => hr.has (φ := fun w => AtV w d1) xA)) (h := ?_); rintro _ _ ⟨d2, hd2, hn2, rfl, rfl⟩; try simp only [List.cons_append, List.nil_append]) | (refine JD_goq (hP a2 c2 d2 hd2 hn2) (hφ := (by (try simp only [List.cons_append, List.nil_append]); exact fun w hr => ⟨hr.has (φ := fun w => AtV w d2) xA, Src.ar xA w hr⟩)) (h := ?_); rintro _ _ ⟨d3, hd3, hn3, rfl, rfl⟩; try simp only [List.cons_append, List.nil_append]) | (refine JD_goq (hN) (hφ := (by (try simp only [List.cons_append, List.nil_append]); exact fun w hr => ⟨hr.has (φ := fun w => LsV w 5 a1 c1 ys) xA, hr.has (φ := fun w => AtV w d1) xA⟩)) (h := ?_); rintro _ _ ⟨d4, hd4, hn4, rfl, rfl⟩; try simp only [List.cons_append, List.nil_append]) | (refine JD_goq (same_t d3 at0 hd3 at0_f hn3) (hφ := (by (try simp only [List.cons_append, List.nil_append]); exact fun w hr => ⟨hr.has (φ := fun w => AtV w d3) xA, at0_v w⟩)) (h := ?_); rintro _ _ ⟨rfl, rfl⟩; try simp only [List.cons_append, List.nil_append]) | fail)) | (refine yE ?_; intro _) | fail)) | refine yJ ?_ | ((with_reducible apply gJ_if); (first | (refine J_if xR ?_ ?_ <;> intro _ <;> (try (exfalso; first | contradiction | omega))) | (refine J_ifb xR ?_ ?_ <;> (intro hgb; subst hgb)) | (refine J_ifb xR ?_ ?_ <;> intro _) | fail)) | refine J_draw (id := 3) [0, 1, 3, 2, 5, 4] [6, 7] mixed xC xD xD ?_ | refine J_draw (id := 7) [0, 1, 2, 3, 4, 5, 6, 7, 8, 9, 10, 11] [12] mixed xC xD xD ?_ | fail))
        all_goals (first | (exfalso; omega) | skip)
        exact J_ret1 rfl (by rfl) fun w H => ⟨_, ⟨rfl, rfl⟩, H.sel .nil⟩
    · rcases b with _ | _
      · have hacc : accM (y, true, false) = none := rfl
        simp only [hacc] at hP
        (repeat' (first | ((with_reducible apply gL); (first | refine yL0 ?_ | refine yL ?_ | ((with_reducible apply gL_go); (first | (refine JL_goq (hM) (hφ := (by (try simp only [List.cons_append, List.nil_append]); exact fun w hr => hr.has (φ := fun w => LsV w 5 a1 c1 ys) xA)) (h := ?_); rintro _ _ ⟨a2, c2, rfl, rfl⟩; try simp only [List.cons_append, List.nil_append]) | (refine JL_goq (_root_.Go.Proofs.Ytmbgbhambgoejaa.few_s d1 hd1.num) (hφ := (by (try simp only [List.cons_append, List.nil_append]); exact fun w hr => hr.has (φ := fun w => AtV w d1) xA)) (h := ?_); rintro _ _ ⟨d2, hd2, hn2, rfl, rfl⟩; try simp only [List.cons_append, List.nil_append]) | (refine JL_goq (hP a2 c2 d2 hd2 hn2) (hφ := (by (try simp only [List.cons_append, List.nil_append]); exact fun w hr => ⟨hr.has (φ := fun w => AtV w d2) xA, Src.ar xA w hr⟩)) (h := ?_); rintro _ _ ⟨d3, hd3, hn3, rfl, rfl⟩; try simp only [List.cons_append, List.nil_append]) | (refine JL_goq (hN) (hφ := (by (try simp only [List.cons_append, List.nil_append]); exact fun w hr => ⟨hr.has (φ := fun w => LsV w 5 a1 c1 ys) xA, hr.has (φ := fun w => AtV w d1) xA⟩)) (h := ?_); rintro _ _ ⟨d4, hd4, hn4, rfl, rfl⟩; try simp only [List.cons_append, List.nil_append]) | (refine JL_goq (same_t d3 at0 hd3 at0_f hn3) (hφ := (by (try simp only [List.cons_append, List.nil_append]); exact fun w hr => ⟨hr.has (φ := fun w => AtV w d3) xA, at0_v w⟩)) (h := ?_); rintro _ _ ⟨rfl, rfl⟩; try simp only [List.cons_append, List.nil_append]) | fail)) | (refine yM ?_; intro _) | ((with_reducible apply gL_gd); (first | (refine JL_guard xR xR ?_ ?_ <;> intro _ <;> (try (exfalso; first | contradiction | omega))) | (refine JL_guardb xR xR ?_ ?_ <;> (intro hgb; subst hgb)) | (refine JL_guardb xR xR ?_ ?_ <;> (intro hgb; fail_if_success (have : type_of% hgb := rfl))) | fail)) | fail)) | ((with_reducible apply gD); (first | (refine JD_nil ?_; try simp only [List.cons_append, List.nil_append]) | (refine JD_bar ?_; try simp only [List.cons_append, List.nil_append]) | refine yD ?_ | ((with_reducible apply gD_go); (first | (refine JD_goq (hM) (hφ := (by (try simp only [List.cons_append, List.nil_append]); exact fun w hr => hr.has (φ := fun w => LsV w 5 a1 c1 ys) xA)) (h := ?_); rintro _ _ ⟨a2, c2, rfl, rfl⟩; try simp only [List.cons_append, List.nil_append]) | (refine JD_goq (_root_.Go.Proofs.Ytmbgbhambgoejaa.few_s d1 hd1.num) (hφ := (by (try simp only [List.cons_append, List.nil_append]); exact fun w hr => hr.has (φ := fun w => AtV w d1) xA)) (h := ?_); rintro _ _ ⟨d2, hd2, hn2, rfl, rfl⟩; try simp only [List.cons_append, List.nil_append]) | (refine JD_goq (hP a2 c2 d2 hd2 hn2) (hφ := (by (try simp only [List.cons_append, List.nil_append]); exact fun w hr => ⟨hr.has (φ := fun w => AtV w d2) xA, Src.ar xA w hr⟩)) (h := ?_); rintro _ _ ⟨d3, hd3, hn3, rfl, rfl⟩; try simp only [List.cons_append, List.nil_append]) | (refine JD_goq (hN) (hφ := (by (try simp only [List.cons_append, List.nil_append]); exact fun w hr => ⟨hr.has (φ := fun w => LsV w 5 a1 c1 ys) xA, hr.has (φ := fun w => AtV w d1) xA⟩)) (h := ?_); rintro _ _ ⟨d4, hd4, hn4, rfl, rfl⟩; try simp only [List.cons_append, List.nil_append]) | (refine JD_goq (same_t d3 at0 hd3 at0_f hn3) (hφ := (by (try simp only [List.cons_append, List.nil_append]); exact fun w hr => ⟨hr.has (φ := fun w => AtV w d3) xA, at0_v w⟩)) (h := ?_); rintro _ _ ⟨rfl, rfl⟩; try simp only [List.cons_append, List.nil_append]) | fail)) | (refine yE ?_; intro _) | fail)) | refine yJ ?_ | ((with_reducible apply gJ_if); (first | (refine J_if xR ?_ ?_ <;> intro _ <;> (try (exfalso; first | contradiction | omega))) | (refine J_ifb xR ?_ ?_ <;> (intro hgb; subst hgb)) | (refine J_ifb xR ?_ ?_ <;> intro _) | fail)) | refine J_draw (id := 3) [0, 1, 3, 2, 5, 4] [6, 7] mixed xC xD xD ?_ | refine J_draw (id := 7) [0, 1, 2, 3, 4, 5, 6, 7, 8, 9, 10, 11] [12] mixed xC xD xD ?_ | fail))
        all_goals (first | (exfalso; omega) | skip)
        exact J_ret1 rfl (by rfl) fun w H => ⟨_, ⟨rfl, rfl⟩, H.sel .nil⟩
      · have hacc : accM (y, true, true) = some y := rfl
        simp only [hacc] at hP
        (repeat' (first | ((with_reducible apply gL); (first | refine yL0 ?_ | refine yL ?_ | ((with_reducible apply gL_go); (first | (refine JL_goq (hM) (hφ := (by (try simp only [List.cons_append, List.nil_append]); exact fun w hr => hr.has (φ := fun w => LsV w 5 a1 c1 ys) xA)) (h := ?_); rintro _ _ ⟨a2, c2, rfl, rfl⟩; try simp only [List.cons_append, List.nil_append]) | (refine JL_goq (_root_.Go.Proofs.Ytmbgbhambgoejaa.few_s d1 hd1.num) (hφ := (by (try simp only [List.cons_append, List.nil_append]); exact fun w hr => hr.has (φ := fun w => AtV w d1) xA)) (h := ?_); rintro _ _ ⟨d2, hd2, hn2, rfl, rfl⟩; try simp only [List.cons_append, List.nil_append]) | (refine JL_goq (hP a2 c2 d2 hd2 hn2) (hφ := (by (try simp only [List.cons_append, List.nil_append]); exact fun w hr => ⟨hr.has (φ := fun w => AtV w d2) xA, Src.ar xA w hr⟩)) (h := ?_); rintro _ _ ⟨d3, hd3, hn3, rfl, rfl⟩; try simp only [List.cons_append, List.nil_append]) | (refine JL_goq (hN) (hφ := (by (try simp only [List.cons_append, List.nil_append]); exact fun w hr => ⟨hr.has (φ := fun w => LsV w 5 a1 c1 ys) xA, hr.has (φ := fun w => AtV w d1) xA⟩)) (h := ?_); rintro _ _ ⟨d4, hd4, hn4, rfl, rfl⟩; try simp only [List.cons_append, List.nil_append]) | (refine JL_goq (same_t d3 d4 hd3 hd4 (hn3.trans hn4.symm)) (hφ := (by (try simp only [List.cons_append, List.nil_append]); exact fun w hr => ⟨hr.has (φ := fun w => AtV w d3) xA, hr.has (φ := fun w => AtV w d1 → AtV w d4) xA (hr.has (φ := fun w => AtV w d1) xA)⟩)) (h := ?_); rintro _ _ ⟨rfl, rfl⟩; try simp only [List.cons_append, List.nil_append]) | fail)) | (refine yM ?_; intro _) | ((with_reducible apply gL_gd); (first | (refine JL_guard xR xR ?_ ?_ <;> intro _ <;> (try (exfalso; first | contradiction | omega))) | (refine JL_guardb xR xR ?_ ?_ <;> (intro hgb; subst hgb)) | (refine JL_guardb xR xR ?_ ?_ <;> (intro hgb; fail_if_success (have : type_of% hgb := rfl))) | fail)) | fail)) | ((with_reducible apply gD); (first | (refine JD_nil ?_; try simp only [List.cons_append, List.nil_append]) | (refine JD_bar ?_; try simp only [List.cons_append, List.nil_append]) | refine yD ?_ | ((with_reducible apply gD_go); (first | (refine JD_goq (hM) (hφ := (by (try simp only [List.cons_append, List.nil_append]); exact fun w hr => hr.has (φ := fun w => LsV w 5 a1 c1 ys) xA)) (h := ?_); rintro _ _ ⟨a2, c2, rfl, rfl⟩; try simp only [List.cons_append, List.nil_append]) | (refine JD_goq (_root_.Go.Proofs.Ytmbgbhambgoejaa.few_s d1 hd1.num) (hφ := (by (try simp only [List.cons_append, List.nil_append]); exact fun w hr => hr.has (φ := fun w => AtV w d1) xA)) (h := ?_); rintro _ _ ⟨d2, hd2, hn2, rfl, rfl⟩; try simp only [List.cons_append, List.nil_append]) | (refine JD_goq (hP a2 c2 d2 hd2 hn2) (hφ := (by (try simp only [List.cons_append, List.nil_append]); exact fun w hr => ⟨hr.has (φ := fun w => AtV w d2) xA, Src.ar xA w hr⟩)) (h := ?_); rintro _ _ ⟨d3, hd3, hn3, rfl, rfl⟩; try simp only [List.cons_append, List.nil_append]) | (refine JD_goq (hN) (hφ := (by (try simp only [List.cons_append, List.nil_append]); exact fun w hr => ⟨hr.has (φ := fun w => LsV w 5 a1 c1 ys) xA, hr.has (φ := fun w => AtV w d1) xA⟩)) (h := ?_); rintro _ _ ⟨d4, hd4, hn4, rfl, rfl⟩; try simp only [List.cons_append, List.nil_append]) | (refine JD_goq (same_t d3 d4 hd3 hd4 (hn3.trans hn4.symm)) (hφ := (by (try simp only [List.cons_append, List.nil_append]); exact fun w hr => ⟨hr.has (φ := fun w => AtV w d3) xA, hr.has (φ := fun w => AtV w d1 → AtV w d4) xA (hr.has (φ := fun w => AtV w d1) xA)⟩)) (h := ?_); rintro _ _ ⟨rfl, rfl⟩; try simp only [List.cons_append, List.nil_append]) | fail)) | (refine yE ?_; intro _) | fail)) | refine yJ ?_ | ((with_reducible apply gJ_if); (first | (refine J_if xR ?_ ?_ <;> intro _ <;> (try (exfalso; first | contradiction | omega))) | (refine J_ifb xR ?_ ?_ <;> (intro hgb; subst hgb)) | (refine J_ifb xR ?_ ?_ <;> intro _) | fail)) | refine J_draw (id := 3) [0, 1, 3, 2, 5, 4] [6, 7] mixed xC xD xD ?_ | refine J_draw (id := 7) [0, 1, 2, 3, 4, 5, 6, 7, 8, 9, 10, 11] [12] mixed xC xD xD ?_ | fail))
        all_goals (first | (exfalso; omega) | skip)
        exact J_ret1 rfl (by rfl) fun w H => ⟨_, ⟨rfl, rfl⟩, H.sel .nil⟩
  · have e2 : makeE ys = 3 := by unfold makeE; rw [if_pos hr, if_neg hs]
    rw [e2] at hM
    (repeat' (first | ((with_reducible apply gL); (first | refine yL0 ?_ | refine yL ?_ | ((with_reducible apply gL_go); (first | (refine JL_goq (hM) (hφ := (by (try simp only [List.cons_append, List.nil_append]); exact fun w hr => hr.has (φ := fun w => LsV w 5 a1 c1 ys) xA)) (h := ?_); rintro _ _ ⟨a2, c2, rfl, rfl⟩; try simp only [List.cons_append, List.nil_append]) | (refine JL_goq (hR) (hφ := (by (try simp only [List.cons_append, List.nil_append]); exact fun w hr => hr.has (φ := fun w => LsV w 5 a1 c1 ys) xA)) (h := ?_); rintro _ _ ⟨rfl, rfl⟩; try simp only [List.cons_append, List.nil_append]) | fail)) | (refine yM ?_; intro _) | ((with_reducible apply gL_gd); (first | (refine JL_guard xR xR ?_ ?_ <;> intro _ <;> (try (exfalso; first | contradiction | omega))) | (refine JL_guardb xR xR ?_ ?_ <;> (intro hgb; subst hgb)) | (refine JL_guardb xR xR ?_ ?_ <;> (intro hgb; fail_if_success (have : type_of% hgb := rfl))) | fail)) | fail)) | ((with_reducible apply gD); (first | (refine JD_nil ?_; try simp only [List.cons_append, List.nil_append]) | (refine JD_bar ?_; try simp only [List.cons_append, List.nil_append]) | refine yD ?_ | ((with_reducible apply gD_go); (first | (refine JD_goq (hM) (hφ := (by (try simp only [List.cons_append, List.nil_append]); exact fun w hr => hr.has (φ := fun w => LsV w 5 a1 c1 ys) xA)) (h := ?_); rintro _ _ ⟨a2, c2, rfl, rfl⟩; try simp only [List.cons_append, List.nil_append]) | (refine JD_goq (hR) (hφ := (by (try simp only [List.cons_append, List.nil_append]); exact fun w hr => hr.has (φ := fun w => LsV w 5 a1 c1 ys) xA)) (h := ?_); rintro _ _ ⟨rfl, rfl⟩; try simp only [List.cons_append, List.nil_append]) | fail)) | (refine yE ?_; intro _) | fail)) | refine yJ ?_ | ((with_reducible apply gJ_if); (first | (refine J_if xR ?_ ?_ <;> intro _ <;> (try (exfalso; first | contradiction | omega))) | (refine J_ifb xR ?_ ?_ <;> (intro hgb; subst hgb)) | (refine J_ifb xR ?_ ?_ <;> intro _) | fail)) | refine J_draw (id := 3) [0, 1, 3, 2, 5, 4] [6, 7] mixed xC xD xD ?_ | refine J_draw (id := 7) [0, 1, 2, 3, 4, 5, 6, 7, 8, 9, 10, 11] [12] mixed xC xD xD ?_ | fail))
    all_goals (first | (exfalso; omega) | skip)
    exact J_ret1 rfl (by rfl) fun w H => ⟨_, ⟨rfl, rfl⟩, H.sel .nil⟩
end Go.Proofs.Ytmbgbhambgoejaa.C
namespace Go.Proofs.Ytmbgbhambgoejaa.C
set_option linter.unusedSimpArgs false
set_option linter.unusedVariables false
open Go.RowKit Go.Pm

theorem u32_el {w : World} (m : Nat) (d : List Value) (_ : d.length = 1) (h : Rs Try.prog w m 25 d) : ∃ z : Int, d = u32C z ∧ U32 z := by
  obtain ⟨z, e, h1, h2⟩ := (Rs.rd _ _ _ h).u32 Try.underlying25
  exact ⟨z, e, h1, h2⟩
theorem u8_el {w : World} (m : Nat) (d : List Value) (_ : d.length = 1) (h : Rs Try.prog w m 5 d) : ∃ z : Int, d = byC z ∧ U8 z := by
  have h0 := leaf_of 5 5 [5] m d (by kernel_rfl) h
  obtain ⟨z, r, e, b, h1⟩ := h0.u8 Try.underlying5
  subst e
  obtain rfl := h1.nil'
  exact ⟨z, rfl, b⟩
theorem seg_el {w : World} (m : Nat) (d : List Value) (_ : d.length = 2) (h : Rs Try.prog w m 56 d) : ∃ s : Sg, d = sgC s ∧ segV w s ∧ SgN s := by
  have h0 := leaf_of 5 56 [4, 30] m d (by kernel_rfl) h
  obtain ⟨b, r, e, h1⟩ := h0.bool Try.underlying4
  subst e
  obtain ⟨a, l, c, r, e, ⟨m', hs⟩, h2⟩ := h1.sl Try.underlying30
  subst e
  obtain rfl := h2.nil'
  obtain ⟨es, e, g1, g2, g3, g4, g5⟩ := hs.list (sz := 1) (b := 4) (enc := u32C) (ok := U32) Try.underlying30 (by kernel_rfl) (by kernel_rfl) u32_el
  subst e
  exact ⟨⟨b, a, c, es⟩, rfl, g4, by show es.length ≤ 35184372088832; simp only [reachBytes] at g3; omega, g5⟩
theorem raw_el {w : World} (m : Nat) (d : List Value) (_ : d.length = 2) (h : Rs Try.prog w m 79 d) : ∃ s : Rw, d = rwC s ∧ rawV w s ∧ RwN s := by
  have h0 := leaf_of 5 79 [3, 77] m d (by kernel_rfl) h
  obtain ⟨b, r, e, hb, h1⟩ := h0.i64 Try.underlying3
  subst e
  obtain ⟨a, l, c, r, e, ⟨m', hs⟩, h2⟩ := h1.sl Try.underlying77
  subst e
  obtain rfl := h2.nil'
  obtain ⟨es, e, g1, g2, g3, g4, g5⟩ := hs.list (sz := 1) (b := 1) (enc := byC) (ok := U8) Try.underlying77 (by kernel_rfl) (by kernel_rfl) u8_el
  subst e
  exact ⟨⟨b, a, c, es⟩, rfl, g4, hb, by show es.length ≤ 140737488355328; simp only [reachBytes] at g3; omega, g5⟩
theorem attrs_leaf {w : World} {cs : List Value} (h0 : Leaf Try.prog w [3, 29, 26, 4, 25, 4, 25, 4, 4, 25, 26, 30, 31] cs) : ∃ d : At, cs = atC d ∧ AtN d ∧ AtV w d := by
  obtain ⟨origin, r, e, b4, h5⟩ := h0.i64 Try.underlying3
  subst e
  obtain ⟨pa, pl, pc, r, e, ⟨m', hs⟩, h6⟩ := h5.sl Try.underlying29
  subst e
  obtain ⟨path, e, g1, g2, g3, g4, g5⟩ := hs.list (sz := 2) (b := 32) (enc := sgC) (ok := fun s => segV w s ∧ SgN s) Try.underlying29 (by kernel_rfl) (by kernel_rfl) seg_el
  subst e
  obtain ⟨next, r, e, b5, h7⟩ := h6.u32 Try.underlying26
  subst e
  obtain ⟨hasMed, r, e, h8⟩ := h7.bool Try.underlying4
  subst e
  obtain ⟨med, r, e, b6, h9⟩ := h8.u32 Try.underlying25
  subst e
  obtain ⟨hasLocal, r, e, h10⟩ := h9.bool Try.underlying4
  subst e
  obtain ⟨loc, r, e, b7, h11⟩ := h10.u32 Try.underlying25
  subst e
  obtain ⟨atomic, r, e, h12⟩ := h11.bool Try.underlying4
  subst e
  obtain ⟨hasMaker, r, e, h13⟩ := h12.bool Try.underlying4
  subst e
  obtain ⟨makerAS, r, e, b8, h14⟩ := h13.u32 Try.underlying25
  subst e
  obtain ⟨maker, r, e, b9, h15⟩ := h14.u32 Try.underlying26
  subst e
  obtain ⟨ca, cn, cc, r, e, ⟨m2, hc⟩, h16⟩ := h15.sl Try.underlying30
  subst e
  obtain ⟨comms, e, i1, i2, i3, i4, i5⟩ := hc.list (sz := 1) (b := 4) (enc := u32C) (ok := U32) Try.underlying30 (by kernel_rfl) (by kernel_rfl) u32_el
  subst e
  obtain ⟨oa, on, oc, r, e, ⟨m3, ho⟩, h17⟩ := h16.sl Try.underlying31
  subst e
  obtain ⟨others, e, j1, j2, j3, j4, j5⟩ := ho.list (sz := 2) (b := 32) (enc := rwC) (ok := fun s => rawV w s ∧ RwN s) Try.underlying31 (by kernel_rfl) (by kernel_rfl) raw_el
  subst e
  obtain rfl := h17.nil'
  exact ⟨⟨origin, pa, pc, path, next, hasMed, med, hasLocal, loc, atomic, hasMaker, makerAS, maker, ca, cc, comms, oa, oc, others⟩, rfl, ⟨b4, b5, b6, b7, b8, b9, fun s hs => (g5 s hs).2, i5, fun s hs => (j5 s hs).2⟩, ⟨g4, fun s hs => (g5 s hs).1⟩, i4, ⟨j4, fun s hs => (j5 s hs).1⟩⟩
theorem attrs_el {w : World} (m : Nat) (d : List Value) (h : Rs Try.prog w m 33 d) : ∃ x : At, d = atC x ∧ AtN x ∧ AtV w x :=
  attrs_leaf (leaf_of 5 33 _ m d (by kernel_rfl) h)
theorem AtV.keep {w w' : World} (hc : ∀ b o u, w.cell? ⟨b, o, none⟩ = some u → w'.cell? ⟨b, o, none⟩ = some u) {d : At} (h : AtV w d) : AtV w' d :=
  ⟨⟨vwKeep hc h.path.vw, fun s hs => vwKeep hc (h.path.segs s hs)⟩, vwKeep hc h.comms, ⟨vwKeep hc h.others.vw, fun s hs => vwKeep hc (h.others.raws s hs)⟩⟩
theorem kn_keep {W : World} {φ : World → Prop} (hk : ∀ {w w' : World}, (∀ b o u, w.cell? ⟨b, o, none⟩ = some u → w'.cell? ⟨b, o, none⟩ = some u) → φ w → φ w') (h : φ W) : Kn (World.all W) φ :=
  Kn.all (fun w ho => hk (fun b o u hu => by
    rw [World.cell?_of_block (w := W) (ho.block b (World.block_lt_of_cell? _ _ hu) (by simp))]
    exact hu) h) fun w w' hh hr => hk (fun b o u hu => by rw [cell?_heap hh]; exact hu) hr
theorem attrs_arg {W : World} {n : Nat} {cs : Array Value} (h : Rs Try.prog W n 33 (Value.agg cs).cells.toList) : ∃ d : At, cs = (atC d).toArray ∧ AtN d ∧ Kn (World.all W) (fun w => AtV w d) := by
  obtain ⟨d, e, h1, h2⟩ := attrs_el n cs.toList h
  exact ⟨d, by rw [← e], h1, kn_keep (fun hc h => AtV.keep hc h) h2⟩
theorem pf_arg {W : World} {n : Nat} {cs : Array Value} (h : Rs Try.prog W n 28 (Value.agg cs).cells.toList) : ∃ p : Pf, cs = (pfC p).toArray ∧ PfN p := by
  have h0 := leaf_of 5 28 [26, 3] n _ (by kernel_rfl) h
  obtain ⟨a, r, e, b1, h1⟩ := h0.u32 Try.underlying26
  obtain ⟨l, r2, e2, b2, h2⟩ := h1.i64 Try.underlying3
  obtain rfl := h2.nil'
  subst e2
  have e3 : cs.toList = [.int .u32 a, .int .i64 l] := e
  exact ⟨(a, l), by rw [← Array.toArray_toList (xs := cs), e3], b1, b2⟩
end Go.Proofs.Ytmbgbhambgoejaa.C
namespace Go.Proofs.Ytmbgbhambgoejaa
set_option linter.unusedSimpArgs false
set_option linter.unusedVariables false
open Go.RowKit Go.Pm

namespace runMeans
theorem walk {W : World} (n0 : Nat) {cs0 : Array Value} (g0 : Rs Try.prog W n0 24 (Value.agg cs0).cells.toList) (n1 : Nat) {cs1 : Array Value} (g1 : Rs Try.prog W n1 28 (Value.agg cs1).cells.toList) (n2 : Nat) {cs2 : Array Value} (g2 : Rs Try.prog W n2 33 (Value.agg cs2).cells.toList) :
    Calls Try.prog 3 #[.agg cs0, .agg cs1, .agg cs2] W fun e w' => e = .returned (.bool true) ∧ Only [] W w' := by
  obtain ⟨nm, a, c, l, rfl, h1, h2⟩ := C.policy_arg g0
  obtain ⟨p, rfl, h3⟩ := C.pf_arg g1
  obtain ⟨d, rfl, h4, h5⟩ := C.attrs_arg g2
  exact (C.means_s nm a c l h1 p h3 d h4).law (h2.and h5)
end runMeans
namespace runMeans
open Go.ChangeShapes Go.WideShapes Go.ChangeAt
set_option linter.unusedVariables false

theorem own : ownKnob Try.prog.godebug = none := by kernel_rfl
theorem laidOut : laidOutB Try.prog = true := by kernel_rfl

set_option maxRecDepth 100000 in
theorem lifted (os : Os) (started : os.Started) (H : Type) (enc : TypeId × Value → H) :
    ReturnsInHanded {} Try.checked os 3 .any (Rows.runMeansSpec.pre6 enc Try.prog Try.f3 Rows.runMeansRow.domain false) (Rows.runMeansSpec.post enc Try.prog Try.f3 false true false false) := by
  refine returnsInHanded_of_change_sized (C := Try.checked) own started (by kernel_rfl) Try.func3
    (ChangeSpec.witness6 (enc := enc) (C := Try.checked) false ⟨#[], #[.agg #[.string "".toUTF8, .slice none 0 0], .agg #[.int .u32 0, .int .i64 0], .agg #[.int .i64 0, .slice none 0 0, .int .u32 0, .bool false, .int .u32 0, .bool false, .int .u32 0, .bool false, .bool false, .int .u32 0, .int .u32 0, .slice none 0 0, .slice none 0 0]], []⟩ 8 (by kernel_rfl) (by kernel_rfl) (by kernel_rfl) (by kernel_rfl)) ?_
  intro W base args ds gs before hval0 hW hcnd hsz hreach
  have hval : ∀ (j : Nat) t v, Try.f3.params[j]? = some t → args[j]? = some v → Value.okWide Try.prog W .any base t v := hval0
  have hW' := hW
  obtain ⟨p, q, hA0, hV, rfl, hfz, hnd⟩ := hW
  have hA : DataW.TrodAll enc Try.prog W 0 (fun _ => true) true Try.f3.params.toList args.toList ds p := hA0
  rw [Try.params3] at hA hval
  obtain ⟨v0, vs0, d0, ds0, p0, q0, hargs, rfl, rfl, h0, r0⟩ := trodAll_cons hA
  obtain ⟨v1, vs1, d1, ds1, p1, q1, rfl, rfl, rfl, h1, r1⟩ := trodAll_cons r0
  obtain ⟨v2, vs2, d2, ds2, p2, q2, rfl, rfl, rfl, h2, r2⟩ := trodAll_cons r1
  obtain ⟨rfl, rfl, rfl⟩ := trodAll_nil r2
  obtain rfl : args = #[v0, v1, v2] := by cases args; simp_all
  obtain ⟨rfl, rfl⟩ := trodVars_none hV
  have k0 := h0
  have lt0 : ∀ x ∈ p0, x.block < W.heap.size := by obtain ⟨m, hm⟩ := k0; exact DataW.trod_lt m _ _ _ hm
  obtain ⟨n0, g0⟩ := Rs.of_weights hsz 0 (by first | rfl | (simp [Try.params3])) rfl h0
  obtain ⟨cs0, rfl, hs0⟩ := okWide_struct Try.underlying24 (hval 0 24 v0 rfl rfl)
  have k1 := h1
  have lt1 : ∀ x ∈ p1, x.block < W.heap.size := by obtain ⟨m, hm⟩ := k1; exact DataW.trod_lt m _ _ _ hm
  obtain ⟨n1, g1⟩ := Rs.of_weights hsz 1 (by first | rfl | (simp [Try.params3])) rfl h1
  obtain ⟨cs1, rfl, hs1⟩ := okWide_struct Try.underlying28 (hval 1 28 v1 rfl rfl)
  have k2 := h2
  have lt2 : ∀ x ∈ p2, x.block < W.heap.size := by obtain ⟨m, hm⟩ := k2; exact DataW.trod_lt m _ _ _ hm
  obtain ⟨n2, g2⟩ := Rs.of_weights hsz 2 (by first | rfl | (simp [Try.params3])) rfl h2
  obtain ⟨cs2, rfl, hs2⟩ := okWide_struct Try.underlying33 (hval 2 33 v2 rfl rfl)
  refine (walk n0 g0 n1 g1 n2 g2).mono fun e W' ⟨he, hg⟩ => ?_
  subst he
  have bel := hg.belowNil
  exact ⟨_, rfl, _, _, _, [], _, [], hW', trodAll_mk1 (shut_bool Try.underlying4 _), (trodAll_cons_mk (Below.trod laidOut (by kernel_rfl) (of_decide_eq_true (by kernel_rfl)) k0 bel lt0) (trodAll_cons_mk (Below.trod laidOut (by kernel_rfl) (of_decide_eq_true (by kernel_rfl)) k1 bel lt1) (trodAll_cons_mk (Below.trod laidOut (by kernel_rfl) (of_decide_eq_true (by kernel_rfl)) k2 bel lt2) trodAll_mk0))), rfl, bel.frame _, fun h => by cases h⟩

theorem over : Rows.runMeansRow.holds Try.pinned (OpenSpec.ofChange Rows.runMeansSpec) :=
  OpenClaim.holds_of_wide 3 Try.f3 rfl rfl rfl rfl rfl rfl rfl ⟨rfl, rfl, rfl, rfl, rfl⟩ rfl rfl rfl rfl rfl (by kernel_rfl) Try.func3 (by kernel_rfl)
    (of_decide_eq_true (by kernel_rfl)) (by unfold Func.isWrapper; first | (rw [if_pos (by decide +kernel)]; kernel_rfl) | (rw [if_neg (by decide +kernel)]; exact ⟨rfl, rfl⟩))
    (fun os started H enc _ => lifted os started H enc)

theorem proved : Rows.RunMeansSaid := over
#print axioms proved
end runMeans
end Go.Proofs.Ytmbgbhambgoejaa
