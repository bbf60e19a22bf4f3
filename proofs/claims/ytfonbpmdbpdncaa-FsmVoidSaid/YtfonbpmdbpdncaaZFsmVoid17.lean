/-
  Fs22, Fs23, Fs24, Fs25: merged.
-/
import Derived.Test.YtfonbpmdbpdncaaZFsmVoid16
namespace Go.Proofs.Ytfonbpmdbpdncaa
set_option linter.unusedSimpArgs false
set_option linter.unusedVariables false
set_option maxRecDepth 20000
set_option maxHeartbeats 4000000
open Go.RowKit Go.Pm

theorem TrOk.to5 {t : Qtr} (h : TrOk t) : TrOk { t with st := 5 } := ⟨by simp only; omega, h.hold, h.keep⟩
theorem TrOk.hd {t : Qtr} (h : TrOk t) (x : Int) : TrOk { t with heard := x } := ⟨h.st, h.hold, h.keep⟩
def RConf0 (s s' : Qse) (ys : List (Int × Int × Int)) : Prop := s'.on = s.on ∧ (s'.again = s.again ∨ s.t0.st = 0) ∧ s'.t1 = stopT s.t1 ∧ s'.t0.st = 5 ∧ ys = stopL s.t1.st 1 ++ [(4, 0, 0)]
set_option maxRecDepth 4000 in
theorem confirmed0_s (b : Nat) (q : Bool) (s : Qse) (hs : SeOk s) (a : Option Addr) (n c : Nat) : Pact Try.prog 61 #[.pointer (some ⟨b, 0, none⟩), .int .i64 0] (fun _ => True) [pts b (seC q s (.slice a n c)) 52, Ar 42 14 acC (.slice a n c) [], hasA []] (fun u L' => ∃ a' n' c' s' ys zs, SeOk s' ∧ RConf0 s s' ys ∧ Are zs ys ∧ u = .tuple #[] ∧ L' = [pts b (seC q s' (.slice a' n' c')) 52, Ar 42 14 acC (.slice a' n' c') zs, hasA zs]) := by
  refine pact Try.func61 rfl Try.ntmps61 rfl ?_
  intro W K _
  obtain ⟨on, nw, ag, t0, t1⟩ := s
  have h5 : ∀ ag u, TrOk u → SeOk { (⟨on, nw, ag, t0, t1⟩ : Qse) with t0 := { t0 with st := 5 }, t1 := u } := fun ag u hu => { now := hs.now, t0 := hs.t0.to5, t1 := hu }
  have kh := fun ag u hu v => hears0_s b q _ (h5 ag u hu) v
  dsimp only at kh
  have h6 : ∀ ag hd u, TrOk u → SeOk { (⟨on, nw, ag, t0, t1⟩ : Qse) with t0 := { t0 with st := 5, heard := hd }, t1 := u } := fun ag hd u hu => { now := hs.now, t0 := hs.t0.to5.hd hd, t1 := hu }
  have h53 : (4 : Int) ≠ 3 := by decide
  by_cases h3 : 3 ≤ t1.st
  · have kf := fail1_s b q ⟨on, nw, ag, t0, t1⟩ hs a n c [] (by decide) 6 7 none 0 0 [] rfl (by decide)
    (repeat' (first | ((with_reducible apply gL); (first | refine yL0 ?_ | refine yL ?_ | ((with_reducible apply gL_go); (first | (refine JL_goq (kf) (hφ := (by (try simp only [List.cons_append, List.nil_append]); exact fun w hr => Vw.nil w 1)) (h := ?_); rintro _ _ ⟨a3, n3, c3, ag3, z3, hag, h3a, rfl, rfl⟩; try simp only [List.cons_append, List.nil_append]; dsimp only [seC, List.nil_append]) | (refine JL_goq (kh ag3 tr0 tr0_ok _) (hφ := xF) (h := ?_); rintro _ _ ⟨hd, rfl, rfl⟩; try simp only [List.cons_append, List.nil_append]; dsimp only [seC]) | fail)) | fail)) | ((with_reducible apply gD); (first | (refine JD_nil ?_; try simp only [List.cons_append, List.nil_append]) | (refine JD_bar ?_; try simp only [List.cons_append, List.nil_append]) | ((with_reducible apply gD_c_append); (first | (refine JD_ap1 (z := (⟨4, 0, none, 0, [], t0.p, false⟩ : Ac)) (tabE etab_ok xR) xR xR xA xA xC xR xL xR (by have h8 : z3.length ≤ 3 := (by rw [h3a.len]; exact failL_len _ _); omega) xR ?_; intro ad c6 _ _) | fail)) | refine yD ?_ | (refine yE ?_; intro _) | (refine yB ?_; intro _ _ _ _) | fail)) | refine yJ ?_ | ((with_reducible apply gJ_if); (first | (refine J_if xR ?_ ?_ <;> intro _ <;> (try (exfalso; first | contradiction | omega))) | (refine J_ifb xR ?_ ?_ <;> (intro hgb; subst hgb)) | (refine J_ifb xR ?_ ?_ <;> intro _) | fail)) | refine J_draw (id := 8) [0, 1, 2, 3, 4, 5, 6, 7, 8, 9, 10, 11, 12] [13, 14, 15] mixed xC xD xD ?_ | fail))
    all_goals (first | (exfalso; omega) | skip)
    exact J_end0 rfl fun w H => ⟨[pts b (seC q { (⟨on, nw, ag3, t0, t1⟩ : Qse) with t0 := { t0 with st := 5, heard := hd }, t1 := tr0 } (.slice ad _ c6)) 52, Ar 42 14 acC (.slice ad _ c6) (z3 ++ [⟨4, 0, none, 0, [], t0.p, false⟩]), hasA (z3 ++ [⟨4, 0, none, 0, [], t0.p, false⟩])], ⟨ad, _, c6, { (⟨on, nw, ag3, t0, t1⟩ : Qse) with t0 := { t0 with st := 5, heard := hd }, t1 := tr0 }, stopL t1.st 1 ++ [(4, 0, 0)], z3 ++ [⟨4, 0, none, 0, [], t0.p, false⟩], h6 ag3 hd tr0 tr0_ok, ⟨rfl, hag, stopT_p (.inl h3), rfl, rfl⟩, (show Are z3 (stopL t1.st 1) from by rw [stopL_f h3]; exact h3a).app (Are.one rfl rfl h53), rfl, rfl⟩, (freeA (x := ⟨4, 0, none, 0, [], t0.p, false⟩) H xA h53).sel xZ⟩
  · by_cases h1 : t1.st = 1
    · have kg := forget1_s b q ⟨on, nw, ag, t0, t1⟩ a n c [] (by decide)
      (repeat' (first | ((with_reducible apply gL); (first | refine yL0 ?_ | refine yL ?_ | ((with_reducible apply gL_go); (first | (refine JL_goq (kg) (hφ := xF) (h := ?_); rintro _ _ ⟨a3, n3, c3, z3, h3a, rfl, rfl⟩; try simp only [List.cons_append, List.nil_append]; dsimp only [seC, List.nil_append]) | (refine JL_goq (kh ag tr0 tr0_ok _) (hφ := xF) (h := ?_); rintro _ _ ⟨hd, rfl, rfl⟩; try simp only [List.cons_append, List.nil_append]; dsimp only [seC]) | fail)) | fail)) | ((with_reducible apply gD); (first | (refine JD_nil ?_; try simp only [List.cons_append, List.nil_append]) | (refine JD_bar ?_; try simp only [List.cons_append, List.nil_append]) | ((with_reducible apply gD_c_append); (first | (refine JD_ap1 (z := (⟨4, 0, none, 0, [], t0.p, false⟩ : Ac)) (tabE etab_ok xR) xR xR xA xA xC xR xL xR (by simp only [List.length_singleton]; omega) xR ?_; intro ad c6 _ _) | fail)) | refine yD ?_ | (refine yE ?_; intro _) | (refine yB ?_; intro _ _ _ _) | fail)) | refine yJ ?_ | ((with_reducible apply gJ_if); (first | (refine J_if xR ?_ ?_ <;> intro _ <;> (try (exfalso; first | contradiction | omega))) | (refine J_ifb xR ?_ ?_ <;> (intro hgb; subst hgb)) | (refine J_ifb xR ?_ ?_ <;> intro _) | fail)) | refine J_draw (id := 8) [0, 1, 2, 3, 4, 5, 6, 7, 8, 9, 10, 11, 12] [13, 14, 15] mixed xC xD xD ?_ | fail))
      all_goals (first | (exfalso; omega) | skip)
      exact J_end0 rfl fun w H => ⟨[pts b (seC q { (⟨on, nw, ag, t0, t1⟩ : Qse) with t0 := { t0 with st := 5, heard := hd }, t1 := tr0 } (.slice ad _ c6)) 52, Ar 42 14 acC (.slice ad _ c6) ([z3] ++ [⟨4, 0, none, 0, [], t0.p, false⟩]), hasA ([z3] ++ [⟨4, 0, none, 0, [], t0.p, false⟩])], ⟨ad, _, c6, { (⟨on, nw, ag, t0, t1⟩ : Qse) with t0 := { t0 with st := 5, heard := hd }, t1 := tr0 }, stopL t1.st 1 ++ [(4, 0, 0)], [z3] ++ [⟨4, 0, none, 0, [], t0.p, false⟩], h6 ag hd tr0 tr0_ok, ⟨rfl, .inl rfl, stopT_p (.inr h1), rfl, rfl⟩, (show Are [z3] (stopL t1.st 1) from by rw [stopL_g h1]; exact h3a).app (Are.one rfl rfl h53), rfl, rfl⟩, (freeA (x := ⟨4, 0, none, 0, [], t0.p, false⟩) H xA h53).sel xZ⟩
    · (repeat' (first | ((with_reducible apply gL); (first | refine yL0 ?_ | refine yL ?_ | ((with_reducible apply gL_go); (first | (refine JL_goq (kh ag t1 hs.t1 _) (hφ := xF) (h := ?_); rintro _ _ ⟨hd, rfl, rfl⟩; try simp only [List.cons_append, List.nil_append]; dsimp only [seC]) | fail)) | fail)) | ((with_reducible apply gD); (first | (refine JD_nil ?_; try simp only [List.cons_append, List.nil_append]) | (refine JD_bar ?_; try simp only [List.cons_append, List.nil_append]) | ((with_reducible apply gD_c_append); (first | (refine JD_ap1 (z := (⟨4, 0, none, 0, [], t0.p, false⟩ : Ac)) (tabE etab_ok xR) xR xR xA xA xC xR xL xR (by simp only [List.length_nil]; omega) xR ?_; intro ad c6 _ _) | fail)) | refine yD ?_ | (refine yE ?_; intro _) | (refine yB ?_; intro _ _ _ _) | fail)) | refine yJ ?_ | ((with_reducible apply gJ_if); (first | (refine J_if xR ?_ ?_ <;> intro _ <;> (try (exfalso; first | contradiction | omega))) | (refine J_ifb xR ?_ ?_ <;> (intro hgb; subst hgb)) | (refine J_ifb xR ?_ ?_ <;> intro _) | fail)) | refine J_draw (id := 8) [0, 1, 2, 3, 4, 5, 6, 7, 8, 9, 10, 11, 12] [13, 14, 15] mixed xC xD xD ?_ | fail))
      all_goals (first | (exfalso; omega) | skip)
      exact J_end0 rfl fun w H => ⟨[pts b (seC q { (⟨on, nw, ag, t0, t1⟩ : Qse) with t0 := { t0 with st := 5, heard := hd }, t1 := t1 } (.slice ad _ c6)) 52, Ar 42 14 acC (.slice ad _ c6) (([] : List Ac) ++ [⟨4, 0, none, 0, [], t0.p, false⟩]), hasA (([] : List Ac) ++ [⟨4, 0, none, 0, [], t0.p, false⟩])], ⟨ad, _, c6, { (⟨on, nw, ag, t0, t1⟩ : Qse) with t0 := { t0 with st := 5, heard := hd }, t1 := t1 }, stopL t1.st 1 ++ [(4, 0, 0)], ([] : List Ac) ++ [⟨4, 0, none, 0, [], t0.p, false⟩], h6 ag hd t1 hs.t1, ⟨rfl, .inl rfl, stopT_n (t := t1) (by omega), rfl, rfl⟩, (show Are [] (stopL t1.st 1) from by rw [stopL_n (by omega)]; trivial).app (Are.one rfl rfl h53), rfl, rfl⟩, (freeA (x := ⟨4, 0, none, 0, [], t0.p, false⟩) H xA h53).sel xZ⟩
def RConf1 (s s' : Qse) (ys : List (Int × Int × Int)) : Prop := s'.on = s.on ∧ (s'.again = s.again ∨ s.t1.st = 0) ∧ s'.t0 = stopT s.t0 ∧ s'.t1.st = 5 ∧ ys = stopL s.t0.st 0 ++ [(4, 1, 0)]
def RLate0 (s s' : Qse) (r : Bool) (ys : List (Int × Int × Int)) : Prop := r = true ∧ s'.on = s.on ∧ s'.again = s.again ∧ s'.t1 = s.t1 ∧ s'.t0.st = s.t0.st ∧ (ys = [(6, 0, 0)] ∨ ys = [] ∨ ys = [(7, 0, 0)]) ∨ r = false ∧ s' = s ∧ ys = []
set_option maxRecDepth 4000 in
theorem late0_s (b : Nat) (q : Bool) (s : Qse) (hs : SeOk s) (a : Option Addr) (n c : Nat) (kd : Int) (ma : Option Addr) (mc : Nat) (ml : List Int) (hl : ml.length ≤ 1000) : Pact Try.prog 45 #[.pointer (some ⟨b, 0, none⟩), .int .i64 0, .agg #[.int .i64 kd, .slice ma ml.length mc]] (fun w => Vw w (.slice ma ml.length mc) 1 ml.length (flat byC ml)) [pts b (seC q s (.slice a n c)) 52, Ar 42 14 acC (.slice a n c) [], hasA []] (fun u L' => ∃ a' n' c' s' r ys zs, SeOk s' ∧ RLate0 s s' r ys ∧ Are zs ys ∧ u = .bool r ∧ L' = [pts b (seC q s' (.slice a' n' c')) 52, Ar 42 14 acC (.slice a' n' c') zs, hasA zs]) := by
  refine pact Try.func45 rfl Try.ntmps45 rfl ?_
  intro W K hK
  have kh := fun v => hears0_s b q s hs v
  have h63 : (6 : Int) ≠ 3 := by decide
  have hsk : ∀ hd, SeOk { s with t0 := { s.t0 with heard := hd } } := fun hd => { now := hs.now, t0 := hs.t0.hd hd, t1 := hs.t1 }
  have kd7 := fun hd a n c => do_s b q { s with t0 := { s.t0 with heard := hd } } a n c [] (by decide) 7 0 (by decide)
  obtain ⟨on, nw, ag, t0, t1⟩ := s
  dsimp only at kh hsk kd7
  by_cases h2 : kd = 2
  · subst h2
    (repeat' (first | ((with_reducible apply gL); (first | refine yL0 ?_ | refine yL ?_ | ((with_reducible apply gL_go); (first | (refine JL_goq (kh _) (hφ := xF) (h := ?_); rintro _ _ ⟨hd, rfl, rfl⟩; try simp only [List.cons_append, List.nil_append]; dsimp only [seC]) | fail)) | (refine yM ?_; intro _) | fail)) | ((with_reducible apply gD); (first | (refine JD_nil ?_; try simp only [List.cons_append, List.nil_append]) | (refine JD_bar ?_; try simp only [List.cons_append, List.nil_append]) | ((with_reducible apply gD_c_append); (first | (first | (refine JD_appL byC (fs := ml) (m := ml.length) (tabE etab_ok xR) xR xR xA (Src.kn (K := _) hK) xC xL xU (by omega) xR ?_; intro ad1 c1 _ _) | (refine JD_ap1 (z := (⟨6, 0, ad1, c1, ml, op0, false⟩ : Ac)) (tabE etab_ok xR) xR xR xA xA xC xR xL xR (by simp only [List.length_nil]; omega) xR ?_; intro ad2 c2 _ _)) | fail)) | refine yD ?_ | ((with_reducible apply gD_go); (first | (refine JD_goq (kh _) (hφ := xF) (h := ?_); rintro _ _ ⟨hd, rfl, rfl⟩; try simp only [List.cons_append, List.nil_append]; dsimp only [seC]) | fail)) | (refine yE ?_; intro _) | (refine yB ?_; intro _ _ _ _) | fail)) | refine yJ ?_ | ((with_reducible apply gJ_if); (first | (refine J_if xR ?_ ?_ <;> intro _ <;> (try (exfalso; first | contradiction | omega))) | (refine J_ifb xR ?_ ?_ <;> (intro hgb; subst hgb)) | (refine J_ifb xR ?_ ?_ <;> intro _) | fail)) | refine J_draw (id := 5) [0, 1, 2, 3, 4, 5, 7, 8, 6, 9, 10, 11, 12] [13, 14, 15] mixed xC xD xD ?_ | refine J_draw (id := 6) [0, 1, 2, 3, 4, 5, 6, 7, 8] [9] mixed xC xD xD ?_ | refine J_draw (id := 7) [0, 1, 2, 3, 4, 5, 6, 7, 8] [9] mixed xC xD xD ?_ | fail))
    exact J_ret1 rfl (by rfl) fun w H => ⟨_, ⟨ad2, _, c2, { (⟨on, nw, ag, t0, t1⟩ : Qse) with t0 := { t0 with heard := hd } }, true, [(6, 0, 0)], [⟨6, 0, ad1, c1, ml, op0, false⟩], hsk hd, .inl ⟨rfl, rfl, rfl, rfl, rfl, .inl rfl⟩, Are.one rfl rfl h63, rfl, rfl⟩, (freeA (x := ⟨6, 0, ad1, c1, ml, op0, false⟩) H xA h63).sel xZ⟩
  · (repeat' (first | ((with_reducible apply gL); (first | refine yL0 ?_ | refine yL ?_ | ((with_reducible apply gL_go); (first | (refine JL_goq (kh _) (hφ := xF) (h := ?_); rintro _ _ ⟨hd, rfl, rfl⟩; try simp only [List.cons_append, List.nil_append]; dsimp only [seC]) | (refine JL_goq (refreshes_s ma mc ml) (hφ := (by (try simp only [List.cons_append, List.nil_append]); exact fun w hr => hK w hr.1)) (h := ?_); rintro _ _ ⟨rfl, rfl⟩; try simp only [List.cons_append, List.nil_append]) | (refine JL_goq (kd7 hd _ _ _) (hφ := xF) (h := ?_); rintro _ _ ⟨a3, n3, c3, z3, h3, rfl, rfl⟩; try simp only [List.cons_append, List.nil_append]; dsimp only [seC, List.nil_append]) | fail)) | (refine yM ?_; intro _) | fail)) | ((with_reducible apply gD); (first | (refine JD_nil ?_; try simp only [List.cons_append, List.nil_append]) | (refine JD_bar ?_; try simp only [List.cons_append, List.nil_append]) | refine yD ?_ | ((with_reducible apply gD_go); (first | (refine JD_goq (kh _) (hφ := xF) (h := ?_); rintro _ _ ⟨hd, rfl, rfl⟩; try simp only [List.cons_append, List.nil_append]; dsimp only [seC]) | (refine JD_goq (refreshes_s ma mc ml) (hφ := (by (try simp only [List.cons_append, List.nil_append]); exact fun w hr => hK w hr.1)) (h := ?_); rintro _ _ ⟨rfl, rfl⟩; try simp only [List.cons_append, List.nil_append]) | (refine JD_goq (kd7 hd _ _ _) (hφ := xF) (h := ?_); rintro _ _ ⟨a3, n3, c3, z3, h3, rfl, rfl⟩; try simp only [List.cons_append, List.nil_append]; dsimp only [seC, List.nil_append]) | fail)) | (refine yE ?_; intro _) | (refine yB ?_; intro _ _ _ _) | fail)) | refine yJ ?_ | ((with_reducible apply gJ_if); (first | (refine J_if xR ?_ ?_ <;> intro _ <;> (try (exfalso; first | contradiction | omega))) | (refine J_ifb xR ?_ ?_ <;> (intro hgb; subst hgb)) | (refine J_ifb xR ?_ ?_ <;> intro _) | fail)) | refine J_draw (id := 5) [0, 1, 2, 3, 4, 5, 7, 8, 6, 9, 10, 11, 12] [13, 14, 15] mixed xC xD xD ?_ | refine J_draw (id := 6) [0, 1, 2, 3, 4, 5, 6, 7, 8] [9] mixed xC xD xD ?_ | refine J_draw (id := 7) [0, 1, 2, 3, 4, 5, 6, 7, 8] [9] mixed xC xD xD ?_ | fail))
    all_goals (first | (exfalso; omega) | skip)
    · exact J_ret1 rfl (by rfl) fun w H => ⟨[pts b (seC q { (⟨on, nw, ag, t0, t1⟩ : Qse) with t0 := { t0 with heard := hd } } (.slice a n c)) 52, Ar 42 14 acC (.slice a n c) [], hasA []], ⟨a, n, c, { (⟨on, nw, ag, t0, t1⟩ : Qse) with t0 := { t0 with heard := hd } }, true, [], [], hsk hd, .inl ⟨rfl, rfl, rfl, rfl, rfl, .inr (.inl rfl)⟩, trivial, rfl, rfl⟩, H.sel xZ⟩
    · exact J_ret1 rfl (by rfl) fun w H => ⟨[pts b (seC q { (⟨on, nw, ag, t0, t1⟩ : Qse) with t0 := { t0 with heard := hd } } (.slice a3 n3 c3)) 52, Ar 42 14 acC (.slice a3 n3 c3) [z3], hasA [z3]], ⟨a3, n3, c3, { (⟨on, nw, ag, t0, t1⟩ : Qse) with t0 := { t0 with heard := hd } }, true, [(7, 0, 0)], [z3], hsk hd, .inl ⟨rfl, rfl, rfl, rfl, rfl, .inr (.inr rfl)⟩, h3, rfl, rfl⟩, H.sel xZ⟩
    · exact J_ret1 rfl (by rfl) fun w H => ⟨[pts b (seC q { (⟨on, nw, ag, t0, t1⟩ : Qse) with t0 := { t0 with heard := hd } } (.slice a n c)) 52, Ar 42 14 acC (.slice a n c) [], hasA []], ⟨a, n, c, { (⟨on, nw, ag, t0, t1⟩ : Qse) with t0 := { t0 with heard := hd } }, true, [], [], hsk hd, .inl ⟨rfl, rfl, rfl, rfl, rfl, .inr (.inl rfl)⟩, trivial, rfl, rfl⟩, H.sel xZ⟩
    · exact J_ret1 rfl (by rfl) fun w H => ⟨[pts b (seC q ⟨on, nw, ag, t0, t1⟩ (.slice a n c)) 52, Ar 42 14 acC (.slice a n c) [], hasA []], ⟨a, n, c, ⟨on, nw, ag, t0, t1⟩, false, [], [], hs, .inr ⟨rfl, rfl, rfl⟩, trivial, rfl, rfl⟩, H.sel xZ⟩
def RLate1 (s s' : Qse) (r : Bool) (ys : List (Int × Int × Int)) : Prop := r = true ∧ s'.on = s.on ∧ s'.again = s.again ∧ s'.t0 = s.t0 ∧ s'.t1.st = s.t1.st ∧ (ys = [(6, 1, 0)] ∨ ys = [] ∨ ys = [(7, 1, 0)]) ∨ r = false ∧ s' = s ∧ ys = []
end Go.Proofs.Ytfonbpmdbpdncaa
namespace Go.Proofs.Ytfonbpmdbpdncaa
set_option linter.unusedSimpArgs false
set_option linter.unusedVariables false
set_option maxRecDepth 20000
set_option maxHeartbeats 4000000
open Go.RowKit Go.Pm

def ReadAs (P : Op_ → Bool → Prop) (ma : Option Addr) (mn mc : Nat) (φ : World → Prop) : Prop := Pact Try.prog 69 #[.slice ma mn mc] φ [] (fun u L' => ∃ o z sub fa fn fc fl r, P o r ∧ (0 ≤ o.hold ∧ o.hold ≤ 65535) ∧ fl.length = fn ∧ fn ≤ 2 ∧ u = .tuple #[.agg (opC o).toArray, .agg #[.int .i64 z, .int .i64 sub, .slice fa fn fc], .bool r] ∧ L' = [Ar 5 1 byC (.slice fa fn fc) fl])
theorem Are.nil {xs : List Ac} (h : Are xs []) : xs = [] := List.eq_nil_of_length_eq_zero h.len
def REarly0 (P : Op_ → Bool → Prop) (kd : Int) (s s' : Qse) (r : Bool) (ys : List (Int × Int × Int)) : Prop :=
  kd = 1 ∧ s.t0.st = 3 ∧ r = true ∧ ROpen0 P s s' ys ∨ kd = 4 ∧ s.t0.st = 4 ∧ r = true ∧ RConf0 s s' ys ∨ ¬ (kd = 1 ∧ s.t0.st = 3) ∧ ¬ (kd = 4 ∧ s.t0.st = 4) ∧ r = false ∧ s' = s ∧ ys = []
set_option maxRecDepth 4000 in
theorem early0_s (P : Op_ → Bool → Prop) (b : Nat) (q : Bool) (s : Qse) (hs : SeOk s) (a : Option Addr) (n c : Nat) (kd : Int) (ma : Option Addr) (mn mc : Nat) (φ : World → Prop) (hr : ReadAs P ma mn mc φ) : Pact Try.prog 46 #[.pointer (some ⟨b, 0, none⟩), .int .i64 0, .agg #[.int .i64 kd, .slice ma mn mc]] φ [pts b (seC q s (.slice a n c)) 52, Ar 42 14 acC (.slice a n c) [], hasA []] (fun u L' => ∃ a' n' c' s' r ys zs, SeOk s' ∧ REarly0 P kd s s' r ys ∧ Are zs ys ∧ u = .bool r ∧ L' = [pts b (seC q s' (.slice a' n' c')) 52, Ar 42 14 acC (.slice a' n' c') zs, hasA zs]) := by
  refine pact Try.func46 rfl Try.ntmps46 rfl ?_
  intro W K hK
  have ko := opened0_s P φ b q s hs a n c ma mn mc hr
  have kc := confirmed0_s b q s hs a n c
  by_cases h1 : kd = 1 ∧ s.t0.st = 3
  · (repeat' (first | ((with_reducible apply gL); (first | refine yL0 ?_ | refine yL ?_ | ((with_reducible apply gL_go); (first | (refine JL_goq (ko) (hφ := (by (try simp only [List.cons_append, List.nil_append]); exact fun w hr => hK w hr.1)) (h := ?_); rintro _ _ ⟨a3, n3, c3, s3, y3, z3, hs3, hR, h3, rfl, rfl⟩; try simp only [List.cons_append, List.nil_append]) | fail)) | (refine yM ?_; intro _) | ((with_reducible apply gL_gd); (first | (refine JL_guard xR xR ?_ ?_ <;> intro _ <;> (try (exfalso; first | contradiction | omega))) | (refine JL_guardb xR xR ?_ ?_ <;> (intro hgb; subst hgb)) | (refine JL_guardb xR xR ?_ ?_ <;> (intro hgb; fail_if_success (have : type_of% hgb := rfl))) | fail)) | fail)) | refine yJ ?_ | ((with_reducible apply gJ_if); (first | (refine J_if xR ?_ ?_ <;> intro _ <;> (try (exfalso; first | contradiction | omega))) | (refine J_ifb xR ?_ ?_ <;> (intro hgb; subst hgb)) | (refine J_ifb xR ?_ ?_ <;> intro _) | fail)) | fail))
    all_goals (first | (exfalso; omega) | skip)
    exact J_ret1 rfl (by rfl) fun w H => ⟨_, ⟨a3, n3, c3, s3, true, y3, z3, hs3, .inl ⟨h1.1, h1.2, rfl, hR⟩, h3, rfl, rfl⟩, H.sel xZ⟩
  · by_cases h4 : kd = 4 ∧ s.t0.st = 4
    · (repeat' (first | ((with_reducible apply gL); (first | refine yL0 ?_ | refine yL ?_ | ((with_reducible apply gL_go); (first | (refine JL_goq (kc) (hφ := xF) (h := ?_); rintro _ _ ⟨a3, n3, c3, s3, y3, z3, hs3, hR, h3, rfl, rfl⟩; try simp only [List.cons_append, List.nil_append]) | fail)) | (refine yM ?_; intro _) | ((with_reducible apply gL_gd); (first | (refine JL_guard xR xR ?_ ?_ <;> intro _ <;> (try (exfalso; first | contradiction | omega))) | (refine JL_guardb xR xR ?_ ?_ <;> (intro hgb; subst hgb)) | (refine JL_guardb xR xR ?_ ?_ <;> (intro hgb; fail_if_success (have : type_of% hgb := rfl))) | fail)) | fail)) | refine yJ ?_ | ((with_reducible apply gJ_if); (first | (refine J_if xR ?_ ?_ <;> intro _ <;> (try (exfalso; first | contradiction | omega))) | (refine J_ifb xR ?_ ?_ <;> (intro hgb; subst hgb)) | (refine J_ifb xR ?_ ?_ <;> intro _) | fail)) | fail))
      all_goals (first | (exfalso; omega) | skip)
      exact J_ret1 rfl (by rfl) fun w H => ⟨_, ⟨a3, n3, c3, s3, true, y3, z3, hs3, .inr (.inl ⟨h4.1, h4.2, rfl, hR⟩), h3, rfl, rfl⟩, H.sel xZ⟩
    · (repeat' (first | ((with_reducible apply gL); (first | refine yL0 ?_ | refine yL ?_ | (refine yM ?_; intro _) | ((with_reducible apply gL_gd); (first | (refine JL_guard xR xR ?_ ?_ <;> intro _ <;> (try (exfalso; first | contradiction | omega))) | (refine JL_guardb xR xR ?_ ?_ <;> (intro hgb; subst hgb)) | (refine JL_guardb xR xR ?_ ?_ <;> (intro hgb; fail_if_success (have : type_of% hgb := rfl))) | fail)) | fail)) | refine yJ ?_ | ((with_reducible apply gJ_if); (first | (refine J_if xR ?_ ?_ <;> intro _ <;> (try (exfalso; first | contradiction | omega))) | (refine J_ifb xR ?_ ?_ <;> (intro hgb; subst hgb)) | (refine J_ifb xR ?_ ?_ <;> intro _) | fail)) | fail))
      all_goals (first | (exfalso; omega) | skip)
      all_goals exact J_ret1 rfl (by rfl) fun w H => ⟨_, ⟨a, n, c, s, false, [], [], hs, .inr (.inr ⟨h1, h4, rfl, rfl, rfl⟩), trivial, rfl, rfl⟩, H.sel xZ⟩
theorem late_no0 {s s' : Qse} {ys : List (Int × Int × Int)} (h : RLate0 s s' false ys) : s' = s ∧ ys = [] := by
  rcases h with ⟨h, _⟩ | ⟨_, h1, h2⟩
  · cases h
  · exact ⟨h1, h2⟩
theorem early_no0 {P : Op_ → Bool → Prop} {kd : Int} {s s' : Qse} {ys : List (Int × Int × Int)} (h : REarly0 P kd s s' false ys) : s' = s ∧ ys = [] ∧ ¬ (kd = 1 ∧ s.t0.st = 3) ∧ ¬ (kd = 4 ∧ s.t0.st = 4) := by
  rcases h with ⟨_, _, h, _⟩ | ⟨_, _, h, _⟩ | ⟨g1, g2, _, h1, h2⟩
  · cases h
  · cases h
  · exact ⟨h1, h2, g1, g2⟩
def RTake0 (P : Op_ → Bool → Prop) (kd : Int) (s s' : Qse) (ys : List (Int × Int × Int)) : Prop :=
  s.t0.st < 3 ∧ Same s s' ∧ ys = [] ∨
  3 ≤ s.t0.st ∧ kd = 3 ∧ s'.on = s.on ∧ (s'.again = s.again ∨ s.t1.st = 0) ∧ s'.t0 = tr0 ∧ s'.t1 = s.t1 ∧ ys = (2, 0, 0) :: dnL s.t0.st 0 ∨
  3 ≤ s.t0.st ∧ kd ≠ 3 ∧ ∃ s0, Same s s0 ∧ (s.t0.st = 5 ∧ (RLate0 s0 s' true ys ∨ RFail0 s0 s' ys) ∨ s.t0.st ≠ 5 ∧ (REarly0 P kd s0 s' true ys ∨ ¬ (kd = 1 ∧ s.t0.st = 3) ∧ ¬ (kd = 4 ∧ s.t0.st = 4) ∧ RFail0 s0 s' ys))
set_option maxRecDepth 4000 in
theorem Take0_s (P : Op_ → Bool → Prop) (b : Nat) (q : Bool) (s : Qse) (hs : SeOk s) (now kd : Int) (ma : Option Addr) (mc : Nat) (ml : List Int) (hl : ml.length ≤ 1000) (hr : ReadAs P ma ml.length mc (fun w => Vw w (.slice ma ml.length mc) 1 ml.length (flat byC ml))) : Pact Try.prog 17 #[.pointer (some ⟨b, 0, none⟩), .int .i64 now, .int .i64 0, .agg #[.int .i64 kd, .slice ma ml.length mc]] (fun w => Vw w (.slice ma ml.length mc) 1 ml.length (flat byC ml)) [pts b (seC q s (.slice none 0 0)) 52] (Did b q (RTake0 P kd s)) := by
  refine pact Try.func17 rfl Try.ntmps17 rfl ?_
  intro W K hK
  refine J_heap (fun w H => iniA H) ?_
  have h1 := atS_ok hs now
  obtain ⟨nw, hnw⟩ : ∃ nw, max s.now (min now 1099511627776) = nw := ⟨_, rfl⟩
  have ka := at_s b q s (.slice none 0 0) now
  simp only [atS, hnw] at ka h1
  clear hnw
  obtain ⟨on, nw0, ag, t0, t1⟩ := s
  dsimp only at ka h1
  by_cases h0 : t0.st < 3
  · (repeat' (first | ((with_reducible apply gL); (first | refine yL0 ?_ | refine yL ?_ | ((with_reducible apply gL_go); (first | (refine JL_goq (track0_s b) (hφ := xF) (h := ?_); rintro _ _ ⟨rfl, rfl⟩; try simp only [List.cons_append, List.nil_append]) | (refine JL_goq (ka) (hφ := xF) (h := ?_); rintro _ _ ⟨rfl, rfl⟩; try simp only [List.cons_append, List.nil_append]; dsimp only [seC]) | fail)) | (refine yM ?_; intro _) | ((with_reducible apply gL_gd); (first | (refine JL_guard xR xR ?_ ?_ <;> intro _ <;> (try (exfalso; first | contradiction | omega))) | (refine JL_guardb xR xR ?_ ?_ <;> (intro hgb; subst hgb)) | (refine JL_guardb xR xR ?_ ?_ <;> (intro hgb; fail_if_success (have : type_of% hgb := rfl))) | fail)) | fail)) | refine yJ ?_ | ((with_reducible apply gJ_if); (first | (refine J_if xR ?_ ?_ <;> intro _ <;> (try (exfalso; first | contradiction | omega))) | (refine J_ifb xR ?_ ?_ <;> (intro hgb; subst hgb)) | (refine J_ifb xR ?_ ?_ <;> intro _) | fail)) | fail))
    all_goals (first | (exfalso; omega) | skip)
    exact J_ret1 rfl (by rfl) fun w H => ⟨_, ⟨none, 0, 0, ⟨on, nw, ag, t0, t1⟩, [], [], h1, .inl ⟨h0, ⟨rfl, rfl, rfl, rfl⟩, rfl⟩, trivial, rfl, rfl⟩, H.sel xZ⟩
  have h0' : 3 ≤ t0.st := by omega
  by_cases h3 : kd = 3
  · (repeat' (first | ((with_reducible apply gL); (first | refine yL0 ?_ | refine yL ?_ | ((with_reducible apply gL_go); (first | (refine JL_goq (track0_s b) (hφ := xF) (h := ?_); rintro _ _ ⟨rfl, rfl⟩; try simp only [List.cons_append, List.nil_append]) | (refine JL_goq (ka) (hφ := xF) (h := ?_); rintro _ _ ⟨rfl, rfl⟩; try simp only [List.cons_append, List.nil_append]; dsimp only [seC]) | (refine JL_goq (do_s b q ⟨on, nw, ag, t0, t1⟩ none 0 0 [] (by decide) 2 0 (by decide)) (hφ := xF) (h := ?_); rintro _ _ ⟨a3, n3, c3, z3, e3, rfl, rfl⟩; try simp only [List.cons_append, List.nil_append]; dsimp only [seC, List.nil_append]) | (refine JL_goq (lose0_s b q ⟨on, nw, ag, t0, t1⟩ h1 a3 n3 c3 [z3] (by simp only [List.length_singleton]; omega) false) (hφ := xF) (h := ?_); rintro _ _ ⟨a4, n4, c4, ag4, z4, hag, e4, rfl, rfl⟩; try simp only [List.cons_append, List.nil_append]; dsimp only [seC]) | (refine JL_goq (done_s b q { (⟨on, nw, ag4, t0, t1⟩ : Qse) with t0 := tr0 } a4 n4 c4) (hφ := xF) (h := ?_); rintro _ _ ⟨rfl, rfl⟩; try simp only [List.cons_append, List.nil_append]) | fail)) | (refine yM ?_; intro _) | ((with_reducible apply gL_gd); (first | (refine JL_guard xR xR ?_ ?_ <;> intro _ <;> (try (exfalso; first | contradiction | omega))) | (refine JL_guardb xR xR ?_ ?_ <;> (intro hgb; subst hgb)) | (refine JL_guardb xR xR ?_ ?_ <;> (intro hgb; fail_if_success (have : type_of% hgb := rfl))) | fail)) | fail)) | refine yJ ?_ | ((with_reducible apply gJ_if); (first | (refine J_if xR ?_ ?_ <;> intro _ <;> (try (exfalso; first | contradiction | omega))) | (refine J_ifb xR ?_ ?_ <;> (intro hgb; subst hgb)) | (refine J_ifb xR ?_ ?_ <;> intro _) | fail)) | fail))
    all_goals (first | (exfalso; omega) | skip)
    exact J_ret1 rfl (by rfl) fun w H => ⟨_, ⟨a4, n4, c4, { (⟨on, nw, ag4, t0, t1⟩ : Qse) with t0 := tr0 }, _, [z3] ++ z4, SeOk.set0 (s := ⟨on, nw, ag4, t0, t1⟩) ⟨h1.now, h1.t0, h1.t1⟩ _ tr0_ok, .inr (.inl ⟨h0', h3, rfl, hag, rfl, rfl, rfl⟩), e3.app e4, rfl, rfl⟩, H.sel xZ⟩
  by_cases h5 : t0.st = 5
  · have kl := late0_s b q ⟨on, nw, ag, t0, t1⟩ h1 none 0 0 kd ma mc ml hl
    (repeat' (first | ((with_reducible apply gL); (first | refine yL0 ?_ | refine yL ?_ | ((with_reducible apply gL_go); (first | (refine JL_goq (track0_s b) (hφ := xF) (h := ?_); rintro _ _ ⟨rfl, rfl⟩; try simp only [List.cons_append, List.nil_append]) | (refine JL_goq (ka) (hφ := xF) (h := ?_); rintro _ _ ⟨rfl, rfl⟩; try simp only [List.cons_append, List.nil_append]; dsimp only [seC]) | (refine JL_goq (kl) (hφ := (by (try simp only [List.cons_append, List.nil_append]); exact fun w hr => hK w hr.1)) (h := ?_); rintro _ _ ⟨a3, n3, c3, s3, r3, y3, z3, hs3, hR, e3, rfl, rfl⟩; try simp only [List.cons_append, List.nil_append]; dsimp only [seC]) | fail)) | (refine yM ?_; intro _) | ((with_reducible apply gL_gd); (first | (refine JL_guard xR xR ?_ ?_ <;> intro _ <;> (try (exfalso; first | contradiction | omega))) | (refine JL_guardb xR xR ?_ ?_ <;> (intro hgb; subst hgb)) | (refine JL_guardb xR xR ?_ ?_ <;> (intro hgb; fail_if_success (have : type_of% hgb := rfl))) | fail)) | fail)) | refine yJ ?_ | ((with_reducible apply gJ_if); (first | (refine J_if xR ?_ ?_ <;> intro _ <;> (try (exfalso; first | contradiction | omega))) | (refine J_ifb xR ?_ ?_ <;> (intro hgb; subst hgb)) | (refine J_ifb xR ?_ ?_ <;> intro _) | fail)) | fail))
    all_goals (first | (exfalso; omega) | skip)
    · rename_i hr3
      have hr3 : r3 = false := by simpa using hr3
      subst hr3
      obtain ⟨rfl, rfl⟩ := late_no0 hR
      obtain rfl := e3.nil
      dsimp only
      have kf := fun sub => fail0_s b q ⟨on, nw, ag, t0, t1⟩ h1 a3 n3 c3 [] (by decide) 5 sub none 0 0 [] rfl (by decide)
      (repeat' (first | ((with_reducible apply gL); (first | refine yL0 ?_ | refine yL ?_ | ((with_reducible apply gL_go); (first | (refine JL_goq (kf _) (hφ := (by (try simp only [List.cons_append, List.nil_append]); exact fun w hr => Vw.nil w 1)) (h := ?_); rintro _ _ ⟨a4, n4, c4, ag4, z4, hag, e4, rfl, rfl⟩; try simp only [List.cons_append, List.nil_append]; dsimp only [seC, List.nil_append]) | (refine JL_goq (done_s b q { (⟨on, nw, ag4, t0, t1⟩ : Qse) with t0 := tr0 } a4 n4 c4) (hφ := xF) (h := ?_); rintro _ _ ⟨rfl, rfl⟩; try simp only [List.cons_append, List.nil_append]) | fail)) | (refine yM ?_; intro _) | ((with_reducible apply gL_gd); (first | (refine JL_guard xR xR ?_ ?_ <;> intro _ <;> (try (exfalso; first | contradiction | omega))) | (refine JL_guardb xR xR ?_ ?_ <;> (intro hgb; subst hgb)) | (refine JL_guardb xR xR ?_ ?_ <;> (intro hgb; fail_if_success (have : type_of% hgb := rfl))) | fail)) | fail)) | refine yJ ?_ | ((with_reducible apply gJ_if); (first | (refine J_if xR ?_ ?_ <;> intro _ <;> (try (exfalso; first | contradiction | omega))) | (refine J_ifb xR ?_ ?_ <;> (intro hgb; subst hgb)) | (refine J_ifb xR ?_ ?_ <;> intro _) | fail)) | fail))
      exact J_ret1 rfl (by rfl) fun w H => ⟨_, ⟨a4, n4, c4, { (⟨on, nw, ag4, t0, t1⟩ : Qse) with t0 := tr0 }, _, z4, SeOk.set0 (s := ⟨on, nw, ag4, t0, t1⟩) ⟨h1.now, h1.t0, h1.t1⟩ _ tr0_ok, .inr (.inr ⟨h0', h3, ⟨on, nw, ag, t0, t1⟩, ⟨rfl, rfl, rfl, rfl⟩, .inl ⟨h5, .inr (.inr ⟨h0', rfl, hag, rfl, rfl, rfl⟩)⟩⟩), e4, rfl, rfl⟩, H.sel xZ⟩
    · rename_i hr3
      have hr3 : r3 = true := by simpa using hr3
      subst hr3
      (repeat' (first | ((with_reducible apply gL); (first | refine yL0 ?_ | refine yL ?_ | ((with_reducible apply gL_go); (first | (refine JL_goq (done_s b q s3 a3 n3 c3) (hφ := xF) (h := ?_); rintro _ _ ⟨rfl, rfl⟩; try simp only [List.cons_append, List.nil_append]) | fail)) | (refine yM ?_; intro _) | ((with_reducible apply gL_gd); (first | (refine JL_guard xR xR ?_ ?_ <;> intro _ <;> (try (exfalso; first | contradiction | omega))) | (refine JL_guardb xR xR ?_ ?_ <;> (intro hgb; subst hgb)) | (refine JL_guardb xR xR ?_ ?_ <;> (intro hgb; fail_if_success (have : type_of% hgb := rfl))) | fail)) | fail)) | refine yJ ?_ | ((with_reducible apply gJ_if); (first | (refine J_if xR ?_ ?_ <;> intro _ <;> (try (exfalso; first | contradiction | omega))) | (refine J_ifb xR ?_ ?_ <;> (intro hgb; subst hgb)) | (refine J_ifb xR ?_ ?_ <;> intro _) | fail)) | fail))
      exact J_ret1 rfl (by rfl) fun w H => ⟨_, ⟨a3, n3, c3, s3, _, z3, hs3, .inr (.inr ⟨h0', h3, ⟨on, nw, ag, t0, t1⟩, ⟨rfl, rfl, rfl, rfl⟩, .inl ⟨h5, .inl hR⟩⟩), e3, rfl, rfl⟩, H.sel xZ⟩
  · have ke := early0_s P b q ⟨on, nw, ag, t0, t1⟩ h1 none 0 0 kd ma ml.length mc _ hr
    (repeat' (first | ((with_reducible apply gL); (first | refine yL0 ?_ | refine yL ?_ | ((with_reducible apply gL_go); (first | (refine JL_goq (track0_s b) (hφ := xF) (h := ?_); rintro _ _ ⟨rfl, rfl⟩; try simp only [List.cons_append, List.nil_append]) | (refine JL_goq (ka) (hφ := xF) (h := ?_); rintro _ _ ⟨rfl, rfl⟩; try simp only [List.cons_append, List.nil_append]; dsimp only [seC]) | (refine JL_goq (ke) (hφ := (by (try simp only [List.cons_append, List.nil_append]); exact fun w hr => hK w hr.1)) (h := ?_); rintro _ _ ⟨a3, n3, c3, s3, r3, y3, z3, hs3, hR, e3, rfl, rfl⟩; try simp only [List.cons_append, List.nil_append]; dsimp only [seC]) | fail)) | (refine yM ?_; intro _) | ((with_reducible apply gL_gd); (first | (refine JL_guard xR xR ?_ ?_ <;> intro _ <;> (try (exfalso; first | contradiction | omega))) | (refine JL_guardb xR xR ?_ ?_ <;> (intro hgb; subst hgb)) | (refine JL_guardb xR xR ?_ ?_ <;> (intro hgb; fail_if_success (have : type_of% hgb := rfl))) | fail)) | fail)) | refine yJ ?_ | ((with_reducible apply gJ_if); (first | (refine J_if xR ?_ ?_ <;> intro _ <;> (try (exfalso; first | contradiction | omega))) | (refine J_ifb xR ?_ ?_ <;> (intro hgb; subst hgb)) | (refine J_ifb xR ?_ ?_ <;> intro _) | fail)) | fail))
    all_goals (first | (exfalso; omega) | skip)
    · rename_i hr3
      have hr3 : r3 = false := by simpa using hr3
      subst hr3
      obtain ⟨rfl, rfl, hn1, hn4⟩ := early_no0 hR
      obtain rfl := e3.nil
      dsimp only
      have kf := fun sub => fail0_s b q ⟨on, nw, ag, t0, t1⟩ h1 a3 n3 c3 [] (by decide) 5 sub none 0 0 [] rfl (by decide)
      (repeat' (first | ((with_reducible apply gL); (first | refine yL0 ?_ | refine yL ?_ | ((with_reducible apply gL_go); (first | (refine JL_goq (kf _) (hφ := (by (try simp only [List.cons_append, List.nil_append]); exact fun w hr => Vw.nil w 1)) (h := ?_); rintro _ _ ⟨a4, n4, c4, ag4, z4, hag, e4, rfl, rfl⟩; try simp only [List.cons_append, List.nil_append]; dsimp only [seC, List.nil_append]) | (refine JL_goq (done_s b q { (⟨on, nw, ag4, t0, t1⟩ : Qse) with t0 := tr0 } a4 n4 c4) (hφ := xF) (h := ?_); rintro _ _ ⟨rfl, rfl⟩; try simp only [List.cons_append, List.nil_append]) | fail)) | (refine yM ?_; intro _) | ((with_reducible apply gL_gd); (first | (refine JL_guard xR xR ?_ ?_ <;> intro _ <;> (try (exfalso; first | contradiction | omega))) | (refine JL_guardb xR xR ?_ ?_ <;> (intro hgb; subst hgb)) | (refine JL_guardb xR xR ?_ ?_ <;> (intro hgb; fail_if_success (have : type_of% hgb := rfl))) | fail)) | fail)) | refine yJ ?_ | ((with_reducible apply gJ_if); (first | (refine J_if xR ?_ ?_ <;> intro _ <;> (try (exfalso; first | contradiction | omega))) | (refine J_ifb xR ?_ ?_ <;> (intro hgb; subst hgb)) | (refine J_ifb xR ?_ ?_ <;> intro _) | fail)) | fail))
      exact J_ret1 rfl (by rfl) fun w H => ⟨_, ⟨a4, n4, c4, { (⟨on, nw, ag4, t0, t1⟩ : Qse) with t0 := tr0 }, _, z4, SeOk.set0 (s := ⟨on, nw, ag4, t0, t1⟩) ⟨h1.now, h1.t0, h1.t1⟩ _ tr0_ok, .inr (.inr ⟨h0', h3, ⟨on, nw, ag, t0, t1⟩, ⟨rfl, rfl, rfl, rfl⟩, .inr ⟨h5, .inr ⟨hn1, hn4, .inr ⟨h0', rfl, hag, rfl, rfl, rfl⟩⟩⟩⟩), e4, rfl, rfl⟩, H.sel xZ⟩
    · rename_i hr3
      have hr3 : r3 = true := by simpa using hr3
      subst hr3
      (repeat' (first | ((with_reducible apply gL); (first | refine yL0 ?_ | refine yL ?_ | ((with_reducible apply gL_go); (first | (refine JL_goq (done_s b q s3 a3 n3 c3) (hφ := xF) (h := ?_); rintro _ _ ⟨rfl, rfl⟩; try simp only [List.cons_append, List.nil_append]) | fail)) | (refine yM ?_; intro _) | ((with_reducible apply gL_gd); (first | (refine JL_guard xR xR ?_ ?_ <;> intro _ <;> (try (exfalso; first | contradiction | omega))) | (refine JL_guardb xR xR ?_ ?_ <;> (intro hgb; subst hgb)) | (refine JL_guardb xR xR ?_ ?_ <;> (intro hgb; fail_if_success (have : type_of% hgb := rfl))) | fail)) | fail)) | refine yJ ?_ | ((with_reducible apply gJ_if); (first | (refine J_if xR ?_ ?_ <;> intro _ <;> (try (exfalso; first | contradiction | omega))) | (refine J_ifb xR ?_ ?_ <;> (intro hgb; subst hgb)) | (refine J_ifb xR ?_ ?_ <;> intro _) | fail)) | fail))
      exact J_ret1 rfl (by rfl) fun w H => ⟨_, ⟨a3, n3, c3, s3, _, z3, hs3, .inr (.inr ⟨h0', h3, ⟨on, nw, ag, t0, t1⟩, ⟨rfl, rfl, rfl, rfl⟩, .inr ⟨h5, .inl hR⟩⟩), e3, rfl, rfl⟩, H.sel xZ⟩
def REarly1 (P : Op_ → Bool → Prop) (kd : Int) (s s' : Qse) (r : Bool) (ys : List (Int × Int × Int)) : Prop :=
  kd = 1 ∧ s.t1.st = 3 ∧ r = true ∧ ROpen1 P s s' ys ∨ kd = 4 ∧ s.t1.st = 4 ∧ r = true ∧ RConf1 s s' ys ∨ ¬ (kd = 1 ∧ s.t1.st = 3) ∧ ¬ (kd = 4 ∧ s.t1.st = 4) ∧ r = false ∧ s' = s ∧ ys = []
def RTake1 (P : Op_ → Bool → Prop) (kd : Int) (s s' : Qse) (ys : List (Int × Int × Int)) : Prop :=
  s.t1.st < 3 ∧ Same s s' ∧ ys = [] ∨
  3 ≤ s.t1.st ∧ kd = 3 ∧ s'.on = s.on ∧ (s'.again = s.again ∨ s.t0.st = 0) ∧ s'.t1 = tr0 ∧ s'.t0 = s.t0 ∧ ys = (2, 1, 0) :: dnL s.t1.st 1 ∨
  3 ≤ s.t1.st ∧ kd ≠ 3 ∧ ∃ s0, Same s s0 ∧ (s.t1.st = 5 ∧ (RLate1 s0 s' true ys ∨ RFail1 s0 s' ys) ∨ s.t1.st ≠ 5 ∧ (REarly1 P kd s0 s' true ys ∨ ¬ (kd = 1 ∧ s.t1.st = 3) ∧ ¬ (kd = 4 ∧ s.t1.st = 4) ∧ RFail1 s0 s' ys))
end Go.Proofs.Ytfonbpmdbpdncaa
namespace Go.Proofs.Ytfonbpmdbpdncaa
set_option linter.unusedSimpArgs false
set_option linter.unusedVariables false
set_option maxRecDepth 20000
set_option maxHeartbeats 4000000
open Go.RowKit Go.Pm

abbrev se0 : Qse := ⟨false, 0, -1, tr0, tr0⟩
theorem se0_ok : SeOk se0 := ⟨by decide, tr0_ok, tr0_ok⟩
theorem cright_s (q : Bool) : Pact Try.prog 48 #[.agg #[.int .u32 65001, .int .u32 1, .int .i64 90, .int .u32 65002, .bool q, .int .i64 5, .int .i64 120]] (fun _ => True) [] (ret0 (.bool true)) := by
  refine pact Try.func48 rfl Try.ntmps48 rfl ?_
  intro W K _
  (repeat' (first | ((with_reducible apply gL); (first | refine yL0 ?_ | refine yL ?_ | (refine yM ?_; intro _) | ((with_reducible apply gL_gd); (first | (refine JL_guard xR xR ?_ ?_ <;> intro _ <;> (try (exfalso; first | contradiction | omega))) | (refine JL_guardb xR xR ?_ ?_ <;> (intro hgb; subst hgb)) | (refine JL_guardb xR xR ?_ ?_ <;> (intro hgb; fail_if_success (have : type_of% hgb := rfl))) | fail)) | fail)) | refine yJ ?_ | ((with_reducible apply gJ_if); (first | (refine J_if xR ?_ ?_ <;> intro _ <;> (try (exfalso; first | contradiction | omega))) | (refine J_ifb xR ?_ ?_ <;> (intro hgb; subst hgb)) | (refine J_ifb xR ?_ ?_ <;> intro _) | fail)) | fail))
  exact J_ret1 rfl (by rfl) fun w H => ⟨_, ⟨rfl, rfl⟩, H.sel xZ⟩
theorem fnew_s (q : Bool) : Pact Try.prog 18 #[.agg #[.int .u32 65001, .int .u32 1, .int .i64 90, .int .u32 65002, .bool q, .int .i64 5, .int .i64 120]] (fun _ => True) [] (fun u L' => ∃ g, u = .tuple #[.pointer (some ⟨g, 0, none⟩), .int .i64 0] ∧ L' = [pts g (seC q se0 (.slice none 0 0)) 52]) := by
  refine pact Try.func18 rfl Try.ntmps18 rfl ?_
  intro W K _
  (repeat' (first | ((with_reducible apply gL); (first | refine yL0 ?_ | refine yL ?_ | ((with_reducible apply gL_go); (first | (refine JL_goq (cright_s q) (hφ := xF) (h := ?_); rintro _ _ ⟨rfl, rfl⟩; try simp only [List.cons_append, List.nil_append]) | fail)) | (refine yM ?_; intro _) | fail)) | refine yJ ?_ | ((with_reducible apply gJ_if); (first | (refine J_if xR ?_ ?_ <;> intro _ <;> (try (exfalso; first | contradiction | omega))) | (refine J_ifb xR ?_ ?_ <;> (intro hgb; subst hgb)) | (refine J_ifb xR ?_ ?_ <;> intro _) | fail)) | fail))
  exact J_ret2 rfl (by rfl) (by rfl) fun w H => ⟨_, ⟨_, rfl, rfl⟩, H.sel xZ⟩
theorem one_s (q : Bool) : Pact Try.prog 7 #[.int .i64 0, .bool q] (fun _ => True) [] (fun u L' => ∃ g, u = .pointer (some ⟨g, 0, none⟩) ∧ L' = [pts g (seC q se0 (.slice none 0 0)) 52]) := by
  refine pact Try.func7 rfl Try.ntmps7 rfl ?_
  intro W K _
  (repeat' (first | ((with_reducible apply gL); (first | refine yL0 ?_ | refine yL ?_ | ((with_reducible apply gL_go); (first | (refine JL_goq (fnew_s q) (hφ := xF) (h := ?_); rintro _ _ ⟨g, rfl, rfl⟩; try simp only [List.cons_append, List.nil_append]) | fail)) | fail)) | refine yJ ?_ | fail))
  exact J_ret1 rfl (by rfl) fun w H => ⟨_, ⟨g, rfl, rfl⟩, H.sel xZ⟩
theorem few23_s (kd : Int) (a : Option Addr) (n c : Nat) (l : List Int) (hn : l.length = n) (hb : U8s l) : Pact Try.prog 26 #[.agg #[.int .i64 kd, .slice a n c]] (fun w => Vw w (.slice a n c) 1 n (flat byC l)) [] (fun u L' => ∃ a' c' B, B.length ≤ 200 ∧ U8s B ∧ u = .agg #[.int .i64 kd, .slice a' B.length c'] ∧ L' = [Ar 5 1 byC (.slice a' B.length c') B]) := by
  refine pact Try.func26 rfl Try.ntmps26 rfl ?_
  intro W K hK
  refine J_fact (φ := n ≤ c ∧ c ≤ maxLen) (fun w H => by obtain ⟨_, _, he, _, h3, h4, _⟩ := hK.of H; cases he; exact ⟨h3, h4⟩) ?_
  rintro ⟨hc, hcm⟩
  obtain ⟨m, hm, hm2⟩ : ∃ m : Nat, m ≤ n ∧ m ≤ 200 ∧ min (n : Int) 200 = (m : Int) := ⟨min n 200, by omega, by omega, by omega⟩
  obtain ⟨hm2, em⟩ := hm2
  have hK2 : Kn K (fun w => Vw w (.slice a m c) 1 m (flat byC (l.take m))) := hK.imp fun w h => Vw_take' h (fun _ => rfl) hn m hm
  have hml : (l.take m).length = m := by rw [List.length_take]; omega
  have kb := bytes_s a c m (l.take m) hml (by omega)
  have hbt := hb.take m
  (repeat' (first | ((with_reducible apply gL); (first | refine yL0 ?_ | refine yL ?_ | (refine yM ?_; intro _) | fail)) | refine yJ ?_ | fail))
  rw [em]
  (repeat' (first | ((with_reducible apply gL); (first | refine yL0 ?_ | refine yL ?_ | ((with_reducible apply gL_go); (first | (refine JL_goq (kb) (hφ := (by (try simp only [List.cons_append, List.nil_append]); exact fun w hr => hK2 w hr.1)) (h := ?_); rintro _ _ ⟨a', c', rfl, rfl⟩; try simp only [List.cons_append, List.nil_append]) | fail)) | (refine yM ?_; intro _) | fail)) | refine yJ ?_ | fail))
  exact J_retC (cs := [.int .i64 kd, .slice a' (l.take m).length c']) rfl (by rfl) xA (by rfl) fun w H => ⟨_, ⟨a', c', l.take m, by omega, hbt, rfl, rfl⟩, H.sel xZ⟩
theorem fault23_s (kd sub : Int) (a : Option Addr) (n c : Nat) (l : List Int) (hn : l.length = n) (hb : U8s l) : Pact Try.prog 24 #[.agg #[.int .i64 kd, .int .i64 sub, .slice a n c]] (fun w => Vw w (.slice a n c) 1 n (flat byC l)) [] (fun u L' => ∃ a' c' B, B.length ≤ 100 ∧ U8s B ∧ u = .agg #[.int .i64 kd, .int .i64 sub, .slice a' B.length c'] ∧ L' = [Ar 5 1 byC (.slice a' B.length c') B]) := by
  refine pact Try.func24 rfl Try.ntmps24 rfl ?_
  intro W K hK
  refine J_fact (φ := n ≤ c ∧ c ≤ maxLen) (fun w H => by obtain ⟨_, _, he, _, h3, h4, _⟩ := hK.of H; cases he; exact ⟨h3, h4⟩) ?_
  rintro ⟨hc, hcm⟩
  obtain ⟨m, hm, hm2⟩ : ∃ m : Nat, m ≤ n ∧ m ≤ 100 ∧ min (n : Int) 100 = (m : Int) := ⟨min n 100, by omega, by omega, by omega⟩
  obtain ⟨hm2, em⟩ := hm2
  have hK2 : Kn K (fun w => Vw w (.slice a m c) 1 m (flat byC (l.take m))) := hK.imp fun w h => Vw_take' h (fun _ => rfl) hn m hm
  have hml : (l.take m).length = m := by rw [List.length_take]; omega
  have kb := bytes_s a c m (l.take m) hml (by omega)
  have hbt := hb.take m
  (repeat' (first | ((with_reducible apply gL); (first | refine yL0 ?_ | refine yL ?_ | (refine yM ?_; intro _) | fail)) | refine yJ ?_ | fail))
  rw [em]
  (repeat' (first | ((with_reducible apply gL); (first | refine yL0 ?_ | refine yL ?_ | ((with_reducible apply gL_go); (first | (refine JL_goq (kb) (hφ := (by (try simp only [List.cons_append, List.nil_append]); exact fun w hr => hK2 w hr.1)) (h := ?_); rintro _ _ ⟨a', c', rfl, rfl⟩; try simp only [List.cons_append, List.nil_append]) | fail)) | (refine yM ?_; intro _) | fail)) | refine yJ ?_ | fail))
  exact J_retC (cs := [.int .i64 kd, .int .i64 sub, .slice a' (l.take m).length c']) rfl (by rfl) xA (by rfl) fun w H => ⟨_, ⟨a', c', l.take m, by omega, hbt, rfl, rfl⟩, H.sel xZ⟩
theorem readAny (a : Option Addr) (c : Nat) (l : List Int) (hb : U8s l) (hl : l.length ≤ 1000) : ReadAs (fun _ _ => True) a l.length c (fun w => Vw w (.slice a l.length c) 1 l.length (flat byC l)) := fun W K w hK H =>
  (oread_s a l.length c l rfl hb hl W K w hK H).mono fun e' w' h3 => by
    obtain ⟨u, L', ⟨o, z, sub, fa, fn, fc, fl, r, h4, h5, h6, h7, h8⟩, h9⟩ := h3
    exact ⟨u, L', ⟨o, z, sub, fa, fn, fc, fl, r, trivial, h4, h5, h6, h7, h8⟩, h9⟩
theorem readB (a : Option Addr) (c : Nat) : ReadAs (fun o r => o = opB ∧ r = true) a 10 c (fun w => Vw w (.slice a 10 c) 1 10 (flat byC bB4)) := fun W K w hK H =>
  (oreadB_s a c W K w hK H).mono fun e' w' h3 => by
    obtain ⟨u, L', ⟨rfl, rfl⟩, h4, h5⟩ := h3
    exact ⟨_, _, ⟨opB, 0, 0, none, 0, 0, [], true, ⟨rfl, rfl⟩, by decide, rfl, by decide, rfl, rfl⟩, h4, Ow.arNil (e := 5) (sz := 1) (enc := byC) h5⟩
def RNone (s s' : Qse) (ys : List (Int × Int × Int)) : Prop := Same s s' ∧ ys = []
end Go.Proofs.Ytfonbpmdbpdncaa
namespace Go.Proofs.Ytfonbpmdbpdncaa
set_option linter.unusedSimpArgs false
set_option linter.unusedVariables false
set_option maxRecDepth 20000
set_option maxHeartbeats 4000000
open Go.RowKit Go.Pm

structure Qev where
  d : Int
  now : Int
  n : Int
  tr : Int
  kd : Int
  ma : Option Addr
  mc : Nat
  ml : List Int
  z : Int
  sub : Int
  fa : Option Addr
  fc : Nat
  fl : List Int
abbrev evC (e : Qev) : List Value := [.int .i64 e.d, .int .i64 e.now, .int .i64 e.n, .int .i64 e.tr, .int .i64 e.kd, .slice e.ma e.ml.length e.mc, .int .i64 e.z, .int .i64 e.sub, .slice e.fa e.fl.length e.fc]
def EvV (w : World) (e : Qev) : Prop := Vw w (.slice e.ma e.ml.length e.mc) 1 e.ml.length (flat byC e.ml) ∧ Vw w (.slice e.fa e.fl.length e.fc) 1 e.fl.length (flat byC e.fl)
structure EvOk (e : Qev) : Prop where
  d : I64 e.d
  ml : U8s e.ml
  fl : U8s e.fl
inductive RHear (q : Bool) (s s' : Qse) (ys : List (Int × Int × Int)) : Prop
  | none (h : RNone s s' ys) | start (h : RStart q s s' ys) | stop (h : RStop s s' ys) | tick (h : RTick q s s' ys)
  | up0 (h : RUp0 s s' ys) | up1 (h : RUp1 s s' ys) | gone0 (h : RGone0 s s' ys) | gone1 (h : RGone1 s s' ys) | fail0 (h : RFail0 s s' ys) | fail1 (h : RFail1 s s' ys)
  | take0 {kd : Int} (h : RTake0 (fun _ _ => True) kd s s' ys) | take1 {kd : Int} (h : RTake1 (fun _ _ => True) kd s s' ys)
end Go.Proofs.Ytfonbpmdbpdncaa
