/-
  Ru10, J7, Ru17: merged.
-/
import Derived.Test.YtmbgbhambgoejaaZRunMeans17
namespace Go.Proofs.Ytmbgbhambgoejaa.C
set_option linter.unusedSimpArgs false
set_option linter.unusedVariables false
set_option maxRecDepth 20000
set_option maxHeartbeats 4000000
open Go.RowKit Go.Pm

theorem at_comms {d : At} (hd : AtF d) {l : List Int} (hl : ∀ z ∈ l, U32 z) (h2 : l.length ≤ 1000) (a : Option Addr) (c : Nat) : AtF { d with comms := l, ca := a, cc := c } := ⟨⟨hd.num.origin, hd.num.next, hd.num.med, hd.num.loc, hd.num.makerAS, hd.num.maker, hd.num.path, hl, hd.num.others⟩, hd.path, h2, hd.others⟩
theorem ow_comms {W : World} {K : Hl} {L R : List HP} {w : World} {d : At} {l : List Int} {a : Option Addr} {c m : Nat} (H : Ow W K L w) (hm : l.length = m) (t : Tk L (Ar 25 1 u32C (.slice a m c) l) R) : Ow W K (has (fun w => AtV w d → AtV w { d with comms := l, ca := a, cc := c }) :: R) w := by
  subst hm
  exact Ow.has (M := [Ar 25 1 u32C (.slice a l.length c) l]) H (.cons t .nil) (fun w hr h => ⟨h.path, Src.ar .here w hr, h.others⟩)
theorem do_add (rb : Nat) (p : Pf) (d : At) (hd : AtF d) (s : Sp) (ho : s.op = 27) (hn : 0 ≤ s.n ∧ s.n ≤ 4294967295) : Pact Try.prog 39 #[.pointer (some ⟨rb, 0, none⟩), .agg (spC s).toArray] (fun w => AtV w d) [pts rb (routeC p d) 70] (DoR rb p d (doN 7 s.n s.m d.nf)) := by
  refine pact Try.func39 rfl Try.ntmps39 rfl ?_
  intro W K hK
  have hcl := hd.comms
  have hC := contains_s d.ca d.cc d.comms s.n (by omega)
  have hQ := cloneU_s d.ca d.cc d.comms (by omega)
  have e7 : doN 7 s.n s.m d.nf = if s.n ∈ d.comms then some d.nf else if 32 ≤ d.comms.length then none else some { d.nf with comms := d.comms ++ [s.n] } := rfl
  by_cases hin : s.n ∈ d.comms
  · rw [decide_eq_true hin] at hC
    rw [if_pos hin] at e7
    rw [e7]
    (repeat' (first | ((with_reducible apply gL); (first | refine yL0 ?_ | refine yL ?_ | (refine yM ?_; intro _) | fail)) | ((with_reducible apply gD); (first | (refine JD_nil ?_; try simp only [List.cons_append, List.nil_append]) | (refine JD_bar ?_; try simp only [List.cons_append, List.nil_append]) | refine yD ?_ | (refine yE ?_; intro _) | (refine yB ?_; intro _ _ _ _) | fail)) | refine yJ ?_ | ((with_reducible apply gJ_if); (first | (refine J_if xR ?_ ?_ <;> intro _ <;> (try (exfalso; first | contradiction | omega))) | (refine J_ifb xR ?_ ?_ <;> (intro hgb; subst hgb)) | (refine J_ifb xR ?_ ?_ <;> intro _) | fail)) | refine J_draw (id := 9) [0, 1, 2, 3, 4, 5, 6, 7] [8, 9, 10, 11, 12, 13] mixed xC xD xD ?_ | refine J_draw (id := 12) [0, 1, 2, 3, 4, 5, 6] [7, 8, 9, 10] mixed xC xD xD ?_ | refine J_draw (id := 13) [0, 1, 2, 3, 4, 5, 6] [7, 8, 9, 10] mixed xC xD xD ?_ | refine J_draw (id := 14) [0, 1, 2, 3, 4, 5] [6] mixed xC xD xD ?_ | refine J_draw (id := 16) [0, 1, 2, 3, 4, 5, 7, 6, 8, 9] [10, 11, 12, 13] mixed xC xD xD ?_ | fail))
    refine J_scope (α := Unit) 0 (fun _ => 0) (fun _ => False) (fun _ => []) (fun _ => []) rfl rfl ?_ (fun _ h => h.elim)
    simp only [List.map_cons, List.map_nil, List.cons_append, List.nil_append]
    (repeat' (first | ((with_reducible apply gL); (first | refine yL0 ?_ | refine yL ?_ | ((with_reducible apply gL_go); (first | (refine JL_goq (hC) (hφ := (by (try simp only [List.cons_append, List.nil_append]); exact fun w hr => (hK w hr.1).comms)) (h := ?_); rintro _ _ ⟨rfl, rfl⟩; try simp only [List.cons_append, List.nil_append]) | fail)) | (refine yM ?_; intro _) | fail)) | ((with_reducible apply gD); (first | (refine JD_nil ?_; try simp only [List.cons_append, List.nil_append]) | (refine JD_bar ?_; try simp only [List.cons_append, List.nil_append]) | refine yD ?_ | ((with_reducible apply gD_go); (first | (refine JD_goq (hC) (hφ := (by (try simp only [List.cons_append, List.nil_append]); exact fun w hr => (hK w hr.1).comms)) (h := ?_); rintro _ _ ⟨rfl, rfl⟩; try simp only [List.cons_append, List.nil_append]) | fail)) | (refine yE ?_; intro _) | (refine yB ?_; intro _ _ _ _) | fail)) | refine yJ ?_ | ((with_reducible apply gJ_if); (first | (refine J_if xR ?_ ?_ <;> intro _ <;> (try (exfalso; first | contradiction | omega))) | (refine J_ifb xR ?_ ?_ <;> (intro hgb; subst hgb)) | (refine J_ifb xR ?_ ?_ <;> intro _) | fail)) | refine J_draw (id := 9) [0, 1, 2, 3, 4, 5, 6, 7] [8, 9, 10, 11, 12, 13] mixed xC xD xD ?_ | refine J_draw (id := 12) [0, 1, 2, 3, 4, 5, 6] [7, 8, 9, 10] mixed xC xD xD ?_ | refine J_draw (id := 13) [0, 1, 2, 3, 4, 5, 6] [7, 8, 9, 10] mixed xC xD xD ?_ | refine J_draw (id := 14) [0, 1, 2, 3, 4, 5] [6] mixed xC xD xD ?_ | refine J_draw (id := 16) [0, 1, 2, 3, 4, 5, 7, 6, 8, 9] [10, 11, 12, 13] mixed xC xD xD ?_ | fail))
    all_goals (first | (exfalso; omega) | skip)
    exact J_ret1 rfl (by rfl) fun w H => do_same hd true rfl H xA
  · rw [decide_eq_false hin] at hC
    rw [if_neg hin] at e7
    by_cases h32 : 32 ≤ d.comms.length
    · rw [if_pos h32] at e7
      rw [e7]
      (repeat' (first | ((with_reducible apply gL); (first | refine yL0 ?_ | refine yL ?_ | (refine yM ?_; intro _) | fail)) | ((with_reducible apply gD); (first | (refine JD_nil ?_; try simp only [List.cons_append, List.nil_append]) | (refine JD_bar ?_; try simp only [List.cons_append, List.nil_append]) | refine yD ?_ | (refine yE ?_; intro _) | (refine yB ?_; intro _ _ _ _) | fail)) | refine yJ ?_ | ((with_reducible apply gJ_if); (first | (refine J_if xR ?_ ?_ <;> intro _ <;> (try (exfalso; first | contradiction | omega))) | (refine J_ifb xR ?_ ?_ <;> (intro hgb; subst hgb)) | (refine J_ifb xR ?_ ?_ <;> intro _) | fail)) | refine J_draw (id := 9) [0, 1, 2, 3, 4, 5, 6, 7] [8, 9, 10, 11, 12, 13] mixed xC xD xD ?_ | refine J_draw (id := 12) [0, 1, 2, 3, 4, 5, 6] [7, 8, 9, 10] mixed xC xD xD ?_ | refine J_draw (id := 13) [0, 1, 2, 3, 4, 5, 6] [7, 8, 9, 10] mixed xC xD xD ?_ | refine J_draw (id := 14) [0, 1, 2, 3, 4, 5] [6] mixed xC xD xD ?_ | refine J_draw (id := 16) [0, 1, 2, 3, 4, 5, 7, 6, 8, 9] [10, 11, 12, 13] mixed xC xD xD ?_ | fail))
      refine J_scope (α := Unit) 0 (fun _ => 0) (fun _ => True) (fun _ => []) (fun _ => [pts rb (routeC p d) 70]) rfl rfl ?_ ?_
      · simp only [List.map_cons, List.map_nil, List.cons_append, List.nil_append]
        (repeat' (first | ((with_reducible apply gL); (first | refine yL0 ?_ | refine yL ?_ | ((with_reducible apply gL_go); (first | (refine JL_goq (hC) (hφ := (by (try simp only [List.cons_append, List.nil_append]); exact fun w hr => (hK w hr.1).comms)) (h := ?_); rintro _ _ ⟨rfl, rfl⟩; try simp only [List.cons_append, List.nil_append]) | fail)) | (refine yM ?_; intro _) | fail)) | ((with_reducible apply gD); (first | (refine JD_nil ?_; try simp only [List.cons_append, List.nil_append]) | (refine JD_bar ?_; try simp only [List.cons_append, List.nil_append]) | refine yD ?_ | ((with_reducible apply gD_go); (first | (refine JD_goq (hC) (hφ := (by (try simp only [List.cons_append, List.nil_append]); exact fun w hr => (hK w hr.1).comms)) (h := ?_); rintro _ _ ⟨rfl, rfl⟩; try simp only [List.cons_append, List.nil_append]) | fail)) | (refine yE ?_; intro _) | (refine yB ?_; intro _ _ _ _) | fail)) | refine yJ ?_ | ((with_reducible apply gJ_if); (first | (refine J_if xR ?_ ?_ <;> intro _ <;> (try (exfalso; first | contradiction | omega))) | (refine J_ifb xR ?_ ?_ <;> (intro hgb; subst hgb)) | (refine J_ifb xR ?_ ?_ <;> intro _) | fail)) | refine J_draw (id := 9) [0, 1, 2, 3, 4, 5, 6, 7] [8, 9, 10, 11, 12, 13] mixed xC xD xD ?_ | refine J_draw (id := 12) [0, 1, 2, 3, 4, 5, 6] [7, 8, 9, 10] mixed xC xD xD ?_ | refine J_draw (id := 13) [0, 1, 2, 3, 4, 5, 6] [7, 8, 9, 10] mixed xC xD xD ?_ | refine J_draw (id := 14) [0, 1, 2, 3, 4, 5] [6] mixed xC xD xD ?_ | refine J_draw (id := 16) [0, 1, 2, 3, 4, 5, 7, 6, 8, 9] [10, 11, 12, 13] mixed xC xD xD ?_ | fail))
        all_goals (first | (exfalso; omega) | skip)
        exact J_meet () trivial trivial (fun w H => H.sel xZ)
      · rintro ⟨⟩ _
        simp only [List.map_cons, List.map_nil, List.cons_append, List.nil_append]
        (repeat' (first | ((with_reducible apply gL); (first | refine yL0 ?_ | refine yL ?_ | (refine yM ?_; intro _) | fail)) | ((with_reducible apply gD); (first | (refine JD_nil ?_; try simp only [List.cons_append, List.nil_append]) | (refine JD_bar ?_; try simp only [List.cons_append, List.nil_append]) | refine yD ?_ | (refine yE ?_; intro _) | (refine yB ?_; intro _ _ _ _) | fail)) | refine yJ ?_ | ((with_reducible apply gJ_if); (first | (refine J_if xR ?_ ?_ <;> intro _ <;> (try (exfalso; first | contradiction | omega))) | (refine J_ifb xR ?_ ?_ <;> (intro hgb; subst hgb)) | (refine J_ifb xR ?_ ?_ <;> intro _) | fail)) | refine J_draw (id := 9) [0, 1, 2, 3, 4, 5, 6, 7] [8, 9, 10, 11, 12, 13] mixed xC xD xD ?_ | refine J_draw (id := 12) [0, 1, 2, 3, 4, 5, 6] [7, 8, 9, 10] mixed xC xD xD ?_ | refine J_draw (id := 13) [0, 1, 2, 3, 4, 5, 6] [7, 8, 9, 10] mixed xC xD xD ?_ | refine J_draw (id := 14) [0, 1, 2, 3, 4, 5] [6] mixed xC xD xD ?_ | refine J_draw (id := 16) [0, 1, 2, 3, 4, 5, 7, 6, 8, 9] [10, 11, 12, 13] mixed xC xD xD ?_ | fail))
        exact J_ret1 rfl (by rfl) fun w H => do_same hd false rfl H xA
    · rw [if_neg h32] at e7
      rw [e7]
      (repeat' (first | ((with_reducible apply gL); (first | refine yL0 ?_ | refine yL ?_ | (refine yM ?_; intro _) | fail)) | ((with_reducible apply gD); (first | (refine JD_nil ?_; try simp only [List.cons_append, List.nil_append]) | (refine JD_bar ?_; try simp only [List.cons_append, List.nil_append]) | refine yD ?_ | (refine yE ?_; intro _) | (refine yB ?_; intro _ _ _ _) | fail)) | refine yJ ?_ | ((with_reducible apply gJ_if); (first | (refine J_if xR ?_ ?_ <;> intro _ <;> (try (exfalso; first | contradiction | omega))) | (refine J_ifb xR ?_ ?_ <;> (intro hgb; subst hgb)) | (refine J_ifb xR ?_ ?_ <;> intro _) | fail)) | refine J_draw (id := 9) [0, 1, 2, 3, 4, 5, 6, 7] [8, 9, 10, 11, 12, 13] mixed xC xD xD ?_ | refine J_draw (id := 12) [0, 1, 2, 3, 4, 5, 6] [7, 8, 9, 10] mixed xC xD xD ?_ | refine J_draw (id := 13) [0, 1, 2, 3, 4, 5, 6] [7, 8, 9, 10] mixed xC xD xD ?_ | refine J_draw (id := 14) [0, 1, 2, 3, 4, 5] [6] mixed xC xD xD ?_ | refine J_draw (id := 16) [0, 1, 2, 3, 4, 5, 7, 6, 8, 9] [10, 11, 12, 13] mixed xC xD xD ?_ | fail))
      refine J_scope (α := Unit) 0 (fun _ => 0) (fun _ => False) (fun _ => []) (fun _ => []) rfl rfl ?_ (fun _ h => h.elim)
      simp only [List.map_cons, List.map_nil, List.cons_append, List.nil_append]
      (repeat' (first | ((with_reducible apply gL); (first | refine yL0 ?_ | refine yL ?_ | ((with_reducible apply gL_go); (first | (refine JL_goq (hC) (hφ := (by (try simp only [List.cons_append, List.nil_append]); exact fun w hr => (hK w hr.1).comms)) (h := ?_); rintro _ _ ⟨rfl, rfl⟩; try simp only [List.cons_append, List.nil_append]) | (refine JL_goq (hQ) (hφ := (by (try simp only [List.cons_append, List.nil_append]); exact fun w hr => (hK w hr.1).comms)) (h := ?_); rintro _ _ ⟨ad3, c3, rfl, rfl⟩; try simp only [List.cons_append, List.nil_append]) | fail)) | (refine yM ?_; intro _) | fail)) | ((with_reducible apply gD); (first | (refine JD_nil ?_; try simp only [List.cons_append, List.nil_append]) | (refine JD_bar ?_; try simp only [List.cons_append, List.nil_append]) | ((with_reducible apply gD_c_append); (first | (refine JD_ap1 (z := s.n) (tabE etab_ok xR) xR xR xA xA xC xR xL xR (by omega) xR ?_; intro ad4 c4 _ _) | fail)) | refine yD ?_ | ((with_reducible apply gD_go); (first | (refine JD_goq (hC) (hφ := (by (try simp only [List.cons_append, List.nil_append]); exact fun w hr => (hK w hr.1).comms)) (h := ?_); rintro _ _ ⟨rfl, rfl⟩; try simp only [List.cons_append, List.nil_append]) | (refine JD_goq (hQ) (hφ := (by (try simp only [List.cons_append, List.nil_append]); exact fun w hr => (hK w hr.1).comms)) (h := ?_); rintro _ _ ⟨ad3, c3, rfl, rfl⟩; try simp only [List.cons_append, List.nil_append]) | fail)) | (refine yE ?_; intro _) | (refine yB ?_; intro _ _ _ _) | fail)) | refine yJ ?_ | ((with_reducible apply gJ_if); (first | (refine J_if xR ?_ ?_ <;> intro _ <;> (try (exfalso; first | contradiction | omega))) | (refine J_ifb xR ?_ ?_ <;> (intro hgb; subst hgb)) | (refine J_ifb xR ?_ ?_ <;> intro _) | fail)) | refine J_draw (id := 9) [0, 1, 2, 3, 4, 5, 6, 7] [8, 9, 10, 11, 12, 13] mixed xC xD xD ?_ | refine J_draw (id := 12) [0, 1, 2, 3, 4, 5, 6] [7, 8, 9, 10] mixed xC xD xD ?_ | refine J_draw (id := 13) [0, 1, 2, 3, 4, 5, 6] [7, 8, 9, 10] mixed xC xD xD ?_ | refine J_draw (id := 14) [0, 1, 2, 3, 4, 5] [6] mixed xC xD xD ?_ | refine J_draw (id := 16) [0, 1, 2, 3, 4, 5, 7, 6, 8, 9] [10, 11, 12, 13] mixed xC xD xD ?_ | fail))
      all_goals (first | (exfalso; omega) | skip)
      have hll : (d.comms ++ [s.n]).length = d.comms.length + 1 := by simp
      refine J_ret1 rfl (by rfl) fun w H => ⟨_, ⟨{ d with comms := d.comms ++ [s.n], ca := ad4, cc := c4 }, true, at_comms hd (fun z hz => ?_) (by rw [hll]; omega) ad4 c4, rfl, rfl, rfl⟩, ?_⟩
      · rcases List.mem_append.1 hz with hz | hz
        · exact hd.num.comms z hz
        · obtain rfl := List.mem_singleton.1 hz; exact hn
      · have H2 := ow_comms (d := d) H hll xA
        rw [← hll] at H2
        exact H2.sel xZ
theorem do_drop (rb : Nat) (p : Pf) (d : At) (hd : AtF d) (s : Sp) (ho : s.op = 28) (hn : 0 ≤ s.n ∧ s.n ≤ 4294967295) : Pact Try.prog 39 #[.pointer (some ⟨rb, 0, none⟩), .agg (spC s).toArray] (fun w => AtV w d) [pts rb (routeC p d) 70] (DoR rb p d (doN 8 s.n s.m d.nf)) := by
  refine pact Try.func39 rfl Try.ntmps39 rfl ?_
  intro W K hK
  have hcl := hd.comms
  have hQ := cloneU_s d.ca d.cc d.comms (by omega)
  (repeat' (first | ((with_reducible apply gL); (first | refine yL0 ?_ | refine yL ?_ | (refine yM ?_; intro _) | fail)) | ((with_reducible apply gD); (first | (refine JD_nil ?_; try simp only [List.cons_append, List.nil_append]) | (refine JD_bar ?_; try simp only [List.cons_append, List.nil_append]) | refine yD ?_ | (refine yE ?_; intro _) | (refine yB ?_; intro _ _ _ _) | fail)) | refine yJ ?_ | ((with_reducible apply gJ_if); (first | (refine J_if xR ?_ ?_ <;> intro _ <;> (try (exfalso; first | contradiction | omega))) | (refine J_ifb xR ?_ ?_ <;> (intro hgb; subst hgb)) | (refine J_ifb xR ?_ ?_ <;> intro _) | fail)) | refine J_draw (id := 9) [0, 1, 2, 3, 4, 5, 6, 7] [8, 9, 10, 11, 12, 13] mixed xC xD xD ?_ | refine J_draw (id := 12) [0, 1, 2, 3, 4, 5, 6] [7, 8, 9, 10] mixed xC xD xD ?_ | refine J_draw (id := 13) [0, 1, 2, 3, 4, 5, 6] [7, 8, 9, 10] mixed xC xD xD ?_ | refine J_draw (id := 14) [0, 1, 2, 3, 4, 5] [6] mixed xC xD xD ?_ | refine J_draw (id := 16) [0, 1, 2, 3, 4, 5, 7, 6, 8, 9] [10, 11, 12, 13] mixed xC xD xD ?_ | fail))
  refine J_scope (α := Unit) 0 (fun _ => 0) (fun _ => False) (fun _ => []) (fun _ => []) rfl rfl ?_ (fun _ h => h.elim)
  simp only [List.map_cons, List.map_nil, List.cons_append, List.nil_append]
  (repeat' (first | ((with_reducible apply gL); (first | refine yL0 ?_ | refine yL ?_ | ((with_reducible apply gL_go); (first | (refine JL_goq (hQ) (hφ := (by (try simp only [List.cons_append, List.nil_append]); exact fun w hr => (hK w hr.1).comms)) (h := ?_); rintro _ _ ⟨ad3, c3, rfl, rfl⟩; try simp only [List.cons_append, List.nil_append]) | (refine JL_goq (deleteU_s ad3 c3 d.comms _ s.n (by omega)) (hφ := xF) (h := ?_); rintro _ _ ⟨ad4, c4, rfl, rfl⟩; try simp only [List.cons_append, List.nil_append]) | fail)) | (refine yM ?_; intro _) | fail)) | ((with_reducible apply gD); (first | (refine JD_nil ?_; try simp only [List.cons_append, List.nil_append]) | (refine JD_bar ?_; try simp only [List.cons_append, List.nil_append]) | refine yD ?_ | ((with_reducible apply gD_go); (first | (refine JD_goq (hQ) (hφ := (by (try simp only [List.cons_append, List.nil_append]); exact fun w hr => (hK w hr.1).comms)) (h := ?_); rintro _ _ ⟨ad3, c3, rfl, rfl⟩; try simp only [List.cons_append, List.nil_append]) | (refine JD_goq (deleteU_s ad3 c3 d.comms _ s.n (by omega)) (hφ := xF) (h := ?_); rintro _ _ ⟨ad4, c4, rfl, rfl⟩; try simp only [List.cons_append, List.nil_append]) | fail)) | (refine yE ?_; intro _) | (refine yB ?_; intro _ _ _ _) | fail)) | refine yJ ?_ | ((with_reducible apply gJ_if); (first | (refine J_if xR ?_ ?_ <;> intro _ <;> (try (exfalso; first | contradiction | omega))) | (refine J_ifb xR ?_ ?_ <;> (intro hgb; subst hgb)) | (refine J_ifb xR ?_ ?_ <;> intro _) | fail)) | refine J_draw (id := 9) [0, 1, 2, 3, 4, 5, 6, 7] [8, 9, 10, 11, 12, 13] mixed xC xD xD ?_ | refine J_draw (id := 12) [0, 1, 2, 3, 4, 5, 6] [7, 8, 9, 10] mixed xC xD xD ?_ | refine J_draw (id := 13) [0, 1, 2, 3, 4, 5, 6] [7, 8, 9, 10] mixed xC xD xD ?_ | refine J_draw (id := 14) [0, 1, 2, 3, 4, 5] [6] mixed xC xD xD ?_ | refine J_draw (id := 16) [0, 1, 2, 3, 4, 5, 7, 6, 8, 9] [10, 11, 12, 13] mixed xC xD xD ?_ | fail))
  all_goals (first | (exfalso; omega) | skip)
  have hll := delU_len s.n d.comms
  refine J_ret1 rfl (by rfl) fun w H => ⟨_, ⟨{ d with comms := delU s.n d.comms, ca := ad4, cc := c4 }, true, at_comms hd (fun z hz => hd.num.comms z (List.mem_filter.1 hz).1) (Nat.le_trans hll (by omega)) ad4 c4, rfl, rfl, rfl⟩, ?_⟩
  exact (ow_comms (d := d) H rfl xA).sel xZ
theorem do_clear (rb : Nat) (p : Pf) (d : At) (hd : AtF d) (s : Sp) (ho : s.op = 29) (hn : 0 ≤ s.n ∧ s.n ≤ 4294967295) : Pact Try.prog 39 #[.pointer (some ⟨rb, 0, none⟩), .agg (spC s).toArray] (fun w => AtV w d) [pts rb (routeC p d) 70] (DoR rb p d (doN 9 s.n s.m d.nf)) := by
  refine pact Try.func39 rfl Try.ntmps39 rfl ?_
  intro W K hK
  have hQ := cloneU_s none 0 [] (by simp)
  have hD := fun a3 c3 db => deleteU_s a3 c3 [] db s.n (by simp)
  simp only [List.length_nil, show delU s.n [] = [] from rfl] at hQ hD
  (repeat' (first | ((with_reducible apply gL); (first | refine yL0 ?_ | refine yL ?_ | (refine yM ?_; intro _) | fail)) | ((with_reducible apply gD); (first | (refine JD_nil ?_; try simp only [List.cons_append, List.nil_append]) | (refine JD_bar ?_; try simp only [List.cons_append, List.nil_append]) | refine yD ?_ | (refine yE ?_; intro _) | (refine yB ?_; intro _ _ _ _) | fail)) | refine yJ ?_ | ((with_reducible apply gJ_if); (first | (refine J_if xR ?_ ?_ <;> intro _ <;> (try (exfalso; first | contradiction | omega))) | (refine J_ifb xR ?_ ?_ <;> (intro hgb; subst hgb)) | (refine J_ifb xR ?_ ?_ <;> intro _) | fail)) | refine J_draw (id := 9) [0, 1, 2, 3, 4, 5, 6, 7] [8, 9, 10, 11, 12, 13] mixed xC xD xD ?_ | refine J_draw (id := 12) [0, 1, 2, 3, 4, 5, 6] [7, 8, 9, 10] mixed xC xD xD ?_ | refine J_draw (id := 13) [0, 1, 2, 3, 4, 5, 6] [7, 8, 9, 10] mixed xC xD xD ?_ | refine J_draw (id := 14) [0, 1, 2, 3, 4, 5] [6] mixed xC xD xD ?_ | refine J_draw (id := 16) [0, 1, 2, 3, 4, 5, 7, 6, 8, 9] [10, 11, 12, 13] mixed xC xD xD ?_ | fail))
  refine J_scope (α := Unit) 0 (fun _ => 0) (fun _ => False) (fun _ => []) (fun _ => []) rfl rfl ?_ (fun _ h => h.elim)
  simp only [List.map_cons, List.map_nil, List.cons_append, List.nil_append]
  (repeat' (first | ((with_reducible apply gL); (first | refine yL0 ?_ | refine yL ?_ | ((with_reducible apply gL_go); (first | (refine JL_goq (hQ) (hφ := (by (try simp only [List.cons_append, List.nil_append]); exact fun w hr => Vw.nil w 1)) (h := ?_); rintro _ _ ⟨ad3, c3, rfl, rfl⟩; try simp only [List.cons_append, List.nil_append]) | (refine JL_goq (hD ad3 c3 _) (hφ := xF) (h := ?_); rintro _ _ ⟨ad4, c4, rfl, rfl⟩; try simp only [List.cons_append, List.nil_append]) | fail)) | (refine yM ?_; intro _) | fail)) | ((with_reducible apply gD); (first | (refine JD_nil ?_; try simp only [List.cons_append, List.nil_append]) | (refine JD_bar ?_; try simp only [List.cons_append, List.nil_append]) | refine yD ?_ | ((with_reducible apply gD_go); (first | (refine JD_goq (hQ) (hφ := (by (try simp only [List.cons_append, List.nil_append]); exact fun w hr => Vw.nil w 1)) (h := ?_); rintro _ _ ⟨ad3, c3, rfl, rfl⟩; try simp only [List.cons_append, List.nil_append]) | (refine JD_goq (hD ad3 c3 _) (hφ := xF) (h := ?_); rintro _ _ ⟨ad4, c4, rfl, rfl⟩; try simp only [List.cons_append, List.nil_append]) | fail)) | (refine yE ?_; intro _) | (refine yB ?_; intro _ _ _ _) | fail)) | refine yJ ?_ | ((with_reducible apply gJ_if); (first | (refine J_if xR ?_ ?_ <;> intro _ <;> (try (exfalso; first | contradiction | omega))) | (refine J_ifb xR ?_ ?_ <;> (intro hgb; subst hgb)) | (refine J_ifb xR ?_ ?_ <;> intro _) | fail)) | refine J_draw (id := 9) [0, 1, 2, 3, 4, 5, 6, 7] [8, 9, 10, 11, 12, 13] mixed xC xD xD ?_ | refine J_draw (id := 12) [0, 1, 2, 3, 4, 5, 6] [7, 8, 9, 10] mixed xC xD xD ?_ | refine J_draw (id := 13) [0, 1, 2, 3, 4, 5, 6] [7, 8, 9, 10] mixed xC xD xD ?_ | refine J_draw (id := 14) [0, 1, 2, 3, 4, 5] [6] mixed xC xD xD ?_ | refine J_draw (id := 16) [0, 1, 2, 3, 4, 5, 7, 6, 8, 9] [10, 11, 12, 13] mixed xC xD xD ?_ | fail))
  all_goals (first | (exfalso; omega) | skip)
  refine J_ret1 rfl (by rfl) fun w H => ⟨_, ⟨{ d with comms := [], ca := ad4, cc := c4 }, true, at_comms hd (fun z hz => by cases hz) (by simp) ad4 c4, rfl, rfl, rfl⟩, ?_⟩
  exact (ow_comms (d := d) (l := []) (m := 0) H rfl xA).sel xZ
theorem len_tot {P : Pa} (h : ckP P 0 = true) : P.length ≤ tot P := by
  have h1 := ((ckP_iff P 0 (by omega)).1 h).1
  clear h
  induction P with
  | nil => simp
  | cons s r ih =>
    have h2 := ih fun x hx => h1 x (List.mem_cons_of_mem _ hx)
    have h3 := h1 s (by simp)
    simp only [okS, decide_eq_true_eq] at h3
    simp only [tot, List.length_cons]
    omega
theorem preN_num {P : Pa} {n : Int} {m : Nat} (hn : 0 ≤ n ∧ n ≤ 4294967295) (hm : m ≤ 10) (ht : tot P ≤ 64) (h : ∀ s ∈ P, ∀ z ∈ s.2, U32 z) : ∀ s ∈ preN n m P, s.2.length ≤ 35184372088832 ∧ ∀ z ∈ s.2, U32 z := by
  have hr : ∀ z ∈ List.replicate m n, U32 z := fun z hz => by rw [List.eq_of_mem_replicate hz]; exact hn
  have hl : ∀ s ∈ P, s.2.length ≤ 64 := fun s hs => by have := tot_mem hs; omega
  have key : ∀ s ∈ (false, List.replicate m n) :: P, s.2.length ≤ 35184372088832 ∧ ∀ z ∈ s.2, U32 z := by
    intro s hs
    rcases List.mem_cons.1 hs with rfl | hs
    · exact ⟨by simp; omega, hr⟩
    · exact ⟨by have := hl s hs; omega, h s hs⟩
  match P, h, hl, key with
  | [], _, _, key => exact key
  | (true, l) :: r, _, _, key => exact key
  | (false, l) :: r, h, hl, _ =>
    intro s hs
    rcases List.mem_cons.1 hs with rfl | hs
    · refine ⟨by have := hl (false, l) (by simp); simp at this ⊢; omega, fun z hz => ?_⟩
      rcases List.mem_append.1 hz with hz | hz
      · exact hr z hz
      · exact h (false, l) (by simp) z hz
    · exact ⟨by have := hl s (List.mem_cons_of_mem _ hs); omega, h s (List.mem_cons_of_mem _ hs)⟩
theorem preN_len (n : Int) (m : Nat) (P : Pa) : (preN n m P).length ≤ P.length + 1 := by
  match P with
  | [] => simp [preN]
  | (true, l) :: r => simp [preN]
  | (false, l) :: r => simp [preN]
theorem pre_sg {p q : List Sg} {n : Int} {m : Nat} (hn : 0 ≤ n ∧ n ≤ 4294967295) (hm : m ≤ 10) (hck : ckP (pN p) 0 = true) (hp : ∀ s ∈ p, SgN s) (hq : pN q = preN n m (pN p)) : q.length ≤ 1000 ∧ ∀ s ∈ q, SgN s := by
  have ht := ((ckP_iff (pN p) 0 (by omega)).1 hck).2
  have hl := len_tot hck
  have h1 := preN_len n m (pN p)
  have h2 := congrArg List.length hq
  simp only [pN, List.length_map] at h1 h2 hl ht
  refine ⟨by omega, fun s hs => ?_⟩
  have h3 := preN_num (P := pN p) hn hm (by simp only [pN]; omega) (fun t ht => by obtain ⟨u, hu, rfl⟩ := List.mem_map.1 ht; exact (hp u hu).2)
  exact h3 (s.set, s.as_) (hq ▸ List.mem_map.2 ⟨s, hs, rfl⟩)
theorem do_prepend (rb : Nat) (p : Pf) (d : At) (hd : AtF d) (s : Sp) (ho : s.op = 24) (hn : 1 ≤ s.n ∧ s.n ≤ 4294967295) (hm : 1 ≤ s.m ∧ s.m ≤ 10) : Pact Try.prog 39 #[.pointer (some ⟨rb, 0, none⟩), .agg (spC s).toArray] (fun w => AtV w d) [pts rb (routeC p d) 70] (DoR rb p d (doN 4 s.n s.m d.nf)) := by
  refine pact Try.func39 rfl Try.ntmps39 rfl ?_
  intro W K hK
  have hpl := hd.path
  have e4 : doN 4 s.n s.m d.nf = if ckP (pN d.path) 0 = true ∧ s.m ≤ 64 - (tot (pN d.path) : Int) then some { d.nf with path := preN s.n s.m.toNat (pN d.path) } else none := rfl
  by_cases hok : ckP (pN d.path) 0 = true ∧ s.m ≤ 64 - (tot (pN d.path) : Int)
  · rw [if_pos hok] at e4
    rw [e4]
    obtain ⟨m, hmm⟩ : ∃ m : Nat, s.m = m := ⟨s.m.toNat, by omega⟩
    have hP := prepend_yes d.pa d.pc d.path s.n m (by omega) hd.num.path hn (by omega) hok.1 (by omega)
    rw [← hmm] at hP
    rw [show s.m.toNat = m by omega]
    (repeat' (first | ((with_reducible apply gL); (first | refine yL0 ?_ | refine yL ?_ | (refine yM ?_; intro _) | fail)) | ((with_reducible apply gD); (first | (refine JD_nil ?_; try simp only [List.cons_append, List.nil_append]) | (refine JD_bar ?_; try simp only [List.cons_append, List.nil_append]) | refine yD ?_ | (refine yE ?_; intro _) | (refine yB ?_; intro _ _ _ _) | fail)) | refine yJ ?_ | ((with_reducible apply gJ_if); (first | (refine J_if xR ?_ ?_ <;> intro _ <;> (try (exfalso; first | contradiction | omega))) | (refine J_ifb xR ?_ ?_ <;> (intro hgb; subst hgb)) | (refine J_ifb xR ?_ ?_ <;> intro _) | fail)) | refine J_draw (id := 9) [0, 1, 2, 3, 4, 5, 6, 7] [8, 9, 10, 11, 12, 13] mixed xC xD xD ?_ | refine J_draw (id := 12) [0, 1, 2, 3, 4, 5, 6] [7, 8, 9, 10] mixed xC xD xD ?_ | refine J_draw (id := 13) [0, 1, 2, 3, 4, 5, 6] [7, 8, 9, 10] mixed xC xD xD ?_ | refine J_draw (id := 14) [0, 1, 2, 3, 4, 5] [6] mixed xC xD xD ?_ | refine J_draw (id := 16) [0, 1, 2, 3, 4, 5, 7, 6, 8, 9] [10, 11, 12, 13] mixed xC xD xD ?_ | fail))
    refine J_scope (α := Unit) 0 (fun _ => 0) (fun _ => False) (fun _ => []) (fun _ => []) rfl rfl ?_ (fun _ h => h.elim)
    simp only [List.map_cons, List.map_nil, List.cons_append, List.nil_append]
    (repeat' (first | ((with_reducible apply gL); (first | refine yL0 ?_ | refine yL ?_ | ((with_reducible apply gL_go); (first | (refine JL_goq (hP) (hφ := (by (try simp only [List.cons_append, List.nil_append]); exact fun w hr => (hK w hr.1).path)) (h := ?_); rintro _ _ ⟨a', c', q, rfl, hq, rfl⟩; try simp only [List.cons_append, List.nil_append]) | fail)) | (refine yM ?_; intro _) | fail)) | ((with_reducible apply gD); (first | (refine JD_nil ?_; try simp only [List.cons_append, List.nil_append]) | (refine JD_bar ?_; try simp only [List.cons_append, List.nil_append]) | refine yD ?_ | ((with_reducible apply gD_go); (first | (refine JD_goq (hP) (hφ := (by (try simp only [List.cons_append, List.nil_append]); exact fun w hr => (hK w hr.1).path)) (h := ?_); rintro _ _ ⟨a', c', q, rfl, hq, rfl⟩; try simp only [List.cons_append, List.nil_append]) | fail)) | (refine yE ?_; intro _) | (refine yB ?_; intro _ _ _ _) | fail)) | refine yJ ?_ | ((with_reducible apply gJ_if); (first | (refine J_if xR ?_ ?_ <;> intro _ <;> (try (exfalso; first | contradiction | omega))) | (refine J_ifb xR ?_ ?_ <;> (intro hgb; subst hgb)) | (refine J_ifb xR ?_ ?_ <;> intro _) | fail)) | refine J_draw (id := 9) [0, 1, 2, 3, 4, 5, 6, 7] [8, 9, 10, 11, 12, 13] mixed xC xD xD ?_ | refine J_draw (id := 12) [0, 1, 2, 3, 4, 5, 6] [7, 8, 9, 10] mixed xC xD xD ?_ | refine J_draw (id := 13) [0, 1, 2, 3, 4, 5, 6] [7, 8, 9, 10] mixed xC xD xD ?_ | refine J_draw (id := 14) [0, 1, 2, 3, 4, 5] [6] mixed xC xD xD ?_ | refine J_draw (id := 16) [0, 1, 2, 3, 4, 5, 7, 6, 8, 9] [10, 11, 12, 13] mixed xC xD xD ?_ | fail))
    all_goals (first | (exfalso; omega) | skip)
    obtain ⟨hq1, hq2⟩ := pre_sg (by omega) (by omega) hok.1 hd.num.path hq
    refine J_ret1 rfl (by rfl) fun w H => ⟨_, ⟨{ d with path := q, pa := a', pc := c' }, true, ⟨⟨hd.num.origin, hd.num.next, hd.num.med, hd.num.loc, hd.num.makerAS, hd.num.maker, hq2, hd.num.comms, hd.num.others⟩, hq1, hd.comms, hd.others⟩, rfl, ?_, rfl⟩, ?_⟩
    · rw [← hq]; rfl
    · exact (Ow.has (M := [has (fun w => PathV w a' c' q)]) (φ := fun w => AtV w d → AtV w { d with path := q, pa := a', pc := c' }) H (.cons xA .nil) (fun w hr h => ⟨hr.has .here, h.comms, h.others⟩)).sel xZ
  · rw [if_neg hok] at e4
    rw [e4]
    have hP := prepend_no d.pa d.pc d.path s.n s.m (by omega) hd.num.path hn hm hok
    (repeat' (first | ((with_reducible apply gL); (first | refine yL0 ?_ | refine yL ?_ | (refine yM ?_; intro _) | fail)) | ((with_reducible apply gD); (first | (refine JD_nil ?_; try simp only [List.cons_append, List.nil_append]) | (refine JD_bar ?_; try simp only [List.cons_append, List.nil_append]) | refine yD ?_ | (refine yE ?_; intro _) | (refine yB ?_; intro _ _ _ _) | fail)) | refine yJ ?_ | ((with_reducible apply gJ_if); (first | (refine J_if xR ?_ ?_ <;> intro _ <;> (try (exfalso; first | contradiction | omega))) | (refine J_ifb xR ?_ ?_ <;> (intro hgb; subst hgb)) | (refine J_ifb xR ?_ ?_ <;> intro _) | fail)) | refine J_draw (id := 9) [0, 1, 2, 3, 4, 5, 6, 7] [8, 9, 10, 11, 12, 13] mixed xC xD xD ?_ | refine J_draw (id := 12) [0, 1, 2, 3, 4, 5, 6] [7, 8, 9, 10] mixed xC xD xD ?_ | refine J_draw (id := 13) [0, 1, 2, 3, 4, 5, 6] [7, 8, 9, 10] mixed xC xD xD ?_ | refine J_draw (id := 14) [0, 1, 2, 3, 4, 5] [6] mixed xC xD xD ?_ | refine J_draw (id := 16) [0, 1, 2, 3, 4, 5, 7, 6, 8, 9] [10, 11, 12, 13] mixed xC xD xD ?_ | fail))
    refine J_scope (α := Unit) 0 (fun _ => 0) (fun _ => True) (fun _ => []) (fun _ => [pts rb (routeC p d) 70]) rfl rfl ?_ ?_
    · simp only [List.map_cons, List.map_nil, List.cons_append, List.nil_append]
      (repeat' (first | ((with_reducible apply gL); (first | refine yL0 ?_ | refine yL ?_ | ((with_reducible apply gL_go); (first | (refine JL_goq (hP) (hφ := (by (try simp only [List.cons_append, List.nil_append]); exact fun w hr => (hK w hr.1).path)) (h := ?_); rintro _ _ ⟨e, he, rfl, rfl⟩; try simp only [List.cons_append, List.nil_append]) | fail)) | (refine yM ?_; intro _) | fail)) | ((with_reducible apply gD); (first | (refine JD_nil ?_; try simp only [List.cons_append, List.nil_append]) | (refine JD_bar ?_; try simp only [List.cons_append, List.nil_append]) | refine yD ?_ | ((with_reducible apply gD_go); (first | (refine JD_goq (hP) (hφ := (by (try simp only [List.cons_append, List.nil_append]); exact fun w hr => (hK w hr.1).path)) (h := ?_); rintro _ _ ⟨e, he, rfl, rfl⟩; try simp only [List.cons_append, List.nil_append]) | fail)) | (refine yE ?_; intro _) | (refine yB ?_; intro _ _ _ _) | fail)) | refine yJ ?_ | ((with_reducible apply gJ_if); (first | (refine J_if xR ?_ ?_ <;> intro _ <;> (try (exfalso; first | contradiction | omega))) | (refine J_ifb xR ?_ ?_ <;> (intro hgb; subst hgb)) | (refine J_ifb xR ?_ ?_ <;> intro _) | fail)) | refine J_draw (id := 9) [0, 1, 2, 3, 4, 5, 6, 7] [8, 9, 10, 11, 12, 13] mixed xC xD xD ?_ | refine J_draw (id := 12) [0, 1, 2, 3, 4, 5, 6] [7, 8, 9, 10] mixed xC xD xD ?_ | refine J_draw (id := 13) [0, 1, 2, 3, 4, 5, 6] [7, 8, 9, 10] mixed xC xD xD ?_ | refine J_draw (id := 14) [0, 1, 2, 3, 4, 5] [6] mixed xC xD xD ?_ | refine J_draw (id := 16) [0, 1, 2, 3, 4, 5, 7, 6, 8, 9] [10, 11, 12, 13] mixed xC xD xD ?_ | fail))
      all_goals (first | (exfalso; omega) | skip)
      exact J_meet () trivial trivial (fun w H => H.sel xZ)
    · rintro ⟨⟩ _
      simp only [List.map_cons, List.map_nil, List.cons_append, List.nil_append]
      (repeat' (first | ((with_reducible apply gL); (first | refine yL0 ?_ | refine yL ?_ | (refine yM ?_; intro _) | fail)) | ((with_reducible apply gD); (first | (refine JD_nil ?_; try simp only [List.cons_append, List.nil_append]) | (refine JD_bar ?_; try simp only [List.cons_append, List.nil_append]) | refine yD ?_ | (refine yE ?_; intro _) | (refine yB ?_; intro _ _ _ _) | fail)) | refine yJ ?_ | ((with_reducible apply gJ_if); (first | (refine J_if xR ?_ ?_ <;> intro _ <;> (try (exfalso; first | contradiction | omega))) | (refine J_ifb xR ?_ ?_ <;> (intro hgb; subst hgb)) | (refine J_ifb xR ?_ ?_ <;> intro _) | fail)) | refine J_draw (id := 9) [0, 1, 2, 3, 4, 5, 6, 7] [8, 9, 10, 11, 12, 13] mixed xC xD xD ?_ | refine J_draw (id := 12) [0, 1, 2, 3, 4, 5, 6] [7, 8, 9, 10] mixed xC xD xD ?_ | refine J_draw (id := 13) [0, 1, 2, 3, 4, 5, 6] [7, 8, 9, 10] mixed xC xD xD ?_ | refine J_draw (id := 14) [0, 1, 2, 3, 4, 5] [6] mixed xC xD xD ?_ | refine J_draw (id := 16) [0, 1, 2, 3, 4, 5, 7, 6, 8, 9] [10, 11, 12, 13] mixed xC xD xD ?_ | fail))
      exact J_ret1 rfl (by rfl) fun w H => do_same hd false rfl H xA
end Go.Proofs.Ytmbgbhambgoejaa.C
namespace Go.Pm
set_option linter.unusedSimpArgs false
set_option linter.unusedVariables false
open Go.RowKit
section
variable {P : Program} {n : Nat} {W : World} {K : Hl} {fn : Func} {Rr : Value → List HP → Prop} {tm : TM} {L R : List HP} {k : List It}
theorem J_retC2 {t u s : Tmp} {v x : Value} {ty T : TypeId} {b : Nat} {cs : List Value} (hr : fn.results = #[.cell t ty, .tmp u, .tmp s]) (hv : evT tm (.tmp t) = some (.pointer (some ⟨b, 0, none⟩))) (hu : evT tm (.tmp u) = some v) (hs : evT tm (.tmp s) = some x) (hm : Tk L (pts b cs T) R) (ht : rowTy P ty cs.length = true) (hk : ∀ w, Ow W K L w → ∃ L', Rr (.tuple #[.agg cs.toArray, v, x]) L' ∧ Ow W K L' w) (hd : decM (tget tm mkK) = [] := by rfl) : J P n W K (fpost P fn W K Rr) (.code .ret :: k) tm L := J_outR hd fun a w hf hO => by
  refine ⟨L, hO, fun w' H => ?_⟩
  obtain ⟨L', h1, h2⟩ := hk w' H
  exact ⟨_, by simp [results, hr, hf.get? hv, hf.get? hu, hf.get? hs, run_cellR H hm ht, Array.getD_eq_getD_getElem?, asAddr], L', h1, h2⟩
end
/-! Append onto a literal of one element. -/
section
variable {P : Program} {n : Nat} {W : World} {K : Hl} {F : Fp} {k : List It} {tm : TM} {L L' R S M M' : List HP} {T : TypeId} {pos : String} {af : Array Edge} {gd : Option (Nat × Bool)} {ops : Array Oper} {rest nx : List Oper} {d : Tmp}
variable {α : Type} {enc : α → List Value} {e : TypeId} {sz bytes : Nat}
theorem ar_one {W : World} {w : World} {g : Nat} {cs : List Value} {y : α} (H : Ow W K L w) (h : Tk L (pts g cs e) R) (hy : cs = enc y) (hl : ∀ x, (enc x).length = sz) : Ow W K (Ar e sz enc (.slice (some ⟨g, 0, none⟩) 1 1) [y] :: R) w := by
  subst hy
  rw [← flat_one enc y] at h
  exact Ow.arRow (m := 1) H h hl (Nat.le_refl _) (by unfold maxLen; simp)
theorem JL_appY {t : TypeId} {g m : Nat} {s x : Operand} {v : Value} {cs : List Value} (y : α) (fs : List α) (hi : elemInfo P t = some (e, sz, bytes)) (hs : evT tm s = some (.slice (some ⟨g, 0, none⟩) 1 1)) (hx : evT tm x = some v) (hm : Tk L (pts g cs e) R) (hy : cs = enc y) (hv : Src K R v sz m (flat enc fs)) (hok : elOk P t e sz bytes = true) (hl : ∀ x, (enc x).length = sz) (h1 : ∀ u ∈ flat enc fs, u.oneCell' = true) (hsz : (1 + m) * bytes ≤ 140737488355328)
    (hn : Nat.blt d n = true) (hg : wantF ops ⟨some d, .call ⟨.builtin .append, #[s, x], #[t, t]⟩, T, pos, af, gd⟩ (tget tm) = some true) (h : ∀ ad c, 1 + m ≤ c → c ≤ maxLen → JL P n W K F ops k rest ((d, .slice ad (1 + m) c) :: tm) (Ar e sz enc (.slice ad (1 + m) c) (y :: fs) :: R)) : JL P n W K F ops k (⟨some d, .call ⟨.builtin .append, #[s, x], #[t, t]⟩, T, pos, af, gd⟩ :: rest) tm L :=
  JL_a rfl hn hg (.cons hm .nil) (fun W' K' w a next hK hf hO hn => ae_app (es := [y]) (.ofOk hok) hs hx hv hl h1 (by simpa using hsz) W' K' w a next hK hf (ar_one hO .here hy hl) hn) (by
    rintro _ _ ⟨ad, c, h2, h3, rfl, rfl⟩
    exact h ad c h2 h3)
end
end Go.Pm
namespace Go.Proofs.Ytmbgbhambgoejaa.C
set_option linter.unusedSimpArgs false
set_option linter.unusedVariables false
set_option maxRecDepth 20000
set_option maxHeartbeats 4000000
open Go.RowKit Go.Pm

structure Lcc where
  q : List Sg
  ad : Option Addr
  cc : Nat
theorem pcopyO_s (a : Option Addr) (c : Nat) (p : List Sg) (n : Nat) (hn : p.length = n) (h8 : n ≤ 1000) (hsm : ∀ s ∈ p, SgN s) : Pact Try.prog 27 #[.slice a n c] (fun w => PathV w a c p) [] (fun v L' => ∃ q a' c', v = .slice a' q.length c' ∧ pN q = pN p ∧ L' = [Ar 56 2 sgC (.slice a' q.length c') q, has (fun w => ∀ s ∈ q, segV w s)]) := by
  subst hn
  refine pact Try.func27 rfl Try.ntmps27 rfl ?_
  intro W K hK
  have hv : Kn K (fun w => Vw w (.slice a p.length c) 2 p.length (flat sgC p)) := hK.imp fun _ h => h.vw
  (repeat' (first | ((with_reducible apply gL); (first | refine yL0 ?_ | refine yL ?_ | (refine yM ?_; intro _) | fail)) | ((with_reducible apply gD); (first | (refine JD_nil ?_; try simp only [List.cons_append, List.nil_append]) | (refine JD_bar ?_; try simp only [List.cons_append, List.nil_append]) | refine yD ?_ | (refine yE ?_; intro _) | (refine yB ?_; intro _ _ _ _) | fail)) | refine yJ ?_ | ((with_reducible apply gJ_if); (first | (refine J_if xR ?_ ?_ <;> intro _ <;> (try (exfalso; first | contradiction | omega))) | (refine J_ifb xR ?_ ?_ <;> (intro hgb; subst hgb)) | (refine J_ifb xR ?_ ?_ <;> intro _) | fail)) | refine J_draw (id := 5) [0, 1, 2, 3, 4, 5, 7, 8, 9, 10, 11, 6, 12, 13, 14] [15, 16] mixed xC xD xD ?_ | fail))
  rename_i b0
  refine J_loop (α := Lcc) ⟨[], some ⟨b0, 0, none⟩, 0⟩ (fun x => p.length - x.q.length) (fun x => x.q.length ≤ p.length ∧ pN x.q = pN (p.take x.q.length)) (fun x => [(0, .slice a p.length c), (3, .slice x.ad x.q.length x.cc), (4, .int .i64 x.q.length)])
    (fun x => [Ar 56 2 sgC (.slice x.ad x.q.length x.cc) x.q, has (fun w => ∀ s ∈ x.q, segV w s)]) ⟨Nat.zero_le _, rfl⟩ ⟨rfl, rfl, rfl, trivial⟩ (fun w H => (Ow.hasTrue (φ := fun w => ∀ s ∈ ([] : List Sg), segV w s) (H.arLit0 .here) (by intro _ _ h; exact absurd h List.not_mem_nil)).sel xZ) ?_
  rintro ⟨q, ad, cc⟩ ⟨hq, hsame⟩
  dsimp only at hq hsame ⊢
  by_cases hlt : q.length < p.length
  · obtain ⟨s, hs⟩ : ∃ s, p[q.length]? = some s := ⟨_, List.getElem?_eq_getElem hlt⟩
    have hm := List.mem_of_getElem? hs
    have hsn := hsm s hm
    have hsn1 := hsn.1
    have hu : Kn K (fun w => Vw w (.slice s.a s.as_.length s.c) 1 s.as_.length (flat u32C s.as_)) := hK.imp fun _ h => h.segs s hm
    (repeat' (first | ((with_reducible apply gL); (first | refine yL0 ?_ | refine yL ?_ | (refine yM ?_; intro _) | fail)) | ((with_reducible apply gD); (first | (refine JD_nil ?_; try simp only [List.cons_append, List.nil_append]) | (refine JD_bar ?_; try simp only [List.cons_append, List.nil_append]) | ((with_reducible apply gD_c_append); (first | ((refine JD_appL u32C (tabE etab_ok (by rfl)) (by rfl) (by rfl) xA (Src.kn hu) (by decide +kernel) (by intro _; rfl) (all_one _ (by intro _ _; rfl)) (by omega) (by rfl) ?_; intro ad2 c2 _ _)) | ((refine JD_ap1 (z := Sg.mk s.set ad2 c2 s.as_) (tabE etab_ok (by rfl)) (by rfl) (by rfl) xA xA (by decide +kernel) (by rfl) (by intro _; rfl) (by rfl) (by omega) (by rfl) ?_; intro ad3 c3 _ _)) | fail)) | refine yD ?_ | (refine yE ?_; intro _) | (refine yB ?_; intro _ _ _ _) | fail)) | refine yJ ?_ | ((with_reducible apply gJ_if); (first | (refine J_if xR ?_ ?_ <;> intro _ <;> (try (exfalso; first | contradiction | omega))) | (refine J_ifb xR ?_ ?_ <;> (intro hgb; subst hgb)) | (refine J_ifb xR ?_ ?_ <;> intro _) | fail)) | refine J_draw (id := 5) [0, 1, 2, 3, 4, 5, 7, 8, 9, 10, 11, 6, 12, 13, 14] [15, 16] mixed xC xD xD ?_ | fail))
    refine J_again ⟨q ++ [Sg.mk s.set ad2 c2 s.as_], ad3, c3⟩ (by simp; omega) ⟨by simp; omega, ?_⟩ ⟨rfl, ?_, ?_, trivial⟩ (fun w H => ?_)
    · simp only [List.length_append, List.length_cons, List.length_nil]
      rw [take_snoc hs]
      unfold pN at hsame ⊢
      rw [List.map_append, List.map_append, hsame]
      rfl
    · show some _ = some _
      simp
    · show some _ = some _
      simp
    · simp only [List.length_append, List.length_cons, List.length_nil]
      refine (Ow.has (M := [Ar 25 1 u32C (.slice ad2 s.as_.length c2) s.as_, has (fun w => ∀ s ∈ q, segV w s)]) (φ := fun w => ∀ x ∈ q ++ [Sg.mk s.set ad2 c2 s.as_], segV w x) H xZ ?_).sel xZ
      intro w hr x hx
      rcases List.mem_append.1 hx with hx | hx
      · exact hr.has (.there .here) x hx
      · obtain rfl := List.mem_singleton.1 hx
        exact Src.ar .here w hr
  · obtain hql : q.length = p.length := by omega
    rw [hql, List.take_length] at hsame
    (repeat' (first | ((with_reducible apply gL); (first | refine yL0 ?_ | refine yL ?_ | (refine yM ?_; intro _) | fail)) | ((with_reducible apply gD); (first | (refine JD_nil ?_; try simp only [List.cons_append, List.nil_append]) | (refine JD_bar ?_; try simp only [List.cons_append, List.nil_append]) | refine yD ?_ | (refine yE ?_; intro _) | (refine yB ?_; intro _ _ _ _) | fail)) | refine yJ ?_ | ((with_reducible apply gJ_if); (first | (refine J_if xR ?_ ?_ <;> intro _ <;> (try (exfalso; first | contradiction | omega))) | (refine J_ifb xR ?_ ?_ <;> (intro hgb; subst hgb)) | (refine J_ifb xR ?_ ?_ <;> intro _) | fail)) | refine J_draw (id := 5) [0, 1, 2, 3, 4, 5, 7, 8, 9, 10, 11, 6, 12, 13, 14] [15, 16] mixed xC xD xD ?_ | fail))
    exact J_ret1 rfl (by rfl) fun w H => ⟨_, ⟨q, ad, cc, rfl, hsame, rfl⟩, H.sel xZ⟩
def preI (n : Int) : Nat → Pa → Pa
  | 0, P => P
  | i + 1, P => preN n (i + 1) P
theorem preI_succ (n : Int) (i : Nat) (P : Pa) : preI n (i + 1) P = preN n 1 (preI n i P) := by
  cases i with
  | zero => rfl
  | succ i =>
    show preN n (i + 2) P = preN n 1 (preN n (i + 1) P)
    match P with
    | [] => rfl
    | (true, l) :: r => rfl
    | (false, l) :: r => rfl
theorem preI_len (n : Int) (i : Nat) (P : Pa) : (preI n i P).length ≤ P.length + 1 := by
  cases i with
  | zero => simp [preI]
  | succ i => exact preN_len n (i + 1) P
theorem pN_head {q : List Sg} {l : List Int} {r : Pa} (h : pN q = (false, l) :: r) : ∃ s q', q = s :: q' ∧ s.set = false ∧ s.as_ = l ∧ pN q' = r := by
  cases q with
  | nil => cases h
  | cons s q' =>
    simp only [pN, List.map_cons, List.cons.injEq, Prod.mk.injEq] at h
    exact ⟨s, q', rfl, h.1.1, h.1.2, h.2⟩
theorem rprepend_no (a : Option Addr) (c : Nat) (p : List Sg) (n m : Int) (h8 : p.length ≤ 1000) (hsm : ∀ s ∈ p, SgN s) (hn : 1 ≤ n ∧ n ≤ 4294967295) (hm : 1 ≤ m ∧ m ≤ 10) (hno : ¬ (ckP (pN p) 0 = true ∧ m ≤ 64 - (tot (pN p) : Int))) : Pact Try.prog 45 #[.slice a p.length c, .int .u32 n, .int .i64 m] (fun w => PathV w a c p) [] (fun u L' => ∃ e : Int, e ≠ 0 ∧ u = .tuple #[.slice none 0 0, .int .i64 e] ∧ L' = []) := by
  refine pact Try.func45 rfl Try.ntmps45 rfl ?_
  intro W K hK
  have hv : Kn K (fun w => Vw w (.slice a p.length c) 2 p.length (flat sgC p)) := hK.imp fun _ h => h.vw
  have hC := pcheck_s a c p h8 hsm
  rcases hck : ckP (pN p) 0 with _ | _
  all_goals rw [hck] at hC hno
  · (repeat' (first | ((with_reducible apply gL); (first | refine yL0 ?_ | refine yL ?_ | ((with_reducible apply gL_go); (first | (refine JL_goq (hC) (hφ := (by (try simp only [List.cons_append, List.nil_append]); exact fun w hr => hK w hr.1)) (h := ?_); rintro _ _ ⟨rfl, rfl⟩; try simp only [List.cons_append, List.nil_append]) | fail)) | (refine yM ?_; intro _) | (refine yA ?_; intro _ _ _ _) | ((with_reducible apply gL_gd); (first | (refine JL_guard xR xR ?_ ?_ <;> intro _ <;> (try (exfalso; first | contradiction | omega))) | (refine JL_guardb xR xR ?_ ?_ <;> (intro hgb; subst hgb)) | (refine JL_guardb xR xR ?_ ?_ <;> (intro hgb; fail_if_success (have : type_of% hgb := rfl))) | fail)) | fail)) | refine yJ ?_ | ((with_reducible apply gJ_if); (first | (refine J_if xR ?_ ?_ <;> intro _ <;> (try (exfalso; first | contradiction | omega))) | (refine J_ifb xR ?_ ?_ <;> (intro hgb; subst hgb)) | (refine J_ifb xR ?_ ?_ <;> intro _) | fail)) | fail))
    all_goals (first | (exfalso; omega) | skip)
    exact J_ret2 rfl (by rfl) (by rfl) fun w H => ⟨_, ⟨2, by decide, rfl, rfl⟩, H.sel .nil⟩
  · have hno2 : 64 - (tot (pN p) : Int) < m := by
      rcases Int.lt_or_le (64 - (tot (pN p) : Int)) m with h | h
      · exact h
      · exact absurd ⟨rfl, h⟩ hno
    (repeat' (first | ((with_reducible apply gL); (first | refine yL0 ?_ | refine yL ?_ | ((with_reducible apply gL_go); (first | (refine JL_goq (hC) (hφ := (by (try simp only [List.cons_append, List.nil_append]); exact fun w hr => hK w hr.1)) (h := ?_); rintro _ _ ⟨rfl, rfl⟩; try simp only [List.cons_append, List.nil_append]) | fail)) | (refine yM ?_; intro _) | (refine yA ?_; intro _ _ _ _) | ((with_reducible apply gL_gd); (first | (refine JL_guard xR xR ?_ ?_ <;> intro _ <;> (try (exfalso; first | contradiction | omega))) | (refine JL_guardb xR xR ?_ ?_ <;> (intro hgb; subst hgb)) | (refine JL_guardb xR xR ?_ ?_ <;> (intro hgb; fail_if_success (have : type_of% hgb := rfl))) | fail)) | fail)) | refine yJ ?_ | ((with_reducible apply gJ_if); (first | (refine J_if xR ?_ ?_ <;> intro _ <;> (try (exfalso; first | contradiction | omega))) | (refine J_ifb xR ?_ ?_ <;> (intro hgb; subst hgb)) | (refine J_ifb xR ?_ ?_ <;> intro _) | fail)) | fail))
    all_goals (first | (exfalso; omega) | skip)
    refine J_loop (α := Nat) 0 (fun x => p.length - x) (fun x => x ≤ p.length) (fun x => [(0, .slice a p.length c), (1, .int .u32 n), (2, .int .i64 m), (8, .int .i64 (tot (pN (p.take x)))), (9, .int .i64 x)]) (fun x => []) (Nat.zero_le _) ⟨rfl, rfl, rfl, rfl, rfl, trivial⟩ (fun w H => H) ?_
    rintro k hk
    have htk := tot_le (p.take k) (fun s hs => hsm s (List.take_subset _ _ hs))
    have hlk : (p.take k).length ≤ 1000 := by rw [List.length_take]; omega
    obtain ⟨N, hN⟩ : ∃ N, tot (pN (p.take k)) = N := ⟨_, rfl⟩
    rw [hN] at htk ⊢
    have hNb : N ≤ 35184372088832000 := by omega
    by_cases hlt : k < p.length
    · obtain ⟨s, hs⟩ : ∃ s, p[k]? = some s := ⟨_, List.getElem?_eq_getElem hlt⟩
      have hm := List.mem_of_getElem? hs
      have hsn1 := (hsm s hm).1
      (repeat' (first | ((with_reducible apply gL); (first | refine yL0 ?_ | refine yL ?_ | (refine yM ?_; intro _) | (refine yA ?_; intro _ _ _ _) | ((with_reducible apply gL_gd); (first | (refine JL_guard xR xR ?_ ?_ <;> intro _ <;> (try (exfalso; first | contradiction | omega))) | (refine JL_guardb xR xR ?_ ?_ <;> (intro hgb; subst hgb)) | (refine JL_guardb xR xR ?_ ?_ <;> (intro hgb; fail_if_success (have : type_of% hgb := rfl))) | fail)) | fail)) | refine yJ ?_ | ((with_reducible apply gJ_if); (first | (refine J_if xR ?_ ?_ <;> intro _ <;> (try (exfalso; first | contradiction | omega))) | (refine J_ifb xR ?_ ?_ <;> (intro hgb; subst hgb)) | (refine J_ifb xR ?_ ?_ <;> intro _) | fail)) | fail))
      refine J_again (k + 1) (by omega) (by omega) ⟨rfl, rfl, rfl, ?_, rfl, trivial⟩ (fun w H => H.sel .nil)
      rw [take_snoc hs]
      unfold pN
      rw [List.map_append, tot_append]
      unfold pN at hN
      rw [hN]
      show some _ = some _
      simp [tot]
    · have hke : k = p.length := by omega
      rw [hke, List.take_length] at hN
      rw [hN] at hno2
      (repeat' (first | ((with_reducible apply gL); (first | refine yL0 ?_ | refine yL ?_ | (refine yM ?_; intro _) | (refine yA ?_; intro _ _ _ _) | ((with_reducible apply gL_gd); (first | (refine JL_guard xR xR ?_ ?_ <;> intro _ <;> (try (exfalso; first | contradiction | omega))) | (refine JL_guardb xR xR ?_ ?_ <;> (intro hgb; subst hgb)) | (refine JL_guardb xR xR ?_ ?_ <;> (intro hgb; fail_if_success (have : type_of% hgb := rfl))) | fail)) | fail)) | refine yJ ?_ | ((with_reducible apply gJ_if); (first | (refine J_if xR ?_ ?_ <;> intro _ <;> (try (exfalso; first | contradiction | omega))) | (refine J_ifb xR ?_ ?_ <;> (intro hgb; subst hgb)) | (refine J_ifb xR ?_ ?_ <;> intro _) | fail)) | fail))
      all_goals (first | (exfalso; omega) | skip)
      exact J_ret2 rfl (by rfl) (by rfl) fun w H => ⟨_, ⟨3, by decide, rfl, rfl⟩, H.sel .nil⟩
end Go.Proofs.Ytmbgbhambgoejaa.C
