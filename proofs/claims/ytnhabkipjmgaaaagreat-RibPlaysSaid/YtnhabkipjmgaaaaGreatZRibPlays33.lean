/-
  Rb32, Rb33: merged.
-/
import Derived.Test.YtnhabkipjmgaaaaGreatZRibPlays32
namespace Go.Proofs.YtnhabkipjmgaaaaGreat
set_option linter.unusedSimpArgs false
set_option linter.unusedVariables false
set_option maxRecDepth 20000
set_option maxHeartbeats 4000000
open Go.RowKit Go.Pm

open T (Pf PfN Rt Ah pfC)
abbrev RfL (rb : Nat) (lim : Int) (a : Option Addr) (c : Nat) (L : List Ro) : List HP := [pts rb [.slice a L.length c, .int .i64 lim] 68, Ar 108 16 roC (.slice a L.length c) L, has (fun w => ∀ r ∈ L, AtV w r.d)]
theorem tdV_snoc (x : Nf) (p : Pf) : ∀ (ps : List Pf) (l : List Rv), tdV x l (ps ++ [p]) = if Rt p then putV (tdV x l ps) (p, (x, false)) else tdV x l ps
  | [], _ => rfl
  | q :: ps, l => tdV_snoc x p ps _
theorem wdV_snoc (p : Pf) (ps : List Pf) (l : List Rv) : wdV l (ps ++ [p]) = dropV (wdV l ps) p := by unfold wdV; rw [List.foldl_append]; rfl
theorem take_sn {l : List Pf} {k : Nat} {q : Pf} (h : l[k]? = some q) : l.take (k + 1) = l.take k ++ [q] := by rw [List.take_add_one, h]; rfl
theorem mem_insO {l : List Ro} {r x : Ro} (h : x ∈ insO l r) : x = r ∨ x ∈ l := by
  induction l with
  | nil => exact .inl (List.mem_singleton.1 h)
  | cons y l ih =>
    unfold insO at h
    split at h
    · rcases List.mem_cons.1 h with rfl | h
      · exact .inr (by simp)
      · rcases ih h with e | e
        · exact .inl e
        · exact .inr (by simp [e])
    · rcases List.mem_cons.1 h with e | h
      · exact .inl e
      · exact .inr h
theorem mem_putO {l : List Ro} {r x : Ro} (h : x ∈ putO l r) : x = r ∨ x ∈ l := (mem_insO h).imp_right fun k => (List.mem_filter.1 k).1
theorem putO_len (l : List Ro) (r : Ro) : (putO l r).length ≤ l.length + 1 := by
  have := dropO_len l r.p
  unfold putO
  rw [insO_len]
  omega
structure QxU where
  k : Nat
  ad : Option Addr
  cc : Nat
  l : List Ro
structure QaOk (u : Up) (L : List Ro) (x : QxU) : Prop where
  kl : x.k ≤ u.wd.length
  v : vL x.l = wdV (vL L) (u.wd.take x.k)
  m : ∀ r ∈ x.l, r ∈ L
  n : x.l.length ≤ L.length
structure QbOk (u : Up) (L : List Ro) (x : QxU) : Prop where
  kl : x.k ≤ u.td.length
  v : vL x.l = tdV u.d.nf (wdV (vL L) u.wd) (u.td.take x.k)
  m : ∀ r ∈ x.l, RoN r
  n : x.l.length ≤ L.length + x.k
structure QcOk (u : Up) (L : List Ro) (x : QxU) : Prop where
  v : vL x.l = updV u (vL L)
  m : ∀ r ∈ x.l, RoN r
  n : x.l.length ≤ L.length + u.td.length
theorem vL_len (L : List Ro) : (vL L).length = L.length := List.length_map _
theorem rfupd_s (rb : Nat) (lim : Int) (hlim : I64 lim) (a : Option Addr) (c : Nat) (L : List Ro) (u : Up) (hu : UpN u) (hL : ∀ r ∈ L, RoN r) (hs : SrV (vL L)) (hl : L.length ≤ 1000) :
    Pact Tryz.prog 58 #[.pointer (some ⟨rb, 0, none⟩), .agg (upC u).toArray] (fun w => UpV w u) (RfL rb lim a c L)
    (fun v L' => (lim < ((updV u (vL L)).length : Int) ∧ v = .tuple #[.slice none 0 0, .int .i64 4] ∧ L' = RfL rb lim a c L) ∨
      (¬ lim < ((updV u (vL L)).length : Int) ∧ ∃ (a2 : Option Addr) (c2 : Nat) (L2 : List Ro) (a3 : Option Addr) (c3 : Nat) (ps : List Pf), (vL L2 = updV u (vL L) ∧ (∀ r ∈ L2, RoN r) ∧ ps.Pairwise (fun p q => Ah p q) ∧ ∀ q, q ∈ ps ↔ Df (vL L) (vL L2) q) ∧ v = .tuple #[.slice a3 ps.length c3, .int .i64 0] ∧ L' = Ar 41 2 pfC (.slice a3 ps.length c3) ps :: RfL rb lim a2 c2 L2)) := by
  refine pact Tryz.func58 rfl Tryz.ntmps58 rfl ?_
  intro W K hK
  have hv := hK.imp fun w h => h.wd
  have hv2 := hK.imp fun w h => h.td
  have hwl := hu.wl
  have htl := hu.tl
  (repeat' (first | ((with_reducible apply gL); (first | refine yL0 ?_ | ((with_reducible apply gL_c_append); (first | (refine JL_appL roC (fs := L) (tabE etab_ok xR) xR xR xA (Src.ar xA) xC xL xU (by omega) xR xR ?_; intro ad1 c1 _ _) | fail)) | refine yL ?_ | (refine yM ?_; intro _) | (refine yA ?_; intro _ _ _ _) | fail)) | ((with_reducible apply gD); (first | (refine JD_nil ?_; try simp only [List.cons_append, List.nil_append]) | (refine JD_bar ?_; try simp only [List.cons_append, List.nil_append]) | refine yD ?_ | fail)) | refine yJ ?_ | ((with_reducible apply gJ_if); (first | (refine J_if xR ?_ ?_ <;> intro _ <;> (try (exfalso; first | contradiction | omega))) | (refine J_ifb xR ?_ ?_ <;> (intro hgb; subst hgb)) | (refine J_ifb xR ?_ ?_ <;> intro _) | fail)) | refine J_draw (id := 11) [0, 1, 2, 3, 4, 5, 6, 7, 8, 9] [10, 11] mixed xC xD xD ?_ | fail))
  rename_i ub _ _ _
  refine J_cutB (α := QxU) (fun x => vL x.l = wdV (vL L) u.wd ∧ (∀ r ∈ x.l, r ∈ L) ∧ x.l.length ≤ L.length) (fun x => [(0, .pointer (some ⟨rb, 0, none⟩)), (3, .pointer (some ⟨ub, 0, none⟩)), (6, .slice x.ad x.l.length x.cc)]) (fun x => [pts rb [.slice a L.length c, .int .i64 lim] 68, Ar 108 16 roC (.slice a L.length c) L, has (fun w => ∀ r ∈ L, AtV w r.d), pts ub (upC u) 31, Ar 108 16 roC (.slice x.ad x.l.length x.cc) x.l]) ?_ ?_
  · refine J_loop (α := QxU) ⟨0, ad1, c1, L⟩ (fun x => u.wd.length - x.k) (QaOk u L) (fun x => [(0, .pointer (some ⟨rb, 0, none⟩)), (3, .pointer (some ⟨ub, 0, none⟩)), (6, .slice x.ad x.l.length x.cc), (7, .int .i64 x.k)]) (fun x => [pts rb [.slice a L.length c, .int .i64 lim] 68, Ar 108 16 roC (.slice a L.length c) L, has (fun w => ∀ r ∈ L, AtV w r.d), pts ub (upC u) 31, Ar 108 16 roC (.slice x.ad x.l.length x.cc) x.l]) ⟨Nat.zero_le _, rfl, fun _ h => h, Nat.le_refl _⟩ ⟨rfl, rfl, rfl, rfl, trivial⟩ (fun w H => H.sel xZ) ?_
    rintro ⟨k, ad, cc, l⟩ hI
    have hk := hI.kl
    have hln := hI.n
    dsimp only at hk hln ⊢
    by_cases hlt : k < u.wd.length
    · obtain ⟨q, hq⟩ : ∃ q, u.wd[k]? = some q := ⟨_, List.getElem?_eq_getElem hlt⟩
      have kd := rfdrop_s ad cc l.length l rfl q (by omega)
      have hdl := dropO_len l q
      (repeat' (first | ((with_reducible apply gL); (first | refine yL0 ?_ | refine yL ?_ | ((with_reducible apply gL_go); (first | (refine JL_goq (kd) (hφ := (by (try simp only [List.cons_append, List.nil_append]); exact fun w hr => Src.ar xA w hr)) (h := ?_); rintro _ _ ⟨a1, c1, rfl, rfl⟩; try simp only [List.cons_append, List.nil_append]) | fail)) | (refine yM ?_; intro _) | (refine yA ?_; intro _ _ _ _) | fail)) | ((with_reducible apply gD); (first | (refine JD_nil ?_; try simp only [List.cons_append, List.nil_append]) | (refine JD_bar ?_; try simp only [List.cons_append, List.nil_append]) | refine yD ?_ | ((with_reducible apply gD_go); (first | (refine JD_goq (kd) (hφ := (by (try simp only [List.cons_append, List.nil_append]); exact fun w hr => Src.ar xA w hr)) (h := ?_); rintro _ _ ⟨a1, c1, rfl, rfl⟩; try simp only [List.cons_append, List.nil_append]) | fail)) | fail)) | refine yJ ?_ | ((with_reducible apply gJ_if); (first | (refine J_if xR ?_ ?_ <;> intro _ <;> (try (exfalso; first | contradiction | omega))) | (refine J_ifb xR ?_ ?_ <;> (intro hgb; subst hgb)) | (refine J_ifb xR ?_ ?_ <;> intro _) | fail)) | refine J_draw (id := 11) [0, 1, 2, 3, 4, 5, 6, 7, 8, 9] [10, 11] mixed xC xD xD ?_ | fail))
      refine J_again ⟨k + 1, a1, c1, dropO l q⟩ (by dsimp only; omega) ⟨by dsimp only; omega, ?_, fun r hr => hI.m r (List.mem_filter.1 hr).1, by dsimp only; omega⟩ ⟨rfl, rfl, rfl, rfl, trivial⟩ (fun w H => H.sel xZ)
      dsimp only
      rw [vL_drop, take_sn hq, wdV_snoc, hI.v]
    · obtain rfl : k = u.wd.length := by omega
      have hvl := hI.v
      dsimp only at hvl
      rw [List.take_length] at hvl
      (repeat' (first | ((with_reducible apply gL); (first | refine yL0 ?_ | refine yL ?_ | (refine yM ?_; intro _) | (refine yA ?_; intro _ _ _ _) | fail)) | ((with_reducible apply gD); (first | (refine JD_nil ?_; try simp only [List.cons_append, List.nil_append]) | (refine JD_bar ?_; try simp only [List.cons_append, List.nil_append]) | refine yD ?_ | fail)) | refine yJ ?_ | ((with_reducible apply gJ_if); (first | (refine J_if xR ?_ ?_ <;> intro _ <;> (try (exfalso; first | contradiction | omega))) | (refine J_ifb xR ?_ ?_ <;> (intro hgb; subst hgb)) | (refine J_ifb xR ?_ ?_ <;> intro _) | fail)) | refine J_draw (id := 11) [0, 1, 2, 3, 4, 5, 6, 7, 8, 9] [10, 11] mixed xC xD xD ?_ | fail))
      exact J_meet ⟨0, ad, cc, l⟩ ⟨hvl, hI.m, hln⟩ ⟨rfl, rfl, rfl, trivial⟩ (fun w H => H.sel xZ)
  rintro ⟨_, ad, cc, l⟩ ⟨hvl, hml, hln⟩
  dsimp only at hvl hml hln ⊢
  (iterate 1 (first | ((with_reducible apply gL); (first | refine yL0 ?_ | refine yL ?_ | (refine yM ?_; intro _) | (refine yA ?_; intro _ _ _ _) | fail)) | ((with_reducible apply gD); (first | (refine JD_nil ?_; try simp only [List.cons_append, List.nil_append]) | (refine JD_bar ?_; try simp only [List.cons_append, List.nil_append]) | refine yD ?_ | fail)) | refine yJ ?_ | ((with_reducible apply gJ_if); (first | (refine J_if xR ?_ ?_ <;> intro _ <;> (try (exfalso; first | contradiction | omega))) | (refine J_ifb xR ?_ ?_ <;> (intro hgb; subst hgb)) | (refine J_ifb xR ?_ ?_ <;> intro _) | fail)) | refine J_draw (id := 11) [0, 1, 2, 3, 4, 5, 6, 7, 8, 9] [10, 11] mixed xC xD xD ?_ | fail))
  refine J_cut (α := QxU) (QcOk u L) (fun x => [(0, .pointer (some ⟨rb, 0, none⟩)), (6, .slice x.ad x.l.length x.cc)]) (fun x => [pts rb [.slice a L.length c, .int .i64 lim] 68, Ar 108 16 roC (.slice a L.length c) L, Ar 108 16 roC (.slice x.ad x.l.length x.cc) x.l, has (fun w => (∀ r ∈ L, AtV w r.d) ∧ ∀ r ∈ x.l, AtV w r.d)]) ?_ ?_
  · have kc := rcheck_s u.d hu.d
    rcases hok : okN u.d.nf with _ | _
    · rw [hok] at kc
      (repeat' (first | ((with_reducible apply gL); (first | refine yL0 ?_ | refine yL ?_ | ((with_reducible apply gL_go); (first | (refine JL_goq (kc) (hφ := (by (try simp only [List.cons_append, List.nil_append]); exact fun w hr => (hK w hr.1).d)) (h := ?_); rintro _ _ ⟨rfl, rfl⟩; try simp only [List.cons_append, List.nil_append]) | fail)) | (refine yM ?_; intro _) | (refine yA ?_; intro _ _ _ _) | fail)) | ((with_reducible apply gD); (first | (refine JD_nil ?_; try simp only [List.cons_append, List.nil_append]) | (refine JD_bar ?_; try simp only [List.cons_append, List.nil_append]) | refine yD ?_ | ((with_reducible apply gD_go); (first | (refine JD_goq (kc) (hφ := (by (try simp only [List.cons_append, List.nil_append]); exact fun w hr => (hK w hr.1).d)) (h := ?_); rintro _ _ ⟨rfl, rfl⟩; try simp only [List.cons_append, List.nil_append]) | fail)) | fail)) | refine yJ ?_ | ((with_reducible apply gJ_if); (first | (refine J_if xR ?_ ?_ <;> intro _ <;> (try (exfalso; first | contradiction | omega))) | (refine J_ifb xR ?_ ?_ <;> (intro hgb; subst hgb)) | (refine J_ifb xR ?_ ?_ <;> intro _) | fail)) | refine J_draw (id := 11) [0, 1, 2, 3, 4, 5, 6, 7, 8, 9] [10, 11] mixed xC xD xD ?_ | fail))
      refine J_meet ⟨0, ad, cc, l⟩ ⟨?_, fun r hr => hL r (hml r hr), by dsimp only; omega⟩ ⟨rfl, rfl, trivial⟩ (fun w H => (Ow.has (M := [has (fun w => ∀ r ∈ L, AtV w r.d)]) (φ := fun w => (∀ r ∈ L, AtV w r.d) ∧ ∀ r ∈ l, AtV w r.d) H xZ (fun w hr => ⟨hr.has .here, fun r hm => hr.has (φ := fun w => ∀ r ∈ L, AtV w r.d) .here r (hml r hm)⟩)).sel xZ)
      dsimp only
      unfold updV
      rw [hok, if_neg (by simp)]
      exact hvl
    · rw [hok] at kc
      (repeat' (first | ((with_reducible apply gL); (first | refine yL0 ?_ | refine yL ?_ | ((with_reducible apply gL_go); (first | (refine JL_goq (kc) (hφ := (by (try simp only [List.cons_append, List.nil_append]); exact fun w hr => (hK w hr.1).d)) (h := ?_); rintro _ _ ⟨rfl, rfl⟩; try simp only [List.cons_append, List.nil_append]) | fail)) | (refine yM ?_; intro _) | (refine yA ?_; intro _ _ _ _) | fail)) | ((with_reducible apply gD); (first | (refine JD_nil ?_; try simp only [List.cons_append, List.nil_append]) | (refine JD_bar ?_; try simp only [List.cons_append, List.nil_append]) | refine yD ?_ | ((with_reducible apply gD_go); (first | (refine JD_goq (kc) (hφ := (by (try simp only [List.cons_append, List.nil_append]); exact fun w hr => (hK w hr.1).d)) (h := ?_); rintro _ _ ⟨rfl, rfl⟩; try simp only [List.cons_append, List.nil_append]) | fail)) | fail)) | refine yJ ?_ | ((with_reducible apply gJ_if); (first | (refine J_if xR ?_ ?_ <;> intro _ <;> (try (exfalso; first | contradiction | omega))) | (refine J_ifb xR ?_ ?_ <;> (intro hgb; subst hgb)) | (refine J_ifb xR ?_ ?_ <;> intro _) | fail)) | refine J_draw (id := 11) [0, 1, 2, 3, 4, 5, 6, 7, 8, 9] [10, 11] mixed xC xD xD ?_ | fail))
      refine J_loop (α := QxU) ⟨0, ad, cc, l⟩ (fun x => u.td.length - x.k) (QbOk u L) (fun x => [(0, .pointer (some ⟨rb, 0, none⟩)), (3, .pointer (some ⟨ub, 0, none⟩)), (6, .slice x.ad x.l.length x.cc), (8, .int .i64 x.k)]) (fun x => [pts rb [.slice a L.length c, .int .i64 lim] 68, Ar 108 16 roC (.slice a L.length c) L, has (fun w => (∀ r ∈ L, AtV w r.d) ∧ ∀ r ∈ x.l, AtV w r.d), pts ub (upC u) 31, Ar 108 16 roC (.slice x.ad x.l.length x.cc) x.l]) ⟨Nat.zero_le _, by dsimp only; rw [List.take_zero]; exact hvl, fun r hr => hL r (hml r hr), by dsimp only; omega⟩ ⟨rfl, rfl, rfl, rfl, trivial⟩ (fun w H => (Ow.has (M := [has (fun w => ∀ r ∈ L, AtV w r.d)]) (φ := fun w => (∀ r ∈ L, AtV w r.d) ∧ ∀ r ∈ l, AtV w r.d) H xZ (fun w hr => ⟨hr.has .here, fun r hm => hr.has (φ := fun w => ∀ r ∈ L, AtV w r.d) .here r (hml r hm)⟩)).sel xZ) ?_
      clear hvl hml hln
      rintro ⟨k, ad, cc, l⟩ hI
      have hk := hI.kl
      have hln := hI.n
      dsimp only at hk hln ⊢
      by_cases hlt : k < u.td.length
      · obtain ⟨q, hq⟩ : ∃ q, u.td[k]? = some q := ⟨_, List.getElem?_eq_getElem hlt⟩
        have hqn := hu.td q (List.mem_of_getElem? hq)
        have hsn := take_sn hq
        by_cases hr : Rt q
        · have kp := fun d2 => rfput_s ad cc l.length l rfl ⟨q, d2, false⟩ (by omega)
          have hpl := fun d2 => putO_len l ⟨q, d2, false⟩
          (repeat' (first | ((with_reducible apply gL); (first | refine yL0 ?_ | refine yL ?_ | ((with_reducible apply gL_go); (first | (refine JL_goq (tright_b q hqn true (decide_eq_true hr)) (hφ := xF) (h := ?_); rintro _ _ ⟨rfl, rfl⟩; try simp only [List.cons_append, List.nil_append]) | (refine JL_goq (acopy_s u.d hu.d _ _ _ rfl rfl rfl) (hφ := (by (try simp only [List.cons_append, List.nil_append]); exact fun w hr => (hK w hr.1).d)) (h := ?_); rintro _ _ ⟨d2, hd2, hnf, rfl, rfl⟩; try simp only [List.cons_append, List.nil_append]) | (refine JL_goq (kp _) (hφ := (by (try simp only [List.cons_append, List.nil_append]); exact fun w hr => Src.ar xA w hr)) (h := ?_); rintro _ _ ⟨a1, c1, rfl, rfl⟩; try simp only [List.cons_append, List.nil_append]) | fail)) | (refine yM ?_; intro _) | (refine yA ?_; intro _ _ _ _) | fail)) | ((with_reducible apply gD); (first | (refine JD_nil ?_; try simp only [List.cons_append, List.nil_append]) | (refine JD_bar ?_; try simp only [List.cons_append, List.nil_append]) | refine yD ?_ | ((with_reducible apply gD_go); (first | (refine JD_goq (tright_b q hqn true (decide_eq_true hr)) (hφ := xF) (h := ?_); rintro _ _ ⟨rfl, rfl⟩; try simp only [List.cons_append, List.nil_append]) | (refine JD_goq (acopy_s u.d hu.d _ _ _ rfl rfl rfl) (hφ := (by (try simp only [List.cons_append, List.nil_append]); exact fun w hr => (hK w hr.1).d)) (h := ?_); rintro _ _ ⟨d2, hd2, hnf, rfl, rfl⟩; try simp only [List.cons_append, List.nil_append]) | (refine JD_goq (kp _) (hφ := (by (try simp only [List.cons_append, List.nil_append]); exact fun w hr => Src.ar xA w hr)) (h := ?_); rintro _ _ ⟨a1, c1, rfl, rfl⟩; try simp only [List.cons_append, List.nil_append]) | fail)) | fail)) | refine yJ ?_ | ((with_reducible apply gJ_if); (first | (refine J_if xR ?_ ?_ <;> intro _ <;> (try (exfalso; first | contradiction | omega))) | (refine J_ifb xR ?_ ?_ <;> (intro hgb; subst hgb)) | (refine J_ifb xR ?_ ?_ <;> intro _) | fail)) | refine J_draw (id := 11) [0, 1, 2, 3, 4, 5, 6, 7, 8, 9] [10, 11] mixed xC xD xD ?_ | fail))
          have hpl2 := hpl d2
          refine J_again ⟨k + 1, a1, c1, putO l ⟨q, d2, false⟩⟩ (by dsimp only; omega) ⟨by dsimp only; omega, ?_, fun r hm => ?_, by dsimp only; omega⟩ ⟨rfl, rfl, rfl, rfl, trivial⟩ (fun w H => ?_)
          · have hvl := hI.v
            dsimp only at hvl ⊢
            rw [hsn, tdV_snoc, if_pos hr, ← hvl, ← hnf]
            exact vL_put l ⟨q, d2, false⟩
          · rcases mem_putO hm with rfl | hm
            · exact ⟨hqn, hr, hd2⟩
            · exact hI.m r hm
          · refine (Ow.has (M := [has (fun w => AtV w d2), has (fun w => (∀ r ∈ L, AtV w r.d) ∧ ∀ r ∈ l, AtV w r.d)]) (φ := fun w => (∀ r ∈ L, AtV w r.d) ∧ ∀ r ∈ putO l ⟨q, d2, false⟩, AtV w r.d) H xZ (fun w hr => ?_)).sel xZ
            have g1 := hr.has (φ := fun w => AtV w d2) .here
            have g2 := hr.has (φ := fun w => (∀ r ∈ L, AtV w r.d) ∧ ∀ r ∈ l, AtV w r.d) (.there .here)
            refine ⟨g2.1, fun r hm => ?_⟩
            rcases mem_putO hm with rfl | hm
            · exact g1
            · exact g2.2 r hm
        · (repeat' (first | ((with_reducible apply gL); (first | refine yL0 ?_ | refine yL ?_ | ((with_reducible apply gL_go); (first | (refine JL_goq (tright_b q hqn false (decide_eq_false hr)) (hφ := xF) (h := ?_); rintro _ _ ⟨rfl, rfl⟩; try simp only [List.cons_append, List.nil_append]) | fail)) | (refine yM ?_; intro _) | (refine yA ?_; intro _ _ _ _) | fail)) | ((with_reducible apply gD); (first | (refine JD_nil ?_; try simp only [List.cons_append, List.nil_append]) | (refine JD_bar ?_; try simp only [List.cons_append, List.nil_append]) | refine yD ?_ | ((with_reducible apply gD_go); (first | (refine JD_goq (tright_b q hqn false (decide_eq_false hr)) (hφ := xF) (h := ?_); rintro _ _ ⟨rfl, rfl⟩; try simp only [List.cons_append, List.nil_append]) | fail)) | fail)) | refine yJ ?_ | ((with_reducible apply gJ_if); (first | (refine J_if xR ?_ ?_ <;> intro _ <;> (try (exfalso; first | contradiction | omega))) | (refine J_ifb xR ?_ ?_ <;> (intro hgb; subst hgb)) | (refine J_ifb xR ?_ ?_ <;> intro _) | fail)) | refine J_draw (id := 11) [0, 1, 2, 3, 4, 5, 6, 7, 8, 9] [10, 11] mixed xC xD xD ?_ | fail))
          refine J_again ⟨k + 1, ad, cc, l⟩ (by dsimp only; omega) ⟨by dsimp only; omega, ?_, hI.m, by dsimp only; omega⟩ ⟨rfl, rfl, rfl, rfl, trivial⟩ (fun w H => H.sel xZ)
          dsimp only
          rw [hsn, tdV_snoc, if_neg hr, hI.v]
      · obtain rfl : k = u.td.length := by omega
        have hvl := hI.v
        dsimp only at hvl
        rw [List.take_length] at hvl
        (repeat' (first | ((with_reducible apply gL); (first | refine yL0 ?_ | refine yL ?_ | (refine yM ?_; intro _) | (refine yA ?_; intro _ _ _ _) | fail)) | ((with_reducible apply gD); (first | (refine JD_nil ?_; try simp only [List.cons_append, List.nil_append]) | (refine JD_bar ?_; try simp only [List.cons_append, List.nil_append]) | refine yD ?_ | fail)) | refine yJ ?_ | ((with_reducible apply gJ_if); (first | (refine J_if xR ?_ ?_ <;> intro _ <;> (try (exfalso; first | contradiction | omega))) | (refine J_ifb xR ?_ ?_ <;> (intro hgb; subst hgb)) | (refine J_ifb xR ?_ ?_ <;> intro _) | fail)) | refine J_draw (id := 11) [0, 1, 2, 3, 4, 5, 6, 7, 8, 9] [10, 11] mixed xC xD xD ?_ | fail))
        refine J_meet ⟨0, ad, cc, l⟩ ⟨?_, hI.m, by dsimp only; omega⟩ ⟨rfl, rfl, trivial⟩ (fun w H => H.sel xZ)
        dsimp only
        unfold updV
        rw [hok, if_pos rfl]
        exact hvl
  · rintro ⟨_, ad, cc, l⟩ hI
    have hln := hI.n
    have hvl := hI.v
    have hvn := congrArg List.length hvl
    dsimp only at hln hvl hvn ⊢
    rw [vL_len] at hvn
    by_cases hf : lim < ((updV u (vL L)).length : Int)
    · rw [← hvn] at hf
      (repeat' (first | ((with_reducible apply gL); (first | refine yL0 ?_ | refine yL ?_ | (refine yM ?_; intro _) | (refine yA ?_; intro _ _ _ _) | fail)) | ((with_reducible apply gD); (first | (refine JD_nil ?_; try simp only [List.cons_append, List.nil_append]) | (refine JD_bar ?_; try simp only [List.cons_append, List.nil_append]) | refine yD ?_ | fail)) | refine yJ ?_ | ((with_reducible apply gJ_if); (first | (refine J_if xR ?_ ?_ <;> intro _ <;> (try (exfalso; first | contradiction | omega))) | (refine J_ifb xR ?_ ?_ <;> (intro hgb; subst hgb)) | (refine J_ifb xR ?_ ?_ <;> intro _) | fail)) | refine J_draw (id := 11) [0, 1, 2, 3, 4, 5, 6, 7, 8, 9] [10, 11] mixed xC xD xD ?_ | fail))
      exact J_ret2 rfl (by rfl) (by rfl) fun w H => ⟨_, .inl ⟨by rw [← hvn]; exact hf, rfl, rfl⟩, (Ow.has (M := [has (fun w => (∀ r ∈ L, AtV w r.d) ∧ ∀ r ∈ l, AtV w r.d)]) (φ := fun w => ∀ r ∈ L, AtV w r.d) H xZ (fun w hr => (hr.has (φ := fun w => (∀ r ∈ L, AtV w r.d) ∧ ∀ r ∈ l, AtV w r.d) .here).1)).sel xZ⟩
    · rw [← hvn] at hf
      have kch := chg_s a ad c cc L.length l.length L l rfl rfl hL hI.m hs (by omega)
      (repeat' (first | ((with_reducible apply gL); (first | refine yL0 ?_ | refine yL ?_ | ((with_reducible apply gL_go); (first | (refine JL_goq (kch) (hφ := (by (try simp only [List.cons_append, List.nil_append]); exact fun w hr => ⟨⟨Src.ar xA w hr, Src.ar xA w hr⟩, hr.has (φ := fun w => (∀ r ∈ L, AtV w r.d) ∧ ∀ r ∈ l, AtV w r.d) xA⟩)) (h := ?_); rintro _ _ ⟨a5, c5, ps, hps, rfl, rfl⟩; try simp only [List.cons_append, List.nil_append]) | fail)) | (refine yM ?_; intro _) | (refine yA ?_; intro _ _ _ _) | fail)) | ((with_reducible apply gD); (first | (refine JD_nil ?_; try simp only [List.cons_append, List.nil_append]) | (refine JD_bar ?_; try simp only [List.cons_append, List.nil_append]) | refine yD ?_ | ((with_reducible apply gD_go); (first | (refine JD_goq (kch) (hφ := (by (try simp only [List.cons_append, List.nil_append]); exact fun w hr => ⟨⟨Src.ar xA w hr, Src.ar xA w hr⟩, hr.has (φ := fun w => (∀ r ∈ L, AtV w r.d) ∧ ∀ r ∈ l, AtV w r.d) xA⟩)) (h := ?_); rintro _ _ ⟨a5, c5, ps, hps, rfl, rfl⟩; try simp only [List.cons_append, List.nil_append]) | fail)) | fail)) | refine yJ ?_ | ((with_reducible apply gJ_if); (first | (refine J_if xR ?_ ?_ <;> intro _ <;> (try (exfalso; first | contradiction | omega))) | (refine J_ifb xR ?_ ?_ <;> (intro hgb; subst hgb)) | (refine J_ifb xR ?_ ?_ <;> intro _) | fail)) | refine J_draw (id := 11) [0, 1, 2, 3, 4, 5, 6, 7, 8, 9] [10, 11] mixed xC xD xD ?_ | fail))
      exact J_ret2 rfl (by rfl) (by rfl) fun w H => ⟨_, .inr ⟨by rw [← hvn]; exact hf, ad, cc, l, a5, c5, ps, ⟨hvl, hI.m, hps⟩, rfl, rfl⟩, (Ow.has (M := [has (fun w => (∀ r ∈ L, AtV w r.d) ∧ ∀ r ∈ l, AtV w r.d)]) (φ := fun w => ∀ r ∈ l, AtV w r.d) H xZ (fun w hr => (hr.has (φ := fun w => (∀ r ∈ L, AtV w r.d) ∧ ∀ r ∈ l, AtV w r.d) .here).2)).sel xZ⟩
end Go.Proofs.YtnhabkipjmgaaaaGreat
namespace Go.Proofs.YtnhabkipjmgaaaaGreat
set_option linter.unusedSimpArgs false
set_option linter.unusedVariables false
set_option maxRecDepth 20000
set_option maxHeartbeats 4000000
open Go.RowKit Go.Pm

open T (Pf PfN Rt Ah pfC)
section
variable (rb : Nat) (lim : Int) (a : Option Addr) (c : Nat) (L : List Ro)
theorem rfnew_s (l2 : Int) (h1 : 0 ≤ lim) (h2 : lim ≤ 4096) (h3 : l2 = if lim = 0 then 4096 else lim) : Pact Tryz.prog 26 #[.int .i64 lim] (fun _ => True) [] (fun u L' => ∃ rb, u = .tuple #[.pointer (some ⟨rb, 0, none⟩), .int .i64 0] ∧ L' = RfL rb l2 none 0 []) := by
  subst h3
  refine pact Tryz.func26 rfl Tryz.ntmps26 rfl ?_
  intro W K _
  by_cases h0 : lim = 0
  · subst h0
    (repeat' (first | ((with_reducible apply gL); (first | refine yL0 ?_ | refine yL ?_ | (refine yM ?_; intro _) | ((with_reducible apply gL_gd); (first | (refine JL_guard xR xR ?_ ?_ <;> intro _ <;> (try (exfalso; first | contradiction | omega))) | (refine JL_guardb xR xR ?_ ?_ <;> (intro hgb; subst hgb)) | (refine JL_guardb xR xR ?_ ?_ <;> (intro hgb; fail_if_success (have : type_of% hgb := rfl))) | fail)) | fail)) | refine yJ ?_ | ((with_reducible apply gJ_if); (first | (refine J_if xR ?_ ?_ <;> intro _ <;> (try (exfalso; first | contradiction | omega))) | (refine J_ifb xR ?_ ?_ <;> (intro hgb; subst hgb)) | (refine J_ifb xR ?_ ?_ <;> intro _) | fail)) | fail))
    rename_i rb
    exact J_ret2 rfl (by rfl) (by rfl) fun w H => ⟨_, ⟨rb, rfl, rfl⟩, (Ow.hasTrue (φ := fun w => ∀ r ∈ ([] : List Ro), AtV w r.d) (Ow.arNil (e := 108) (sz := 16) (enc := roC) H) (fun _ _ h => absurd h List.not_mem_nil)).sel xZ⟩
  · rw [if_neg h0]
    (repeat' (first | ((with_reducible apply gL); (first | refine yL0 ?_ | refine yL ?_ | (refine yM ?_; intro _) | ((with_reducible apply gL_gd); (first | (refine JL_guard xR xR ?_ ?_ <;> intro _ <;> (try (exfalso; first | contradiction | omega))) | (refine JL_guardb xR xR ?_ ?_ <;> (intro hgb; subst hgb)) | (refine JL_guardb xR xR ?_ ?_ <;> (intro hgb; fail_if_success (have : type_of% hgb := rfl))) | fail)) | fail)) | refine yJ ?_ | ((with_reducible apply gJ_if); (first | (refine J_if xR ?_ ?_ <;> intro _ <;> (try (exfalso; first | contradiction | omega))) | (refine J_ifb xR ?_ ?_ <;> (intro hgb; subst hgb)) | (refine J_ifb xR ?_ ?_ <;> intro _) | fail)) | fail))
    all_goals (first | (exfalso; omega) | skip)
    rename_i rb
    exact J_ret2 rfl (by rfl) (by rfl) fun w H => ⟨_, ⟨rb, rfl, rfl⟩, (Ow.hasTrue (φ := fun w => ∀ r ∈ ([] : List Ro), AtV w r.d) (Ow.arNil (e := 108) (sz := 16) (enc := roC) H) (fun _ _ h => absurd h List.not_mem_nil)).sel xZ⟩
theorem rfnewbad_s (h1 : lim < 0 ∨ 4096 < lim) : Pact Tryz.prog 26 #[.int .i64 lim] (fun _ => True) [] (ret0 (.tuple #[.pointer none, .int .i64 2])) := by
  refine pact Tryz.func26 rfl Tryz.ntmps26 rfl ?_
  intro W K _
  (repeat' (first | ((with_reducible apply gL); (first | refine yL0 ?_ | refine yL ?_ | (refine yM ?_; intro _) | ((with_reducible apply gL_gd); (first | (refine JL_guard xR xR ?_ ?_ <;> intro _ <;> (try (exfalso; first | contradiction | omega))) | (refine JL_guardb xR xR ?_ ?_ <;> (intro hgb; subst hgb)) | (refine JL_guardb xR xR ?_ ?_ <;> (intro hgb; fail_if_success (have : type_of% hgb := rfl))) | fail)) | fail)) | refine yJ ?_ | ((with_reducible apply gJ_if); (first | (refine J_if xR ?_ ?_ <;> intro _ <;> (try (exfalso; first | contradiction | omega))) | (refine J_ifb xR ?_ ?_ <;> (intro hgb; subst hgb)) | (refine J_ifb xR ?_ ?_ <;> intro _) | fail)) | fail))
  all_goals (first | (exfalso; omega) | skip)
  all_goals exact J_ret2 rfl (by rfl) (by rfl) fun w H => ⟨_, ⟨rfl, rfl⟩, H.sel .nil⟩
theorem rfget_s (p : Pf) (hl : L.length ≤ 100000) (hL : ∀ r ∈ L, RoN r) : Pact Tryz.prog 29 #[.pointer (some ⟨rb, 0, none⟩), .agg (pfC p).toArray] (fun _ => True) (RfL rb lim a c L) (fun u L' => ∃ d' b ok, (AtF d' ∧ (d'.nf, b, ok) = match gv (vL L) p with | none => (zAt.nf, false, false) | some v => (v.1, v.2, true)) ∧ u = .tuple #[.agg (atC d').toArray, .bool b, .bool ok] ∧ L' = has (fun w => AtV w d') :: RfL rb lim a c L) := by
  refine pact Tryz.func29 rfl Tryz.ntmps29 rfl ?_
  intro W K _
  have ka := rat_s a c L.length L rfl p (by omega)
  rcases hat : atO L p with _ | j
  · rw [hat] at ka
    dsimp only [oI] at ka
    rw [atO_none hat]
    (repeat' (first | ((with_reducible apply gL); (first | refine yL0 ?_ | refine yL ?_ | (refine yM ?_; intro _) | fail)) | ((with_reducible apply gD); (first | (refine JD_nil ?_; try simp only [List.cons_append, List.nil_append]) | (refine JD_bar ?_; try simp only [List.cons_append, List.nil_append]) | refine yD ?_ | ((with_reducible apply gD_go); (first | (refine JD_goq (ka) (hφ := (by (try simp only [List.cons_append, List.nil_append]); exact fun w hr => Src.ar xA w hr)) (h := ?_); rintro _ _ ⟨rfl, rfl⟩; try simp only [List.cons_append, List.nil_append]) | fail)) | fail)) | refine yJ ?_ | ((with_reducible apply gJ_if); (first | (refine J_if xR ?_ ?_ <;> intro _ <;> (try (exfalso; first | contradiction | omega))) | (refine J_ifb xR ?_ ?_ <;> (intro hgb; subst hgb)) | (refine J_ifb xR ?_ ?_ <;> intro _) | fail)) | refine J_draw (id := 1) [0, 1, 2, 3, 4] [5, 6] mixed xC xD xD ?_ | refine J_draw (id := 4) [0, 1, 2, 3, 4, 5, 6, 7, 9, 10, 11, 12, 13, 14, 15, 16, 8, 17] [18, 19] mixed xC xD xD ?_ | fail))
    exact J_retC2 (cs := zC) rfl (by rfl) (by rfl) (by rfl) xA (by rfl) fun w H => ⟨_, ⟨zAt, false, false, ⟨zAt_f, rfl⟩, rfl, rfl⟩, (Ow.hasTrue (φ := fun w => AtV w zAt) H zAt_v).sel xZ⟩
  · obtain ⟨r, hr, hrp, hg⟩ := atO_some hat
    have hrm := List.mem_of_getElem? hr
    have hjl := (List.getElem?_eq_some_iff.1 hr).1
    rw [hat] at ka
    dsimp only [oI] at ka
    rw [hg]
    (repeat' (first | ((with_reducible apply gL); (first | refine yL0 ?_ | refine yL ?_ | (refine yM ?_; intro _) | fail)) | ((with_reducible apply gD); (first | (refine JD_nil ?_; try simp only [List.cons_append, List.nil_append]) | (refine JD_bar ?_; try simp only [List.cons_append, List.nil_append]) | refine yD ?_ | ((with_reducible apply gD_go); (first | (refine JD_goq (ka) (hφ := (by (try simp only [List.cons_append, List.nil_append]); exact fun w hr => Src.ar xA w hr)) (h := ?_); rintro _ _ ⟨rfl, rfl⟩; try simp only [List.cons_append, List.nil_append]) | (refine JD_goq (acopy_s r.d (hL r hrm).d _ _ _ rfl rfl rfl) (hφ := (by (try simp only [List.cons_append, List.nil_append]); exact fun w hr => hr.has (φ := fun w => ∀ r ∈ L, AtV w r.d) xA r hrm)) (h := ?_); rintro _ _ ⟨d2, hd2, hnf, rfl, rfl⟩; try simp only [List.cons_append, List.nil_append]) | fail)) | fail)) | refine yJ ?_ | ((with_reducible apply gJ_if); (first | (refine J_if xR ?_ ?_ <;> intro _ <;> (try (exfalso; first | contradiction | omega))) | (refine J_ifb xR ?_ ?_ <;> (intro hgb; subst hgb)) | (refine J_ifb xR ?_ ?_ <;> intro _) | fail)) | refine J_draw (id := 1) [0, 1, 2, 3, 4] [5, 6] mixed xC xD xD ?_ | refine J_draw (id := 4) [0, 1, 2, 3, 4, 5, 6, 7, 9, 10, 11, 12, 13, 14, 15, 16, 8, 17] [18, 19] mixed xC xD xD ?_ | fail))
    all_goals (first | (exfalso; omega) | skip)
    exact J_retC2 (cs := atC d2) rfl (by rfl) (by rfl) (by rfl) xA (by rfl) fun w H => ⟨_, ⟨d2, r.st, true, ⟨hd2, by rw [hnf]⟩, rfl, rfl⟩, H.sel xZ⟩
def stO (L : List Ro) : List Ro := L.filter fun r => r.st
theorem stO_len (L : List Ro) : (stO L).length ≤ L.length := List.length_filter_le _ _
theorem take_ro {L : List Ro} {k : Nat} {x : Ro} (h : L[k]? = some x) : L.take (k + 1) = L.take k ++ [x] := by rw [List.take_add_one, h]; rfl
theorem rfstale_s (hl : L.length ≤ 100000) : Pact Tryz.prog 59 #[.pointer (some ⟨rb, 0, none⟩)] (fun _ => True) (RfL rb lim a c L) (fun u L' => u = .int .i64 (stO L).length ∧ L' = RfL rb lim a c L) := by
  refine pact Tryz.func59 rfl Tryz.ntmps59 rfl ?_
  intro W K _
  (repeat' (first | ((with_reducible apply gL); (first | refine yL0 ?_ | refine yL ?_ | fail)) | refine yJ ?_ | ((with_reducible apply gJ_if); (first | (refine J_if xR ?_ ?_ <;> intro _ <;> (try (exfalso; first | contradiction | omega))) | (refine J_ifb xR ?_ ?_ <;> (intro hgb; subst hgb)) | (refine J_ifb xR ?_ ?_ <;> intro _) | fail)) | fail))
  refine J_loop (α := Nat) 0 (fun k => L.length - k) (fun k => k ≤ L.length) (fun k => [(0, .pointer (some ⟨rb, 0, none⟩)), (3, .int .i64 (stO (L.take k)).length), (4, .int .i64 k)]) (fun _ => RfL rb lim a c L) (Nat.zero_le _) ⟨rfl, rfl, rfl, trivial⟩ (fun w H => H.sel xZ) ?_
  intro k hk
  have hb := stO_len (L.take k)
  rw [List.length_take] at hb
  by_cases hlt : k < L.length
  · obtain ⟨x, hx⟩ : ∃ x, L[k]? = some x := ⟨_, List.getElem?_eq_getElem hlt⟩
    have hsn : stO (L.take (k + 1)) = stO (L.take k) ++ (if x.st then [x] else []) := by
      rw [take_ro hx]
      unfold stO
      rw [List.filter_append]
      cases h : x.st <;> simp [h]
    obtain ⟨xp, xd, st⟩ := x
    rcases st with _ | _
    · rw [if_neg (by simp), List.append_nil] at hsn
      (repeat' (first | ((with_reducible apply gL); (first | refine yL0 ?_ | refine yL ?_ | fail)) | refine yJ ?_ | ((with_reducible apply gJ_if); (first | (refine J_if xR ?_ ?_ <;> intro _ <;> (try (exfalso; first | contradiction | omega))) | (refine J_ifb xR ?_ ?_ <;> (intro hgb; subst hgb)) | (refine J_ifb xR ?_ ?_ <;> intro _) | fail)) | fail))
      refine J_again (k + 1) (by omega) (by omega) ⟨rfl, ?_, rfl, trivial⟩ (fun w H => H.sel xZ)
      show some _ = some _
      rw [hsn]
    · rw [if_pos rfl] at hsn
      (repeat' (first | ((with_reducible apply gL); (first | refine yL0 ?_ | refine yL ?_ | fail)) | refine yJ ?_ | ((with_reducible apply gJ_if); (first | (refine J_if xR ?_ ?_ <;> intro _ <;> (try (exfalso; first | contradiction | omega))) | (refine J_ifb xR ?_ ?_ <;> (intro hgb; subst hgb)) | (refine J_ifb xR ?_ ?_ <;> intro _) | fail)) | fail))
      refine J_again (k + 1) (by omega) (by omega) ⟨rfl, ?_, rfl, trivial⟩ (fun w H => H.sel xZ)
      show some _ = some _
      rw [hsn, List.length_append]
      rfl
  · obtain rfl : k = L.length := by omega
    rw [List.take_length]
    (repeat' (first | ((with_reducible apply gL); (first | refine yL0 ?_ | refine yL ?_ | fail)) | refine yJ ?_ | ((with_reducible apply gJ_if); (first | (refine J_if xR ?_ ?_ <;> intro _ <;> (try (exfalso; first | contradiction | omega))) | (refine J_ifb xR ?_ ?_ <;> (intro hgb; subst hgb)) | (refine J_ifb xR ?_ ?_ <;> intro _) | fail)) | fail))
    exact J_ret1 rfl (by rfl) fun w H => ⟨_, ⟨rfl, rfl⟩, H.sel xZ⟩
def mkO (r : Ro) : Ro := ⟨r.p, r.d, true⟩
def mkL (L : List Ro) (k : Nat) : List Ro := (L.take k).map mkO ++ L.drop k
theorem mkL_len (L : List Ro) (k : Nat) : (mkL L k).length = L.length := by
  unfold mkL
  rw [List.length_append, List.length_map, List.length_take, List.length_drop]
  omega
theorem mkL_at {L : List Ro} {k : Nat} {x : Ro} (h : L[k]? = some x) : (mkL L k)[k]? = some x ∧ (mkL L k).set k (mkO x) = mkL L (k + 1) := by
  have hk := (List.getElem?_eq_some_iff.1 h).1
  have hx := (List.getElem?_eq_some_iff.1 h).2
  have hl : ((L.take k).map mkO).length = k := by rw [List.length_map, List.length_take]; omega
  have hd : L.drop k = x :: L.drop (k + 1) := by rw [← hx, List.getElem_cons_drop]
  unfold mkL
  constructor
  · rw [List.getElem?_append_right (by omega), hl, Nat.sub_self, hd]
    rfl
  · rw [List.set_append_right _ _ (by omega), hl, Nat.sub_self, hd, take_ro h, List.map_append]
    simp
theorem rfmark_s (hl : L.length ≤ 100000) : Pact Tryz.prog 55 #[.pointer (some ⟨rb, 0, none⟩)] (fun _ => True) (RfL rb lim a c L) (fun _ L' => L' = RfL rb lim a c (L.map mkO)) := by
  refine pact Tryz.func55 rfl Tryz.ntmps55 rfl ?_
  intro W K _
  (repeat' (first | ((with_reducible apply gL); (first | refine yL0 ?_ | refine yL ?_ | fail)) | refine yJ ?_ | ((with_reducible apply gJ_if); (first | (refine J_if xR ?_ ?_ <;> intro _ <;> (try (exfalso; first | contradiction | omega))) | (refine J_ifb xR ?_ ?_ <;> (intro hgb; subst hgb)) | (refine J_ifb xR ?_ ?_ <;> intro _) | fail)) | fail))
  refine J_loop (α := Nat) 0 (fun k => L.length - k) (fun k => k ≤ L.length) (fun k => [(0, .pointer (some ⟨rb, 0, none⟩)), (2, .int .i64 k)]) (fun k => [pts rb [.slice a L.length c, .int .i64 lim] 68, Ar 108 16 roC (.slice a L.length c) (mkL L k), has (fun w => ∀ r ∈ L, AtV w r.d)]) (Nat.zero_le _) ⟨rfl, rfl, trivial⟩ (fun w H => H.sel xZ) ?_
  intro k hk
  have hml := mkL_len L k
  by_cases hlt : k < L.length
  · obtain ⟨x, hx⟩ : ∃ x, L[k]? = some x := ⟨_, List.getElem?_eq_getElem hlt⟩
    obtain ⟨hm1, hm2⟩ := mkL_at hx
    (repeat' (first | ((with_reducible apply gL); (first | refine yL0 ?_ | ((with_reducible apply gL_store); (first | (refine JL_stEf (z' := mkO x) (by rfl) (by rfl) xA hm1 (by rfl) (by intro _; rfl) (by rfl) (by rfl) (by (first | ((repeat (first | exact Put.e | apply Put.t | apply Put.s)); done) | fail)) (by rfl) (by rfl) (by rfl) ?_) | fail)) | refine yL ?_ | fail)) | refine yJ ?_ | ((with_reducible apply gJ_if); (first | (refine J_if xR ?_ ?_ <;> intro _ <;> (try (exfalso; first | contradiction | omega))) | (refine J_ifb xR ?_ ?_ <;> (intro hgb; subst hgb)) | (refine J_ifb xR ?_ ?_ <;> intro _) | fail)) | fail))
    refine J_again (k + 1) (by omega) (by omega) ⟨rfl, rfl, trivial⟩ (fun w H => ?_)
    rw [hm2] at H
    exact H.sel xZ
  · obtain rfl : k = L.length := by omega
    have hE : mkL L L.length = L.map mkO := by unfold mkL; rw [List.take_length, List.drop_length, List.append_nil]
    rw [hE]
    have hlen : (L.map mkO).length = L.length := List.length_map _
    (repeat' (first | ((with_reducible apply gL); (first | refine yL0 ?_ | refine yL ?_ | fail)) | refine yJ ?_ | ((with_reducible apply gJ_if); (first | (refine J_if xR ?_ ?_ <;> intro _ <;> (try (exfalso; first | contradiction | omega))) | (refine J_ifb xR ?_ ?_ <;> (intro hgb; subst hgb)) | (refine J_ifb xR ?_ ?_ <;> intro _) | fail)) | fail))
    refine J_end0 rfl fun w H => ⟨_, rfl, ?_⟩
    have H := (Ow.has (M := [has (fun w => ∀ r ∈ L, AtV w r.d)]) (φ := fun w => ∀ r ∈ L.map mkO, AtV w r.d) H xZ (fun w hr r hm => by
      obtain ⟨x, hx, rfl⟩ := List.mem_map.1 hm
      exact hr.has (φ := fun w => ∀ r ∈ L, AtV w r.d) .here x hx))
    unfold RfL
    rw [hlen]
    exact H.sel xZ
def liveO (L : List Ro) : List Ro := L.filter fun r => !r.st
theorem liveO_len (L : List Ro) : (liveO L).length ≤ L.length := List.length_filter_le _ _
theorem rfsweep_s (hL : ∀ r ∈ L, RoN r) (hs : SrV (vL L)) (hl : L.length ≤ 1000) : Pact Tryz.prog 56 #[.pointer (some ⟨rb, 0, none⟩)] (fun _ => True) (RfL rb lim a c L) (fun v L' => ∃ (a2 : Option Addr) (c2 : Nat) (a3 : Option Addr) (c3 : Nat) (ps : List Pf), (ps.Pairwise (fun p q => Ah p q) ∧ ∀ q, q ∈ ps ↔ Df (vL L) (vL (liveO L)) q) ∧ v = .slice a3 ps.length c3 ∧ L' = Ar 41 2 pfC (.slice a3 ps.length c3) ps :: RfL rb lim a2 c2 (liveO L)) := by
  refine pact Tryz.func56 rfl Tryz.ntmps56 rfl ?_
  intro W K _
  (repeat' (first | ((with_reducible apply gL); (first | refine yL0 ?_ | refine yL ?_ | (refine yM ?_; intro _) | (refine yA ?_; intro _ _ _ _) | fail)) | refine yJ ?_ | ((with_reducible apply gJ_if); (first | (refine J_if xR ?_ ?_ <;> intro _ <;> (try (exfalso; first | contradiction | omega))) | (refine J_ifb xR ?_ ?_ <;> (intro hgb; subst hgb)) | (refine J_ifb xR ?_ ?_ <;> intro _) | fail)) | fail))
  rename_i g0
  refine J_loop (α := Lr) ⟨0, some ⟨g0, 0, none⟩, 0⟩ (fun x => L.length - x.k) (fun x => x.k ≤ L.length) (fun x => [(0, .pointer (some ⟨rb, 0, none⟩)), (3, .slice x.ad (liveO (L.take x.k)).length x.cc), (4, .int .i64 x.k)]) (fun x => [pts rb [.slice a L.length c, .int .i64 lim] 68, Ar 108 16 roC (.slice a L.length c) L, has (fun w => ∀ r ∈ L, AtV w r.d), Ar 108 16 roC (.slice x.ad (liveO (L.take x.k)).length x.cc) (liveO (L.take x.k))]) (Nat.zero_le _) ⟨rfl, rfl, rfl, trivial⟩ (fun w H => (Ow.arLit0 (sz := 16) (enc := roC) (b := g0) (T := 108) H xA).sel xZ) ?_
  rintro ⟨k, ad, cc⟩ hk
  dsimp only at hk ⊢
  have hb := liveO_len (L.take k)
  rw [List.length_take] at hb
  by_cases hlt : k < L.length
  · obtain ⟨x, hx⟩ : ∃ x, L[k]? = some x := ⟨_, List.getElem?_eq_getElem hlt⟩
    have hsn : liveO (L.take (k + 1)) = liveO (L.take k) ++ (if x.st then [] else [x]) := by
      rw [take_ro hx]
      unfold liveO
      rw [List.filter_append]
      cases h : x.st <;> simp [h]
    obtain ⟨xp, xd, st⟩ := x
    rcases st with _ | _
    · rw [if_neg (by simp)] at hsn
      (repeat' (first | ((with_reducible apply gL); (first | refine yL0 ?_ | ((with_reducible apply gL_c_append); (first | (refine JL_ap1 (z := (⟨xp, xd, false⟩ : Ro)) (tabE etab_ok xR) xR xR xA xA xC xR xL xR (by omega) xR xR ?_; intro ad2 c2 _ _) | fail)) | refine yL ?_ | (refine yM ?_; intro _) | (refine yA ?_; intro _ _ _ _) | fail)) | refine yJ ?_ | ((with_reducible apply gJ_if); (first | (refine J_if xR ?_ ?_ <;> intro _ <;> (try (exfalso; first | contradiction | omega))) | (refine J_ifb xR ?_ ?_ <;> (intro hgb; subst hgb)) | (refine J_ifb xR ?_ ?_ <;> intro _) | fail)) | fail))
      refine J_again ⟨k + 1, ad2, c2⟩ (by dsimp only; omega) (by dsimp only; omega) ⟨rfl, ?_, rfl, trivial⟩ (fun w H => ?_)
      · show some _ = some _
        rw [hsn]
        simp
      · dsimp only
        rw [hsn, List.length_append]
        exact H.sel xZ
    · rw [if_pos rfl, List.append_nil] at hsn
      (repeat' (first | ((with_reducible apply gL); (first | refine yL0 ?_ | refine yL ?_ | (refine yM ?_; intro _) | (refine yA ?_; intro _ _ _ _) | fail)) | refine yJ ?_ | ((with_reducible apply gJ_if); (first | (refine J_if xR ?_ ?_ <;> intro _ <;> (try (exfalso; first | contradiction | omega))) | (refine J_ifb xR ?_ ?_ <;> (intro hgb; subst hgb)) | (refine J_ifb xR ?_ ?_ <;> intro _) | fail)) | fail))
      refine J_again ⟨k + 1, ad, cc⟩ (by dsimp only; omega) (by dsimp only; omega) ⟨rfl, ?_, rfl, trivial⟩ (fun w H => ?_)
      · show some _ = some _
        rw [hsn]
      · dsimp only
        rw [hsn]
        exact H.sel xZ
  · obtain rfl : k = L.length := by omega
    rw [List.take_length] at hb ⊢
    have kch := chg_s a ad c cc L.length (liveO L).length L (liveO L) rfl rfl hL (fun r hr => hL r (List.mem_filter.1 hr).1) hs (by omega)
    (repeat' (first | ((with_reducible apply gL); (first | refine yL0 ?_ | refine yL ?_ | ((with_reducible apply gL_go); (first | (refine JL_goq (kch) (hφ := (by (try simp only [List.cons_append, List.nil_append]); exact fun w hr => ⟨⟨Src.ar xA w hr, Src.ar xA w hr⟩, hr.has (φ := fun w => ∀ r ∈ L, AtV w r.d) xA, fun r hm => hr.has (φ := fun w => ∀ r ∈ L, AtV w r.d) xA r (List.mem_filter.1 hm).1⟩)) (h := ?_); rintro _ _ ⟨a5, c5, ps, hps, rfl, rfl⟩; try simp only [List.cons_append, List.nil_append]) | fail)) | (refine yM ?_; intro _) | (refine yA ?_; intro _ _ _ _) | fail)) | refine yJ ?_ | ((with_reducible apply gJ_if); (first | (refine J_if xR ?_ ?_ <;> intro _ <;> (try (exfalso; first | contradiction | omega))) | (refine J_ifb xR ?_ ?_ <;> (intro hgb; subst hgb)) | (refine J_ifb xR ?_ ?_ <;> intro _) | fail)) | fail))
    exact J_ret1 rfl (by rfl) fun w H => ⟨_, ⟨ad, cc, a5, c5, ps, hps, rfl, rfl⟩, (Ow.has (M := [has (fun w => ∀ r ∈ L, AtV w r.d)]) (φ := fun w => ∀ r ∈ liveO L, AtV w r.d) H xZ (fun w hr r hm => hr.has (φ := fun w => ∀ r ∈ L, AtV w r.d) .here r (List.mem_filter.1 hm).1)).sel xZ⟩
theorem rfclear_s (hL : ∀ r ∈ L, RoN r) (hs : SrV (vL L)) (hl : L.length ≤ 1000) : Pact Tryz.prog 57 #[.pointer (some ⟨rb, 0, none⟩)] (fun _ => True) (RfL rb lim a c L) (fun v L' => ∃ (a3 : Option Addr) (c3 : Nat) (ps : List Pf), (ps.Pairwise (fun p q => Ah p q) ∧ ∀ q, q ∈ ps ↔ Df (vL L) (vL []) q) ∧ v = .slice a3 ps.length c3 ∧ L' = Ar 41 2 pfC (.slice a3 ps.length c3) ps :: RfL rb lim none 0 []) := by
  refine pact Tryz.func57 rfl Tryz.ntmps57 rfl ?_
  intro W K _
  have kch := chg_s a none c 0 L.length 0 L [] rfl rfl hL (fun _ h => absurd h List.not_mem_nil) hs (by omega)
  (repeat' (first | ((with_reducible apply gL); (first | refine yL0 ?_ | refine yL ?_ | ((with_reducible apply gL_go); (first | (refine JL_goq (kch) (hφ := (by (try simp only [List.cons_append, List.nil_append]); exact fun w hr => ⟨⟨Src.ar xA w hr, Vw.nil w 16⟩, hr.has (φ := fun w => ∀ r ∈ L, AtV w r.d) xA, fun _ h => absurd h List.not_mem_nil⟩)) (h := ?_); rintro _ _ ⟨a5, c5, ps, hps, rfl, rfl⟩; try simp only [List.cons_append, List.nil_append]) | fail)) | fail)) | refine yJ ?_ | fail))
  exact J_ret1 rfl (by rfl) fun w H => ⟨_, ⟨a5, c5, ps, hps, rfl, rfl⟩, (Ow.hasTrue (φ := fun w => ∀ r ∈ ([] : List Ro), AtV w r.d) (Ow.arNil (e := 108) (sz := 16) (enc := roC) H) (fun _ _ h => absurd h List.not_mem_nil)).sel xZ⟩
end
end Go.Proofs.YtnhabkipjmgaaaaGreat
