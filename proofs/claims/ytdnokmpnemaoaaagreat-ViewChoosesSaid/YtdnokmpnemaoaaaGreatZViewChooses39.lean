/-
  Ru10, Ru11, Ru12: merged.
-/
import Derived.Test.YtdnokmpnemaoaaaGreatZViewChooses38
namespace Go.Proofs.YtdnokmpnemaoaaaGreat.C
set_option linter.unusedSimpArgs false
set_option linter.unusedVariables false
set_option maxRecDepth 20000
set_option maxHeartbeats 4000000
open Go.RowKit Go.Pm
theorem zd121Ru10 {p q : Prop} (k : p) (h : p → q := by intro hk; first | exact J_draw (id := 9) [0, 1, 2, 3, 4, 5, 6, 7] [8, 9, 10, 11, 12, 13] mixed xC xD xD hk | exact J_draw (id := 12) [0, 1, 2, 3, 4, 5, 6] [7, 8, 9, 10] mixed xC xD xD hk | exact J_draw (id := 13) [0, 1, 2, 3, 4, 5, 6] [7, 8, 9, 10] mixed xC xD xD hk | exact J_draw (id := 14) [0, 1, 2, 3, 4, 5] [6] mixed xC xD xD hk | exact J_draw (id := 16) [0, 1, 2, 3, 4, 5, 7, 6, 8, 9] [10, 11, 12, 13] mixed xC xD xD hk | fail) : q := h k

theorem at_comms {d : At} (hd : AtF d) {l : List Int} (hl : ∀ z ∈ l, U32 z) (h2 : l.length ≤ 40) (a : Option Addr) (c : Nat) : AtF { d with comms := l, ca := a, cc := c } := ⟨⟨hd.num.origin, hd.num.next, hd.num.med, hd.num.loc, hd.num.makerAS, hd.num.maker, hd.num.path, hl, hd.num.others⟩, hd.path, h2, hd.others⟩
theorem ow_comms {W : World} {K : Hl} {L R : List HP} {w : World} {d : At} {l : List Int} {a : Option Addr} {c m : Nat} (H : Ow W K L w) (hm : l.length = m) (t : Tk L (Ar 22 1 u32C (.slice a m c) l) R) : Ow W K (has (fun w => AtV w d → AtV w { d with comms := l, ca := a, cc := c }) :: R) w := by
  subst hm
  exact Ow.has (M := [Ar 22 1 u32C (.slice a l.length c) l]) H (.cons t .nil) (fun w hr h => ⟨h.path, Src.ar .here w hr, h.others⟩)
theorem do_add (rb : Nat) (p : Pf) (d : At) (hd : AtF d) (s : Sp) (ho : s.op = 27) (hn : 0 ≤ s.n ∧ s.n ≤ 4294967295) : Pact Tryz.prog 121 #[.pointer (some ⟨rb, 0, none⟩), .agg (spC s).toArray] (fun w => AtV w d) [pts rb (routeC p d) 157] (DoR rb p d (doN 7 s.n s.m d.nf)) := by
  refine pact Tryz.func121 rfl Tryz.ntmps121 rfl ?_
  intro W K hK
  have hcl := hd.comms
  have hC := contains_s d.ca d.cc d.comms s.n (by omega)
  have hQ := cloneU_s d.ca d.cc d.comms (by omega)
  have e7 : doN 7 s.n s.m d.nf = if s.n ∈ d.comms then some d.nf else if 32 ≤ d.comms.length then none else some { d.nf with comms := d.comms ++ [s.n] } := rfl
  by_cases hin : s.n ∈ d.comms
  · rw [decide_eq_true hin] at hC
    rw [if_pos hin] at e7
    rw [e7]
    (repeat' (first | (refine gL ?_; first | refine yL0 ?_ | refine yL ?_ | (refine yM ?_; intro _)) | (refine gD ?_; first | (refine yN ?_; try simp only [cAp, nAp]) | refine yD ?_ | (refine yE ?_; intro _) | (refine yB ?_; intro _ _ _ _)) | refine yJ ?_ | refine zd121Ru10 ?_ | (refine yI ?_ ?_ <;> intro _ <;> try exact xX) | (refine yK ?_ ?_ <;> intro hgb <;> first | subst hgb | fail_if_success have : type_of% hgb := rfl) | fail))
    refine J_scope (α := Unit) 0 (fun _ => 0) (fun _ => False) (fun _ => []) (fun _ => []) rfl rfl ?_ (fun _ h => h.elim)
    simp only [List.map_cons, List.map_nil, List.cons_append, List.nil_append]
    (repeat' (first | (refine gL ?_; first | refine yL0 ?_ | refine yL ?_ | (refine gL_go ?_; (refine JL_goq (hC) (hφ := (by (try simp only [cAp, nAp]); exact fun w hr => (hK w hr.1).comms)) (h := ?_); rintro _ _ ⟨rfl, rfl⟩; try simp only [cAp, nAp])) | (refine yM ?_; intro _)) | (refine gD ?_; first | (refine yN ?_; try simp only [cAp, nAp]) | refine yD ?_ | (refine gD_go ?_; (refine JD_goq (hC) (hφ := (by (try simp only [cAp, nAp]); exact fun w hr => (hK w hr.1).comms)) (h := ?_); rintro _ _ ⟨rfl, rfl⟩; try simp only [cAp, nAp])) | (refine yE ?_; intro _) | (refine yB ?_; intro _ _ _ _)) | refine yJ ?_ | refine zd121Ru10 ?_ | (refine yI ?_ ?_ <;> intro _ <;> try exact xX) | (refine yK ?_ ?_ <;> intro hgb <;> first | subst hgb | fail_if_success have : type_of% hgb := rfl) | fail))
    all_goals (first | (exfalso; omega) | skip)
    exact J_ret1 rfl (by rfl) fun w H => do_same hd true rfl H xA
  · rw [decide_eq_false hin] at hC
    rw [if_neg hin] at e7
    by_cases h32 : 32 ≤ d.comms.length
    · rw [if_pos h32] at e7
      rw [e7]
      (repeat' (first | (refine gL ?_; first | refine yL0 ?_ | refine yL ?_ | (refine yM ?_; intro _)) | (refine gD ?_; first | (refine yN ?_; try simp only [cAp, nAp]) | refine yD ?_ | (refine yE ?_; intro _) | (refine yB ?_; intro _ _ _ _)) | refine yJ ?_ | refine zd121Ru10 ?_ | (refine yI ?_ ?_ <;> intro _ <;> try exact xX) | (refine yK ?_ ?_ <;> intro hgb <;> first | subst hgb | fail_if_success have : type_of% hgb := rfl) | fail))
      refine J_scope (α := Unit) 0 (fun _ => 0) (fun _ => True) (fun _ => []) (fun _ => [pts rb (routeC p d) 157]) rfl rfl ?_ ?_
      · simp only [List.map_cons, List.map_nil, List.cons_append, List.nil_append]
        (repeat' (first | (refine gL ?_; first | refine yL0 ?_ | refine yL ?_ | (refine gL_go ?_; (refine JL_goq (hC) (hφ := (by (try simp only [cAp, nAp]); exact fun w hr => (hK w hr.1).comms)) (h := ?_); rintro _ _ ⟨rfl, rfl⟩; try simp only [cAp, nAp])) | (refine yM ?_; intro _)) | (refine gD ?_; first | (refine yN ?_; try simp only [cAp, nAp]) | refine yD ?_ | (refine gD_go ?_; (refine JD_goq (hC) (hφ := (by (try simp only [cAp, nAp]); exact fun w hr => (hK w hr.1).comms)) (h := ?_); rintro _ _ ⟨rfl, rfl⟩; try simp only [cAp, nAp])) | (refine yE ?_; intro _) | (refine yB ?_; intro _ _ _ _)) | refine yJ ?_ | refine zd121Ru10 ?_ | (refine yI ?_ ?_ <;> intro _ <;> try exact xX) | (refine yK ?_ ?_ <;> intro hgb <;> first | subst hgb | fail_if_success have : type_of% hgb := rfl) | fail))
        all_goals (first | (exfalso; omega) | skip)
        exact J_meet () trivial trivial (fun w H => H.sel xZ)
      · rintro ⟨⟩ _
        simp only [List.map_cons, List.map_nil, List.cons_append, List.nil_append]
        (repeat' (first | (refine gL ?_; first | refine yL0 ?_ | refine yL ?_ | (refine yM ?_; intro _)) | (refine gD ?_; first | (refine yN ?_; try simp only [cAp, nAp]) | refine yD ?_ | (refine yE ?_; intro _) | (refine yB ?_; intro _ _ _ _)) | refine yJ ?_ | refine zd121Ru10 ?_ | (refine yI ?_ ?_ <;> intro _ <;> try exact xX) | (refine yK ?_ ?_ <;> intro hgb <;> first | subst hgb | fail_if_success have : type_of% hgb := rfl) | fail))
        exact J_ret1 rfl (by rfl) fun w H => do_same hd false rfl H xA
    · rw [if_neg h32] at e7
      rw [e7]
      (repeat' (first | (refine gL ?_; first | refine yL0 ?_ | refine yL ?_ | (refine yM ?_; intro _)) | (refine gD ?_; first | (refine yN ?_; try simp only [cAp, nAp]) | refine yD ?_ | (refine yE ?_; intro _) | (refine yB ?_; intro _ _ _ _)) | refine yJ ?_ | refine zd121Ru10 ?_ | (refine yI ?_ ?_ <;> intro _ <;> try exact xX) | (refine yK ?_ ?_ <;> intro hgb <;> first | subst hgb | fail_if_success have : type_of% hgb := rfl) | fail))
      refine J_scope (α := Unit) 0 (fun _ => 0) (fun _ => False) (fun _ => []) (fun _ => []) rfl rfl ?_ (fun _ h => h.elim)
      simp only [List.map_cons, List.map_nil, List.cons_append, List.nil_append]
      (repeat' (first | (refine gL ?_; first | refine yL0 ?_ | refine yL ?_ | (refine gL_go ?_; first | (refine JL_goq (hC) (hφ := (by (try simp only [cAp, nAp]); exact fun w hr => (hK w hr.1).comms)) (h := ?_); rintro _ _ ⟨rfl, rfl⟩; try simp only [cAp, nAp]) | (refine JL_goq (hQ) (hφ := (by (try simp only [cAp, nAp]); exact fun w hr => (hK w hr.1).comms)) (h := ?_); rintro _ _ ⟨ad3, c3, rfl, rfl⟩; try simp only [cAp, nAp])) | (refine yM ?_; intro _)) | (refine gD ?_; first | (refine yN ?_; try simp only [cAp, nAp]) | (refine gD_c_append ?_; (refine JD_ap1 (z := s.n) (tabE etab_ok xR) xR xR xA xA xC xR xL xR (by omega) xR ?_; intro ad4 c4 _ _)) | refine yD ?_ | (refine gD_go ?_; first | (refine JD_goq (hC) (hφ := (by (try simp only [cAp, nAp]); exact fun w hr => (hK w hr.1).comms)) (h := ?_); rintro _ _ ⟨rfl, rfl⟩; try simp only [cAp, nAp]) | (refine JD_goq (hQ) (hφ := (by (try simp only [cAp, nAp]); exact fun w hr => (hK w hr.1).comms)) (h := ?_); rintro _ _ ⟨ad3, c3, rfl, rfl⟩; try simp only [cAp, nAp])) | (refine yE ?_; intro _) | (refine yB ?_; intro _ _ _ _)) | refine yJ ?_ | refine zd121Ru10 ?_ | (refine yI ?_ ?_ <;> intro _ <;> try exact xX) | (refine yK ?_ ?_ <;> intro hgb <;> first | subst hgb | fail_if_success have : type_of% hgb := rfl) | fail))
      all_goals (first | (exfalso; omega) | skip)
      have hll : (d.comms ++ [s.n]).length = d.comms.length + 1 := by simp
      refine J_ret1 rfl (by rfl) fun w H => ⟨_, ⟨{ d with comms := d.comms ++ [s.n], ca := ad4, cc := c4 }, true, at_comms hd (fun z hz => ?_) (by rw [hll]; omega) ad4 c4, rfl, rfl, rfl⟩, ?_⟩
      · rcases List.mem_append.1 hz with hz | hz
        · exact hd.num.comms z hz
        · obtain rfl := List.mem_singleton.1 hz; exact hn
      · have H2 := ow_comms (d := d) H hll xA
        rw [← hll] at H2
        exact H2.sel xZ
theorem do_drop (rb : Nat) (p : Pf) (d : At) (hd : AtF d) (s : Sp) (ho : s.op = 28) (hn : 0 ≤ s.n ∧ s.n ≤ 4294967295) : Pact Tryz.prog 121 #[.pointer (some ⟨rb, 0, none⟩), .agg (spC s).toArray] (fun w => AtV w d) [pts rb (routeC p d) 157] (DoR rb p d (doN 8 s.n s.m d.nf)) := by
  refine pact Tryz.func121 rfl Tryz.ntmps121 rfl ?_
  intro W K hK
  have hcl := hd.comms
  have hQ := cloneU_s d.ca d.cc d.comms (by omega)
  (repeat' (first | (refine gL ?_; first | refine yL0 ?_ | refine yL ?_ | (refine yM ?_; intro _)) | (refine gD ?_; first | (refine yN ?_; try simp only [cAp, nAp]) | refine yD ?_ | (refine yE ?_; intro _) | (refine yB ?_; intro _ _ _ _)) | refine yJ ?_ | refine zd121Ru10 ?_ | (refine yI ?_ ?_ <;> intro _ <;> try exact xX) | (refine yK ?_ ?_ <;> intro hgb <;> first | subst hgb | fail_if_success have : type_of% hgb := rfl) | fail))
  refine J_scope (α := Unit) 0 (fun _ => 0) (fun _ => False) (fun _ => []) (fun _ => []) rfl rfl ?_ (fun _ h => h.elim)
  simp only [List.map_cons, List.map_nil, List.cons_append, List.nil_append]
  (repeat' (first | (refine gL ?_; first | refine yL0 ?_ | refine yL ?_ | (refine gL_go ?_; first | (refine JL_goq (hQ) (hφ := (by (try simp only [cAp, nAp]); exact fun w hr => (hK w hr.1).comms)) (h := ?_); rintro _ _ ⟨ad3, c3, rfl, rfl⟩; try simp only [cAp, nAp]) | (refine JL_goq (deleteU_s ad3 c3 d.comms _ s.n (by omega)) (hφ := xF) (h := ?_); rintro _ _ ⟨ad4, c4, rfl, rfl⟩; try simp only [cAp, nAp])) | (refine yM ?_; intro _)) | (refine gD ?_; first | (refine yN ?_; try simp only [cAp, nAp]) | refine yD ?_ | (refine gD_go ?_; first | (refine JD_goq (hQ) (hφ := (by (try simp only [cAp, nAp]); exact fun w hr => (hK w hr.1).comms)) (h := ?_); rintro _ _ ⟨ad3, c3, rfl, rfl⟩; try simp only [cAp, nAp]) | (refine JD_goq (deleteU_s ad3 c3 d.comms _ s.n (by omega)) (hφ := xF) (h := ?_); rintro _ _ ⟨ad4, c4, rfl, rfl⟩; try simp only [cAp, nAp])) | (refine yE ?_; intro _) | (refine yB ?_; intro _ _ _ _)) | refine yJ ?_ | refine zd121Ru10 ?_ | (refine yI ?_ ?_ <;> intro _ <;> try exact xX) | (refine yK ?_ ?_ <;> intro hgb <;> first | subst hgb | fail_if_success have : type_of% hgb := rfl) | fail))
  all_goals (first | (exfalso; omega) | skip)
  have hll := delU_len s.n d.comms
  refine J_ret1 rfl (by rfl) fun w H => ⟨_, ⟨{ d with comms := delU s.n d.comms, ca := ad4, cc := c4 }, true, at_comms hd (fun z hz => hd.num.comms z (List.mem_filter.1 hz).1) (Nat.le_trans hll (by omega)) ad4 c4, rfl, rfl, rfl⟩, ?_⟩
  exact (ow_comms (d := d) H rfl xA).sel xZ
theorem do_clear (rb : Nat) (p : Pf) (d : At) (hd : AtF d) (s : Sp) (ho : s.op = 29) (hn : 0 ≤ s.n ∧ s.n ≤ 4294967295) : Pact Tryz.prog 121 #[.pointer (some ⟨rb, 0, none⟩), .agg (spC s).toArray] (fun w => AtV w d) [pts rb (routeC p d) 157] (DoR rb p d (doN 9 s.n s.m d.nf)) := by
  refine pact Tryz.func121 rfl Tryz.ntmps121 rfl ?_
  intro W K hK
  have hQ := cloneU_s none 0 [] (by simp)
  have hD := fun a3 c3 db => deleteU_s a3 c3 [] db s.n (by simp)
  simp only [List.length_nil, show delU s.n [] = [] from rfl] at hQ hD
  (repeat' (first | (refine gL ?_; first | refine yL0 ?_ | refine yL ?_ | (refine yM ?_; intro _)) | (refine gD ?_; first | (refine yN ?_; try simp only [cAp, nAp]) | refine yD ?_ | (refine yE ?_; intro _) | (refine yB ?_; intro _ _ _ _)) | refine yJ ?_ | refine zd121Ru10 ?_ | (refine yI ?_ ?_ <;> intro _ <;> try exact xX) | (refine yK ?_ ?_ <;> intro hgb <;> first | subst hgb | fail_if_success have : type_of% hgb := rfl) | fail))
  refine J_scope (α := Unit) 0 (fun _ => 0) (fun _ => False) (fun _ => []) (fun _ => []) rfl rfl ?_ (fun _ h => h.elim)
  simp only [List.map_cons, List.map_nil, List.cons_append, List.nil_append]
  (repeat' (first | (refine gL ?_; first | refine yL0 ?_ | refine yL ?_ | (refine gL_go ?_; first | (refine JL_goq (hQ) (hφ := (by (try simp only [cAp, nAp]); exact fun w hr => Vw.nil w 1)) (h := ?_); rintro _ _ ⟨ad3, c3, rfl, rfl⟩; try simp only [cAp, nAp]) | (refine JL_goq (hD ad3 c3 _) (hφ := xF) (h := ?_); rintro _ _ ⟨ad4, c4, rfl, rfl⟩; try simp only [cAp, nAp])) | (refine yM ?_; intro _)) | (refine gD ?_; first | (refine yN ?_; try simp only [cAp, nAp]) | refine yD ?_ | (refine gD_go ?_; first | (refine JD_goq (hQ) (hφ := (by (try simp only [cAp, nAp]); exact fun w hr => Vw.nil w 1)) (h := ?_); rintro _ _ ⟨ad3, c3, rfl, rfl⟩; try simp only [cAp, nAp]) | (refine JD_goq (hD ad3 c3 _) (hφ := xF) (h := ?_); rintro _ _ ⟨ad4, c4, rfl, rfl⟩; try simp only [cAp, nAp])) | (refine yE ?_; intro _) | (refine yB ?_; intro _ _ _ _)) | refine yJ ?_ | refine zd121Ru10 ?_ | (refine yI ?_ ?_ <;> intro _ <;> try exact xX) | (refine yK ?_ ?_ <;> intro hgb <;> first | subst hgb | fail_if_success have : type_of% hgb := rfl) | fail))
  all_goals (first | (exfalso; omega) | skip)
  refine J_ret1 rfl (by rfl) fun w H => ⟨_, ⟨{ d with comms := [], ca := ad4, cc := c4 }, true, at_comms hd (fun z hz => by cases hz) (by simp) ad4 c4, rfl, rfl, rfl⟩, ?_⟩
  exact (ow_comms (d := d) (l := []) (m := 0) H rfl xA).sel xZ
theorem len_tot {P : Pa} (h : ckP P 0 = true) : P.length ≤ tot P := by
  have h1 := ((ckP_iff P 0 (by omega)).1 h).1
  clear h
  induction P with
  | nil => simp
  | cons s r ih =>
    have h2 := ih fun x hx => h1 x (List.mem_cons_of_mem _ hx)
    have h3 := h1 s (by simp)
    simp only [okS, decide_eq_true_eq] at h3
    simp only [tot, List.length_cons]
    omega
theorem preN_num {P : Pa} {n : Int} {m : Nat} (hn : 0 ≤ n ∧ n ≤ 4294967295) (hm : m ≤ 10) (ht : tot P ≤ 64) (h : ∀ s ∈ P, ∀ z ∈ s.2, U32 z) : ∀ s ∈ preN n m P, s.2.length ≤ 35184372088832 ∧ ∀ z ∈ s.2, U32 z := by
  have hr : ∀ z ∈ List.replicate m n, U32 z := fun z hz => by rw [List.eq_of_mem_replicate hz]; exact hn
  have hl : ∀ s ∈ P, s.2.length ≤ 64 := fun s hs => by have := tot_mem hs; omega
  have key : ∀ s ∈ (false, List.replicate m n) :: P, s.2.length ≤ 35184372088832 ∧ ∀ z ∈ s.2, U32 z := by
    intro s hs
    rcases List.mem_cons.1 hs with rfl | hs
    · exact ⟨by simp; omega, hr⟩
    · exact ⟨by have := hl s hs; omega, h s hs⟩
  match P, h, hl, key with
  | [], _, _, key => exact key
  | (true, l) :: r, _, _, key => exact key
  | (false, l) :: r, h, hl, _ =>
    intro s hs
    rcases List.mem_cons.1 hs with rfl | hs
    · refine ⟨by have := hl (false, l) (by simp); simp at this ⊢; omega, fun z hz => ?_⟩
      rcases List.mem_append.1 hz with hz | hz
      · exact hr z hz
      · exact h (false, l) (by simp) z hz
    · exact ⟨by have := hl s (List.mem_cons_of_mem _ hs); omega, h s (List.mem_cons_of_mem _ hs)⟩
theorem preN_len (n : Int) (m : Nat) (P : Pa) : (preN n m P).length ≤ P.length + 1 := by
  match P with
  | [] => simp [preN]
  | (true, l) :: r => simp [preN]
  | (false, l) :: r => simp [preN]
theorem pre_sg {p q : List Sg} {n : Int} {m : Nat} (hn : 0 ≤ n ∧ n ≤ 4294967295) (hm : m ≤ 10) (hck : ckP (pN p) 0 = true) (hp : ∀ s ∈ p, SgN s) (hq : pN q = preN n m (pN p)) : q.length ≤ 65 ∧ ∀ s ∈ q, SgN s := by
  have ht := ((ckP_iff (pN p) 0 (by omega)).1 hck).2
  have hl := len_tot hck
  have h1 := preN_len n m (pN p)
  have h2 := congrArg List.length hq
  simp only [pN, List.length_map] at h1 h2 hl ht
  refine ⟨by omega, fun s hs => ?_⟩
  have h3 := preN_num (P := pN p) hn hm (by simp only [pN]; omega) (fun t ht => by obtain ⟨u, hu, rfl⟩ := List.mem_map.1 ht; exact (hp u hu).2)
  exact h3 (s.set, s.as_) (hq ▸ List.mem_map.2 ⟨s, hs, rfl⟩)
theorem do_prepend (rb : Nat) (p : Pf) (d : At) (hd : AtF d) (s : Sp) (ho : s.op = 24) (hn : 1 ≤ s.n ∧ s.n ≤ 4294967295) (hm : 1 ≤ s.m ∧ s.m ≤ 10) : Pact Tryz.prog 121 #[.pointer (some ⟨rb, 0, none⟩), .agg (spC s).toArray] (fun w => AtV w d) [pts rb (routeC p d) 157] (DoR rb p d (doN 4 s.n s.m d.nf)) := by
  refine pact Tryz.func121 rfl Tryz.ntmps121 rfl ?_
  intro W K hK
  have hpl := hd.path
  have e4 : doN 4 s.n s.m d.nf = if ckP (pN d.path) 0 = true ∧ s.m ≤ 64 - (tot (pN d.path) : Int) then some { d.nf with path := preN s.n s.m.toNat (pN d.path) } else none := rfl
  by_cases hok : ckP (pN d.path) 0 = true ∧ s.m ≤ 64 - (tot (pN d.path) : Int)
  · rw [if_pos hok] at e4
    rw [e4]
    obtain ⟨m, hmm⟩ : ∃ m : Nat, s.m = m := ⟨s.m.toNat, by omega⟩
    have hP := prepend_yes d.pa d.pc d.path s.n m (by omega) hd.num.path hn (by omega) hok.1 (by omega)
    rw [← hmm] at hP
    rw [show s.m.toNat = m by omega]
    (repeat' (first | (refine gL ?_; first | refine yL0 ?_ | refine yL ?_ | (refine yM ?_; intro _)) | (refine gD ?_; first | (refine yN ?_; try simp only [cAp, nAp]) | refine yD ?_ | (refine yE ?_; intro _) | (refine yB ?_; intro _ _ _ _)) | refine yJ ?_ | refine zd121Ru10 ?_ | (refine yI ?_ ?_ <;> intro _ <;> try exact xX) | (refine yK ?_ ?_ <;> intro hgb <;> first | subst hgb | fail_if_success have : type_of% hgb := rfl) | fail))
    refine J_scope (α := Unit) 0 (fun _ => 0) (fun _ => False) (fun _ => []) (fun _ => []) rfl rfl ?_ (fun _ h => h.elim)
    simp only [List.map_cons, List.map_nil, List.cons_append, List.nil_append]
    (repeat' (first | (refine gL ?_; first | refine yL0 ?_ | refine yL ?_ | (refine gL_go ?_; (refine JL_goq (hP) (hφ := (by (try simp only [cAp, nAp]); exact fun w hr => (hK w hr.1).path)) (h := ?_); rintro _ _ ⟨a', c', q, rfl, hq, rfl⟩; try simp only [cAp, nAp])) | (refine yM ?_; intro _)) | (refine gD ?_; first | (refine yN ?_; try simp only [cAp, nAp]) | refine yD ?_ | (refine gD_go ?_; (refine JD_goq (hP) (hφ := (by (try simp only [cAp, nAp]); exact fun w hr => (hK w hr.1).path)) (h := ?_); rintro _ _ ⟨a', c', q, rfl, hq, rfl⟩; try simp only [cAp, nAp])) | (refine yE ?_; intro _) | (refine yB ?_; intro _ _ _ _)) | refine yJ ?_ | refine zd121Ru10 ?_ | (refine yI ?_ ?_ <;> intro _ <;> try exact xX) | (refine yK ?_ ?_ <;> intro hgb <;> first | subst hgb | fail_if_success have : type_of% hgb := rfl) | fail))
    all_goals (first | (exfalso; omega) | skip)
    obtain ⟨hq1, hq2⟩ := pre_sg (by omega) (by omega) hok.1 hd.num.path hq
    refine J_ret1 rfl (by rfl) fun w H => ⟨_, ⟨{ d with path := q, pa := a', pc := c' }, true, ⟨⟨hd.num.origin, hd.num.next, hd.num.med, hd.num.loc, hd.num.makerAS, hd.num.maker, hq2, hd.num.comms, hd.num.others⟩, hq1, hd.comms, hd.others⟩, rfl, ?_, rfl⟩, ?_⟩
    · rw [← hq]; rfl
    · exact (Ow.has (M := [has (fun w => PathV w a' c' q)]) (φ := fun w => AtV w d → AtV w { d with path := q, pa := a', pc := c' }) H (.cons xA .nil) (fun w hr h => ⟨hr.has .here, h.comms, h.others⟩)).sel xZ
  · rw [if_neg hok] at e4
    rw [e4]
    have hP := prepend_no d.pa d.pc d.path s.n s.m (by omega) hd.num.path hn hm hok
    (repeat' (first | (refine gL ?_; first | refine yL0 ?_ | refine yL ?_ | (refine yM ?_; intro _)) | (refine gD ?_; first | (refine yN ?_; try simp only [cAp, nAp]) | refine yD ?_ | (refine yE ?_; intro _) | (refine yB ?_; intro _ _ _ _)) | refine yJ ?_ | refine zd121Ru10 ?_ | (refine yI ?_ ?_ <;> intro _ <;> try exact xX) | (refine yK ?_ ?_ <;> intro hgb <;> first | subst hgb | fail_if_success have : type_of% hgb := rfl) | fail))
    refine J_scope (α := Unit) 0 (fun _ => 0) (fun _ => True) (fun _ => []) (fun _ => [pts rb (routeC p d) 157]) rfl rfl ?_ ?_
    · simp only [List.map_cons, List.map_nil, List.cons_append, List.nil_append]
      (repeat' (first | (refine gL ?_; first | refine yL0 ?_ | refine yL ?_ | (refine gL_go ?_; (refine JL_goq (hP) (hφ := (by (try simp only [cAp, nAp]); exact fun w hr => (hK w hr.1).path)) (h := ?_); rintro _ _ ⟨e, he, rfl, rfl⟩; try simp only [cAp, nAp])) | (refine yM ?_; intro _)) | (refine gD ?_; first | (refine yN ?_; try simp only [cAp, nAp]) | refine yD ?_ | (refine gD_go ?_; (refine JD_goq (hP) (hφ := (by (try simp only [cAp, nAp]); exact fun w hr => (hK w hr.1).path)) (h := ?_); rintro _ _ ⟨e, he, rfl, rfl⟩; try simp only [cAp, nAp])) | (refine yE ?_; intro _) | (refine yB ?_; intro _ _ _ _)) | refine yJ ?_ | refine zd121Ru10 ?_ | (refine yI ?_ ?_ <;> intro _ <;> try exact xX) | (refine yK ?_ ?_ <;> intro hgb <;> first | subst hgb | fail_if_success have : type_of% hgb := rfl) | fail))
      all_goals (first | (exfalso; omega) | skip)
      exact J_meet () trivial trivial (fun w H => H.sel xZ)
    · rintro ⟨⟩ _
      simp only [List.map_cons, List.map_nil, List.cons_append, List.nil_append]
      (repeat' (first | (refine gL ?_; first | refine yL0 ?_ | refine yL ?_ | (refine yM ?_; intro _)) | (refine gD ?_; first | (refine yN ?_; try simp only [cAp, nAp]) | refine yD ?_ | (refine yE ?_; intro _) | (refine yB ?_; intro _ _ _ _)) | refine yJ ?_ | refine zd121Ru10 ?_ | (refine yI ?_ ?_ <;> intro _ <;> try exact xX) | (refine yK ?_ ?_ <;> intro hgb <;> first | subst hgb | fail_if_success have : type_of% hgb := rfl) | fail))
      exact J_ret1 rfl (by rfl) fun w H => do_same hd false rfl H xA

theorem rdo_s (rb : Nat) (p : Pf) (d : At) (hd : AtF d) (s : Sp) (hs : s.op = 21 ∨ ((24 ≤ s.op ∧ s.op ≤ 29) ∧ ActOk (s.op - 20) s.n s.m)) : Pact Tryz.prog 121 #[.pointer (some ⟨rb, 0, none⟩), .agg (spC s).toArray] (fun w => AtV w d) [pts rb (routeC p d) 157] (DoR rb p d (if s.op = 21 then some d.nf else doN (s.op - 20) s.n s.m d.nf)) := by
  rcases hs with h | ⟨⟨h1, h2⟩, h3⟩
  · rw [if_pos h]
    exact do_jump rb p d hd s h
  · rw [if_neg (by omega)]
    unfold ActOk at h3
    have : s.op = 24 ∨ s.op = 25 ∨ s.op = 26 ∨ s.op = 27 ∨ s.op = 28 ∨ s.op = 29 := by omega
    rcases this with h | h | h | h | h | h
    · have := do_prepend rb p d hd s h (by omega) (by omega)
      rwa [show s.op - 20 = 4 by omega]
    · have := do_local rb p d hd s h (by omega)
      rwa [show s.op - 20 = 5 by omega]
    · have := do_med rb p d hd s h (by omega)
      rwa [show s.op - 20 = 6 by omega]
    · have := do_add rb p d hd s h (by omega)
      rwa [show s.op - 20 = 7 by omega]
    · have := do_drop rb p d hd s h (by omega)
      rwa [show s.op - 20 = 8 by omega]
    · have := do_clear rb p d hd s h (by omega)
      rwa [show s.op - 20 = 9 by omega]
theorem mask_eq {p q : Pf} (hp : Rt p) : q.1 - q.1 % pw p.2 = p.1 ↔ q.1 / pw p.2 = p.1 / pw p.2 := by
  have h1 := Int.mul_ediv_add_emod q.1 (pw p.2)
  have h2 := Int.mul_ediv_add_emod p.1 (pw p.2)
  have h3 := hp.2.2
  have hpos := pw_pos p.2
  constructor
  · intro h
    have h4 : pw p.2 * (q.1 / pw p.2) = pw p.2 * (p.1 / pw p.2) := by omega
    exact Int.eq_of_mul_eq_mul_left (Int.ne_of_gt hpos) h4
  · intro h
    rw [h] at h1
    omega
theorem within_s (p q : Pf) (hp : PfN p) (hq : PfN q) : Pact Tryz.prog 139 #[.agg (pfC p).toArray, .agg (pfC q).toArray] (fun _ => True) [] (ret0 (.bool (decide (Wi p q)))) := by
  refine pact Tryz.func139 rfl Tryz.ntmps139 rfl ?_
  intro W K _
  (repeat' (first | (refine gL ?_; first | refine yL0 ?_ | refine yL ?_ | (refine yM ?_; intro _)) | (refine gD ?_; first | (refine yN ?_; try simp only [cAp, nAp]) | refine yD0 ?_ | refine yD ?_ | (refine gD_go ?_; first | (refine JD_goq (right_s p hp) (hφ := xF) (h := ?_); rintro _ _ ⟨rfl, rfl⟩; try simp only [cAp, nAp]) | (refine JD_goq (right_s q hq) (hφ := xF) (h := ?_); rintro _ _ ⟨rfl, rfl⟩; try simp only [cAp, nAp]) | (refine JD_goq (mask_s q.1 p.2 hq.1 (by rename_i h1 _ _; exact h1.1) (by rename_i h1 _ _; exact h1.2.1)) (hφ := xF) (h := ?_); rintro _ _ ⟨rfl, rfl⟩; try simp only [cAp, nAp]))) | refine yJ ?_ | refine J_draw (id := 1) [0] [1, 2, 3, 4, 5, 6, 7, 8, 9, 10, 11, 12, 13, 14, 15, 16, 17, 19, 20, 18, 21, 22, 23] mixed xC xD xD ?_ | (refine yI ?_ ?_ <;> intro _ <;> try exact xX) | (refine yK ?_ ?_ <;> intro hgb <;> first | subst hgb | fail_if_success have : type_of% hgb := rfl) | fail))
  all_goals (refine J_ret1 rfl (by rfl) fun w H => ⟨[], ⟨?_, rfl⟩, H.sel .nil⟩)
  all_goals congr 1
  · rename_i h1 h2 h3
    have := mask_eq (q := q) h1
    simp [Wi, h1, h2, h3, this]
  · rename_i h1 h2 h3
    simp [Wi, h1, h2, h3]
  · rename_i h1 h2
    simp [Wi, h1, h2]
  · rename_i h1
    simp [Wi, h1]
theorem within_b (p q : Pf) (hp : PfN p) (hq : PfN q) (b : Bool) (hb : decide (Wi p q) = b) : Pact Tryz.prog 139 #[.agg (pfC p).toArray, .agg (pfC q).toArray] (fun _ => True) [] (ret0 (.bool b)) := hb ▸ within_s p q hp hq
theorem rpath_s (rb : Nat) (p : Pf) (d : At) (hd : AtF d) (op n : Int) (ho : 6 ≤ op ∧ op ≤ 9) (hn : 0 ≤ n ∧ n ≤ 4294967295) (q : Pf) : Pact Tryz.prog 152 #[.pointer (some ⟨rb, 0, none⟩), .int .i64 op, .int .i64 n] (fun w => AtV w d) [pts rb (routeC p d) 157] (fun u L' => u = .bool (testN op n q p d.nf) ∧ L' = [pts rb (routeC p d) 157]) := by
  have hpl := hd.path
  have h6 := phas_s d.pa d.pc d.path n (by omega) hd.num.path
  have h9 := plen_s d.pa d.pc d.path (by omega) hd.num.path
  have h7 := pfirst_s d.pa d.pc d.path (by omega) hd.num.path
  have h8 := porigin_s d.pa d.pc d.path (by omega) hd.num.path
  refine pact Tryz.func152 rfl Tryz.ntmps152 rfl ?_
  intro W K hK
  have : op = 6 ∨ op = 7 ∨ op = 8 ∨ op = 9 := by omega
  rcases this with rfl | rfl | rfl | rfl
  · (repeat' (first | (refine gL ?_; first | refine yL0 ?_ | refine yL ?_ | (refine gL_go ?_; (refine JL_goq (h6) (hφ := (by (try simp only [cAp, nAp]); exact fun w hr => (hK w hr.1).path)) (h := ?_); rintro _ _ ⟨rfl, rfl⟩; try simp only [cAp, nAp]))) | refine yJ ?_ | (refine yI ?_ ?_ <;> intro _ <;> try exact xX) | (refine yK ?_ ?_ <;> intro hgb <;> first | subst hgb | fail_if_success have : type_of% hgb := rfl) | fail))
    exact J_ret1 rfl (by rfl) fun w H => ⟨_, ⟨rfl, rfl⟩, H.sel xZ⟩
  · have e : testN 7 n q p d.nf = decide (firstN (pN d.path) = some n) := rfl
    rw [e]
    rcases hf : firstN (pN d.path) with _ | z
    all_goals rw [hf] at h7
    · (repeat' (first | (refine gL ?_; first | refine yL0 ?_ | refine yL ?_ | (refine gL_go ?_; (refine JL_goq (h7) (hφ := (by (try simp only [cAp, nAp]); exact fun w hr => (hK w hr.1).path)) (h := ?_); rintro _ _ ⟨rfl, rfl⟩; try simp only [cAp, nAp]))) | refine yJ ?_ | (refine yI ?_ ?_ <;> intro _ <;> try exact xX) | (refine yK ?_ ?_ <;> intro hgb <;> first | subst hgb | fail_if_success have : type_of% hgb := rfl) | fail))
      exact J_ret1 rfl (by rfl) fun w H => ⟨_, ⟨rfl, rfl⟩, H.sel xZ⟩
    · (repeat' (first | (refine gL ?_; first | refine yL0 ?_ | refine yL ?_ | (refine gL_go ?_; (refine JL_goq (h7) (hφ := (by (try simp only [cAp, nAp]); exact fun w hr => (hK w hr.1).path)) (h := ?_); rintro _ _ ⟨rfl, rfl⟩; try simp only [cAp, nAp]))) | refine yJ ?_ | (refine yI ?_ ?_ <;> intro _ <;> try exact xX) | (refine yK ?_ ?_ <;> intro hgb <;> first | subst hgb | fail_if_success have : type_of% hgb := rfl) | fail))
      exact J_ret1 rfl (by rfl) fun w H => ⟨_, ⟨by simp, rfl⟩, H.sel xZ⟩
  · have e : testN 8 n q p d.nf = decide (originN (pN d.path) = some n) := rfl
    rw [e]
    rcases hf : originN (pN d.path) with _ | z
    all_goals rw [hf] at h8
    · (repeat' (first | (refine gL ?_; first | refine yL0 ?_ | refine yL ?_ | (refine gL_go ?_; (refine JL_goq (h8) (hφ := (by (try simp only [cAp, nAp]); exact fun w hr => (hK w hr.1).path)) (h := ?_); rintro _ _ ⟨rfl, rfl⟩; try simp only [cAp, nAp]))) | refine yJ ?_ | (refine yI ?_ ?_ <;> intro _ <;> try exact xX) | (refine yK ?_ ?_ <;> intro hgb <;> first | subst hgb | fail_if_success have : type_of% hgb := rfl) | fail))
      exact J_ret1 rfl (by rfl) fun w H => ⟨_, ⟨rfl, rfl⟩, H.sel xZ⟩
    · (repeat' (first | (refine gL ?_; first | refine yL0 ?_ | refine yL ?_ | (refine gL_go ?_; (refine JL_goq (h8) (hφ := (by (try simp only [cAp, nAp]); exact fun w hr => (hK w hr.1).path)) (h := ?_); rintro _ _ ⟨rfl, rfl⟩; try simp only [cAp, nAp]))) | refine yJ ?_ | (refine yI ?_ ?_ <;> intro _ <;> try exact xX) | (refine yK ?_ ?_ <;> intro hgb <;> first | subst hgb | fail_if_success have : type_of% hgb := rfl) | fail))
      exact J_ret1 rfl (by rfl) fun w H => ⟨_, ⟨by simp, rfl⟩, H.sel xZ⟩
  · (repeat' (first | (refine gL ?_; first | refine yL0 ?_ | refine yL ?_ | (refine gL_go ?_; (refine JL_goq (h9) (hφ := (by (try simp only [cAp, nAp]); exact fun w hr => (hK w hr.1).path)) (h := ?_); rintro _ _ ⟨rfl, rfl⟩; try simp only [cAp, nAp]))) | refine yJ ?_ | (refine yI ?_ ?_ <;> intro _ <;> try exact xX) | (refine yK ?_ ?_ <;> intro hgb <;> first | subst hgb | fail_if_success have : type_of% hgb := rfl) | fail))
    exact J_ret1 rfl (by rfl) fun w H => ⟨_, ⟨rfl, rfl⟩, H.sel xZ⟩
theorem zd120Ru12 {p q : Prop} (k : p) (h : p → q := by intro hk; first | exact J_draw (id := 3) [0, 1, 2, 3, 4, 5] [6, 7, 8, 9, 10, 11, 12, 13, 14, 15, 16, 17] mixed xC xD xD hk | exact J_draw (id := 5) [0, 1, 2, 3, 4, 5] [6, 7] mixed xC xD xD hk | exact J_draw (id := 7) [0, 1, 2, 3, 4, 5, 6, 7] [8, 9] mixed xC xD xD hk | exact J_draw (id := 9) [0, 1, 2, 3, 4, 5, 6] [7, 8] mixed xC xD xD hk | exact J_draw (id := 11) [0, 1, 2, 3, 4, 5, 6, 7, 8, 9, 10, 11, 12, 13] [14, 15, 16] mixed xC xD xD hk | fail) : q := h k

theorem otest_s (rb : Nat) (p : Pf) (hp : PfN p) (d : At) (hd : AtF d) (s : Sp) (hsn : SpN s) (ho : 4 ≤ s.op ∧ s.op ≤ 12) (ht : TestOk s.op s.n (s.a, s.l)) : Pact Tryz.prog 120 #[.pointer (some ⟨rb, 0, none⟩), .agg (spC s).toArray] (fun w => AtV w d) [pts rb (routeC p d) 157] (fun u L' => u = .bool (testN s.op s.n (s.a, s.l) p d.nf) ∧ L' = [pts rb (routeC p d) 157]) := by
  have hcl := hd.comms
  have hq : PfN (s.a, s.l) := ⟨hsn.a, hsn.l⟩
  have hC := contains_s d.ca d.cc d.comms s.n (by omega)
  unfold TestOk at ht
  have hmed := hd.num.med
  unfold U32 at hmed
  refine pact Tryz.func120 rfl Tryz.ntmps120 rfl ?_
  intro W K hK
  by_cases o4 : s.op = 4
  · have e : testN s.op s.n (s.a, s.l) p d.nf = (decide (Wi (s.a, s.l) p) && decide (p.2 ≤ s.n)) := by unfold testN; rw [if_pos o4]
    rw [e]
    rcases hb : decide (Wi (s.a, s.l) p) with _ | _
    all_goals (
      (repeat' (first | (refine gL ?_; first | refine yL0 ?_ | refine yL ?_ | (refine gL_go ?_; (refine JL_goq (within_b (s.a, s.l) p hq hp _ hb) (hφ := xF) (h := ?_); rintro _ _ ⟨rfl, rfl⟩; try simp only [cAp, nAp])) | (refine yM ?_; intro _)) | (refine gD ?_; first | (refine yN ?_; try simp only [cAp, nAp]) | refine yD0 ?_ | refine yD ?_ | (refine gD_go ?_; (refine JD_goq (within_b (s.a, s.l) p hq hp _ hb) (hφ := xF) (h := ?_); rintro _ _ ⟨rfl, rfl⟩; try simp only [cAp, nAp]))) | refine yJ ?_ | refine zd120Ru12 ?_ | (refine yI ?_ ?_ <;> intro _ <;> try exact xX) | (refine yK ?_ ?_ <;> intro hgb <;> first | subst hgb | fail_if_success have : type_of% hgb := rfl) | fail))
      all_goals (first | (exfalso; omega) | skip)
      exact J_ret1 rfl (by rfl) fun w H => ⟨_, ⟨by simp, rfl⟩, H.sel xZ⟩)
  by_cases o5 : s.op = 5
  · have e : testN s.op s.n (s.a, s.l) p d.nf = decide (p = (s.a, s.l)) := by unfold testN; rw [if_neg o4, if_pos o5]
    rw [e]
    (repeat' (first | (refine gL ?_; first | refine yL0 ?_ | refine yL ?_ | (refine yM ?_; intro _)) | (refine gD ?_; first | (refine yN ?_; try simp only [cAp, nAp]) | refine yD0 ?_ | refine yD ?_) | refine yJ ?_ | refine zd120Ru12 ?_ | (refine yI ?_ ?_ <;> intro _ <;> try exact xX) | (refine yK ?_ ?_ <;> intro hgb <;> first | subst hgb | fail_if_success have : type_of% hgb := rfl) | fail))
    all_goals (first | (exfalso; omega) | skip)
    refine J_ret1 rfl (by rfl) fun w H => ⟨_, ⟨?_, rfl⟩, H.sel xZ⟩
    simp [Prod.ext_iff]
  by_cases o10 : s.op = 10
  · have e : testN s.op s.n (s.a, s.l) p d.nf = decide (s.n ∈ d.comms) := by unfold testN; rw [if_neg o4, if_neg o5, if_neg (by omega), if_neg (by omega), if_neg (by omega), if_neg (by omega), if_pos o10]; rfl
    rw [e]
    (repeat' (first | (refine gL ?_; first | refine yL0 ?_ | refine yL ?_ | (refine gL_go ?_; (refine JL_goq (hC) (hφ := (by (try simp only [cAp, nAp]); exact fun w hr => (hK w hr.1).comms)) (h := ?_); rintro _ _ ⟨rfl, rfl⟩; try simp only [cAp, nAp])) | (refine yM ?_; intro _)) | (refine gD ?_; first | (refine yN ?_; try simp only [cAp, nAp]) | refine yD0 ?_ | refine yD ?_ | (refine gD_go ?_; (refine JD_goq (hC) (hφ := (by (try simp only [cAp, nAp]); exact fun w hr => (hK w hr.1).comms)) (h := ?_); rintro _ _ ⟨rfl, rfl⟩; try simp only [cAp, nAp]))) | refine yJ ?_ | refine zd120Ru12 ?_ | (refine yI ?_ ?_ <;> intro _ <;> try exact xX) | (refine yK ?_ ?_ <;> intro hgb <;> first | subst hgb | fail_if_success have : type_of% hgb := rfl) | fail))
    all_goals (first | (exfalso; omega) | skip)
    exact J_ret1 rfl (by rfl) fun w H => ⟨_, ⟨rfl, rfl⟩, H.sel xZ⟩
  by_cases o11 : s.op = 11
  · have e : testN s.op s.n (s.a, s.l) p d.nf = decide (d.origin = s.n) := by unfold testN; rw [if_neg o4, if_neg o5, if_neg (by omega), if_neg (by omega), if_neg (by omega), if_neg (by omega), if_neg (by omega), if_pos o11]; rfl
    rw [e]
    (repeat' (first | (refine gL ?_; first | refine yL0 ?_ | refine yL ?_ | (refine yM ?_; intro _)) | (refine gD ?_; first | (refine yN ?_; try simp only [cAp, nAp]) | refine yD0 ?_ | refine yD ?_) | refine yJ ?_ | refine zd120Ru12 ?_ | (refine yI ?_ ?_ <;> intro _ <;> try exact xX) | (refine yK ?_ ?_ <;> intro hgb <;> first | subst hgb | fail_if_success have : type_of% hgb := rfl) | fail))
    all_goals (first | (exfalso; omega) | skip)
    exact J_ret1 rfl (by rfl) fun w H => ⟨_, ⟨rfl, rfl⟩, H.sel xZ⟩
  by_cases o12 : s.op = 12
  · have e : testN s.op s.n (s.a, s.l) p d.nf = (d.hasMed && decide (s.n < d.med)) := by
      unfold testN; rw [if_neg o4, if_neg o5, if_neg (by omega), if_neg (by omega), if_neg (by omega), if_neg (by omega), if_neg (by omega), if_neg (by omega), if_pos o12]
      unfold At.nf
      dsimp only
      cases d.hasMed <;> simp
    rw [e]
    (repeat' (first | (refine gL ?_; first | refine yL0 ?_ | refine yL ?_ | (refine yM ?_; intro _)) | (refine gD ?_; first | (refine yN ?_; try simp only [cAp, nAp]) | refine yD0 ?_ | refine yD ?_) | refine yJ ?_ | refine zd120Ru12 ?_ | (refine yI ?_ ?_ <;> intro _ <;> try exact xX) | (refine yK ?_ ?_ <;> intro hgb <;> first | subst hgb | fail_if_success have : type_of% hgb := rfl) | fail))
    all_goals (first | (exfalso; omega) | skip)
    all_goals (refine J_ret1 rfl (by rfl) fun w H => ⟨_, ⟨?_, rfl⟩, H.sel xZ⟩; simp [*])
  · (repeat' (first | (refine gL ?_; first | refine yL0 ?_ | refine yL ?_ | (refine gL_go ?_; (refine JL_goq (rpath_s rb p d hd s.op s.n (by omega) (by omega) (s.a, s.l)) (hφ := (by (try simp only [cAp, nAp]); exact fun w hr => hK w hr.1)) (h := ?_); rintro _ _ ⟨rfl, rfl⟩; try simp only [cAp, nAp])) | (refine yM ?_; intro _)) | (refine gD ?_; first | (refine yN ?_; try simp only [cAp, nAp]) | refine yD0 ?_ | refine yD ?_ | (refine gD_go ?_; (refine JD_goq (rpath_s rb p d hd s.op s.n (by omega) (by omega) (s.a, s.l)) (hφ := (by (try simp only [cAp, nAp]); exact fun w hr => hK w hr.1)) (h := ?_); rintro _ _ ⟨rfl, rfl⟩; try simp only [cAp, nAp]))) | refine yJ ?_ | refine zd120Ru12 ?_ | (refine yI ?_ ?_ <;> intro _ <;> try exact xX) | (refine yK ?_ ?_ <;> intro hgb <;> first | subst hgb | fail_if_success have : type_of% hgb := rfl) | fail))
    all_goals (first | (exfalso; omega) | skip)
    exact J_ret1 rfl (by rfl) fun w H => ⟨_, ⟨rfl, rfl⟩, H.sel xZ⟩
end Go.Proofs.YtdnokmpnemaoaaaGreat.C
