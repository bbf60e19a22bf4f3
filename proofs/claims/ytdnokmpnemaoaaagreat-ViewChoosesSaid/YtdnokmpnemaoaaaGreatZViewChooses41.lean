/-
  Vd4, Ru17, Ru18: merged.
-/
import Derived.Test.YtdnokmpnemaoaaaGreatZViewChooses40
namespace Go.Proofs.YtdnokmpnemaoaaaGreat
set_option linter.unusedSimpArgs false
set_option linter.unusedVariables false
set_option maxRecDepth 20000
set_option maxHeartbeats 4000000
open Go.RowKit Go.Pm

def fP (pe sy : Int) (T : List C.Sp) (p : C.Pf) (q : Qn) : Option Nf :=
  if q.peer = pe ∨ C.hasN q.nf.path sy = true then none else if T = [] then some q.nf else if C.checkE T = 0 then (C.playW T p 0 q.nf).1 else none
theorem fP_nil (pe sy : Int) (p : C.Pf) : fP pe sy [] p = f0 pe sy := by
  funext q
  unfold fP f0
  rw [if_pos (rfl : ([] : List C.Sp) = [])]
theorem playbad_s (a : Option Addr) (c : Nat) (T : List C.Sp) (p : C.Pf) (d : At) (hc : C.checkE T ≠ 0) (hsn : ∀ s ∈ T, C.SpN s) (hl : T.length ≤ 4096) : Pact Tryz.prog 53 #[.slice a T.length c, .agg (C.pfC p).toArray, .agg (atC d).toArray] (fun w => Vw w (.slice a T.length c) 7 T.length (flat C.spC T)) [] (ret0 (.tuple #[.agg at00C.toArray, .bool false, .int .i64 260])) := by
  refine pact Tryz.func53 rfl Tryz.ntmps53 rfl ?_
  intro W K hK
  obtain ⟨e, he⟩ : ∃ e, C.checkE T = e := ⟨_, rfl⟩
  have hC := C.check_b a c T hsn (by omega) e he
  rw [he] at hc
  (repeat' (first | (refine gL ?_; first | refine yL0 ?_ | refine yL ?_ | (refine gL_go ?_; (refine JL_goq (hC) (hφ := (by (try simp only [cAp, nAp]); exact fun w hr => hK w hr.1)) (h := ?_); rintro _ _ ⟨rfl, rfl⟩; try simp only [cAp, nAp])) | (refine yM ?_; intro _)) | refine yJ ?_ | (refine yI ?_ ?_ <;> intro _ <;> try exact xX) | (refine yK ?_ ?_ <;> intro hgb <;> first | subst hgb | fail_if_success have : type_of% hgb := rfl) | fail))
  all_goals (first | (exfalso; omega) | skip)
  exact J_retC2 (cs := at00C) rfl (by rfl) (by rfl) (by rfl) xA (by rfl) fun w H => ⟨_, ⟨rfl, rfl⟩, H.sel .nil⟩
abbrev mC (x : B.Cd) (d : At) : List Value := [.int .i64 x.peer, .int .u32 x.as_, .int .u32 x.id, .int .u32 x.addr, .int .i64 d.origin, .slice d.pa d.path.length d.pc, .int .u32 d.next, .bool d.hasMed, .int .u32 d.med, .bool d.hasLocal, .int .u32 d.loc, .bool d.atomic, .bool d.hasMaker, .int .u32 d.makerAS, .int .u32 d.maker, .slice d.ca d.comms.length d.cc, .slice d.oa d.others.length d.oc]
abbrev mC0 (x : B.Cd) : List Value := [.int .i64 x.peer, .int .u32 x.as_, .int .u32 x.id, .int .u32 x.addr, .int .i64 0, .slice none 0 0, .int .u32 0, .bool false, .int .u32 0, .bool false, .int .u32 0, .bool false, .bool false, .int .u32 0, .int .u32 0, .slice none 0 0, .slice none 0 0]
theorem lets_end {W : World} {K : Hl} {L R : List HP} {w : World} {x : B.Cd} {d' : At} (H : Ow W K L w) (t : Tk L (has (fun w => AtV w d')) R) : Ow W K [has (fun w => AtV w x.toAt → AtV w d')] w :=
  Ow.sel (Ow.has (M := [has (fun w => AtV w d')]) (φ := fun w => AtV w x.toAt → AtV w d') H (.cons t .nil) (fun w hr _ => hr.has (φ := fun w => AtV w d') .here)) (.cons .here .nil)
set_option maxRecDepth 4000 in
theorem letsP_s (pe sy : Int) (oa : Option Addr) (oc : Nat) (T : List C.Sp) (p : C.Pf) (hp : C.PfN p) (h0 : 0 < T.length) (hl : T.length ≤ 60) (hsn : ∀ s ∈ T, C.SpN s) (x : B.Cd) (hx : B.CdN x) : Pact Tryz.prog 21 #[.agg (clC pe sy oa T.length oc).toArray, .agg (C.pfC p).toArray, .agg (B.cdC x).toArray] (fun w => AtV w x.toAt ∧ Vw w (.slice oa T.length oc) 7 T.length (flat C.spC T)) [] (LetsR (fP pe sy T p (cnN x)) x) := by
  have hTn : T ≠ [] := by rintro rfl; exact absurd h0 (by decide)
  refine pact Tryz.func21 rfl Tryz.ntmps21 rfl ?_
  intro W K hK
  have hb := hx.f.path
  have kp := C.phas_s x.pa x.pc x.path sy (by omega) hx.f.num.path
  by_cases hno : x.peer = pe ∨ C.hasN (pN x.path) sy = true
  · rw [show fP pe sy T p (cnN x) = none from if_pos hno]
    rcases hh : C.hasN (pN x.path) sy with _ | _
    all_goals rw [hh] at kp
    all_goals (
      (repeat' (first | (refine gL ?_; first | refine yL0 ?_ | refine yL ?_ | (refine gL_go ?_; (refine JL_goq (kp) (hφ := (by (try simp only [cAp, nAp]); exact fun w hr => (hK w hr.1).1.path)) (h := ?_); rintro _ _ ⟨rfl, rfl⟩; try simp only [cAp, nAp])) | (refine yM ?_; intro _)) | refine yJ ?_ | (refine yI ?_ ?_ <;> intro _ <;> try exact xX) | (refine yK ?_ ?_ <;> intro hgb <;> first | subst hgb | fail_if_success have : type_of% hgb := rfl) | fail))
      all_goals (first | (exfalso; omega) | (exfalso; simp_all; done) | skip)
      all_goals exact J_retC1 (cs := B.cdC x) rfl (by rfl) (by rfl) xA (by rfl) fun w H => ⟨_, ⟨x.toAt, hx.f, fun _ h => (by cases h), rfl, rfl⟩, (Ow.hasTrue (φ := fun w => AtV w x.toAt → AtV w x.toAt) H (fun _ h => h)).sel xZ⟩)
  have hpe : x.peer ≠ pe := fun h => hno (.inl h)
  have hh : C.hasN (pN x.path) sy = false := Bool.eq_false_iff.2 fun h => hno (.inr h)
  rw [hh] at kp
  by_cases hc : C.checkE T = 0
  · have hf : fP pe sy T p (cnN x) = (C.playW T p 0 x.toAt.nf).1 := (if_neg hno).trans ((if_neg hTn).trans (if_pos hc))
    rw [hf]
    have kq := C.Play_s oa oc T p hp x.toAt hx.f hc hsn h0 (by omega)
    obtain ⟨r, hr⟩ : ∃ r, (C.playW T p 0 x.toAt.nf).1 = r := ⟨_, rfl⟩
    rw [hr] at kq ⊢
    cases r with
    | none =>
      (repeat' (first | (refine gL ?_; first | refine yL0 ?_ | refine yL ?_ | (refine gL_go ?_; first | (refine JL_goq (kp) (hφ := (by (try simp only [cAp, nAp]); exact fun w hr => (hK w hr.1).1.path)) (h := ?_); rintro _ _ ⟨rfl, rfl⟩; try simp only [cAp, nAp]) | (refine JL_goq (kq) (hφ := (by (try simp only [cAp, nAp]); exact fun w hr => hK w hr.1)) (h := ?_); rintro _ _ ⟨d', hd', hnf, rfl, rfl⟩; try simp only [cAp, nAp])) | (refine yM ?_; intro _)) | refine yJ ?_ | (refine yI ?_ ?_ <;> intro _ <;> try exact xX) | (refine yK ?_ ?_ <;> intro hgb <;> first | subst hgb | fail_if_success have : type_of% hgb := rfl) | fail))
      all_goals (first | (exfalso; omega) | skip)
      all_goals exact J_retC1 (cs := mC x d') rfl (by rfl) (by rfl) xA (by rfl) fun w H => ⟨_, ⟨d', hd', fun _ h => (by cases h), rfl, rfl⟩, lets_end H xA⟩
    | some n =>
      (repeat' (first | (refine gL ?_; first | refine yL0 ?_ | refine yL ?_ | (refine gL_go ?_; first | (refine JL_goq (kp) (hφ := (by (try simp only [cAp, nAp]); exact fun w hr => (hK w hr.1).1.path)) (h := ?_); rintro _ _ ⟨rfl, rfl⟩; try simp only [cAp, nAp]) | (refine JL_goq (kq) (hφ := (by (try simp only [cAp, nAp]); exact fun w hr => hK w hr.1)) (h := ?_); rintro _ _ ⟨d', hd', hnf, rfl, rfl⟩; try simp only [cAp, nAp])) | (refine yM ?_; intro _)) | refine yJ ?_ | (refine yI ?_ ?_ <;> intro _ <;> try exact xX) | (refine yK ?_ ?_ <;> intro hgb <;> first | subst hgb | fail_if_success have : type_of% hgb := rfl) | fail))
      all_goals (first | (exfalso; omega) | skip)
      all_goals exact J_retC1 (cs := mC x d') rfl (by rfl) (by rfl) xA (by rfl) fun w H => ⟨_, ⟨d', hd', fun _ h => hnf.trans (Option.some.inj h), rfl, rfl⟩, lets_end H xA⟩
  · rw [show fP pe sy T p (cnN x) = none from (if_neg hno).trans ((if_neg hTn).trans (if_neg hc))]
    have kq := playbad_s oa oc T p x.toAt hc hsn (by omega)
    (repeat' (first | (refine gL ?_; first | refine yL0 ?_ | refine yL ?_ | (refine gL_go ?_; first | (refine JL_goq (kp) (hφ := (by (try simp only [cAp, nAp]); exact fun w hr => (hK w hr.1).1.path)) (h := ?_); rintro _ _ ⟨rfl, rfl⟩; try simp only [cAp, nAp]) | (refine JL_goq (kq) (hφ := (by (try simp only [cAp, nAp]); exact fun w hr => (hK w hr.1).2)) (h := ?_); rintro _ _ ⟨rfl, rfl⟩; try simp only [cAp, nAp])) | (refine yM ?_; intro _)) | refine yJ ?_ | (refine yI ?_ ?_ <;> intro _ <;> try exact xX) | (refine yK ?_ ?_ <;> intro hgb <;> first | subst hgb | fail_if_success have : type_of% hgb := rfl) | fail))
    all_goals (first | (exfalso; omega) | skip)
    all_goals exact J_retC1 (cs := mC0 x) rfl (by rfl) (by rfl) xA (by rfl) fun w H => ⟨_, ⟨C.at0, C.at0_f, fun _ h => (by cases h), rfl, rfl⟩, (Ow.hasTrue (φ := fun w => AtV w x.toAt → AtV w C.at0) H (fun w _ => C.at0_v w)).sel xZ⟩
end Go.Proofs.YtdnokmpnemaoaaaGreat
namespace Go.Proofs.YtdnokmpnemaoaaaGreat.C
set_option linter.unusedSimpArgs false
set_option linter.unusedVariables false
set_option maxRecDepth 20000
set_option maxHeartbeats 4000000
open Go.RowKit Go.Pm
theorem zd62Ru17 {p q : Prop} (k : p) (h : p → q := by intro hk; first | exact J_draw (id := 5) [0, 1, 2, 3, 4, 5, 7, 8, 9, 10, 11, 6, 12, 13, 14] [15, 16] mixed xC xD xD hk | fail) : q := h k

structure Lcc where
  q : List Sg
  ad : Option Addr
  cc : Nat
theorem pcopyO_s (a : Option Addr) (c : Nat) (p : List Sg) (n : Nat) (hn : p.length = n) (h8 : n ≤ 1000) (hsm : ∀ s ∈ p, SgN s) : Pact Tryz.prog 62 #[.slice a n c] (fun w => PathV w a c p) [] (fun v L' => ∃ q a' c', v = .slice a' q.length c' ∧ pN q = pN p ∧ L' = [Ar 87 2 sgC (.slice a' q.length c') q, has (fun w => ∀ s ∈ q, segV w s)]) := by
  subst hn
  refine pact Tryz.func62 rfl Tryz.ntmps62 rfl ?_
  intro W K hK
  have hv : Kn K (fun w => Vw w (.slice a p.length c) 2 p.length (flat sgC p)) := hK.imp fun _ h => h.vw
  (repeat' (first | (refine gL ?_; first | refine yL0 ?_ | refine yL ?_ | (refine yM ?_; intro _)) | (refine gD ?_; first | (refine yN ?_; try simp only [cAp, nAp]) | refine yD ?_ | (refine yE ?_; intro _) | (refine yB ?_; intro _ _ _ _)) | refine yJ ?_ | refine zd62Ru17 ?_ | (refine yI ?_ ?_ <;> intro _ <;> try exact xX) | (refine yK ?_ ?_ <;> intro hgb <;> first | subst hgb | fail_if_success have : type_of% hgb := rfl) | fail))
  rename_i b0
  refine J_loop (α := Lcc) ⟨[], some ⟨b0, 0, none⟩, 0⟩ (fun x => p.length - x.q.length) (fun x => x.q.length ≤ p.length ∧ pN x.q = pN (p.take x.q.length)) (fun x => [(0, .slice a p.length c), (3, .slice x.ad x.q.length x.cc), (4, .int .i64 x.q.length)])
    (fun x => [Ar 87 2 sgC (.slice x.ad x.q.length x.cc) x.q, has (fun w => ∀ s ∈ x.q, segV w s)]) ⟨Nat.zero_le _, rfl⟩ ⟨rfl, rfl, rfl, trivial⟩ (fun w H => (Ow.hasTrue (φ := fun w => ∀ s ∈ ([] : List Sg), segV w s) (H.arLit0 .here) (by intro _ _ h; exact absurd h List.not_mem_nil)).sel xZ) ?_
  rintro ⟨q, ad, cc⟩ ⟨hq, hsame⟩
  dsimp only at hq hsame ⊢
  by_cases hlt : q.length < p.length
  · obtain ⟨s, hs⟩ : ∃ s, p[q.length]? = some s := ⟨_, List.getElem?_eq_getElem hlt⟩
    have hm := List.mem_of_getElem? hs
    have hsn := hsm s hm
    have hsn1 := hsn.1
    have hu : Kn K (fun w => Vw w (.slice s.a s.as_.length s.c) 1 s.as_.length (flat u32C s.as_)) := hK.imp fun _ h => h.segs s hm
    (repeat' (first | (refine gL ?_; first | refine yL0 ?_ | refine yL ?_ | (refine yM ?_; intro _)) | (refine gD ?_; first | (refine yN ?_; try simp only [cAp, nAp]) | (refine gD_c_append ?_; first | ((refine JD_appL u32C (tabE etab_ok (by rfl)) (by rfl) (by rfl) xA (Src.kn hu) (by decide +kernel) (by intro _; rfl) (all_one _ (by intro _ _; rfl)) (by omega) (by rfl) ?_; intro ad2 c2 _ _)) | ((refine JD_ap1 (z := Sg.mk s.set ad2 c2 s.as_) (tabE etab_ok (by rfl)) (by rfl) (by rfl) xA xA (by decide +kernel) (by rfl) (by intro _; rfl) (by rfl) (by omega) (by rfl) ?_; intro ad3 c3 _ _))) | refine yD ?_ | (refine yE ?_; intro _) | (refine yB ?_; intro _ _ _ _)) | refine yJ ?_ | refine zd62Ru17 ?_ | (refine yI ?_ ?_ <;> intro _ <;> try exact xX) | (refine yK ?_ ?_ <;> intro hgb <;> first | subst hgb | fail_if_success have : type_of% hgb := rfl) | fail))
    refine J_again ⟨q ++ [Sg.mk s.set ad2 c2 s.as_], ad3, c3⟩ (by simp; omega) ⟨by simp; omega, ?_⟩ ⟨rfl, ?_, ?_, trivial⟩ (fun w H => ?_)
    · simp only [List.length_append, List.length_cons, List.length_nil]
      rw [take_snoc hs]
      unfold pN at hsame ⊢
      rw [List.map_append, List.map_append, hsame]
      rfl
    · show some _ = some _
      simp
    · show some _ = some _
      simp
    · simp only [List.length_append, List.length_cons, List.length_nil]
      refine (Ow.has (M := [Ar 22 1 u32C (.slice ad2 s.as_.length c2) s.as_, has (fun w => ∀ s ∈ q, segV w s)]) (φ := fun w => ∀ x ∈ q ++ [Sg.mk s.set ad2 c2 s.as_], segV w x) H xZ ?_).sel xZ
      intro w hr x hx
      rcases List.mem_append.1 hx with hx | hx
      · exact hr.has (.there .here) x hx
      · obtain rfl := List.mem_singleton.1 hx
        exact Src.ar .here w hr
  · obtain hql : q.length = p.length := by omega
    rw [hql, List.take_length] at hsame
    (repeat' (first | (refine gL ?_; first | refine yL0 ?_ | refine yL ?_ | (refine yM ?_; intro _)) | (refine gD ?_; first | (refine yN ?_; try simp only [cAp, nAp]) | refine yD ?_ | (refine yE ?_; intro _) | (refine yB ?_; intro _ _ _ _)) | refine yJ ?_ | refine zd62Ru17 ?_ | (refine yI ?_ ?_ <;> intro _ <;> try exact xX) | (refine yK ?_ ?_ <;> intro hgb <;> first | subst hgb | fail_if_success have : type_of% hgb := rfl) | fail))
    exact J_ret1 rfl (by rfl) fun w H => ⟨_, ⟨q, ad, cc, rfl, hsame, rfl⟩, H.sel xZ⟩
def preI (n : Int) : Nat → Pa → Pa
  | 0, P => P
  | i + 1, P => preN n (i + 1) P
theorem preI_succ (n : Int) (i : Nat) (P : Pa) : preI n (i + 1) P = preN n 1 (preI n i P) := by
  cases i with
  | zero => rfl
  | succ i =>
    show preN n (i + 2) P = preN n 1 (preN n (i + 1) P)
    match P with
    | [] => rfl
    | (true, l) :: r => rfl
    | (false, l) :: r => rfl
theorem preI_len (n : Int) (i : Nat) (P : Pa) : (preI n i P).length ≤ P.length + 1 := by
  cases i with
  | zero => simp [preI]
  | succ i => exact preN_len n (i + 1) P
theorem pN_head {q : List Sg} {l : List Int} {r : Pa} (h : pN q = (false, l) :: r) : ∃ s q', q = s :: q' ∧ s.set = false ∧ s.as_ = l ∧ pN q' = r := by
  cases q with
  | nil => cases h
  | cons s q' =>
    simp only [pN, List.map_cons, List.cons.injEq, Prod.mk.injEq] at h
    exact ⟨s, q', rfl, h.1.1, h.1.2, h.2⟩
theorem rprepend_no (a : Option Addr) (c : Nat) (p : List Sg) (n m : Int) (h8 : p.length ≤ 1000) (hsm : ∀ s ∈ p, SgN s) (hn : 1 ≤ n ∧ n ≤ 4294967295) (hm : 1 ≤ m ∧ m ≤ 10) (hno : ¬ (ckP (pN p) 0 = true ∧ m ≤ 64 - (tot (pN p) : Int))) : Pact Tryz.prog 101 #[.slice a p.length c, .int .u32 n, .int .i64 m] (fun w => PathV w a c p) [] (fun u L' => ∃ e : Int, e ≠ 0 ∧ u = .tuple #[.slice none 0 0, .int .i64 e] ∧ L' = []) := by
  refine pact Tryz.func101 rfl Tryz.ntmps101 rfl ?_
  intro W K hK
  have hv : Kn K (fun w => Vw w (.slice a p.length c) 2 p.length (flat sgC p)) := hK.imp fun _ h => h.vw
  have hC := pcheck_s a c p h8 hsm
  rcases hck : ckP (pN p) 0 with _ | _
  all_goals rw [hck] at hC hno
  · (repeat' (first | (refine gL ?_; first | refine yL0 ?_ | refine yL ?_ | (refine gL_go ?_; (refine JL_goq (hC) (hφ := (by (try simp only [cAp, nAp]); exact fun w hr => hK w hr.1)) (h := ?_); rintro _ _ ⟨rfl, rfl⟩; try simp only [cAp, nAp])) | (refine yM ?_; intro _) | (refine yA ?_; intro _ _ _ _)) | refine yJ ?_ | (refine yI ?_ ?_ <;> intro _ <;> try exact xX) | (refine yK ?_ ?_ <;> intro hgb <;> first | subst hgb | fail_if_success have : type_of% hgb := rfl) | fail))
    all_goals (first | (exfalso; omega) | skip)
    exact J_ret2 rfl (by rfl) (by rfl) fun w H => ⟨_, ⟨2, by decide, rfl, rfl⟩, H.sel .nil⟩
  · have hno2 : 64 - (tot (pN p) : Int) < m := by
      rcases Int.lt_or_le (64 - (tot (pN p) : Int)) m with h | h
      · exact h
      · exact absurd ⟨rfl, h⟩ hno
    (repeat' (first | (refine gL ?_; first | refine yL0 ?_ | refine yL ?_ | (refine gL_go ?_; (refine JL_goq (hC) (hφ := (by (try simp only [cAp, nAp]); exact fun w hr => hK w hr.1)) (h := ?_); rintro _ _ ⟨rfl, rfl⟩; try simp only [cAp, nAp])) | (refine yM ?_; intro _) | (refine yA ?_; intro _ _ _ _)) | refine yJ ?_ | (refine yI ?_ ?_ <;> intro _ <;> try exact xX) | (refine yK ?_ ?_ <;> intro hgb <;> first | subst hgb | fail_if_success have : type_of% hgb := rfl) | fail))
    all_goals (first | (exfalso; omega) | skip)
    refine J_loop (α := Nat) 0 (fun x => p.length - x) (fun x => x ≤ p.length) (fun x => [(0, .slice a p.length c), (1, .int .u32 n), (2, .int .i64 m), (8, .int .i64 (tot (pN (p.take x)))), (9, .int .i64 x)]) (fun x => []) (Nat.zero_le _) ⟨rfl, rfl, rfl, rfl, rfl, trivial⟩ (fun w H => H) ?_
    rintro k hk
    have htk := tot_le (p.take k) (fun s hs => hsm s (List.take_subset _ _ hs))
    have hlk : (p.take k).length ≤ 1000 := by rw [List.length_take]; omega
    obtain ⟨N, hN⟩ : ∃ N, tot (pN (p.take k)) = N := ⟨_, rfl⟩
    rw [hN] at htk ⊢
    have hNb : N ≤ 35184372088832000 := by omega
    by_cases hlt : k < p.length
    · obtain ⟨s, hs⟩ : ∃ s, p[k]? = some s := ⟨_, List.getElem?_eq_getElem hlt⟩
      have hm := List.mem_of_getElem? hs
      have hsn1 := (hsm s hm).1
      (repeat' (first | (refine gL ?_; first | refine yL0 ?_ | refine yL ?_ | (refine yM ?_; intro _) | (refine yA ?_; intro _ _ _ _)) | refine yJ ?_ | (refine yI ?_ ?_ <;> intro _ <;> try exact xX) | (refine yK ?_ ?_ <;> intro hgb <;> first | subst hgb | fail_if_success have : type_of% hgb := rfl) | fail))
      refine J_again (k + 1) (by omega) (by omega) ⟨rfl, rfl, rfl, ?_, rfl, trivial⟩ (fun w H => H.sel .nil)
      rw [take_snoc hs]
      unfold pN
      rw [List.map_append, tot_append]
      unfold pN at hN
      rw [hN]
      show some _ = some _
      simp [tot]
    · have hke : k = p.length := by omega
      rw [hke, List.take_length] at hN
      rw [hN] at hno2
      (repeat' (first | (refine gL ?_; first | refine yL0 ?_ | refine yL ?_ | (refine yM ?_; intro _) | (refine yA ?_; intro _ _ _ _)) | refine yJ ?_ | (refine yI ?_ ?_ <;> intro _ <;> try exact xX) | (refine yK ?_ ?_ <;> intro hgb <;> first | subst hgb | fail_if_success have : type_of% hgb := rfl) | fail))
      all_goals (first | (exfalso; omega) | skip)
      exact J_ret2 rfl (by rfl) (by rfl) fun w H => ⟨_, ⟨3, by decide, rfl, rfl⟩, H.sel .nil⟩

structure Lpr where
  i : Nat
  q : List Sg
  ad : Option Addr
  cc : Nat
theorem pre_bound {p q : List Sg} {n : Int} {i : Nat} (hi : i ≤ 10) (hck : ckP (pN p) 0 = true) (hn : 0 ≤ n ∧ n ≤ 4294967295) (hp : ∀ s ∈ p, SgN s) (hq : pN q = preI n i (pN p)) : q.length ≤ 65 ∧ ∀ s ∈ q, s.as_.length ≤ 1000 := by
  have ht := ((ckP_iff (pN p) 0 (by omega)).1 hck).2
  have hl := len_tot hck
  have h1 := preI_len n i (pN p)
  have h2 := congrArg List.length hq
  have h0 : q.length = (pN q).length := by simp [pN]
  refine ⟨by omega, fun s hs => ?_⟩
  have hmem : (s.set, s.as_) ∈ preI n i (pN p) := hq ▸ List.mem_map.2 ⟨s, hs, rfl⟩
  cases i with
  | zero => have := tot_mem hmem; simp only [preI] at hmem; have := tot_mem hmem; simp at this; omega
  | succ i =>
    have key : ∀ P : Pa, tot P ≤ 64 → ∀ s ∈ preN n (i + 1) P, s.2.length ≤ 1000 := by
      intro P hP s hs
      have hall : ∀ t ∈ P, t.2.length ≤ 64 := fun t ht => by have := tot_mem ht; omega
      match P, hall, hs with
      | [], hall, hs => simp [preN] at hs; subst hs; simp; omega
      | (true, l) :: r, hall, hs =>
        rcases List.mem_cons.1 hs with rfl | hs
        · simp; omega
        · have := hall s hs; omega
      | (false, l) :: r, hall, hs =>
        rcases List.mem_cons.1 hs with rfl | hs
        · have := hall (false, l) (by simp); simp at this ⊢; omega
        · have := hall s (List.mem_cons_of_mem _ hs); omega
    exact key (pN p) (by omega) (s.set, s.as_) hmem
theorem rprepend_yes (a : Option Addr) (c : Nat) (p : List Sg) (n : Int) (m : Nat) (h8 : p.length ≤ 1000) (hsm : ∀ s ∈ p, SgN s) (hn : 1 ≤ n ∧ n ≤ 4294967295) (hm : 1 ≤ m ∧ m ≤ 10) (hck : ckP (pN p) 0 = true) (htt : (m : Int) ≤ 64 - (tot (pN p) : Int)) : Pact Tryz.prog 101 #[.slice a p.length c, .int .u32 n, .int .i64 m] (fun w => PathV w a c p) [] (fun u L' => ∃ a' c' q, u = .tuple #[.slice a' q.length c', .int .i64 0] ∧ pN q = preN n m (pN p) ∧ L' = [has (fun w => PathV w a' c' q)]) := by
  refine pact Tryz.func101 rfl Tryz.ntmps101 rfl ?_
  intro W K hK
  have hv : Kn K (fun w => Vw w (.slice a p.length c) 2 p.length (flat sgC p)) := hK.imp fun _ h => h.vw
  have hC := pcheck_s a c p h8 hsm
  rw [hck] at hC
  (repeat' (first | (refine gL ?_; first | refine yL0 ?_ | refine yL ?_ | (refine gL_go ?_; (refine JL_goq (hC) (hφ := (by (try simp only [cAp, nAp]); exact fun w hr => hK w hr.1)) (h := ?_); rintro _ _ ⟨rfl, rfl⟩; try simp only [cAp, nAp])) | (refine yM ?_; intro _) | (refine yA ?_; intro _ _ _ _)) | refine yJ ?_ | (refine yI ?_ ?_ <;> intro _ <;> try exact xX) | (refine yK ?_ ?_ <;> intro hgb <;> first | subst hgb | fail_if_success have : type_of% hgb := rfl) | fail))
  all_goals (first | (exfalso; omega) | skip)
  refine J_loop (α := Nat) 0 (fun x => p.length - x) (fun x => x ≤ p.length) (fun x => [(0, .slice a p.length c), (1, .int .u32 n), (2, .int .i64 m), (8, .int .i64 (tot (pN (p.take x)))), (9, .int .i64 x)]) (fun x => []) (Nat.zero_le _) ⟨rfl, rfl, rfl, rfl, rfl, trivial⟩ (fun w H => H) ?_
  rintro k hk
  have htk := tot_le (p.take k) (fun s hs => hsm s (List.take_subset _ _ hs))
  have hlk : (p.take k).length ≤ 1000 := by rw [List.length_take]; omega
  obtain ⟨N, hN⟩ : ∃ N, tot (pN (p.take k)) = N := ⟨_, rfl⟩
  rw [hN] at htk ⊢
  have hNb : N ≤ 35184372088832000 := by omega
  by_cases hlt : k < p.length
  · obtain ⟨s, hs⟩ : ∃ s, p[k]? = some s := ⟨_, List.getElem?_eq_getElem hlt⟩
    have hm := List.mem_of_getElem? hs
    have hsn1 := (hsm s hm).1
    (repeat' (first | (refine gL ?_; first | refine yL0 ?_ | refine yL ?_ | (refine yM ?_; intro _) | (refine yA ?_; intro _ _ _ _)) | refine yJ ?_ | (refine yI ?_ ?_ <;> intro _ <;> try exact xX) | (refine yK ?_ ?_ <;> intro hgb <;> first | subst hgb | fail_if_success have : type_of% hgb := rfl) | fail))
    refine J_again (k + 1) (by omega) (by omega) ⟨rfl, rfl, rfl, ?_, rfl, trivial⟩ (fun w H => H.sel .nil)
    rw [take_snoc hs]
    unfold pN
    rw [List.map_append, tot_append]
    unfold pN at hN
    rw [hN]
    show some _ = some _
    simp [tot]
  · have hke : k = p.length := by omega
    rw [hke, List.take_length] at hN
    rw [hN] at htt
    (repeat' (first | (refine gL ?_; first | refine yL0 ?_ | refine yL ?_ | (refine gL_go ?_; (refine JL_goq (pcopyO_s a c p _ rfl (by omega) hsm) (hφ := (by (try simp only [cAp, nAp]); exact fun w hr => hK w hr.1)) (h := ?_); rintro _ _ ⟨q0, a0, c0, rfl, hq0, rfl⟩; try simp only [cAp, nAp])) | (refine yM ?_; intro _) | (refine yA ?_; intro _ _ _ _)) | refine yJ ?_ | (refine yI ?_ ?_ <;> intro _ <;> try exact xX) | (refine yK ?_ ?_ <;> intro hgb <;> first | subst hgb | fail_if_success have : type_of% hgb := rfl) | fail))
    all_goals (first | (exfalso; omega) | skip)
    refine J_loop (α := Lpr) ⟨0, q0, a0, c0⟩ (fun x => m - x.i) (fun x => x.i ≤ m ∧ pN x.q = preI n x.i (pN p)) (fun x => [(1, .int .u32 n), (2, .int .i64 m), (10, .slice x.ad x.q.length x.cc), (11, .int .i64 x.i)]) (fun x => [Ar 87 2 sgC (.slice x.ad x.q.length x.cc) x.q, has (fun w => ∀ s ∈ x.q, segV w s)]) ⟨Nat.zero_le _, hq0⟩ ⟨rfl, rfl, rfl, rfl, trivial⟩ (fun w H => H.sel xZ) ?_
    rintro ⟨i, q, ad, cc⟩ ⟨hi, hq⟩
    dsimp only at hi hq ⊢
    obtain ⟨hb1, hb2⟩ := pre_bound (by omega) hck (by omega) hsm hq
    by_cases him : i < m
    · have hsucc := preI_succ n i (pN p)
      rw [← hq] at hsucc
      by_cases hA : ∃ l r, pN q = (false, l) :: r
      · obtain ⟨l, r, hlr⟩ := hA
        obtain ⟨s, q', rfl, hset, has_, hq'⟩ := pN_head hlr
        have hs : (s :: q')[0]? = some s := rfl
        have hms : s ∈ s :: q' := by simp
        have hsb := hb2 s hms
        have hql : (s :: q').length = q'.length + 1 := rfl
        (repeat' (first | (refine gL ?_; first | refine yL0 ?_ | (refine gL_c_append ?_; (refine JL_appY (enc := u32C) n s.as_ (tabE etab_ok xR) xR xR xA xR (fun w hr => hr.has (φ := fun w => ∀ x ∈ s :: q', segV w x) xA s hms) xC (by intro _; rfl) (all_one _ (by intro _ _; rfl)) (by omega) xR xR ?_; intro ad5 c5 _ _)) | (refine gL_store ?_; (refine JL_stEf (z' := (⟨s.set, ad5, c5, n :: s.as_⟩ : Sg)) (by rfl) (by rfl) xA hs (by rfl) (by intro _; rfl) (by rfl) (by rfl) (by (first | ((repeat (first | exact Put.e | apply Put.t | apply Put.s)); done) | fail)) (by simp [sgC, Nat.add_comm]) (by rfl) (by rfl) ?_)) | refine yL ?_ | (refine yM ?_; intro _) | (refine yA ?_; intro _ _ _ _)) | refine yJ ?_ | (refine yI ?_ ?_ <;> intro _ <;> try exact xX) | (refine yK ?_ ?_ <;> intro hgb <;> first | subst hgb | fail_if_success have : type_of% hgb := rfl) | fail))
        all_goals (first | (exfalso; omega) | (exfalso; simp_all; done) | skip)
        simp only [List.set_cons_zero]
        refine J_again ⟨i + 1, (⟨s.set, ad5, c5, n :: s.as_⟩ : Sg) :: q', ad, cc⟩ (by dsimp only; omega) ⟨by dsimp only; omega, ?_⟩ ⟨rfl, rfl, rfl, rfl, trivial⟩ (fun w H => ?_)
        · dsimp only
          rw [hsucc]
          simp only [pN, List.map_cons, hset, preN]
          rfl
        · refine (Ow.has (M := [Ar 22 1 u32C (.slice ad5 (1 + s.as_.length) c5) (n :: s.as_), has (fun w => ∀ x ∈ s :: q', segV w x)]) (φ := fun w => ∀ x ∈ (⟨s.set, ad5, c5, n :: s.as_⟩ : Sg) :: q', segV w x) H xZ ?_).sel xZ
          intro w hr x hx
          rcases List.mem_cons.1 hx with rfl | hx
          · have h9 := Src.ar (enc := u32C) (es := n :: s.as_) .here w hr
            rw [Nat.add_comm] at h9
            exact h9
          · exact hr.has (φ := fun w => ∀ x ∈ s :: q', segV w x) (.there .here) x (List.mem_cons_of_mem _ hx)
      · have hA2 : ∀ l r, pN q ≠ (false, l) :: r := fun l r h => hA ⟨l, r, h⟩
        rw [preN_ins hA2] at hsucc
        have hset : ∀ s, q[0]? = some s → s.set = true := fun s hs => by
          cases q with
          | nil => cases hs
          | cons x r =>
            have hxs : x = s := Option.some.inj hs
            subst hxs
            rcases hx : x.set with _ | _
            · refine absurd ?_ (hA2 x.as_ (pN r))
              simp only [pN, List.map_cons, hx]
            · rfl
        by_cases hq0l : q.length = 0
        · obtain rfl := List.eq_nil_of_length_eq_zero hq0l
          (repeat' (first | (refine gL ?_; first | refine yL0 ?_ | (refine gL_c_append ?_; (first | (refine JL_appY (enc := sgC) sg0 [] (tabE etab_ok xR) xR xR xA xR (Src.ar xA) xC (by intro _; rfl) (sg_one []) (by simp) xR xR ?_; intro ad6 c6 _ _) | (refine JL_appY (enc := u32C) n [] (tabE etab_ok xR) xR xR xA xR (fun w hr => Vw.nil w 1) xC (by intro _; rfl) (by intro _ h; cases h) (by simp) xR xR ?_; intro ad5 c5 _ _))) | (refine gL_load ?_; (refine JL_p rfl xR xR (pe_elF xR (Src.ar xA) xL xR xC (show [sg0][0]? = some sg0 from rfl) xR) ?_)) | (refine gL_store ?_; (refine JL_stEf (z' := (⟨false, ad5, c5, [n]⟩ : Sg)) (by rfl) (by rfl) xA (show [sg0][0]? = some sg0 from rfl) (by rfl) (by intro _; rfl) (by rfl) (by rfl) (by (first | ((repeat (first | exact Put.e | apply Put.t | apply Put.s)); done) | fail)) (by rfl) (by rfl) (by rfl) ?_)) | refine yL ?_ | (refine yM ?_; intro _) | (refine yA ?_; intro _ _ _ _)) | refine yJ ?_ | (refine yI ?_ ?_ <;> intro _ <;> try exact xX) | (refine yK ?_ ?_ <;> intro hgb <;> first | subst hgb | fail_if_success have : type_of% hgb := rfl) | fail))
          all_goals (first | (exfalso; omega) | skip)
          refine J_again ⟨i + 1, [(⟨false, ad5, c5, [n]⟩ : Sg)], ad6, c6⟩ (by dsimp only; omega) ⟨by dsimp only; omega, hsucc.symm⟩ ⟨rfl, rfl, rfl, rfl, trivial⟩ (fun w H => ?_)
          refine (Ow.has (M := [Ar 22 1 u32C (.slice ad5 (1 + 0) c5) [n]]) (φ := fun w => ∀ x ∈ [(⟨false, ad5, c5, [n]⟩ : Sg)], segV w x) H (.cons xA .nil) ?_).sel (M := [Ar 87 2 sgC (.slice ad6 (1 + 0) c6) [(⟨false, ad5, c5, [n]⟩ : Sg)], has (fun w => ∀ x ∈ [(⟨false, ad5, c5, [n]⟩ : Sg)], segV w x)]) xZ
          intro w hr x hx
          obtain rfl := List.mem_singleton.1 hx
          exact Src.ar (enc := u32C) (es := [n]) .here w hr
        · obtain ⟨s, r, rfl⟩ := List.exists_cons_of_length_pos (l := q) (by omega)
          have hs : (s :: r)[0]? = some s := rfl
          have hset := hset s rfl
          have hql : (s :: r).length = r.length + 1 := rfl
          (repeat' (first | (refine gL ?_; first | refine yL0 ?_ | (refine gL_c_append ?_; (first | (refine JL_appY (enc := sgC) sg0 (s :: r) (tabE etab_ok xR) xR xR xA xR (Src.ar xA) xC (by intro _; rfl) (sg_one (s :: r)) (by omega) xR xR ?_; intro ad6 c6 _ _) | (refine JL_appY (enc := u32C) n [] (tabE etab_ok xR) xR xR xA xR (fun w hr => Vw.nil w 1) xC (by intro _; rfl) (by intro _ h; cases h) (by simp) xR xR ?_; intro ad5 c5 _ _))) | (refine gL_load ?_; (first | (refine JL_p rfl xR xR (pe_elF xR (Src.ar xA) xL xR xC (show (sg0 :: s :: r)[0]? = some sg0 from rfl) xR) ?_) | (refine JL_p rfl xR xR (pe_elF xR (Src.ar xA) xL xR xC hs xR) ?_))) | (refine gL_store ?_; (refine JL_stEf (z' := (⟨false, ad5, c5, [n]⟩ : Sg)) (by rfl) (by rfl) xA (show (sg0 :: s :: r)[0]? = some sg0 from rfl) (by rfl) (by intro _; rfl) (by rfl) (by rfl) (by (first | ((repeat (first | exact Put.e | apply Put.t | apply Put.s)); done) | fail)) (by rfl) (by rfl) (by rfl) ?_)) | refine yL ?_ | (refine yM ?_; intro _) | (refine yA ?_; intro _ _ _ _)) | refine yJ ?_ | (refine yI ?_ ?_ <;> intro _ <;> try exact xX) | (refine yK ?_ ?_ <;> intro hgb <;> first | subst hgb | fail_if_success have : type_of% hgb := rfl) | fail))
          all_goals (first | (exfalso; omega) | (exfalso; simp_all; done) | skip)
          have hl2 : 1 + (s :: r).length = ((⟨false, ad5, c5, [n]⟩ : Sg) :: s :: r).length := by simp; omega
          simp only [List.set_cons_zero]
          refine J_again ⟨i + 1, (⟨false, ad5, c5, [n]⟩ : Sg) :: s :: r, ad6, c6⟩ (by dsimp only; omega) ⟨by dsimp only; omega, hsucc.symm⟩ ⟨rfl, rfl, ?_, rfl, trivial⟩ (fun w H => ?_)
          · show some (Value.slice ad6 (1 + (s :: r).length) c6) = some (Value.slice ad6 ((⟨false, ad5, c5, [n]⟩ : Sg) :: s :: r).length c6)
            rw [hl2]
          · rw [hl2] at H
            refine (Ow.has (M := [Ar 22 1 u32C (.slice ad5 (1 + 0) c5) [n], has (fun w => ∀ x ∈ s :: r, segV w x)]) (φ := fun w => ∀ x ∈ (⟨false, ad5, c5, [n]⟩ : Sg) :: s :: r, segV w x) H (.cons xA (.cons xA .nil)) ?_).sel xZ
            intro w hr x hx
            rcases List.mem_cons.1 hx with rfl | hx
            · exact Src.ar (enc := u32C) (es := [n]) .here w hr
            · exact hr.has (φ := fun w => ∀ x ∈ s :: r, segV w x) (.there .here) x hx
    · obtain rfl : i = m := by omega
      (repeat' (first | (refine gL ?_; first | refine yL0 ?_ | refine yL ?_ | (refine yM ?_; intro _) | (refine yA ?_; intro _ _ _ _)) | refine yJ ?_ | (refine yI ?_ ?_ <;> intro _ <;> try exact xX) | (refine yK ?_ ?_ <;> intro hgb <;> first | subst hgb | fail_if_success have : type_of% hgb := rfl) | fail))
      all_goals (first | (exfalso; omega) | skip)
      have hmp : preI n i (pN p) = preN n i (pN p) := by
        obtain ⟨j, rfl⟩ : ∃ j, i = j + 1 := ⟨i - 1, by omega⟩
        rfl
      refine J_ret2 rfl (by rfl) (by rfl) fun w H => ⟨_, ⟨ad, cc, q, rfl, hq.trans hmp, rfl⟩, ?_⟩
      exact (Ow.has (M := [Ar 87 2 sgC (.slice ad q.length cc) q, has (fun w => ∀ s ∈ q, segV w s)]) (φ := fun w => PathV w ad cc q) H xZ (fun w hr => ⟨Src.ar .here w hr, fun s hs => hr.has (φ := fun w => ∀ s ∈ q, segV w s) (.there .here) s hs⟩)).sel xZ
end Go.Proofs.YtdnokmpnemaoaaaGreat.C
