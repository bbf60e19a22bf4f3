/-
  Aq4: merged.
-/
import Derived.Test.YtdnokmpnemaoaaaGreatZViewChooses13
namespace Go.Proofs.YtdnokmpnemaoaaaGreat
set_option linter.unusedSimpArgs false
set_option linter.unusedVariables false
set_option maxRecDepth 20000
set_option maxHeartbeats 4000000
open Go.RowKit Go.Pm
theorem zd10Aq4 {p q : Prop} (k : p) (h : p → q := by intro hk; first | exact J_draw (id := 6) [0, 1, 2, 3, 4, 5, 6, 7, 8, 9] [10] mixed xC xD xD hk | exact J_draw (id := 11) [0, 1, 2, 3, 4, 5, 6, 7, 8, 9, 10, 11, 12, 13, 14, 15, 16, 17, 18, 19, 20, 21, 22, 23, 24, 25, 26, 27] [28, 29] mixed xC xD xD hk | fail) : q := h k
theorem zd13Aq4 {p q : Prop} (k : p) (h : p → q := by intro hk; first | exact J_draw (id := 6) [0, 1, 2, 3, 4, 5, 6, 7, 8, 9, 10, 11, 12, 13, 14, 15, 16, 17, 18, 19, 20, 21, 22, 23] [24, 25] mixed xC xD xD hk | exact J_draw (id := 11) [0, 1, 2, 3, 4, 5, 6, 7, 8, 9, 10, 11, 12, 13, 14, 15] [16] mixed xC xD xD hk | fail) : q := h k

theorem strOf_inj {l m : List Int} (hl : ∀ z ∈ l, U8 z) (hm : ∀ z ∈ m, U8 z) (h : strOfNums l = strOfNums m) : l = m := by
  have h2 : l.map (fun n => UInt8.ofNat n.toNat) = m.map (fun n => UInt8.ofNat n.toNat) := by
    have := congrArg (fun b => b.data.toList) h
    simpa [strOfNums] using this
  clear h
  induction l generalizing m with
  | nil => cases m with | nil => rfl | cons => simp at h2
  | cons x l ih =>
    cases m with
    | nil => simp at h2
    | cons y m =>
      simp only [List.map_cons, List.cons.injEq] at h2
      obtain ⟨e1, e2⟩ := h2
      have a1 := hl x (List.mem_cons_self ..)
      have a2 := hm y (List.mem_cons_self ..)
      unfold U8 at a1 a2
      have e3 := congrArg UInt8.toNat e1
      simp only [UInt8.toNat_ofNat'] at e3
      have : x = y := by omega
      rw [this, ih (fun z hz => hl z (List.mem_cons_of_mem _ hz)) (fun z hz => hm z (List.mem_cons_of_mem _ hz)) e2]
theorem strNe {l m : List Int} (hl : ∀ z ∈ l, U8 z) (hm : ∀ z ∈ m, U8 z) : decide (strOfNums l ≠ strOfNums m) = decide (l ≠ m) := by
  by_cases h : l = m
  · subst h; simp
  · have : strOfNums l ≠ strOfNums m := fun e => h (strOf_inj hl hm e)
    simp [h, this]
theorem pN_get {p q : List Sg} (h : pN p = pN q) {k : Nat} {s t : Sg} (hs : p[k]? = some s) (ht : q[k]? = some t) : s.set = t.set ∧ s.as_ = t.as_ := by
  have := congrArg (·[k]?) h
  simp only [pN, List.getElem?_map, hs, ht, Option.map_some, Option.some.injEq, Prod.mk.injEq] at this
  exact this
theorem oN_get {p q : List Rw} (h : oN p = oN q) {k : Nat} {s t : Rw} (hs : p[k]? = some s) (ht : q[k]? = some t) : s.kind = t.kind ∧ s.data = t.data := by
  have := congrArg (·[k]?) h
  simp only [oN, List.getElem?_map, hs, ht, Option.map_some, Option.some.injEq, Prod.mk.injEq] at this
  exact this
theorem psame_s (a : Option Addr) (c : Nat) (p : List Sg) (b : Option Addr) (d : Nat) (q : List Sg) (h8 : p.length ≤ 1000) (h9 : q.length ≤ 1000) (hsm : ∀ s ∈ p, SgN s) (hsq : ∀ s ∈ q, SgN s) : Pact Tryz.prog 13 #[.slice a p.length c, .slice b q.length d] (fun w => PathV w a c p ∧ PathV w b d q) [] (ret0 (.bool (decide (pN p = pN q)))) := by
  refine pact Tryz.func13 rfl Tryz.ntmps13 rfl ?_
  intro W K hK
  have hv : Kn K (fun w => Vw w (.slice a p.length c) 2 p.length (flat sgC p)) := hK.imp fun _ h => h.1.vw
  have hv2 : Kn K (fun w => Vw w (.slice b q.length d) 2 q.length (flat sgC q)) := hK.imp fun _ h => h.2.vw
  by_cases hlen : p.length = q.length
  · (repeat' (first | (refine gL ?_; first | refine yL0 ?_ | refine yL ?_) | (refine gD ?_; first | (refine yN ?_; try simp only [cAp, nAp]) | refine yD0 ?_ | refine yD ?_) | refine yJ ?_ | refine zd13Aq4 ?_ | (refine yI ?_ ?_ <;> intro _ <;> try exact xX) | (refine yK ?_ ?_ <;> intro hgb <;> first | subst hgb | fail_if_success have : type_of% hgb := rfl) | fail))
    all_goals (first | (exfalso; omega) | skip)
    refine J_loop (α := Nat) 0 (fun x => p.length - x) (fun x => x ≤ p.length ∧ pN (p.take x) = pN (q.take x)) (fun x => [(0, .slice a p.length c), (1, .slice b q.length d), (5, .int .i64 x)]) (fun x => []) ⟨Nat.zero_le _, rfl⟩ ⟨rfl, rfl, rfl, trivial⟩ (fun w H => H) ?_
    rintro k ⟨hk, hck⟩
    by_cases hlt : k < p.length
    · obtain ⟨s, hs⟩ : ∃ s, p[k]? = some s := ⟨_, List.getElem?_eq_getElem hlt⟩
      obtain ⟨t, ht⟩ : ∃ s, q[k]? = some s := ⟨_, List.getElem?_eq_getElem (by omega)⟩
      have hm := List.mem_of_getElem? hs
      have hm2 := List.mem_of_getElem? ht
      have hsn1 := (hsm s hm).1
      have hsn2 := (hsq t hm2).1
      have hu : Kn K (fun w => Vw w (.slice s.a s.as_.length s.c) 1 s.as_.length (flat u32C s.as_)) := hK.imp fun _ h => h.1.segs s hm
      have hu2 : Kn K (fun w => Vw w (.slice t.a t.as_.length t.c) 1 t.as_.length (flat u32C t.as_)) := hK.imp fun _ h => h.2.segs t hm2
      (repeat' (first | (refine gL ?_; first | refine yL0 ?_ | refine yL ?_) | (refine gD ?_; first | (refine yN ?_; try simp only [cAp, nAp]) | refine yD0 ?_ | refine yD ?_) | refine yJ ?_ | refine zd13Aq4 ?_ | (refine yI ?_ ?_ <;> intro _ <;> try exact xX) | (refine yK ?_ ?_ <;> intro hgb <;> first | subst hgb | fail_if_success have : type_of% hgb := rfl) | fail))
      · have hf : decide (pN p = pN q) = false := decide_eq_false fun h => by have := pN_get h hs ht; simp_all
        rw [hf]
        exact J_ret1 rfl (by rfl) fun w H => ⟨_, ⟨rfl, rfl⟩, H.sel .nil⟩
      · have hf : decide (pN p = pN q) = false := decide_eq_false fun h => absurd (congrArg List.length (pN_get h hs ht).2) (by omega)
        rw [hf]
        exact J_ret1 rfl (by rfl) fun w H => ⟨_, ⟨rfl, rfl⟩, H.sel .nil⟩
      · have hl2 : s.as_.length = t.as_.length := by omega
        refine J_loop (α := Nat) 0 (fun x => s.as_.length - x) (fun x => x ≤ s.as_.length ∧ s.as_.take x = t.as_.take x) (fun x => [(0, .slice a p.length c), (1, .slice b q.length d), (5, .int .i64 k), (6, .int .i64 x)]) (fun x => []) ⟨Nat.zero_le _, by simp⟩ ⟨rfl, rfl, rfl, rfl, trivial⟩ (fun w H => H) ?_
        rintro j ⟨hj, hz⟩
        by_cases hjl : j < s.as_.length
        · obtain ⟨x, hx⟩ : ∃ x, s.as_[j]? = some x := ⟨_, List.getElem?_eq_getElem hjl⟩
          obtain ⟨y, hy⟩ : ∃ x, t.as_[j]? = some x := ⟨_, List.getElem?_eq_getElem (by omega)⟩
          (repeat' (first | (refine gL ?_; first | refine yL0 ?_ | refine yL ?_) | (refine gD ?_; first | (refine yN ?_; try simp only [cAp, nAp]) | refine yD0 ?_ | refine yD ?_) | refine yJ ?_ | refine zd13Aq4 ?_ | (refine yI ?_ ?_ <;> intro _ <;> try exact xX) | (refine yK ?_ ?_ <;> intro hgb <;> first | subst hgb | fail_if_success have : type_of% hgb := rfl) | fail))
          · have hf : decide (pN p = pN q) = false := decide_eq_false fun h => by have := (pN_get h hs ht).2; rw [this] at hx; rw [hx] at hy; exact absurd (Option.some.inj hy) (by assumption)
            rw [hf]
            exact J_ret1 rfl (by rfl) fun w H => ⟨_, ⟨rfl, rfl⟩, H.sel .nil⟩
          · have hxy : x = y := by omega
            subst hxy
            exact J_again (j + 1) (by omega) ⟨by omega, by rw [take_snoc hx, take_snoc hy, hz]⟩ ⟨rfl, rfl, rfl, rfl, trivial⟩ (fun w H => H.sel .nil)
        · have hje : j = s.as_.length := by omega
          have hz2 : s.as_ = t.as_ := by rw [hje, List.take_length] at hz; rw [hz, hl2, List.take_length]
          (repeat' (first | (refine gL ?_; first | refine yL0 ?_ | refine yL ?_) | (refine gD ?_; first | (refine yN ?_; try simp only [cAp, nAp]) | refine yD0 ?_ | refine yD ?_) | refine yJ ?_ | refine zd13Aq4 ?_ | (refine yI ?_ ?_ <;> intro _ <;> try exact xX) | (refine yK ?_ ?_ <;> intro hgb <;> first | subst hgb | fail_if_success have : type_of% hgb := rfl) | fail))
          refine J_again (k + 1) (by omega) ⟨by omega, ?_⟩ ⟨rfl, rfl, rfl, trivial⟩ (fun w H => H.sel .nil)
          rw [take_snoc hs, take_snoc ht]
          unfold pN at hck ⊢
          rw [List.map_append, List.map_append, hck]
          simp_all
    · have hke : k = p.length := by omega
      have hf : decide (pN p = pN q) = true := decide_eq_true (by rw [hke, List.take_length, hlen, List.take_length] at hck; exact hck)
      rw [hf]
      (repeat' (first | (refine gL ?_; first | refine yL0 ?_ | refine yL ?_) | (refine gD ?_; first | (refine yN ?_; try simp only [cAp, nAp]) | refine yD0 ?_ | refine yD ?_) | refine yJ ?_ | refine zd13Aq4 ?_ | (refine yI ?_ ?_ <;> intro _ <;> try exact xX) | (refine yK ?_ ?_ <;> intro hgb <;> first | subst hgb | fail_if_success have : type_of% hgb := rfl) | fail))
      exact J_ret1 rfl (by rfl) fun w H => ⟨_, ⟨rfl, rfl⟩, H.sel .nil⟩
  · have hf : decide (pN p = pN q) = false := decide_eq_false fun h => hlen (pN_len h)
    rw [hf]
    (repeat' (first | (refine gL ?_; first | refine yL0 ?_ | refine yL ?_) | (refine gD ?_; first | (refine yN ?_; try simp only [cAp, nAp]) | refine yD0 ?_ | refine yD ?_) | refine yJ ?_ | refine zd13Aq4 ?_ | (refine yI ?_ ?_ <;> intro _ <;> try exact xX) | (refine yK ?_ ?_ <;> intro hgb <;> first | subst hgb | fail_if_success have : type_of% hgb := rfl) | fail))
    all_goals (first | (exfalso; omega) | skip)
    exact J_ret1 rfl (by rfl) fun w H => ⟨_, ⟨rfl, rfl⟩, H.sel .nil⟩
structure HeadEq (d e : At) : Prop where
  origin : d.origin = e.origin
  path : pN d.path = pN e.path
  next : d.next = e.next
  hasMed : d.hasMed = e.hasMed
  med : d.hasMed = true → d.med = e.med
  hasLocal : d.hasLocal = e.hasLocal
  loc : d.hasLocal = true → d.loc = e.loc
  atomic : d.atomic = e.atomic
  hasMaker : d.hasMaker = e.hasMaker
  makerAS : d.hasMaker = true → d.makerAS = e.makerAS
  maker : d.hasMaker = true → d.maker = e.maker
  comms : d.comms.length = e.comms.length
  others : d.others.length = e.others.length
theorem nf_eq (d e : At) : d.nf = e.nf ↔ HeadEq d e ∧ d.comms = e.comms ∧ oN d.others = oN e.others := by
  constructor
  · intro h
    simp only [At.nf, Nf.mk.injEq] at h
    obtain ⟨h1, h2, h3, h4, h5, h6, h7, h8, h9⟩ := h
    refine ⟨⟨h1, h2, h3, ?_, ?_, ?_, ?_, h6, ?_, ?_, ?_, by rw [h8], oN_len h9⟩, h8, h9⟩
    · cases a : d.hasMed <;> cases b : e.hasMed <;> simp_all
    · cases a : d.hasMed <;> cases b : e.hasMed <;> simp_all
    · cases a : d.hasLocal <;> cases b : e.hasLocal <;> simp_all
    · cases a : d.hasLocal <;> cases b : e.hasLocal <;> simp_all
    · cases a : d.hasMaker <;> cases b : e.hasMaker <;> simp_all
    · cases a : d.hasMaker <;> cases b : e.hasMaker <;> simp_all
    · cases a : d.hasMaker <;> cases b : e.hasMaker <;> simp_all
  · rintro ⟨⟨h1, h2, h3, h4, h5, h6, h7, h8, h9, h10, h11, _, _⟩, h12, h13⟩
    simp only [At.nf, Nf.mk.injEq]
    refine ⟨h1, h2, h3, ?_, ?_, h8, ?_, h12, h13⟩
    · cases a : d.hasMed <;> simp_all
    · cases a : d.hasLocal <;> simp_all
    · cases a : d.hasMaker <;> simp_all
theorem rsame_s (d e : At) (hd : AtF d) (he : AtF e) : Pact Tryz.prog 10 #[.agg (atC d).toArray, .agg (atC e).toArray] (fun w => AtV w d ∧ AtV w e) [] (ret0 (.bool (decide (d.nf = e.nf)))) := by
  refine pact Tryz.func10 rfl Tryz.ntmps10 rfl ?_
  intro W K hK
  have hd1 := hd.path
  have hd2 := hd.comms
  have hd3 := hd.others
  have he1 := he.path
  have he2 := he.comms
  have he3 := he.others
  have hcv : Kn K (fun w => Vw w (.slice d.ca d.comms.length d.cc) 1 d.comms.length (flat u32C d.comms)) := hK.imp fun _ h => h.1.comms
  have hcv2 : Kn K (fun w => Vw w (.slice e.ca e.comms.length e.cc) 1 e.comms.length (flat u32C e.comms)) := hK.imp fun _ h => h.2.comms
  have hov : Kn K (fun w => Vw w (.slice d.oa d.others.length d.oc) 2 d.others.length (flat rwC d.others)) := hK.imp fun _ h => h.1.others.vw
  have hov2 : Kn K (fun w => Vw w (.slice e.oa e.others.length e.oc) 2 e.others.length (flat rwC e.others)) := hK.imp fun _ h => h.2.others.vw
  (iterate 7 (first | (refine gL ?_; first | (with_reducible apply gL_app) | (with_reducible apply gL_app0) | refine yL0 ?_ | refine yL ?_ | (refine yM ?_; intro _)) | (refine gD ?_; first | (refine yN ?_; try simp only [cAp, nAp]) | (with_reducible apply gD_app) | (with_reducible apply gD_app0) | refine yD0 ?_ | refine yD ?_) | refine yJ ?_ | refine zd10Aq4 ?_ | (refine yI ?_ ?_ <;> intro _ <;> try exact xX) | (refine yK ?_ ?_ <;> intro hgb <;> first | subst hgb | fail_if_success have : type_of% hgb := rfl) | fail))
  rename_i b0 b1
  refine J_cut (α := Unit) (fun _ => HeadEq d e) (fun _ => [(2, .pointer (some ⟨b0, 0, none⟩)), (3, .pointer (some ⟨b1, 0, none⟩))]) (fun _ => [pts b0 (atC d) 35, pts b1 (atC e) 35]) ?_ ?_
  · have hPS := psame_s d.pa d.pc d.path e.pa e.pc e.path (by omega) (by omega) hd.num.path he.num.path
    by_cases hp : pN d.path = pN e.path
    · rw [decide_eq_true hp] at hPS
      (repeat' (first | (refine gL ?_; first | (with_reducible apply gL_app) | (with_reducible apply gL_app0) | refine yL0 ?_ | refine yL ?_ | (refine gL_go ?_; (refine JL_goq (hPS) (hφ := (by (try simp only [cAp, nAp]); exact fun w hr => ⟨(hK w hr.1).1.path, (hK w hr.1).2.path⟩)) (h := ?_); rintro _ _ ⟨rfl, rfl⟩; try simp only [cAp, nAp])) | (refine yM ?_; intro _)) | (refine gD ?_; first | (refine yN ?_; try simp only [cAp, nAp]) | (with_reducible apply gD_app) | (with_reducible apply gD_app0) | refine yD0 ?_ | refine yD ?_) | refine yJ ?_ | refine zd10Aq4 ?_ | (refine yI ?_ ?_ <;> intro _ <;> try exact xX) | (refine yK ?_ ?_ <;> intro hgb <;> first | subst hgb | fail_if_success have : type_of% hgb := rfl) | fail))
      all_goals first
        | (have hf : decide (d.nf = e.nf) = false := decide_eq_false fun hh => by
             have h := ((nf_eq d e).1 hh).1
             first
               | exact absurd h.origin (by assumption)
               | exact absurd h.next (by assumption)
               | exact absurd h.hasMed (by assumption)
               | exact absurd (h.med (by assumption)) (by assumption)
               | exact absurd h.hasLocal (by assumption)
               | exact absurd (h.loc (by assumption)) (by assumption)
               | exact absurd h.atomic (by assumption)
               | exact absurd h.hasMaker (by assumption)
               | exact absurd (h.makerAS (by assumption)) (by assumption)
               | exact absurd (h.maker (by assumption)) (by assumption)
               | exact absurd h.comms (by omega)
               | exact absurd h.others (by omega)
           rw [hf]
           exact J_ret1 rfl (by rfl) fun w H => ⟨_, ⟨rfl, rfl⟩, H.sel .nil⟩)
        | (refine J_meet () ⟨by omega, hp, by omega, Decidable.not_not.1 (by assumption), fun hh => ?_, Decidable.not_not.1 (by assumption), fun hh => ?_, Decidable.not_not.1 (by assumption), Decidable.not_not.1 (by assumption), fun hh => ?_, fun hh => ?_, by omega, by omega⟩ ⟨rfl, rfl, trivial⟩ (fun w H => H.sel xZ)
           all_goals first | omega | (exfalso; have h2 : true = false := hh.symm.trans (by assumption); cases h2))
    · have hf : decide (d.nf = e.nf) = false := decide_eq_false fun hh => hp ((nf_eq d e).1 hh).1.path
      rw [decide_eq_false hp] at hPS
      rw [hf]
      (repeat' (first | (refine gL ?_; first | (with_reducible apply gL_app) | (with_reducible apply gL_app0) | refine yL0 ?_ | refine yL ?_ | (refine gL_go ?_; (refine JL_goq (hPS) (hφ := (by (try simp only [cAp, nAp]); exact fun w hr => ⟨(hK w hr.1).1.path, (hK w hr.1).2.path⟩)) (h := ?_); rintro _ _ ⟨rfl, rfl⟩; try simp only [cAp, nAp])) | (refine yM ?_; intro _)) | (refine gD ?_; first | (refine yN ?_; try simp only [cAp, nAp]) | (with_reducible apply gD_app) | (with_reducible apply gD_app0) | refine yD0 ?_ | refine yD ?_) | refine yJ ?_ | refine zd10Aq4 ?_ | (refine yI ?_ ?_ <;> intro _ <;> try exact xX) | (refine yK ?_ ?_ <;> intro hgb <;> first | subst hgb | fail_if_success have : type_of% hgb := rfl) | fail))
      all_goals (first | (exfalso; omega) | skip)
      all_goals exact J_ret1 rfl (by rfl) fun w H => ⟨_, ⟨rfl, rfl⟩, H.sel .nil⟩
  · rintro ⟨⟩ hh
    have hl1 := hh.comms
    have hl2 := hh.others
    (repeat' (first | (refine gL ?_; first | (with_reducible apply gL_app) | (with_reducible apply gL_app0) | refine yL0 ?_ | refine yL ?_ | (refine yM ?_; intro _)) | (refine gD ?_; first | (refine yN ?_; try simp only [cAp, nAp]) | (with_reducible apply gD_app) | (with_reducible apply gD_app0) | refine yD0 ?_ | refine yD ?_) | refine yJ ?_ | refine zd10Aq4 ?_ | (refine yI ?_ ?_ <;> intro _ <;> try exact xX) | (refine yK ?_ ?_ <;> intro hgb <;> first | subst hgb | fail_if_success have : type_of% hgb := rfl) | fail))
    refine J_loop (α := Nat) 0 (fun x => d.comms.length - x) (fun x => x ≤ d.comms.length ∧ d.comms.take x = e.comms.take x) (fun x => [(2, .pointer (some ⟨b0, 0, none⟩)), (3, .pointer (some ⟨b1, 0, none⟩)), (5, .int .i64 x)]) (fun x => [pts b0 (atC d) 35, pts b1 (atC e) 35]) ⟨Nat.zero_le _, rfl⟩ ⟨rfl, rfl, rfl, trivial⟩ (fun w H => H.sel xZ) ?_
    rintro k ⟨hk, hck⟩
    by_cases hlt : k < d.comms.length
    · obtain ⟨x, hx⟩ : ∃ x, d.comms[k]? = some x := ⟨_, List.getElem?_eq_getElem hlt⟩
      obtain ⟨y, hy⟩ : ∃ x, e.comms[k]? = some x := ⟨_, List.getElem?_eq_getElem (by omega)⟩
      (repeat' (first | (refine gL ?_; first | (with_reducible apply gL_app) | (with_reducible apply gL_app0) | refine yL0 ?_ | refine yL ?_ | (refine yM ?_; intro _)) | (refine gD ?_; first | (refine yN ?_; try simp only [cAp, nAp]) | (with_reducible apply gD_app) | (with_reducible apply gD_app0) | refine yD0 ?_ | refine yD ?_) | refine yJ ?_ | refine zd10Aq4 ?_ | (refine yI ?_ ?_ <;> intro _ <;> try exact xX) | (refine yK ?_ ?_ <;> intro hgb <;> first | subst hgb | fail_if_success have : type_of% hgb := rfl) | fail))
      · have hf : decide (d.nf = e.nf) = false := decide_eq_false fun h => by have := ((nf_eq d e).1 h).2.1; rw [this] at hx; rw [hx] at hy; exact absurd (Option.some.inj hy) (by assumption)
        rw [hf]
        exact J_ret1 rfl (by rfl) fun w H => ⟨_, ⟨rfl, rfl⟩, H.sel .nil⟩
      · have hxy : x = y := by omega
        subst hxy
        exact J_again (k + 1) (by omega) ⟨by omega, by rw [take_snoc hx, take_snoc hy, hck]⟩ ⟨rfl, rfl, rfl, trivial⟩ (fun w H => H.sel xZ)
    · have hke : k = d.comms.length := by omega
      have hcc : d.comms = e.comms := by rw [hke, List.take_length, hl1, List.take_length] at hck; exact hck
      (repeat' (first | (refine gL ?_; first | (with_reducible apply gL_app) | (with_reducible apply gL_app0) | refine yL0 ?_ | refine yL ?_ | (refine yM ?_; intro _)) | (refine gD ?_; first | (refine yN ?_; try simp only [cAp, nAp]) | (with_reducible apply gD_app) | (with_reducible apply gD_app0) | refine yD0 ?_ | refine yD ?_) | refine yJ ?_ | refine zd10Aq4 ?_ | (refine yI ?_ ?_ <;> intro _ <;> try exact xX) | (refine yK ?_ ?_ <;> intro hgb <;> first | subst hgb | fail_if_success have : type_of% hgb := rfl) | fail))
      refine J_loop (α := Nat) 0 (fun x => d.others.length - x) (fun x => x ≤ d.others.length ∧ oN (d.others.take x) = oN (e.others.take x)) (fun x => [(2, .pointer (some ⟨b0, 0, none⟩)), (3, .pointer (some ⟨b1, 0, none⟩)), (6, .int .i64 x)]) (fun x => [pts b0 (atC d) 35, pts b1 (atC e) 35]) ⟨Nat.zero_le _, rfl⟩ ⟨rfl, rfl, rfl, trivial⟩ (fun w H => H.sel xZ) ?_
      rintro j ⟨hj, hjk⟩
      by_cases hjl : j < d.others.length
      · obtain ⟨s, hs⟩ : ∃ s, d.others[j]? = some s := ⟨_, List.getElem?_eq_getElem hjl⟩
        obtain ⟨t, ht⟩ : ∃ s, e.others[j]? = some s := ⟨_, List.getElem?_eq_getElem (by omega)⟩
        have hm := List.mem_of_getElem? hs
        have hm2 := List.mem_of_getElem? ht
        have hu : Kn K (fun w => Vw w (.slice s.a s.data.length s.c) 1 s.data.length (flat byC s.data)) := hK.imp fun _ h => h.1.others.raws s hm
        have hu2 : Kn K (fun w => Vw w (.slice t.a t.data.length t.c) 1 t.data.length (flat byC t.data)) := hK.imp fun _ h => h.2.others.raws t hm2
        have hne := strNe (hd.num.others s hm).2.2 (he.num.others t hm2).2.2
        (repeat' (first | (refine gL ?_; first | (with_reducible apply gL_app) | (with_reducible apply gL_app0) | refine yL0 ?_ | (refine gL_bin_neq ?_; refine JD_p rfl xR xR (pe_neStr xR xR xC hne) ?_) | refine yL ?_ | (refine yM ?_; intro _)) | (refine gD ?_; first | (refine yN ?_; try simp only [cAp, nAp]) | (with_reducible apply gD_app) | (with_reducible apply gD_app0) | refine yD0 ?_ | (refine gD_convert ?_; (first | refine JD_p rfl xR xR (pe_str xR xC xC (Src.kn hu)) ?_ | refine JD_p rfl xR xR (pe_str xR xC xC (Src.kn hu2)) ?_)) | (refine gD_bin_neq ?_; refine JD_p rfl xR xR (pe_neStr xR xR xC hne) ?_) | refine yD ?_) | refine yJ ?_ | refine zd10Aq4 ?_ | (refine yI ?_ ?_ <;> intro _ <;> try exact xX) | (refine yK ?_ ?_ <;> intro hgb <;> first | subst hgb | fail_if_success have : type_of% hgb := rfl) | fail))
        · have hf : decide (d.nf = e.nf) = false := decide_eq_false fun h => absurd (oN_get ((nf_eq d e).1 h).2.2 hs ht).1 (by assumption)
          rw [hf]
          exact J_ret1 rfl (by rfl) fun w H => ⟨_, ⟨rfl, rfl⟩, H.sel .nil⟩
        · have hf : decide (d.nf = e.nf) = false := decide_eq_false fun h => absurd (oN_get ((nf_eq d e).1 h).2.2 hs ht).2 (by assumption)
          rw [hf]
          exact J_ret1 rfl (by rfl) fun w H => ⟨_, ⟨rfl, rfl⟩, H.sel .nil⟩
        · refine J_again (j + 1) (by omega) ⟨by omega, ?_⟩ ⟨rfl, rfl, rfl, trivial⟩ (fun w H => H.sel xZ)
          rw [take_snoc hs, take_snoc ht]
          unfold oN at hjk ⊢
          rw [List.map_append, List.map_append, hjk]
          simp_all
      · have hje : j = d.others.length := by omega
        have hf : decide (d.nf = e.nf) = true := decide_eq_true ((nf_eq d e).2 ⟨hh, hcc, by rw [hje, List.take_length, hl2, List.take_length] at hjk; exact hjk⟩)
        rw [hf]
        (repeat' (first | (refine gL ?_; first | (with_reducible apply gL_app) | (with_reducible apply gL_app0) | refine yL0 ?_ | refine yL ?_ | (refine yM ?_; intro _)) | (refine gD ?_; first | (refine yN ?_; try simp only [cAp, nAp]) | (with_reducible apply gD_app) | (with_reducible apply gD_app0) | refine yD0 ?_ | refine yD ?_) | refine yJ ?_ | refine zd10Aq4 ?_ | (refine yI ?_ ?_ <;> intro _ <;> try exact xX) | (refine yK ?_ ?_ <;> intro hgb <;> first | subst hgb | fail_if_success have : type_of% hgb := rfl) | fail))
        exact J_ret1 rfl (by rfl) fun w H => ⟨_, ⟨rfl, rfl⟩, H.sel .nil⟩
end Go.Proofs.YtdnokmpnemaoaaaGreat
