/-
  Aq16, Vw1, Vc3, Tq18: merged.
-/
import Derived.Test.YtdnokmpnemaoaaaGreatZViewChooses30
namespace Go.Proofs.YtdnokmpnemaoaaaGreat
set_option linter.unusedSimpArgs false
set_option linter.unusedVariables false
set_option maxRecDepth 20000
set_option maxHeartbeats 4000000
open Go.RowKit Go.Pm
abbrev zC : List Value := [.int .i64 0, .slice none 0 0, .int .u32 0, .bool false, .int .u32 0, .bool false, .int .u32 0, .bool false, .bool false, .int .u32 0, .int .u32 0, .slice none 0 0, .slice none 0 0]
theorem get_miss (sp : Nat) (S : List En) (c id : Int) (hn : ∀ e ∈ S, e.id ≠ id) : Pact Tryz.prog 110 #[.pointer (some ⟨sp, 0, none⟩), .int .i64 id] (fun _ => True) [stoA sp S c] (fun u L' => u = .tuple #[.agg (atC zAt).toArray, .int .i64 5] ∧ L' = [stoA sp S c]) := by
  refine pact Tryz.func110 rfl Tryz.ntmps110 rfl ?_
  intro W K _
  refine J_open (fun w H => stoOpen H .here) ?_
  rintro ⟨⟨mb, lb, M⟩, hM⟩
  dsimp only at hM ⊢
  (repeat' (first | (refine gL ?_; first | refine yL0 ?_ | refine yL ?_ | (refine gL_go ?_; (refine JL_goq (find_miss sp mb lb c id M (fun a ha => hn _ (hM.mem ha))) (hφ := xF) (h := ?_); rintro _ _ ⟨rfl, rfl⟩; try simp only [cAp, nAp])) | (refine yM ?_; intro _)) | refine yJ ?_ | (refine yI ?_ ?_ <;> intro _ <;> try exact xX) | (refine yK ?_ ?_ <;> intro hgb <;> first | subst hgb | fail_if_success have : type_of% hgb := rfl) | fail))
  exact J_retC1 (cs := zC) rfl (by rfl) (by rfl) xA (by rfl) fun w H => ⟨_, ⟨rfl, rfl⟩, Ow.sel (stoShut hM H xZ) xZ⟩
theorem get_hit (sp : Nat) (A C : List En) (e : En) (c id : Int) (he : e.id = id) (hA : ∀ a ∈ A, a.id ≠ id) : Pact Tryz.prog 110 #[.pointer (some ⟨sp, 0, none⟩), .int .i64 id] (fun _ => True) [stoA sp (A ++ e :: C) c] (fun u L' => ∃ d', AtF d' ∧ d'.nf = e.x ∧ u = .tuple #[.agg (atC d').toArray, .int .i64 0] ∧ L' = [stoA sp (A ++ e :: C) c, ownAt d']) := by
  refine pact Tryz.func110 rfl Tryz.ntmps110 rfl ?_
  intro W K _
  refine J_open (fun w H => stoOpen H .here) ?_
  rintro ⟨⟨mb, lb, M⟩, hM⟩
  dsimp only at hM ⊢
  obtain ⟨MA, m, MC, rfl, rfl, hMA, hMC, hmd, hmx⟩ := hM.split
  refine J_heap (fun w H => meOpen (Ow.satsMid H xA) .here) ?_
  (repeat' (first | (refine gL ?_; first | refine yL0 ?_ | refine yL ?_ | (refine gL_go ?_; first | (refine JL_goq (find_hit sp mb lb c id MA MC m he (fun a ha => hA _ (hMA.mem ha))) (hφ := xF) (h := ?_); rintro _ _ ⟨rfl, rfl⟩; try simp only [cAp, nAp]) | (refine JL_goq (copy_s m.d hmd) (hφ := (by (try simp only [cAp, nAp]); exact fun w hr => hr.has (φ := fun w => AtV w m.d) xA)) (h := ?_); rintro _ _ ⟨d', hd', hx', rfl, rfl⟩; try simp only [cAp, nAp])) | (refine yM ?_; intro _)) | refine yJ ?_ | (refine yI ?_ ?_ <;> intro _ <;> try exact xX) | (refine yK ?_ ?_ <;> intro hgb <;> first | subst hgb | fail_if_success have : type_of% hgb := rfl) | fail))
  refine J_retC1 (cs := atC d') rfl (by rfl) (by rfl) xA (by rfl) fun w H => ⟨_, ⟨d', hd', by rw [hx', hmx], rfl, rfl⟩, ?_⟩
  have H := meShut (m := m) H xZ
  have H := Ow.satsBack (A := MA) (B := MC) (m := m) H .here xA
  exact (stoShut hM H xZ).sel xZ
theorem len_s (sp : Nat) (S : List En) (c : Int) : Pact Tryz.prog 19 #[.pointer (some ⟨sp, 0, none⟩)] (fun _ => True) [stoA sp S c] (fun u L' => u = .int .i64 S.length ∧ L' = [stoA sp S c]) := by
  refine pact Tryz.func19 rfl Tryz.ntmps19 rfl ?_
  intro W K _
  refine J_open (fun w H => stoOpen H .here) ?_
  rintro ⟨⟨mb, lb, M⟩, hM⟩
  dsimp only at hM ⊢
  have hln := hM.len
  (repeat' (first | (refine gL ?_; first | refine yL0 ?_ | (refine gL_c_len ?_; (refine JL_p rfl xR xR (pe_lenG mi_i xR xA hln) ?_)) | refine yL ?_ | (refine gL_go ?_; (refine JL_goq (is_s sp lb (.map (some mb)) c) (hφ := xF) (h := ?_); rintro _ _ ⟨rfl, rfl⟩; try simp only [cAp, nAp]))) | refine yJ ?_ | (refine yI ?_ ?_ <;> intro _ <;> try exact xX) | (refine yK ?_ ?_ <;> intro hgb <;> first | subst hgb | fail_if_success have : type_of% hgb := rfl) | fail))
  exact J_ret1 rfl (by rfl) fun w H => ⟨_, ⟨rfl, rfl⟩, Ow.sel (stoShut hM H xZ) xZ⟩
theorem Pact.imp {P : Program} {f : FuncId} {args : Array Value} {φ : World → Prop} {pre : List HP} {Rr Rr' : Value → List HP → Prop} (S : Pact P f args φ pre Rr) (h : ∀ v L', Rr v L' → Rr' v L') : Pact P f args φ pre Rr' := fun W K w hK H =>
  (S W K w hK H).mono fun e w' ⟨v, L', h1, h2, h3⟩ => ⟨v, L', h _ _ h1, h2, h3⟩
theorem keep_s (B : Int) (hB0 : 0 ≤ B) (hB : B ≤ 1000000000) (sp : Nat) (S : List En) (c : Int) (d : At) (hd : AtF d) (hs : StOk B S c) : Pact Tryz.prog 69 #[.pointer (some ⟨sp, 0, none⟩), .agg (atC d).toArray] (fun w => AtV w d) [stoA sp S c] (fun u L' => u = .tuple #[.int .i64 (keepF S c d.nf).2.1, .int .i64 (keepF S c d.nf).2.2] ∧ L' = [stoA sp (keepF S c d.nf).1.1 (keepF S c d.nf).1.2]) := by
  rcases hx : okN d.nf with _ | _
  · have : keepF S c d.nf = ((S, c), 0, 2) := by unfold keepF; rw [hx]
    rw [this]
    exact keep_bad sp S c d hd hx
  · rcases hf : fndX S d.nf with _ | e
    · by_cases hl : S.length = 4096
      · have : keepF S c d.nf = ((S, c), 0, 4) := by unfold keepF; rw [hx, hf]; dsimp only; rw [if_pos hl]
        rw [this]
        exact keep_full B hB sp S c d hd hx hs (fndX_none hf) hl
      · have : keepF S c d.nf = ((S ++ [⟨c + 1, 1, d.nf⟩], c + 1), c + 1, 0) := by unfold keepF; rw [hx, hf]; dsimp only; rw [if_neg hl]
        rw [this]
        exact keep_new B hB sp S c d hd hx hs (fndX_none hf) hl
    · obtain ⟨A, C, rfl, he, _⟩ := fndX_some hf
      rw [keepF_hit hs he hf hx]
      exact keep_hit B hB sp A C e c d hd hx hs he
theorem free_s (B : Int) (hB : B ≤ 1000000000) (sp : Nat) (S : List En) (c id : Int) (hs : StOk B S c) : Pact Tryz.prog 32 #[.pointer (some ⟨sp, 0, none⟩), .int .i64 id] (fun _ => True) [stoA sp S c] (fun u L' => u = .int .i64 (freeF S id).2 ∧ L' = [stoA sp (freeF S id).1 c]) := by
  rcases hf : fnd S id with _ | e
  · have : freeF S id = (S, 5) := by unfold freeF; rw [hf]
    rw [this]
    exact free_miss sp S c id (fnd_none hf)
  · obtain ⟨A, C, rfl, he, _⟩ := fnd_some hf
    rw [freeF_hit hs he hf]
    by_cases h1 : e.n = 1
    · rw [if_pos h1]
      exact free_gone B hB sp A C e c id hs he h1
    · rw [if_neg h1]
      exact free_dec B hB sp A C e c id hs he h1
def getE (S : List En) (id : Int) : Int := match fnd S id with | none => 5 | some _ => 0
def getX (S : List En) (id : Int) : Nf := match fnd S id with | none => zAt.nf | some e => e.x
theorem get_s (sp : Nat) (S : List En) (c id : Int) : Pact Tryz.prog 110 #[.pointer (some ⟨sp, 0, none⟩), .int .i64 id] (fun _ => True) [stoA sp S c] (fun u L' => ∃ d' P, AtF d' ∧ d'.nf = getX S id ∧ u = .tuple #[.agg (atC d').toArray, .int .i64 (getE S id)] ∧ L' = [stoA sp S c, has (fun w => AtV w d')] ++ P ∧ P = []) := by
  rcases hf : fnd S id with _ | e
  · have h1 : getE S id = 5 := by unfold getE; rw [hf]
    have h2 : getX S id = zAt.nf := by unfold getX; rw [hf]
    rw [h1, h2]
    intro W K w hK H
    refine (get_miss sp S c id (fnd_none hf) W K w hK H).mono ?_
    rintro e w' ⟨v, L', ⟨rfl, rfl⟩, h5, H'⟩
    exact ⟨_, _, ⟨zAt, [], zAt_f, rfl, rfl, rfl, rfl⟩, h5, (Ow.hasTrue (φ := fun w => AtV w zAt) H' zAt_v).sel xZ⟩
  · have h1 : getE S id = 0 := by unfold getE; rw [hf]
    have h2 : getX S id = e.x := by unfold getX; rw [hf]
    rw [h1, h2]
    obtain ⟨A, C, rfl, he, hA⟩ := fnd_some hf
    intro W K w hK H
    refine (get_hit sp A C e c id he hA W K w hK H).mono ?_
    rintro e w' ⟨v, L', ⟨d', hd, hx, rfl, rfl⟩, h5, H'⟩
    exact ⟨_, _, ⟨d', [], hd, hx, rfl, rfl, rfl⟩, h5, (ownHas H' xA).sel xZ⟩
/-! A store that is not there, or that no call made. -/
theorem zd72Vw1 {p q : Prop} (k : p) (h : p → q := by intro hk; first | exact J_draw (id := 4) [0, 1, 2, 3, 4] [5, 6, 7, 8, 9] mixed xC xD xD hk | fail) : q := h k

abbrev vwC (sp : Option Addr) (tb : Nat) (d n : Int) : List Value := [.pointer sp, .pointer (some ⟨tb, 0, none⟩), .int .i64 d, .int .i64 n]
def lateE (x : T.Vt) : Bool := decide (x.1 ≠ x.2.1) || x.2.2
theorem vis_s (vb : Nat) (sp : Option Addr) (tb : Nat) (d n : Int) : Pact Tryz.prog 63 #[.pointer (some ⟨vb, 0, none⟩)] (fun _ => True) [pts vb (vwC sp tb d n) 98] (fun u L' => u = .bool true ∧ L' = [pts vb (vwC sp tb d n) 98]) := by
  refine pact Tryz.func63 rfl Tryz.ntmps63 rfl ?_
  intro W K _
  (repeat' (first | (refine gL ?_; first | refine yL0 ?_ | refine yL ?_) | refine yJ ?_ | (refine yI ?_ ?_ <;> intro _ <;> try exact xX) | (refine yK ?_ ?_ <;> intro hgb <;> first | subst hgb | fail_if_success have : type_of% hgb := rfl) | fail))
  exact J_ret1 rfl (by rfl) fun w H => ⟨_, ⟨rfl, rfl⟩, H.sel xZ⟩
theorem late_s (x : T.Vt) : Pact Tryz.prog 70 #[.agg (T.vC x).toArray] (fun _ => True) [] (ret0 (.bool (lateE x))) := by
  refine pact Tryz.func70 rfl Tryz.ntmps70 rfl ?_
  intro W K _
  (repeat' (first | (refine gL ?_; first | refine yL0 ?_ | refine yL ?_ | (refine yM ?_; intro _)) | refine yJ ?_ | (refine yI ?_ ?_ <;> intro _ <;> try exact xX) | (refine yK ?_ ?_ <;> intro hgb <;> first | subst hgb | fail_if_success have : type_of% hgb := rfl) | fail))
  all_goals refine J_ret1 rfl (by rfl) fun w H => ⟨_, ⟨?_, rfl⟩, H.sel .nil⟩
  all_goals simp_all [lateE]
def frF (S : List En) (id : Int) : List En := if id = 0 then S else (freeF S id).1
theorem free_v (B : Int) (hB : B ≤ 1000000000) (vb sp tb : Nat) (d n : Int) (S : List En) (c id : Int) (hs : StOk B S c) : Pact Tryz.prog 49 #[.pointer (some ⟨vb, 0, none⟩), .int .i64 id] (fun _ => True) [pts vb (vwC (some ⟨sp, 0, none⟩) tb d n) 98, stoA sp S c] (fun _ L' => L' = [pts vb (vwC (some ⟨sp, 0, none⟩) tb d n) 98, stoA sp (frF S id) c]) := by
  refine pact Tryz.func49 rfl Tryz.ntmps49 rfl ?_
  intro W K _
  by_cases h : id = 0
  · have e : frF S id = S := if_pos h
    rw [e]
    (repeat' (first | (refine gL ?_; first | refine yL0 ?_ | refine yL ?_) | refine yJ ?_ | (refine yI ?_ ?_ <;> intro _ <;> try exact xX) | (refine yK ?_ ?_ <;> intro hgb <;> first | subst hgb | fail_if_success have : type_of% hgb := rfl) | fail))
    exact J_end0 rfl fun w H => ⟨_, rfl, H.sel xZ⟩
  · have e : frF S id = (freeF S id).1 := if_neg h
    rw [e]
    (repeat' (first | (refine gL ?_; first | refine yL0 ?_ | refine yL ?_ | (refine gL_go ?_; (refine JL_goq (free_s B hB sp S c id hs) (hφ := xF) (h := ?_); rintro _ _ ⟨rfl, rfl⟩; try simp only [cAp, nAp]))) | refine yJ ?_ | (refine yI ?_ ?_ <;> intro _ <;> try exact xX) | (refine yK ?_ ?_ <;> intro hgb <;> first | subst hgb | fail_if_success have : type_of% hgb := rfl) | fail))
    exact J_end0 rfl fun w H => ⟨_, rfl, H.sel xZ⟩
noncomputable def agF (S : List En) (c id : Int) : (List En × Int) × Int := if id = 0 then ((S, c), 0) else ((keepF S c (getX S id)).1, (keepF S c (getX S id)).2.1)
theorem again_v (B : Int) (hB0 : 0 ≤ B) (hB : B ≤ 1000000000) (vb sp tb : Nat) (d n : Int) (S : List En) (c id : Int) (hs : StOk B S c) : Pact Tryz.prog 72 #[.pointer (some ⟨vb, 0, none⟩), .int .i64 id] (fun _ => True) [pts vb (vwC (some ⟨sp, 0, none⟩) tb d n) 98, stoA sp S c] (fun u L' => u = .int .i64 (agF S c id).2 ∧ L' = [pts vb (vwC (some ⟨sp, 0, none⟩) tb d n) 98, stoA sp (agF S c id).1.1 (agF S c id).1.2]) := by
  refine pact Tryz.func72 rfl Tryz.ntmps72 rfl ?_
  intro W K _
  by_cases h : id = 0
  · have e : agF S c id = ((S, c), 0) := if_pos h
    rw [e]
    subst h
    (repeat' (first | (refine gL ?_; first | refine yL0 ?_ | refine yL ?_ | (refine yM ?_; intro _)) | (refine gD ?_; first | (refine yN ?_; try simp only [cAp, nAp]) | refine yD ?_) | refine yJ ?_ | refine zd72Vw1 ?_ | (refine yI ?_ ?_ <;> intro _ <;> try exact xX) | (refine yK ?_ ?_ <;> intro hgb <;> first | subst hgb | fail_if_success have : type_of% hgb := rfl) | fail))
    exact J_ret1 rfl (by rfl) fun w H => ⟨_, ⟨rfl, rfl⟩, H.sel xZ⟩
  · have e : agF S c id = ((keepF S c (getX S id)).1, (keepF S c (getX S id)).2.1) := if_neg h
    rw [e]
    dsimp only
    (repeat' (first | (refine gL ?_; first | refine yL0 ?_ | refine yL ?_ | (refine gL_go ?_; (refine JL_goq (get_s sp S c id) (hφ := xF) (h := ?_); rintro _ _ ⟨d', P, hd', hnf, rfl, hP, hP2⟩; try simp only [cAp, nAp])) | (refine yM ?_; intro _)) | (refine gD ?_; first | (refine yN ?_; try simp only [cAp, nAp]) | refine yD ?_ | (refine gD_go ?_; (refine JD_goq (get_s sp S c id) (hφ := xF) (h := ?_); rintro _ _ ⟨d', P, hd', hnf, rfl, hP, hP2⟩; try simp only [cAp, nAp]))) | refine yJ ?_ | refine zd72Vw1 ?_ | (refine yI ?_ ?_ <;> intro _ <;> try exact xX) | (refine yK ?_ ?_ <;> intro hgb <;> first | subst hgb | fail_if_success have : type_of% hgb := rfl) | fail))
    subst hP2
    simp only [List.append_nil] at hP
    subst hP
    have hk := keep_s B hB0 hB sp S c d' hd' hs
    rw [hnf] at hk
    simp only [List.cons_append, List.nil_append]
    (repeat' (first | (refine gL ?_; first | refine yL0 ?_ | refine yL ?_ | (refine gL_go ?_; (refine JL_goq (hk) (hφ := (by (try simp only [cAp, nAp]); exact fun w hr => hr.has xA)) (h := ?_); rintro _ _ ⟨rfl, rfl⟩; try simp only [cAp, nAp])) | (refine yM ?_; intro _)) | (refine gD ?_; first | (refine yN ?_; try simp only [cAp, nAp]) | refine yD ?_ | (refine gD_go ?_; (refine JD_goq (hk) (hφ := (by (try simp only [cAp, nAp]); exact fun w hr => hr.has xA)) (h := ?_); rintro _ _ ⟨rfl, rfl⟩; try simp only [cAp, nAp]))) | refine yJ ?_ | refine zd72Vw1 ?_ | (refine yI ?_ ?_ <;> intro _ <;> try exact xX) | (refine yK ?_ ?_ <;> intro hgb <;> first | subst hgb | fail_if_success have : type_of% hgb := rfl) | fail))
    exact J_ret1 rfl (by rfl) fun w H => ⟨_, ⟨rfl, rfl⟩, H.sel xZ⟩
def whatX (S : List En) (id : Int) : Nf := if id = 0 then zAt.nf else getX S id
def whatB (S : List En) (id : Int) : Bool := if id = 0 then false else decide (getE S id = 0)
theorem what_v (vb sp tb : Nat) (d n : Int) (S : List En) (c id : Int) : Pact Tryz.prog 71 #[.pointer (some ⟨vb, 0, none⟩), .int .i64 id] (fun _ => True) [pts vb (vwC (some ⟨sp, 0, none⟩) tb d n) 98, stoA sp S c] (fun u L' => ∃ d', (AtF d' ∧ d'.nf = whatX S id) ∧ u = .tuple #[.agg (atC d').toArray, .bool (whatB S id)] ∧ L' = [pts vb (vwC (some ⟨sp, 0, none⟩) tb d n) 98, stoA sp S c, has (fun w => AtV w d')]) := by
  refine pact Tryz.func71 rfl Tryz.ntmps71 rfl ?_
  intro W K _
  by_cases h : id = 0
  · have e : whatX S id = zAt.nf := if_pos h
    have e2 : whatB S id = false := if_pos h
    rw [e, e2]
    (repeat' (first | (refine gL ?_; first | refine yL0 ?_ | refine yL ?_ | (refine yM ?_; intro _)) | refine yJ ?_ | (refine yI ?_ ?_ <;> intro _ <;> try exact xX) | (refine yK ?_ ?_ <;> intro hgb <;> first | subst hgb | fail_if_success have : type_of% hgb := rfl) | fail))
    exact J_retC1 (cs := zC) rfl (by rfl) (by rfl) xA (by rfl) fun w H => ⟨_, ⟨zAt, ⟨zAt_f, rfl⟩, rfl, rfl⟩, (Ow.hasTrue (φ := fun w => AtV w zAt) H zAt_v).sel xZ⟩
  · have e : whatX S id = getX S id := if_neg h
    have e2 : whatB S id = decide (getE S id = 0) := if_neg h
    rw [e, e2]
    (repeat' (first | (refine gL ?_; first | refine yL0 ?_ | refine yL ?_ | (refine gL_go ?_; (refine JL_goq (get_s sp S c id) (hφ := xF) (h := ?_); rintro _ _ ⟨d', P, hd', hnf, rfl, hP, hP2⟩; try simp only [cAp, nAp])) | (refine yM ?_; intro _)) | refine yJ ?_ | (refine yI ?_ ?_ <;> intro _ <;> try exact xX) | (refine yK ?_ ?_ <;> intro hgb <;> first | subst hgb | fail_if_success have : type_of% hgb := rfl) | fail))
    subst hP2
    simp only [List.append_nil] at hP
    subst hP
    simp only [List.cons_append, List.nil_append]
    (repeat' (first | (refine gL ?_; first | refine yL0 ?_ | refine yL ?_ | (refine yM ?_; intro _)) | refine yJ ?_ | (refine yI ?_ ?_ <;> intro _ <;> try exact xX) | (refine yK ?_ ?_ <;> intro hgb <;> first | subst hgb | fail_if_success have : type_of% hgb := rfl) | fail))
    exact J_retC1 (cs := atC d') rfl (by rfl) (by rfl) xA (by rfl) fun w H => ⟨_, ⟨d', ⟨hd', hnf⟩, rfl, rfl⟩, H.sel xZ⟩
def bareN (x : Nf) : Nf := { x with loc := none }
def At.bare (d : At) : At := { d with hasLocal := false, loc := 0 }
theorem At.bare_nf (d : At) : d.bare.nf = bareN d.nf := rfl
theorem At.bare_f {d : At} (h : AtF d) : AtF d.bare := ⟨⟨h.num.origin, h.num.next, h.num.med, by show (0 : Int) ≤ 0 ∧ (0 : Int) ≤ 4294967295; decide, h.num.makerAS, h.num.maker, h.num.path, h.num.comms, h.num.others⟩, h.path, h.comms, h.others⟩
theorem bare_s (d : At) (hd : AtF d) : Pact Tryz.prog 23 #[.agg (atC d).toArray] (fun w => AtV w d) [] (fun u L' => ∃ d', (AtF d' ∧ d'.nf = bareN d.nf) ∧ u = .agg (atC d').toArray ∧ L' = [has (fun w => AtV w d')]) := by
  refine pact Tryz.func23 rfl Tryz.ntmps23 rfl ?_
  intro W K hK
  (repeat' (first | (refine gL ?_; first | refine yL0 ?_ | refine yL ?_ | (refine gL_go ?_; (refine JL_goq (copy_s d hd) (hφ := (by (try simp only [cAp, nAp]); exact fun w hr => hK w hr.1)) (h := ?_); rintro _ _ ⟨d', hd', hnf, rfl, rfl⟩; try simp only [cAp, nAp])) | (refine yM ?_; intro _)) | refine yJ ?_ | fail))
  refine J_retC (cs := [.int .i64 d'.origin, .slice d'.pa d'.path.length d'.pc, .int .u32 d'.next, .bool d'.hasMed, .int .u32 d'.med, .bool false, .int .u32 0, .bool d'.atomic, .bool d'.hasMaker, .int .u32 d'.makerAS, .int .u32 d'.maker, .slice d'.ca d'.comms.length d'.cc, .slice d'.oa d'.others.length d'.oc]) rfl (by rfl) xA (by rfl) fun w H => ⟨_, ⟨d'.bare, ⟨At.bare_f hd', by rw [At.bare_nf, hnf]⟩, rfl, rfl⟩, ?_⟩
  have H := Ow.sel (ownHas (d := d') H xA) (M := [has (fun w => AtV w d')]) xZ
  exact (Ow.has (M := [has (fun w => AtV w d')]) (φ := fun w => AtV w d'.bare) H xZ (fun w hr => by have h := hr.has .here; exact ⟨h.path, h.comms, h.others⟩)).sel xZ
theorem vcount_s (vb : Nat) (sp : Option Addr) (tb : Nat) (d n k : Int) (x : T.Vt) (hd : -1000000 ≤ d ∧ d ≤ 1000000) (hn : -1000000 ≤ n ∧ n ≤ 1000000) (hk : -1 ≤ k ∧ k ≤ 1) : Pact Tryz.prog 83 #[.pointer (some ⟨vb, 0, none⟩), .agg (T.vC x).toArray, .int .i64 k] (fun _ => True) [pts vb (vwC sp tb d n) 98] (fun _ L' => L' = [pts vb (vwC sp tb (d + if lateE x then k else 0) (n + if x.1 ≠ 0 then k else 0)) 98]) := by
  refine pact Tryz.func83 rfl Tryz.ntmps83 rfl ?_
  intro W K _
  rcases hl : lateE x with _ | _ <;> by_cases hx : x.1 = 0
  all_goals (have hls := late_s x; rw [hl] at hls)
  all_goals (repeat' (first | (refine gL ?_; first | refine yL0 ?_ | refine yL ?_ | (refine gL_go ?_; (refine JL_goq (hls) (hφ := xF) (h := ?_); rintro _ _ ⟨rfl, rfl⟩; try simp only [cAp, nAp])) | (refine yM ?_; intro _)) | refine yJ ?_ | (refine yI ?_ ?_ <;> intro _ <;> try exact xX) | (refine yK ?_ ?_ <;> intro hgb <;> first | subst hgb | fail_if_success have : type_of% hgb := rfl) | fail))
  all_goals first
    | (rw [if_neg (by simp), if_neg (by simp [hx]), Int.add_zero, Int.add_zero]; exact J_end0 rfl fun w H => ⟨_, rfl, H.sel xZ⟩)
    | (rw [if_neg (by simp), if_pos (by simp [hx]), Int.add_zero]; exact J_end0 rfl fun w H => ⟨_, rfl, H.sel xZ⟩)
    | (rw [if_pos trivial, if_neg (by simp [hx]), Int.add_zero]; exact J_end0 rfl fun w H => ⟨_, rfl, H.sel xZ⟩)
    | (rw [if_pos trivial, if_pos (by simp [hx])]; exact J_end0 rfl fun w H => ⟨_, rfl, H.sel xZ⟩)
theorem zd7Vc3 {p q : Prop} (k : p) (h : p → q := by intro hk; first | exact J_draw (id := 13) [0, 1, 2, 3, 4, 6, 7, 8, 9, 5, 10] [11] mixed xC xD xD hk | fail) : q := h k

abbrev clC (pe sy : Int) (oa : Option Addr) (on oc : Nat) : List Value := [.int .i64 pe, .int .u32 sy, .slice oa on oc]
def LetsR (r : Option Nf) (x : B.Cd) (v : Value) (L' : List HP) : Prop := ∃ d' : At, AtF d' ∧ (∀ n, r = some n → d'.nf = n) ∧ v = .tuple #[.agg (B.cdC ⟨d', x.peer, x.as_, x.id, x.addr⟩).toArray, .bool r.isSome] ∧ L' = [has (fun w => AtV w x.toAt → AtV w d')]
def at00 : At := ⟨0, none, 0, [], 0, false, 0, false, 0, false, false, 0, 0, none, 0, [], none, 0, []⟩
theorem at00_f : AtF at00 := by
  have z : U32 0 := ⟨by omega, by omega⟩
  refine ⟨⟨⟨by simp [at00], by simp [at00]⟩, z, z, z, z, z, ?_, ?_, ?_⟩, by simp [at00], by simp [at00], by simp [at00]⟩
  all_goals (intro s hs; exact absurd hs List.not_mem_nil)
theorem at00_v (w : World) : AtV w at00 := ⟨⟨Vw.nil w 2, fun _ h => absurd h List.not_mem_nil⟩, Vw.nil w 1, Vw.nil w 2, fun _ h => absurd h List.not_mem_nil⟩
abbrev at00C : List Value := [.int .i64 0, .slice none 0 0, .int .u32 0, .bool false, .int .u32 0, .bool false, .int .u32 0, .bool false, .bool false, .int .u32 0, .int .u32 0, .slice none 0 0, .slice none 0 0]
def iC (n : Int) : List Value := [.int .i64 n]
def ChooseR (f : Qn → Option Nf) (l : List Qn) (v : Value) (L' : List HP) : Prop :=
  letF f l = [] ∧ v = .tuple #[.agg at00C.toArray, .int .i64 (-1)] ∧ L' = [has (fun w => AtV w at00)] ∨
  ∃ (j i : Nat) (y : Qn) (d' : At), pickN ((letF f l).map Prod.fst) = j ∧ (letF f l)[j]? = some (y, i) ∧ AtF d' ∧ d'.nf = bareN y.nf ∧ v = .tuple #[.agg (atC d').toArray, .int .i64 i] ∧ L' = [has (fun w => AtV w d')]
def cnI (ds xs : List B.Cd) (w : World) : Prop := cnV ds w → cnV xs w
structure Qch where
  k : Nat
  xs : List B.Cd
  la : Option Addr
  lc : Nat
  is : List Int
  aa : Option Addr
  ac : Nat
set_option maxRecDepth 4000 in
theorem choose_s (pe sy : Int) (oa : Option Addr) (on oc : Nat) (p : T.Pf) (a : Option Addr) (c : Nat) (ds : List B.Cd) (f : Qn → Option Nf) (ψ : World → Prop) (hF : ∀ d ∈ ds, B.CdN d) (hl : ds.length ≤ 10)
    (hlet : ∀ x ∈ ds, Pact Tryz.prog 21 #[.agg (clC pe sy oa on oc).toArray, .agg (T.pfC p).toArray, .agg (B.cdC x).toArray] (fun w => AtV w x.toAt ∧ ψ w) [] (LetsR (f (cnN x)) x)) :
    Pact Tryz.prog 7 #[.agg (clC pe sy oa on oc).toArray, .agg (T.pfC p).toArray, .slice a ds.length c] (fun w => (Vw w (.slice a ds.length c) 17 ds.length (flat B.cdC ds) ∧ cnV ds w) ∧ ψ w) [] (ChooseR f (ds.map cnN)) := by
  refine pact Tryz.func7 rfl Tryz.ntmps7 rfl ?_
  intro W K hK
  have hv := hK.left.left
  obtain ⟨l, hle⟩ : ∃ l, ds.map cnN = l := ⟨_, rfl⟩
  have hll : l.length = ds.length := by rw [← hle, List.length_map]
  rw [hle]
  (repeat' (first | (refine gL ?_; first | refine yL0 ?_ | refine yL ?_ | (refine yM ?_; intro _) | (refine yA ?_; intro _ _ _ _)) | (refine gD ?_; first | (refine yN ?_; try simp only [cAp, nAp]) | refine yD ?_) | refine yJ ?_ | refine zd7Vc3 ?_ | (refine yI ?_ ?_ <;> intro _ <;> try exact xX) | (refine yK ?_ ?_ <;> intro hgb <;> first | subst hgb | fail_if_success have : type_of% hgb := rfl) | fail))
  rename_i cb pb rb
  refine J_loop (α := Qch) ⟨0, [], none, 0, [], none, 0⟩ (fun x => ds.length - x.k) (fun x => x.k ≤ ds.length ∧ x.xs.map cnN = (letF f (l.take x.k)).map Prod.fst ∧ x.is = (letF f (l.take x.k)).map (fun e => (e.2 : Int)) ∧ ∀ d ∈ x.xs, B.CdN d) (fun x => [(3, .pointer (some ⟨cb, 0, none⟩)), (4, .pointer (some ⟨pb, 0, none⟩)), (6, .pointer (some ⟨rb, 0, none⟩)), (8, .slice x.la x.xs.length x.lc), (9, .slice x.aa x.is.length x.ac), (15, .slice a ds.length c), (16, .int .i64 ds.length), (17, .int .i64 x.k)])
    (fun x => [pts cb (clC pe sy oa on oc) 25, pts pb (T.pfC p) 28, pts rb at00C 35, Ar 47 17 B.cdC (.slice x.la x.xs.length x.lc) x.xs, Ar 3 1 iC (.slice x.aa x.is.length x.ac) x.is, has (cnI ds x.xs)]) ⟨Nat.zero_le _, rfl, rfl, by simp⟩ ⟨rfl, rfl, rfl, rfl, rfl, rfl, rfl, rfl, trivial⟩ (fun w H => (Ow.hasTrue (φ := cnI ds []) (Ow.arNil (e := 3) (sz := 1) (enc := iC) (Ow.arNil (e := 47) (sz := 17) (enc := B.cdC) H)) (by intro _ _ _ h; exact absurd h List.not_mem_nil)).sel xZ) ?_
  rintro ⟨k, xs, la, lc, is, aa, ac⟩ ⟨hk, hx1, hx2, hxn⟩
  dsimp only at hk hx1 hx2 hxn ⊢
  have hlf := letF_len f (l.take k)
  have hxl : xs.length = (letF f (l.take k)).length := by have := congrArg List.length hx1; simpa using this
  have hil : is.length = (letF f (l.take k)).length := by rw [hx2, List.length_map]
  rw [List.length_take] at hlf
  by_cases hlt : k < ds.length
  · obtain ⟨x, hs⟩ : ∃ x, ds[k]? = some x := ⟨_, List.getElem?_eq_getElem hlt⟩
    have hm := List.mem_of_getElem? hs
    have hs2 : l[k]? = some (cnN x) := by rw [← hle, List.getElem?_map, hs]; rfl
    have kl := hlet x hm
    rcases hf : f (cnN x) with _ | n
    all_goals rw [hf] at kl
    · have e1 := letF_no hs2 hf
      (repeat' (first | (refine gL ?_; first | refine yL0 ?_ | refine yL ?_ | (refine gL_go ?_; (refine JL_goq (kl) (hφ := (by (try simp only [cAp, nAp]); exact fun w hr => ⟨(hK w hr.1).1.2 x hm, (hK w hr.1).2⟩)) (h := ?_); rintro _ _ ⟨d', hd', hn, rfl, rfl⟩; try simp only [cAp, nAp])) | (refine yM ?_; intro _) | (refine yA ?_; intro _ _ _ _)) | (refine gD ?_; first | (refine yN ?_; try simp only [cAp, nAp]) | refine yD ?_ | (refine gD_go ?_; (refine JD_goq (kl) (hφ := (by (try simp only [cAp, nAp]); exact fun w hr => ⟨(hK w hr.1).1.2 x hm, (hK w hr.1).2⟩)) (h := ?_); rintro _ _ ⟨d', hd', hn, rfl, rfl⟩; try simp only [cAp, nAp]))) | refine yJ ?_ | refine zd7Vc3 ?_ | (refine yI ?_ ?_ <;> intro _ <;> try exact xX) | (refine yK ?_ ?_ <;> intro hgb <;> first | subst hgb | fail_if_success have : type_of% hgb := rfl) | fail))
      all_goals (first | (exfalso; omega) | skip)
      exact J_again ⟨k + 1, xs, la, lc, is, aa, ac⟩ (by dsimp only; omega) ⟨hlt, by rw [e1]; exact hx1, by rw [e1]; exact hx2, hxn⟩ ⟨rfl, rfl, rfl, rfl, rfl, rfl, rfl, rfl, trivial⟩ (fun w H => H.sel xZ)
    · have e1 := letF_yes hs2 hf
      (repeat' (first | (refine gL ?_; first | refine yL0 ?_ | (refine gL_c_append ?_; (first | (refine JL_ap1 (z := (⟨d', x.peer, x.as_, x.id, x.addr⟩ : B.Cd)) (tabE etab_ok xR) xR xR xA xA xC xR xL xR (by omega) xR xR ?_; intro ad1 c1 _ _) | (refine JL_ap1 (z := (k : Int)) (tabE etab_ok xR) xR xR xA xA xC xR xL xR (by omega) xR xR ?_; intro ad2 c2 _ _))) | refine yL ?_ | (refine gL_go ?_; (refine JL_goq (kl) (hφ := (by (try simp only [cAp, nAp]); exact fun w hr => ⟨(hK w hr.1).1.2 x hm, (hK w hr.1).2⟩)) (h := ?_); rintro _ _ ⟨d', hd', hn, rfl, rfl⟩; try simp only [cAp, nAp])) | (refine yM ?_; intro _) | (refine yA ?_; intro _ _ _ _)) | (refine gD ?_; first | (refine yN ?_; try simp only [cAp, nAp]) | refine yD ?_ | (refine gD_go ?_; (refine JD_goq (kl) (hφ := (by (try simp only [cAp, nAp]); exact fun w hr => ⟨(hK w hr.1).1.2 x hm, (hK w hr.1).2⟩)) (h := ?_); rintro _ _ ⟨d', hd', hn, rfl, rfl⟩; try simp only [cAp, nAp]))) | refine yJ ?_ | refine zd7Vc3 ?_ | (refine yI ?_ ?_ <;> intro _ <;> try exact xX) | (refine yK ?_ ?_ <;> intro hgb <;> first | subst hgb | fail_if_success have : type_of% hgb := rfl) | fail))
      all_goals (first | (exfalso; omega) | skip)
      refine J_again ⟨k + 1, xs ++ [⟨d', x.peer, x.as_, x.id, x.addr⟩], ad1, c1, is ++ [(k : Int)], ad2, c2⟩ (by dsimp only; omega) ⟨hlt, ?_, ?_, ?_⟩ ⟨rfl, rfl, rfl, ?_, ?_, rfl, rfl, rfl, trivial⟩ (fun w H => ?_)
      · rw [e1, List.map_append, List.map_append, hx1]
        simp only [List.map_cons, List.map_nil, cnN, hn n rfl]
      · rw [e1, List.map_append, hx2]
        rfl
      · intro d hd
        have hxx := hF x hm
        rcases List.mem_append.1 hd with hd | hd
        · exact hxn d hd
        · obtain rfl := List.mem_singleton.1 hd
          exact ⟨hxx.peer, hxx.as_, hxx.id, hxx.addr, hd'⟩
      · show some _ = some _
        simp
      · show some _ = some _
        simp
      · simp only [List.length_append, List.length_cons, List.length_nil]
        refine (Ow.has (M := [has (fun w => AtV w x.toAt → AtV w d'), has (cnI ds xs)]) (φ := cnI ds (xs ++ [⟨d', x.peer, x.as_, x.id, x.addr⟩])) H xZ (fun w hr hds d hd => ?_)).sel xZ
        rcases List.mem_append.1 hd with hd | hd
        · exact hr.has (φ := cnI ds xs) (.there .here) hds d hd
        · obtain rfl := List.mem_singleton.1 hd
          exact hr.has (φ := fun w => AtV w x.toAt → AtV w d') .here (hds x hm)
  · obtain rfl : k = ds.length := by omega
    rw [← hll, List.take_length] at hx1 hx2 hxl hil hlf
    have kp := B.pick_s la lc xs hxn (by omega)
    rw [pickN_cn, hx1] at kp
    have hrd : ∀ w, cnV xs w → B.candsV xs w := fun w hw o ho => (hw o ho).path
    by_cases hne : letF f l = []
    · rw [hne, List.map_nil, pickN_nil] at kp
      (repeat' (first | (refine gL ?_; first | refine yL0 ?_ | refine yL ?_ | (refine gL_go ?_; (refine JL_goq (kp) (hφ := (by (try simp only [cAp, nAp]); exact fun w hr => ⟨Src.ar xA w hr, hrd w (hr.has (φ := cnI ds xs) xA (hK w hr.1).1.2)⟩)) (h := ?_); rintro _ _ ⟨rfl, rfl⟩; try simp only [cAp, nAp])) | (refine yM ?_; intro _) | (refine yA ?_; intro _ _ _ _)) | (refine gD ?_; first | (refine yN ?_; try simp only [cAp, nAp]) | refine yD ?_ | (refine gD_go ?_; (refine JD_goq (kp) (hφ := (by (try simp only [cAp, nAp]); exact fun w hr => ⟨Src.ar xA w hr, hrd w (hr.has (φ := cnI ds xs) xA (hK w hr.1).1.2)⟩)) (h := ?_); rintro _ _ ⟨rfl, rfl⟩; try simp only [cAp, nAp]))) | refine yJ ?_ | refine zd7Vc3 ?_ | (refine yI ?_ ?_ <;> intro _ <;> try exact xX) | (refine yK ?_ ?_ <;> intro hgb <;> first | subst hgb | fail_if_success have : type_of% hgb := rfl) | fail))
      all_goals (first | (exfalso; omega) | skip)
      exact J_retC1 (cs := at00C) rfl (by rfl) (by rfl) xA (by rfl) fun w H => ⟨_, .inl ⟨hne, rfl, rfl⟩, (Ow.hasTrue (φ := fun w => AtV w at00) H at00_v).sel xZ⟩
    · obtain ⟨j, hj, hjl⟩ := pickN_in (l := (letF f l).map Prod.fst) (by simpa using hne)
      rw [List.length_map] at hjl
      rw [hj] at kp
      obtain ⟨e, he⟩ : ∃ e, (letF f l)[j]? = some e := ⟨_, List.getElem?_eq_getElem hjl⟩
      obtain ⟨y, i⟩ := e
      obtain ⟨z, hz⟩ : ∃ z, xs[j]? = some z := ⟨_, List.getElem?_eq_getElem (by omega)⟩
      have hzy : cnN z = y := by
        have := congrArg (·[j]?) hx1
        simpa [he, hz] using this
      have hA : is[j]? = some (i : Int) := by rw [hx2, List.getElem?_map, he]; rfl
      have hzm := List.mem_of_getElem? hz
      have hjx : j < xs.length := by omega
      have hji : j < is.length := by omega
      (repeat' (first | (refine gL ?_; first | refine yL0 ?_ | refine yL ?_ | (refine gL_go ?_; first | (refine JL_goq (kp) (hφ := (by (try simp only [cAp, nAp]); exact fun w hr => ⟨Src.ar xA w hr, hrd w (hr.has (φ := cnI ds xs) xA (hK w hr.1).1.2)⟩)) (h := ?_); rintro _ _ ⟨rfl, rfl⟩; try simp only [cAp, nAp]) | (refine JL_goq (bare_s z.toAt (hxn z hzm).f) (hφ := (by (try simp only [cAp, nAp]); exact fun w hr => hr.has (φ := cnI ds xs) xA (hK w hr.1).1.2 z hzm)) (h := ?_); rintro _ _ ⟨d', ⟨hd', hnf⟩, rfl, rfl⟩; try simp only [cAp, nAp])) | (refine yM ?_; intro _) | (refine yA ?_; intro _ _ _ _)) | (refine gD ?_; first | (refine yN ?_; try simp only [cAp, nAp]) | refine yD ?_ | (refine gD_go ?_; first | (refine JD_goq (kp) (hφ := (by (try simp only [cAp, nAp]); exact fun w hr => ⟨Src.ar xA w hr, hrd w (hr.has (φ := cnI ds xs) xA (hK w hr.1).1.2)⟩)) (h := ?_); rintro _ _ ⟨rfl, rfl⟩; try simp only [cAp, nAp]) | (refine JD_goq (bare_s z.toAt (hxn z hzm).f) (hφ := (by (try simp only [cAp, nAp]); exact fun w hr => hr.has (φ := cnI ds xs) xA (hK w hr.1).1.2 z hzm)) (h := ?_); rintro _ _ ⟨d', ⟨hd', hnf⟩, rfl, rfl⟩; try simp only [cAp, nAp]))) | refine yJ ?_ | refine zd7Vc3 ?_ | (refine yI ?_ ?_ <;> intro _ <;> try exact xX) | (refine yK ?_ ?_ <;> intro hgb <;> first | subst hgb | fail_if_success have : type_of% hgb := rfl) | fail))
      all_goals (first | (exfalso; omega) | skip)
      exact J_retC1 (cs := atC d') rfl (by rfl) (by rfl) xA (by rfl) fun w H => ⟨_, .inr ⟨j, i, y, d', hj, he, hd', by rw [← hzy]; exact hnf, rfl, rfl⟩, H.sel xZ⟩
end Go.Proofs.YtdnokmpnemaoaaaGreat
namespace Go.Proofs.YtdnokmpnemaoaaaGreat.T
set_option linter.unusedSimpArgs false
set_option linter.unusedVariables false
open Go.RowKit Go.Pm

def b2 (b : Bool) : Int := if b then 1 else 0
theorem b2_01 (b : Bool) : 0 ≤ b2 b ∧ b2 b ≤ 1 := by cases b <;> decide
def cntI (q : Vt → Bool) (E : List Ent) : Int := ((E.filter fun e => q e.2).length : Nat)
def oldV (E : List Ent) (p : Pf) : Vt := (getL E p).getD zV
theorem cntI_nil (q : Vt → Bool) : cntI q [] = 0 := rfl
theorem cntI_cons (q : Vt → Bool) (x : Ent) (E : List Ent) : cntI q (x :: E) = b2 (q x.2) + cntI q E := by
  unfold cntI b2
  rcases h : q x.2 with _ | _
  · rw [List.filter_cons_of_neg (by simp [h])]; simp
  · rw [List.filter_cons_of_pos (by simp [h])]; simp; omega
theorem cntI_le (q : Vt → Bool) (E : List Ent) : 0 ≤ cntI q E ∧ cntI q E ≤ E.length := by
  unfold cntI
  have := List.length_filter_le (fun e : Ent => q e.2) E
  omega
theorem getL_cons_eq {x : Ent} {E : List Ent} {p : Pf} (h : x.1 = p) : getL (x :: E) p = some x.2 := by
  unfold getL; rw [List.find?_cons_of_pos (by simpa using h)]; rfl
theorem getL_cons_ne {x : Ent} {E : List Ent} {p : Pf} (h : x.1 ≠ p) : getL (x :: E) p = getL E p := by
  unfold getL; rw [List.find?_cons_of_neg (by simpa using h)]
theorem getL_lt {E : List Ent} {p : Pf} (h : ∀ e ∈ E, Ah p e.1) : getL E p = none := getL_none.2 fun e he e2 => by
  have := h e he
  rw [e2] at this
  exact Ah.irrefl this
theorem cnt_put {q : Vt → Bool} (hz : q zV = false) : ∀ {E : List Ent} {p : Pf} {v : Vt}, Srt E → cntI q (putL E p v) = cntI q E - b2 (q (oldV E p)) + b2 (q v)
  | [], p, v, _ => by
    show cntI q [(p, v)] = cntI q [] - b2 (q zV) + b2 (q v)
    rw [cntI_cons, cntI_nil, hz]
    show b2 (q v) + 0 = 0 - 0 + b2 (q v)
    omega
  | x :: r, p, v, h => by
    obtain ⟨h1, h2⟩ := List.pairwise_cons.1 h
    have ih := cnt_put hz (p := p) (v := v) h2
    unfold putL
    by_cases ha : Ah x.1 p
    · have hne : x.1 ≠ p := fun e => by rw [e] at ha; exact Ah.irrefl ha
      have e : oldV (x :: r) p = oldV r p := by unfold oldV; rw [getL_cons_ne hne]
      rw [if_pos ha, cntI_cons, cntI_cons, e, ih]
      omega
    · rw [if_neg ha]
      by_cases hp : x.1 = p
      · have e : oldV (x :: r) p = x.2 := by unfold oldV; rw [getL_cons_eq hp]; rfl
        rw [if_pos hp, cntI_cons, cntI_cons, e]
        show b2 (q v) + cntI q r = _
        omega
      · have hlt : Ah p x.1 := Ah.total ha hp
        have e : oldV (x :: r) p = zV := by
          unfold oldV
          rw [getL_lt (E := x :: r) (fun e he => by
            rcases List.mem_cons.1 he with rfl | he
            · exact hlt
            · exact hlt.trans (h1 e he))]
          rfl
        rw [if_neg hp, cntI_cons, e, hz]
        show b2 (q v) + _ = _ - 0 + b2 (q v)
        omega
theorem cnt_drop {q : Vt → Bool} (hz : q zV = false) : ∀ {E : List Ent} {p : Pf}, Srt E → cntI q (dropL E p) = cntI q E - b2 (q (oldV E p))
  | [], p, _ => by
    show cntI q [] = cntI q [] - b2 (q zV)
    rw [hz]; rfl
  | x :: r, p, h => by
    obtain ⟨h1, h2⟩ := List.pairwise_cons.1 h
    have ih := cnt_drop hz (p := p) h2
    by_cases hp : x.1 = p
    · have e : oldV (x :: r) p = x.2 := by unfold oldV; rw [getL_cons_eq hp]; rfl
      have e2 : dropL (x :: r) p = dropL r p := by unfold dropL; rw [List.filter_cons_of_neg (by simpa using hp)]
      have e3 : dropL r p = r := dropL_none (getL_lt fun e he => by have := h1 e he; rwa [hp] at this)
      rw [e2, e3, e, cntI_cons]
      omega
    · have e : oldV (x :: r) p = oldV r p := by unfold oldV; rw [getL_cons_ne hp]
      have e2 : dropL (x :: r) p = x :: dropL r p := by unfold dropL; rw [List.filter_cons_of_pos (by simpa using hp)]
      rw [e2, e, cntI_cons, cntI_cons, ih]
      omega
theorem srt_dropL {E : List Ent} {p : Pf} (h : Srt E) : Srt (dropL E p) := h.filter _
theorem EOk.put {E : List Ent} {p : Pf} {v : Vt} (h : EOk E) (hr : Rt p) (hp : PfN p) (hv : VN v) : EOk (putL E p v) := ⟨srt_putL h.s, fun x hx => by
  rcases (mem_putL h.s).1 hx with rfl | ⟨h1, _⟩
  · exact ⟨hr, hp, hv⟩
  · exact h.e x h1⟩
theorem EOk.drop {E : List Ent} {p : Pf} (h : EOk E) : EOk (dropL E p) := ⟨srt_dropL h.s, fun x hx => h.e x (List.mem_filter.1 hx).1⟩
theorem putE_ok {E : List Ent} {p : Pf} {v : Vt} (hr : Rt p) (h : (getL E p).isSome = true ∨ E.length < 4096) : putE E p v = (0, putL E p v) := by
  unfold putE
  rw [if_pos hr]
  cases hg : (getL E p).isSome with
  | true => simp
  | false =>
    have : E.length < 4096 := by rcases h with h | h
                                 · rw [hg] at h; cases h
                                 · exact h
    simp; omega
def setE (E : List Ent) (p : Pf) (x : Vt) : List Ent := if x = zV then dropL E p else putL E p x
theorem cnt_set {q : Vt → Bool} (hz : q zV = false) {E : List Ent} {p : Pf} {x : Vt} (h : Srt E) : cntI q (setE E p x) = cntI q E - b2 (q (oldV E p)) + b2 (q x) := by
  unfold setE
  split
  · rename_i e
    rw [cnt_drop hz h, e, hz]
    show _ = _ + 0
    omega
  · exact cnt_put hz h
theorem EOk.set {E : List Ent} {p : Pf} {x : Vt} (h : EOk E) (hr : Rt p) (hp : PfN p) (hv : VN x) : EOk (setE E p x) := by
  unfold setE
  split
  · exact h.drop
  · exact h.put hr hp hv
theorem set_len {E : List Ent} {p : Pf} {x : Vt} (h : Srt E) : (setE E p x).length ≤ E.length + 1 := by
  unfold setE
  split
  · have := List.length_filter_le (fun e : Ent => decide (e.1 ≠ p)) E
    show (E.filter _).length ≤ _
    omega
  · rw [len_putL h]
    split <;> omega
theorem get_old (tb : Nat) (E : List Ent) (p : Pf) (hp : PfN p) (o : Vt) (ho : oldV E p = o) (b : Bool) (hb : (getL E p).isSome = b) : Pact Tryz.prog 64 #[.pointer (some ⟨tb, 0, none⟩), .agg (pfC p).toArray] (fun _ => True) [trA tb E] (fun v L' => v = .tuple #[.agg #[.int .i64 o.1, .int .i64 o.2.1, .bool o.2.2], .bool b] ∧ L' = [trA tb E]) := by
  subst ho hb
  exact get_a tb E p hp
end Go.Proofs.YtdnokmpnemaoaaaGreat.T
