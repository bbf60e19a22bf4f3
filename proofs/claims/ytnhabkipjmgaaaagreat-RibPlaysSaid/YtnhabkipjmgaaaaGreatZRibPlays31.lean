/-
  Rb27, Rb28, Rb29: merged.
-/
import Derived.Test.YtnhabkipjmgaaaaGreatZRibPlays30
namespace Go.Proofs.YtnhabkipjmgaaaaGreat
set_option linter.unusedSimpArgs false
set_option linter.unusedVariables false
open Go.RowKit Go.Pm

open T (Pf PfN Rt Ah pfC)
abbrev Rv := Pf × (Nf × Bool)
def gv : List Rv → Pf → Option (Nf × Bool)
  | [], _ => none
  | r :: l, q => if r.1 = q then some r.2 else gv l q
def SrV (l : List Rv) : Prop := l.Pairwise fun x y => Ah x.1 y.1
def dropV (l : List Rv) (p : Pf) : List Rv := l.filter fun r => decide (r.1 ≠ p)
def insV : List Rv → Rv → List Rv
  | [], r => [r]
  | x :: l, r => if Ah x.1 r.1 then x :: insV l r else r :: x :: l
theorem gv_none {l : List Rv} {q : Pf} : gv l q = none ↔ ∀ r ∈ l, r.1 ≠ q := by
  induction l with
  | nil => simp [gv]
  | cons x l ih =>
    unfold gv
    by_cases h : x.1 = q
    · simp [h]
    · rw [if_neg h, ih]
      simp [h]
theorem gv_mem {l : List Rv} (h : SrV l) {q : Pf} {v : Nf × Bool} : gv l q = some v ↔ (q, v) ∈ l := by
  induction l with
  | nil => simp [gv]
  | cons x l ih =>
    obtain ⟨h1, h2⟩ := List.pairwise_cons.1 h
    unfold gv
    by_cases e : x.1 = q
    · rw [if_pos e]
      constructor
      · intro hv
        obtain rfl := Option.some.inj hv
        rw [← e]
        exact List.mem_cons_self
      · intro hm
        rcases List.mem_cons.1 hm with rfl | hm
        · rfl
        · have := h1 _ hm
          rw [e] at this
          exact absurd this T.Ah.irrefl
    · rw [if_neg e, ih h2]
      constructor
      · exact fun hm => List.mem_cons_of_mem _ hm
      · intro hm
        rcases List.mem_cons.1 hm with rfl | hm
        · exact absurd rfl e
        · exact hm
theorem gv_drop (l : List Rv) (p q : Pf) : gv (dropV l p) q = if q = p then none else gv l q := by
  induction l with
  | nil => simp [gv, dropV]
  | cons x l ih =>
    unfold dropV at ih ⊢
    by_cases e : x.1 = p
    · rw [List.filter_cons_of_neg (by simpa using e), ih]
      by_cases hq : q = p
      · rw [if_pos hq, if_pos hq]
      · rw [if_neg hq, if_neg hq]
        show _ = if x.1 = q then _ else _
        rw [if_neg (fun h => hq (h.symm.trans e))]
    · rw [List.filter_cons_of_pos (by simpa using e)]
      unfold gv
      rw [ih]
      by_cases hx : x.1 = q
      · rw [if_pos hx, if_pos hx, if_neg (fun h => e (hx.trans h))]
      · rw [if_neg hx, if_neg hx]
theorem gv_ins (l : List Rv) (r : Rv) (q : Pf) : gv (insV l r) q = if q = r.1 then some r.2 else gv l q := by
  induction l with
  | nil =>
    unfold insV gv gv
    by_cases h : r.1 = q
    · rw [if_pos h, if_pos h.symm]
    · rw [if_neg h, if_neg (fun k => h k.symm)]
  | cons x l ih =>
    unfold insV
    by_cases h : Ah x.1 r.1
    · rw [if_pos h]
      unfold gv
      rw [ih]
      by_cases hx : x.1 = q
      · rw [if_pos hx, if_pos hx, if_neg (fun k => T.Ah.irrefl (hx ▸ k ▸ h))]
      · rw [if_neg hx, if_neg hx]
    · rw [if_neg h]
      show (if r.1 = q then _ else _) = _
      by_cases hr : r.1 = q
      · rw [if_pos hr, if_pos hr.symm]
      · rw [if_neg hr, if_neg (fun k => hr k.symm)]
theorem srv_drop {l : List Rv} (h : SrV l) (p : Pf) : SrV (dropV l p) := h.filter _
theorem mem_ins {l : List Rv} {r x : Rv} : x ∈ insV l r ↔ x = r ∨ x ∈ l := by
  induction l with
  | nil => simp [insV]
  | cons y l ih =>
    unfold insV
    split
    · rw [List.mem_cons, ih, List.mem_cons]
      constructor
      · rintro (h | h | h) <;> simp [h]
      · rintro (h | h | h) <;> simp [h]
    · simp
theorem srv_ins {l : List Rv} {r : Rv} (h : SrV l) (hn : ∀ x ∈ l, x.1 ≠ r.1) : SrV (insV l r) := by
  induction l with
  | nil => exact List.pairwise_singleton _ _
  | cons x l ih =>
    obtain ⟨h1, h2⟩ := List.pairwise_cons.1 h
    unfold insV
    by_cases hA : Ah x.1 r.1
    · rw [if_pos hA]
      refine List.pairwise_cons.2 ⟨fun y hy => ?_, ih h2 fun z hz => hn z (List.mem_cons_of_mem _ hz)⟩
      rcases mem_ins.1 hy with rfl | hy
      · exact hA
      · exact h1 y hy
    · rw [if_neg hA]
      have hr : Ah r.1 x.1 := T.Ah.total hA (hn x List.mem_cons_self)
      refine List.pairwise_cons.2 ⟨fun y hy => ?_, h⟩
      rcases List.mem_cons.1 hy with rfl | hy
      · exact hr
      · exact hr.trans (h1 y hy)
theorem srv_ext : ∀ {l m : List Rv}, SrV l → SrV m → (∀ q, gv l q = gv m q) → l = m
  | [], [], _, _, _ => rfl
  | [], y :: m, _, _, h => by
    have := h y.1
    unfold gv at this
    rw [if_pos rfl] at this
    cases this
  | x :: l, [], _, _, h => by
    have := h x.1
    unfold gv at this
    rw [if_pos rfl] at this
    cases this
  | x :: l, y :: m, hl, hm, h => by
    obtain ⟨a1, a2⟩ := List.pairwise_cons.1 hl
    obtain ⟨b1, b2⟩ := List.pairwise_cons.1 hm
    have e : x.1 = y.1 := Decidable.byContradiction fun hne => by
      have h1 := h x.1
      have h2 := h y.1
      unfold gv at h1 h2
      rw [if_pos rfl, if_neg (fun k => hne k.symm)] at h1
      rw [if_pos rfl, if_neg hne] at h2
      have k1 := b1 _ ((gv_mem b2).1 h1.symm)
      have k2 := a1 _ ((gv_mem a2).1 h2)
      exact T.Ah.asymm k1 k2
    have e2 : x = y := by
      have h1 := h x.1
      unfold gv at h1
      rw [if_pos rfl, if_pos e.symm] at h1
      exact Prod.ext e (Option.some.inj h1)
    subst e2
    rw [srv_ext a2 b2 fun q => ?_]
    by_cases hq : x.1 = q
    · rw [gv_none.2 fun r hr k => ?_, gv_none.2 fun r hr k => ?_]
      · have := b1 r hr
        rw [k, hq] at this
        exact T.Ah.irrefl this
      · have := a1 r hr
        rw [k, hq] at this
        exact T.Ah.irrefl this
    · have := h q
      unfold gv at this
      rwa [if_neg hq, if_neg hq] at this
def vwE (σ : Tb) : List Rv := σ.E.map fun e => (e.1, (getX σ.S e.2.1, e.2.2))
theorem vwE_srt {σ : Tb} (h : T.EOk σ.E) : SrV (vwE σ) := List.pairwise_map.2 h.s
theorem vwE_len (σ : Tb) : (vwE σ).length = σ.E.length := List.length_map _
theorem gv_vwE (σ : Tb) (q : Pf) : gv (vwE σ) q = lk σ q := by
  obtain ⟨E, S, c⟩ := σ
  unfold vwE lk
  dsimp only
  induction E with
  | nil => rfl
  | cons e E ih =>
    show (if e.1 = q then some _ else _) = _
    by_cases h : e.1 = q
    · rw [if_pos h, T.getL_cons_eq h]
      rfl
    · rw [if_neg h, T.getL_cons_ne h]
      exact ih
theorem vwE_keys (σ : Tb) : (vwE σ).map (·.1) = T.keysE σ.E := by
  unfold vwE T.keysE
  rw [List.map_map]
  rfl
def wdV (l : List Rv) (ps : List Pf) : List Rv := ps.foldl dropV l
def putV (l : List Rv) (r : Rv) : List Rv := insV (dropV l r.1) r
def tdV (x : Nf) (l : List Rv) : List Pf → List Rv
  | [] => l
  | p :: ps => tdV x (if Rt p then putV l (p, (x, false)) else l) ps
theorem gv_put (l : List Rv) (r : Rv) (q : Pf) : gv (putV l r) q = if q = r.1 then some r.2 else gv l q := by
  unfold putV
  rw [gv_ins, gv_drop]
  split <;> rfl
theorem srv_put {l : List Rv} (h : SrV l) (r : Rv) : SrV (putV l r) := srv_ins (srv_drop h _) fun x hx => by
  have := (List.mem_filter.1 hx).2
  simpa using this
theorem gv_wd : ∀ (ps : List Pf) (l : List Rv) (q : Pf), gv (wdV l ps) q = if q ∈ ps then none else gv l q
  | [], l, q => by simp [wdV]
  | p :: ps, l, q => by
    show gv (wdV (dropV l p) ps) q = _
    rw [gv_wd ps, gv_drop]
    by_cases h1 : q ∈ ps
    · simp [h1]
    · by_cases h2 : q = p <;> simp [h1, h2]
theorem srv_wd : ∀ (ps : List Pf) {l : List Rv}, SrV l → SrV (wdV l ps)
  | [], _, h => h
  | p :: ps, _, h => srv_wd ps (srv_drop h p)
theorem gv_td (x : Nf) : ∀ (ps : List Pf) (l : List Rv) (q : Pf), gv (tdV x l ps) q = if q ∈ ps ∧ Rt q then some (x, false) else gv l q
  | [], l, q => by simp [tdV]
  | p :: ps, l, q => by
    show gv (tdV x (if Rt p then putV l (p, (x, false)) else l) ps) q = _
    rw [gv_td x ps]
    by_cases h1 : q ∈ ps ∧ Rt q
    · rw [if_pos h1, if_pos ⟨by simp [h1.1], h1.2⟩]
    · rw [if_neg h1]
      by_cases hr : Rt p
      · rw [if_pos hr, gv_put]
        dsimp only
        by_cases h2 : q = p
        · rw [if_pos h2, if_pos ⟨by simp [h2], h2 ▸ hr⟩]
        · rw [if_neg h2, if_neg (fun h => h1 ⟨by simpa [h2] using h.1, h.2⟩)]
      · rw [if_neg hr, if_neg (fun h => ?_)]
        rcases List.mem_cons.1 h.1 with e | e
        · exact hr (e ▸ h.2)
        · exact h1 ⟨e, h.2⟩
theorem srv_td (x : Nf) : ∀ (ps : List Pf) {l : List Rv}, SrV l → SrV (tdV x l ps)
  | [], _, h => h
  | p :: ps, l, h => by
    show SrV (tdV x (if Rt p then putV l (p, (x, false)) else l) ps)
    split
    · exact srv_td x ps (srv_put h _)
    · exact srv_td x ps h
noncomputable def updV (u : Up) (l : List Rv) : List Rv := if okN u.d.nf = true then tdV u.d.nf (wdV l u.wd) u.td else wdV l u.wd
theorem upL_iff {u : Up} {p : Pf} : p ∈ upL u ↔ p ∈ u.td ∧ Rt p ∧ okN u.d.nf = true := by
  rcases ho : okN u.d.nf with _ | _
  · unfold upL
    rw [ho, if_neg (by simp)]
    simp
  · rw [upL_mem ho]
    simp
theorem gv_upd (u : Up) (l : List Rv) (q : Pf) : gv (updV u l) q = if q ∈ upL u then some (u.d.nf, false) else if q ∈ u.wd then none else gv l q := by
  unfold updV
  by_cases ho : okN u.d.nf = true
  · rw [if_pos ho, gv_td, gv_wd]
    by_cases h : q ∈ u.td ∧ Rt q
    · rw [if_pos h, if_pos ((upL_mem ho).2 h)]
    · rw [if_neg h, if_neg (fun k => h ((upL_mem ho).1 k))]
  · rw [if_neg ho, gv_wd, if_neg (fun k => ho (upL_iff.1 k).2.2)]
theorem srv_upd (u : Up) {l : List Rv} (h : SrV l) : SrV (updV u l) := by
  unfold updV
  split
  · exact srv_td _ _ (srv_wd _ h)
  · exact srv_wd _ h
def Df (a b : List Rv) (q : Pf) : Prop := (gv a q).map (·.1) ≠ (gv b q).map (·.1)
theorem ext_p : ∀ {l m : List Pf}, (l.Pairwise fun x y => Ah x y) → (m.Pairwise fun x y => Ah x y) → (∀ q, q ∈ l ↔ q ∈ m) → l = m
  | [], [], _, _, _ => rfl
  | [], y :: m, _, _, h => absurd ((h y).2 List.mem_cons_self) List.not_mem_nil
  | x :: l, [], _, _, h => absurd ((h x).1 List.mem_cons_self) List.not_mem_nil
  | x :: l, y :: m, hl, hm, h => by
    obtain ⟨a1, a2⟩ := List.pairwise_cons.1 hl
    obtain ⟨b1, b2⟩ := List.pairwise_cons.1 hm
    have e : x = y := Decidable.byContradiction fun hne => by
      rcases List.mem_cons.1 ((h x).1 List.mem_cons_self) with k | k
      · exact hne k
      · rcases List.mem_cons.1 ((h y).2 List.mem_cons_self) with k2 | k2
        · exact hne k2.symm
        · exact T.Ah.asymm (b1 x k) (a1 y k2)
    subst e
    rw [ext_p a2 b2 fun q => ?_]
    constructor
    · intro hq
      rcases List.mem_cons.1 ((h q).1 (List.mem_cons_of_mem _ hq)) with k | k
      · exact absurd (k ▸ a1 q hq) T.Ah.irrefl
      · exact k
    · intro hq
      rcases List.mem_cons.1 ((h q).2 (List.mem_cons_of_mem _ hq)) with k | k
      · exact absurd (k ▸ b1 q hq) T.Ah.irrefl
      · exact k
end Go.Proofs.YtnhabkipjmgaaaaGreat
namespace Go.Proofs.YtnhabkipjmgaaaaGreat
set_option linter.unusedSimpArgs false
set_option linter.unusedVariables false
open Go.RowKit Go.Pm

open T (Pf PfN Rt Ah pfC)
theorem new_iff {B x : Int} {X : Nf} {σ : Tb} {p : Pf} (h : Rel x σ) (hE : T.EOk σ.E) (hs : StOk B σ.S σ.c) (hB0 : 0 ≤ B) (hB : B < 4096) (hX : okN X = true) (hn : NfN X) : putNew X σ p = true ↔ (lk σ p).map (·.1) ≠ some X := by
  obtain ⟨S1, c1, id, hk, kv⟩ := keep_v hs hB hX
  have hs1 : StOk (B + 1) S1 c1 := by have := keepF_ok hs hB0 hn; rw [hk] at this; exact this
  unfold putNew lk
  rw [hk, decide_eq_true_eq]
  dsimp only
  cases hg : T.getL σ.E p with
  | none =>
    have ho : T.oldV σ.E p = T.zV := by unfold T.oldV; rw [hg]; rfl
    rw [ho]
    have hp := kv.pos
    constructor
    · intro _ k
      cases k
    · intro _ k
      have : (0 : Int) = id := k
      omega
  | some o =>
    have ho : T.oldV σ.E p = o := by unfold T.oldV; rw [hg]; rfl
    rw [ho]
    have ht := h.there hE hg
    have hg1 := kv.get _ ht.2
    refine not_congr ⟨fun k => ?_, fun k => ?_⟩
    · show some (getX σ.S o.1) = some X
      rw [← hg1, k, kv.new]
    · have k2 : getX σ.S o.1 = X := Option.some.inj k
      have c1 := kv.cnt o.1
      have c2 := kv.cnt id
      have c3 := cntF_nn hs id
      rw [if_pos rfl] at c2
      refine getX_inj hs1 (by rw [c1]; have := ht.2; split <;> omega) (by omega) ?_
      rw [hg1, k2, kv.new]
theorem chg_mem {x : Int} {X : Nf} (hX : okN X = true) (hn : NfN X) : ∀ (ps : List Pf) (B : Int) (σ : Tb), Rel x σ → T.EOk σ.E → StOk B σ.S σ.c → 0 ≤ B → B + ps.length < 4096 → (∀ p ∈ ps, PfN p ∧ Rt p) → ps.Pairwise (· ≠ ·) → ∀ q, (q ∈ chg X σ ps ↔ q ∈ ps ∧ (lk σ q).map (·.1) ≠ some X)
  | [], _, _, _, _, _, _, _, _, _, q => by simp [chg]
  | p :: ps, B, σ, h, hE, hs, hB0, hB, hp, hd, q => by
    simp only [List.length_cons] at hB
    obtain ⟨d1, d2⟩ := List.pairwise_cons.1 hd
    have hpp := hp p (by simp)
    obtain ⟨r1, r2, r3⟩ := put_rel h hE hs hB0 (by omega) hX hn hpp.2 hpp.1
    have ih := chg_mem hX hn ps (B + 1) (putStep X σ p) r1 r3 (putStep_ok hn hs hB0) (by omega) (by omega) (fun z hz => hp z (by simp [hz])) d2 q
    have hi := new_iff (p := p) h hE hs hB0 (by omega) hX hn
    show q ∈ (if putNew X σ p then [p] else []) ++ chg X (putStep X σ p) ps ↔ _
    rw [List.mem_append, ih, r2, List.mem_cons]
    by_cases hq : q = p
    · subst hq
      have hnp : q ∉ ps := fun k => d1 q k rfl
      constructor
      · rintro (k | k)
        · split at k
          · exact ⟨.inl rfl, hi.1 ‹_›⟩
          · exact absurd k List.not_mem_nil
        · exact absurd k.1 hnp
      · rintro ⟨_, k⟩
        rw [if_pos (hi.2 k)]
        exact .inl (by simp)
    · rw [if_neg hq]
      constructor
      · rintro (k | k)
        · split at k
          · exact absurd (List.mem_singleton.1 k) hq
          · exact absurd k List.not_mem_nil
        · exact ⟨.inr k.1, k.2⟩
      · rintro ⟨k | k, k2⟩
        · exact absurd k hq
        · exact .inr ⟨k, k2⟩
theorem chg_sub (X : Nf) : ∀ (ps : List Pf) (σ : Tb), (chg X σ ps).Sublist ps
  | [], _ => .slnil
  | p :: ps, σ => by
    show ((if putNew X σ p then [p] else []) ++ chg X (putStep X σ p) ps).Sublist _
    split
    · exact (chg_sub X ps _).cons_cons p
    · exact (chg_sub X ps _).cons p
theorem rel_pos {x : Int} {σ : Tb} (h : Rel x σ) (hx : 0 < x) : 0 < cntF σ.S x := by
  have h5 := h.cnt x hx
  rw [if_pos rfl] at h5
  have := cI_nn σ.E x
  omega
theorem drops_x {B x : Int} (hx : 0 < x) : ∀ (ps : List Pf) (σ : Tb), Rel x σ → T.EOk σ.E → StOk B σ.S σ.c → ps.Pairwise (· ≠ ·) → (∀ p ∈ ps, (T.getL σ.E p).isSome = true) → getX (dropF σ ps).S x = getX σ.S x
  | [], _, _, _, _, _, _ => rfl
  | p :: ps, σ, h, hE, hs, hd, hp => by
    obtain ⟨d1, d2⟩ := List.pairwise_cons.1 hd
    obtain ⟨o, hg⟩ := Option.isSome_iff_exists.1 (hp p (by simp))
    obtain ⟨r1, r2⟩ := drop_rel h hE hs hg
    have ho : T.oldV σ.E p = o := by unfold T.oldV; rw [hg]; rfl
    obtain ⟨f1, f2⟩ := free_v hs (h.there hE hg).2
    have h4 : (dropStep σ p).S = (freeF σ.S o.1).1 := by show (freeF σ.S (T.oldV σ.E p).1).1 = _; rw [ho]
    have h3 := rel_pos r1 hx
    rw [h4] at h3
    have ih := drops_x hx ps (dropStep σ p) r1 hE.drop (freeF_ok hs) d2 (fun q hq => by
      show (T.getL (T.dropL σ.E p) q).isSome = true
      rw [T.getL_drop hE.s, if_neg (fun e => d1 q hq e.symm)]
      exact hp q (by simp [hq]))
    show getX (dropF (dropStep σ p) ps).S x = _
    rw [ih, h4, f2 x h3]
theorem dropF_c : ∀ (ps : List Pf) (σ : Tb), (dropF σ ps).c = σ.c
  | [], _ => rfl
  | p :: ps, σ => dropF_c ps (dropStep σ p)
theorem keepF_c {S : List En} {c : Int} {X : Nf} : (keepF S c X).1.2 ≤ c + 1 := by
  unfold keepF
  split
  · show c ≤ c + 1
    omega
  · split
    · show c ≤ c + 1
      omega
    · split
      · show c ≤ c + 1
        omega
      · exact Int.le_refl _
theorem keepF_c2 {B : Int} {S : List En} {c j : Int} {X : Nf} (hs : StOk B S c) (hj : 0 < cntF S j) (hx : getX S j = X) : (keepF S c X).1.2 = c := by
  obtain ⟨a, ha⟩ := (cntF_pos hs).1 hj
  unfold getX at hx
  rw [ha] at hx
  dsimp only at hx
  have hm : a ∈ S := List.mem_of_find?_eq_some ha
  unfold keepF
  split
  · rfl
  · split
    · rfl
    · rename_i hf
      have := List.find?_eq_none.1 hf a hm
      simp [hx] at this
theorem puts_c {x : Int} {X : Nf} (hx : 0 < x) (hX : okN X = true) (hn : NfN X) : ∀ (ps : List Pf) (B : Int) (σ : Tb), Rel x σ → T.EOk σ.E → StOk B σ.S σ.c → 0 ≤ B → B + ps.length < 4096 → (∀ p ∈ ps, PfN p ∧ Rt p) → getX σ.S x = X → (putF X σ ps).c = σ.c
  | [], _, _, _, _, _, _, _, _, _ => rfl
  | p :: ps, B, σ, h, hE, hs, hB0, hB, hp, hg => by
    simp only [List.length_cons] at hB
    have hpp := hp p (by simp)
    obtain ⟨r1, r2, r3⟩ := put_rel h hE hs hB0 (by omega) hX hn hpp.2 hpp.1
    have hc : (putStep X σ p).c = σ.c := keepF_c2 hs (rel_pos h hx) hg
    have hg2 : getX (putStep X σ p).S x = X := by
      have h3 := rel_pos r1 hx
      obtain ⟨S1, c1, id, hk, kv⟩ := keep_v hs (by omega) hX
      have hs1 : StOk (B + 1) S1 c1 := by have := keepF_ok hs hB0 hn; rw [hk] at this; exact this
      have e1 : getX S1 x = X := by rw [kv.get x (rel_pos h hx), hg]
      unfold putStep at h3 ⊢
      rw [hk] at h3 ⊢
      dsimp only at h3 ⊢
      cases hgp : T.getL σ.E p with
      | none => exact e1
      | some o =>
        have ho : T.oldV σ.E p = o := by unfold T.oldV; rw [hgp]; rfl
        have ht := h.there hE hgp
        have h1 : 0 < cntF S1 o.1 := by have := kv.cnt o.1; split at this <;> omega
        obtain ⟨f1, f2⟩ := free_v hs1 h1
        rw [hgp, ho] at h3
        rw [ho]
        exact (f2 x h3).trans e1
    have ih := puts_c hx hX hn ps (B + 1) (putStep X σ p) r1 r3 (putStep_ok hn hs hB0) (by omega) (by omega) (fun q hq => hp q (by simp [hq])) hg2
    exact ih.trans hc
theorem mid_rel {B : Int} {u : Up} {σ : Tb} (h : Rel 0 σ) (hE : T.EOk σ.E) (hs : StOk B σ.S σ.c) (hB0 : 0 ≤ B) (hB : B < 4096) (hu : UpN u) (hl : upL u ≠ []) : ∃ id, 0 < id ∧ Rel id (midF u σ) ∧ T.EOk (midF u σ).E ∧ (∀ q, lk (midF u σ) q = if q ∈ goneF σ.E (upL u) u.wd then none else lk σ q) ∧ getX (midF u σ).S id = u.d.nf ∧ (midF u σ).c ≤ σ.c + 1 := by
  have hnx : NfN u.d.nf := At.nfN hu.d.num
  have hd := srt_ne (goneF_srt σ.E (upL u) u.wd)
  have hgs : ∀ p ∈ goneF σ.E (upL u) u.wd, (T.getL σ.E p).isSome = true := fun p hp => (mem_goneF.1 hp).2.1
  obtain ⟨S0, c0, id, hk, kv⟩ := keep_v hs (by omega) (upL_ok hl)
  have hs0 : StOk (B + 1) S0 c0 := by have := keepF_ok hs hB0 hnx; rw [hk] at this; exact this
  have hc0 : c0 ≤ σ.c + 1 := by have := keepF_c (S := σ.S) (c := σ.c) (X := u.d.nf); rw [hk] at this; exact this
  have hm : midF u σ = dropF ⟨σ.E, S0, c0⟩ (goneF σ.E (upL u) u.wd) := by unfold midF; rw [if_neg hl, hk]
  have h0 : Rel id ⟨σ.E, S0, c0⟩ := ⟨fun j hj => by
    show cntF S0 j = cI σ.E j + _
    rw [kv.cnt, h.cnt j hj, if_neg (by omega)]
    omega, h.pos⟩
  have hlk0 : ∀ q, lk ⟨σ.E, S0, c0⟩ q = lk σ q := fun q => by
    unfold lk
    dsimp only
    cases hg : T.getL σ.E q with
    | none => rfl
    | some o => show some (getX S0 o.1, o.2) = some (getX σ.S o.1, o.2); rw [kv.get _ (h.there hE hg).2]
  obtain ⟨r1, r2⟩ := drops_rel _ ⟨σ.E, S0, c0⟩ h0 hE hs0 hd hgs
  rw [hm]
  refine ⟨id, kv.pos, r1, dropF_srt _ ⟨σ.E, S0, c0⟩ hE, fun q => by rw [r2, hlk0], ?_, by rw [dropF_c]; exact hc0⟩
  rw [drops_x kv.pos _ ⟨σ.E, S0, c0⟩ h0 hE hs0 hd hgs]
  exact kv.new
theorem upd_c {B lim : Int} {u : Up} {σ : Tb} (h : Rel 0 σ) (hE : T.EOk σ.E) (hs : StOk B σ.S σ.c) (hB0 : 0 ≤ B) (hB : B + 1 + u.td.length < 4096) (hu : UpN u) : (updF lim u σ).c ≤ σ.c + 1 := by
  have hll := upL_len u
  unfold updF
  split
  · omega
  unfold endF
  by_cases hl : upL u = []
  · rw [if_pos hl]
    unfold midF
    rw [if_pos hl, dropF_c]
    omega
  · rw [if_neg hl]
    obtain ⟨id, hid, r1, r3, _, hg, hc⟩ := mid_rel h hE hs hB0 (by omega) hu hl
    have hnx : NfN u.d.nf := At.nfN hu.d.num
    have := puts_c hid (upL_ok hl) hnx (upL u) (B + 1) (midF u σ) r1 r3 (midF_ok hu.d hs hB0) (by omega) (by omega) (fun p hp => ⟨hu.td p (mem_upL hp).1, (mem_upL hp).2⟩) hg
    show (putF u.d.nf (midF u σ) (upL u)).c ≤ _
    rw [this]
    exact hc
theorem updR_mem {B lim : Int} {u : Up} {σ : Tb} (h : Rel 0 σ) (hE : T.EOk σ.E) (hs : StOk B σ.S σ.c) (hB0 : 0 ≤ B) (hB : B + 1 + u.td.length < 4096) (hu : UpN u) (hr : ¬ noRoom lim u σ) (q : Pf) : q ∈ updR lim u σ ↔ Df (vwE σ) (vwE (updF lim u σ)) q := by
  have hll := upL_len u
  have hg := (upd_rel (lim := lim) h hE hs hB0 hB hu).2.1 q
  unfold Df updR
  rw [if_neg hr] at hg
  rw [gv_vwE, gv_vwE, hg, if_neg hr, (srtP_perm _).mem_iff, List.mem_append, mem_goneF]
  have hs2 : (T.getL σ.E q).isSome = true ↔ lk σ q ≠ none := by
    unfold lk
    cases T.getL σ.E q <;> simp
  by_cases hl : upL u = []
  · rw [hl, hs2]
    by_cases hw : q ∈ u.wd
    · cases hk : lk σ q <;> simp [chg, hw]
    · simp [chg, hw]
  · obtain ⟨id, hid, r1, r3, r2, _, _⟩ := mid_rel h hE hs hB0 (by omega) hu hl
    have hnx : NfN u.d.nf := At.nfN hu.d.num
    rw [chg_mem (upL_ok hl) hnx (upL u) (B + 1) (midF u σ) r1 r3 (midF_ok hu.d hs hB0) (by omega) (by omega) (fun p hp => ⟨hu.td p (mem_upL hp).1, (mem_upL hp).2⟩) (srt_ne (upL_srt u)) q, r2, hs2]
    by_cases hq : q ∈ upL u
    · rw [if_neg (fun k => (mem_goneF.1 k).2.2 hq), if_pos hq]
      simp [hq]
    · rw [if_neg hq]
      by_cases hw : q ∈ u.wd
      · cases hk : lk σ q <;> simp [hq, hw]
      · simp [hq, hw]
theorem updR_srt (lim : Int) (u : Up) (σ : Tb) : (updR lim u σ).Pairwise fun x y => Ah x y := by
  unfold updR
  split
  · exact .nil
  have hn : (goneF σ.E (upL u) u.wd ++ chg u.d.nf (midF u σ) (upL u)).Pairwise (· ≠ ·) := List.pairwise_append.2 ⟨srt_ne (goneF_srt _ _ _), (srt_ne (upL_srt u)).sublist (chg_sub _ _ _), fun a ha b hb e => by
    subst e
    exact (mem_goneF.1 ha).2.2 ((chg_sub _ _ _).subset hb)⟩
  have h1 := srtP_srt (goneF σ.E (upL u) u.wd ++ chg u.d.nf (midF u σ) (upL u))
  have h2 : (srtP (goneF σ.E (upL u) u.wd ++ chg u.d.nf (midF u σ) (upL u))).Pairwise (· ≠ ·) := (srtP_perm _).symm.pairwise hn (fun {a b} h => h.symm)
  exact (h1.and h2).imp fun {a b} ⟨k1, k2⟩ => T.Ah.total k1 k2.symm
def sumC (S : List En) : Nat → Int
  | 0 => 0
  | m + 1 => sumC S m + cntF S (m + 1 : Nat)
theorem sum_le (E : List T.Ent) (m : Nat) : ((E.filter fun e => decide (e.2.1 ≤ (m : Int))).length : Int) + cI E (m + 1 : Nat) = (E.filter fun e => decide (e.2.1 ≤ ((m + 1 : Nat) : Int))).length := by
  show _ + ((E.filter fun e => decide (e.2.1 = ((m + 1 : Nat) : Int))).length : Int) = _
  induction E with
  | nil => rfl
  | cons e E ih =>
    simp only [List.filter_cons, decide_eq_true_eq]
    by_cases h1 : e.2.1 ≤ (m : Int)
    · rw [if_pos h1, if_neg (by omega), if_pos (by omega)]
      simp only [List.length_cons]
      omega
    · rw [if_neg h1]
      by_cases h2 : e.2.1 = ((m + 1 : Nat) : Int)
      · rw [if_pos h2, if_pos (by omega)]
        simp only [List.length_cons]
        omega
      · rw [if_neg h2, if_neg (by omega)]
        exact ih
theorem sumC_le {σ : Tb} (h : Rel 0 σ) : ∀ m : Nat, sumC σ.S m = (σ.E.filter fun e => decide (e.2.1 ≤ (m : Int))).length
  | 0 => by
    have : (σ.E.filter fun e => decide (e.2.1 ≤ ((0 : Nat) : Int))) = [] := List.filter_eq_nil_iff.2 fun e he k => by
      have := h.pos e he
      have := of_decide_eq_true k
      omega
    rw [this]
    rfl
  | m + 1 => by
    show sumC σ.S m + cntF σ.S (m + 1 : Nat) = _
    rw [sumC_le h m, h.cnt _ (by omega), if_neg (by omega), ← sum_le]
    omega
theorem sumC_all {B : Int} {σ : Tb} (h : Rel 0 σ) (hE : T.EOk σ.E) (hs : StOk B σ.S σ.c) {m : Nat} (hm : σ.c ≤ m) : sumC σ.S m = σ.E.length := by
  rw [sumC_le h, List.filter_eq_self.2 fun e he => ?_]
  refine decide_eq_true ?_
  have hg : T.getL σ.E e.1 = some e.2 := (T.getL_mem hE.s).2 he
  obtain ⟨a, ha⟩ := (cntF_pos hs).1 (h.there hE hg).2
  have hm2 : a ∈ σ.S := List.mem_of_find?_eq_some ha
  have hi := hs.ids a hm2
  have : a.id = e.2.1 := by simpa using List.find?_some ha
  omega
theorem rel_empty {B : Int} {σ : Tb} (h : Rel 0 σ) (hs : StOk B σ.S σ.c) (h0 : ∀ q, lk σ q = none) : σ.E = [] ∧ σ.S = [] := by
  have hE : σ.E = [] := List.eq_nil_iff_forall_not_mem.2 fun e he => by
    have h1 := h0 e.1
    unfold lk at h1
    cases hg : T.getL σ.E e.1 with
    | none => exact T.getL_none.1 hg e he rfl
    | some o => rw [hg] at h1; cases h1
  refine ⟨hE, List.eq_nil_iff_forall_not_mem.2 fun e he => ?_⟩
  have h1 := hs.ids e he
  have h2 := h.cnt e.id (by omega)
  rw [hE, if_neg (by omega)] at h2
  have h3 := (cntF_pos hs).2 ⟨e, fnd_mem hs he⟩
  have h4 : cI [] e.id = 0 := rfl
  omega
end Go.Proofs.YtnhabkipjmgaaaaGreat
namespace Go.Proofs.YtnhabkipjmgaaaaGreat
set_option linter.unusedSimpArgs false
set_option linter.unusedVariables false
set_option maxRecDepth 20000
set_option maxHeartbeats 4000000
open Go.RowKit Go.Pm

open T (Pf PfN Rt Ah pfC)
structure Ro where
  p : Pf
  d : At
  st : Bool
def roC (r : Ro) : List Value := [.int .u32 r.p.1, .int .i64 r.p.2, .int .i64 r.d.origin, .slice r.d.pa r.d.path.length r.d.pc, .int .u32 r.d.next, .bool r.d.hasMed, .int .u32 r.d.med, .bool r.d.hasLocal, .int .u32 r.d.loc, .bool r.d.atomic, .bool r.d.hasMaker, .int .u32 r.d.makerAS, .int .u32 r.d.maker, .slice r.d.ca r.d.comms.length r.d.cc, .slice r.d.oa r.d.others.length r.d.oc, .bool r.st]
def Ro.v (r : Ro) : Rv := (r.p, (r.d.nf, r.st))
def vL (L : List Ro) : List Rv := L.map Ro.v
def atO : List Ro → Pf → Option Nat
  | [], _ => none
  | r :: l, p => if r.p = p then some 0 else (atO l p).map (· + 1)
def oI : Option Nat → Int
  | none => -1
  | some k => k
theorem atO_hit : ∀ {L : List Ro} {p : Pf} {k : Nat} {r : Ro}, L[k]? = some r → r.p = p → (∀ x ∈ L.take k, x.p ≠ p) → atO L p = some k
  | [], _, _, _, h, _, _ => by simp at h
  | x :: l, p, 0, r, h, hp, _ => by
    simp at h
    subst h
    unfold atO
    rw [if_pos hp]
  | x :: l, p, k + 1, r, h, hp, hn => by
    unfold atO
    rw [if_neg (hn x (by simp)), atO_hit (k := k) (by simpa using h) hp fun y hy => hn y (by simp [hy])]
    rfl
theorem atO_miss : ∀ {L : List Ro} {p : Pf}, (∀ x ∈ L, x.p ≠ p) → atO L p = none
  | [], _, _ => rfl
  | x :: l, p, h => by
    unfold atO
    rw [if_neg (h x (by simp)), atO_miss fun y hy => h y (by simp [hy])]
    rfl
theorem atO_none : ∀ {L : List Ro} {p : Pf}, atO L p = none → gv (vL L) p = none
  | [], _, _ => rfl
  | x :: l, p, h => by
    unfold atO at h
    show (if x.p = p then _ else _) = _
    split at h
    · cases h
    · rename_i hx
      rw [if_neg hx]
      refine atO_none (L := l) ?_
      cases hl : atO l p with
      | none => rfl
      | some k => rw [hl] at h; cases h
theorem atO_some : ∀ {L : List Ro} {p : Pf} {k : Nat}, atO L p = some k → ∃ r, L[k]? = some r ∧ r.p = p ∧ gv (vL L) p = some (r.d.nf, r.st)
  | [], _, _, h => by cases h
  | x :: l, p, k, h => by
    unfold atO at h
    split at h
    · rename_i hx
      cases h
      exact ⟨x, rfl, hx, by show (if x.p = p then _ else _) = _; rw [if_pos hx]; rfl⟩
    · rename_i hx
      cases hl : atO l p with
      | none => rw [hl] at h; cases h
      | some j =>
        rw [hl] at h
        cases h
        obtain ⟨r, h1, h2, h3⟩ := atO_some hl
        exact ⟨r, by simpa using h1, h2, by show (if x.p = p then _ else _) = _; rw [if_neg hx]; exact h3⟩
theorem rat_s (a : Option Addr) (c n : Nat) (L : List Ro) (hn : L.length = n) (p : Pf) (hl : n ≤ 1000000) : Pact Tryz.prog 60 #[.slice a n c, .agg (pfC p).toArray] (fun w => Vw w (.slice a n c) 16 n (flat roC L)) [] (ret0 (.int .i64 (oI (atO L p)))) := by
  subst hn
  refine pact Tryz.func60 rfl Tryz.ntmps60 rfl ?_
  intro W K hK
  (repeat' (first | ((with_reducible apply gL); (first | refine yL0 ?_ | refine yL ?_ | (refine yM ?_; intro _) | fail)) | ((with_reducible apply gD); (first | (refine JD_nil ?_; try simp only [List.cons_append, List.nil_append]) | (refine JD_bar ?_; try simp only [List.cons_append, List.nil_append]) | refine yD ?_ | fail)) | refine yJ ?_ | ((with_reducible apply gJ_if); (first | (refine J_if xR ?_ ?_ <;> intro _ <;> (try (exfalso; first | contradiction | omega))) | (refine J_ifb xR ?_ ?_ <;> (intro hgb; subst hgb)) | (refine J_ifb xR ?_ ?_ <;> intro _) | fail)) | refine J_draw (id := 4) [0, 1, 2, 3, 4, 5] [6] mixed xC xD xD ?_ | fail))
  rename_i g
  refine J_loop (α := Nat) 0 (fun k => L.length - k) (fun k => k ≤ L.length ∧ ∀ x ∈ L.take k, x.p ≠ p) (fun k => [(0, .slice a L.length c), (3, .pointer (some ⟨g, 0, none⟩)), (5, .int .i64 k)]) (fun _ => [pts g (pfC p) 41]) ⟨Nat.zero_le _, by simp⟩ ⟨rfl, rfl, rfl, trivial⟩ (fun w H => H.sel xZ) ?_
  rintro k ⟨hk, hn⟩
  by_cases hlt : k < L.length
  · obtain ⟨x, hs⟩ : ∃ x, L[k]? = some x := ⟨_, List.getElem?_eq_getElem hlt⟩
    by_cases hx : x.p.1 = p.1 ∧ x.p.2 = p.2
    · (repeat' (first | ((with_reducible apply gL); (first | refine yL0 ?_ | refine yL ?_ | (refine yM ?_; intro _) | fail)) | ((with_reducible apply gD); (first | (refine JD_nil ?_; try simp only [List.cons_append, List.nil_append]) | (refine JD_bar ?_; try simp only [List.cons_append, List.nil_append]) | refine yD ?_ | fail)) | refine yJ ?_ | ((with_reducible apply gJ_if); (first | (refine J_if xR ?_ ?_ <;> intro _ <;> (try (exfalso; first | contradiction | omega))) | (refine J_ifb xR ?_ ?_ <;> (intro hgb; subst hgb)) | (refine J_ifb xR ?_ ?_ <;> intro _) | fail)) | refine J_draw (id := 4) [0, 1, 2, 3, 4, 5] [6] mixed xC xD xD ?_ | fail))
      rw [atO_hit hs (Prod.ext hx.1 hx.2) hn]
      exact J_ret1 rfl (by rfl) fun w H => ⟨_, ⟨rfl, rfl⟩, H.sel .nil⟩
    · (repeat' (first | ((with_reducible apply gL); (first | refine yL0 ?_ | refine yL ?_ | (refine yM ?_; intro _) | fail)) | ((with_reducible apply gD); (first | (refine JD_nil ?_; try simp only [List.cons_append, List.nil_append]) | (refine JD_bar ?_; try simp only [List.cons_append, List.nil_append]) | refine yD ?_ | fail)) | refine yJ ?_ | ((with_reducible apply gJ_if); (first | (refine J_if xR ?_ ?_ <;> intro _ <;> (try (exfalso; first | contradiction | omega))) | (refine J_ifb xR ?_ ?_ <;> (intro hgb; subst hgb)) | (refine J_ifb xR ?_ ?_ <;> intro _) | fail)) | refine J_draw (id := 4) [0, 1, 2, 3, 4, 5] [6] mixed xC xD xD ?_ | fail))
      refine J_again (k + 1) (by omega) ⟨hlt, ?_⟩ ⟨rfl, rfl, rfl, trivial⟩ (fun w H => H.sel xZ)
      rw [List.take_add_one, hs]
      intro y hy
      rcases List.mem_append.1 hy with hy | hy
      · exact hn y hy
      · obtain rfl := List.mem_singleton.1 hy
        exact fun e => hx ⟨by rw [e], by rw [e]⟩
  · obtain rfl : k = L.length := by omega
    rw [List.take_length] at hn
    (repeat' (first | ((with_reducible apply gL); (first | refine yL0 ?_ | refine yL ?_ | (refine yM ?_; intro _) | fail)) | ((with_reducible apply gD); (first | (refine JD_nil ?_; try simp only [List.cons_append, List.nil_append]) | (refine JD_bar ?_; try simp only [List.cons_append, List.nil_append]) | refine yD ?_ | fail)) | refine yJ ?_ | ((with_reducible apply gJ_if); (first | (refine J_if xR ?_ ?_ <;> intro _ <;> (try (exfalso; first | contradiction | omega))) | (refine J_ifb xR ?_ ?_ <;> (intro hgb; subst hgb)) | (refine J_ifb xR ?_ ?_ <;> intro _) | fail)) | refine J_draw (id := 4) [0, 1, 2, 3, 4, 5] [6] mixed xC xD xD ?_ | fail))
    rw [atO_miss hn]
    exact J_ret1 rfl (by rfl) fun w H => ⟨_, ⟨rfl, rfl⟩, H.sel .nil⟩
def dropO (L : List Ro) (p : Pf) : List Ro := L.filter fun r => decide (r.p ≠ p)
theorem vL_drop (L : List Ro) (p : Pf) : vL (dropO L p) = dropV (vL L) p := by
  unfold vL dropO dropV
  rw [List.filter_map]
  rfl
theorem dropO_len (L : List Ro) (p : Pf) : (dropO L p).length ≤ L.length := List.length_filter_le _ _
structure Lr where
  k : Nat
  ad : Option Addr
  cc : Nat
theorem rfdrop_s (a : Option Addr) (c n : Nat) (L : List Ro) (hn : L.length = n) (p : Pf) (hl : n ≤ 1000000) : Pact Tryz.prog 84 #[.slice a n c, .agg (pfC p).toArray] (fun w => Vw w (.slice a n c) 16 n (flat roC L)) [] (fun u L' => ∃ (a' : Option Addr) (c' : Nat), u = .slice a' (dropO L p).length c' ∧ L' = [Ar 108 16 roC (.slice a' (dropO L p).length c') (dropO L p)]) := by
  subst hn
  refine pact Tryz.func84 rfl Tryz.ntmps84 rfl ?_
  intro W K hK
  (repeat' (first | ((with_reducible apply gL); (first | refine yL0 ?_ | refine yL ?_ | (refine yM ?_; intro _) | (refine yA ?_; intro _ _ _ _) | fail)) | ((with_reducible apply gD); (first | (refine JD_nil ?_; try simp only [List.cons_append, List.nil_append]) | (refine JD_bar ?_; try simp only [List.cons_append, List.nil_append]) | refine yD ?_ | fail)) | refine yJ ?_ | ((with_reducible apply gJ_if); (first | (refine J_if xR ?_ ?_ <;> intro _ <;> (try (exfalso; first | contradiction | omega))) | (refine J_ifb xR ?_ ?_ <;> (intro hgb; subst hgb)) | (refine J_ifb xR ?_ ?_ <;> intro _) | fail)) | refine J_draw (id := 5) [0, 1, 2, 3, 4, 5] [6] mixed xC xD xD ?_ | fail))
  rename_i g g0
  refine J_loop (α := Lr) ⟨0, some ⟨g0, 0, none⟩, 0⟩ (fun x => L.length - x.k) (fun x => x.k ≤ L.length) (fun x => [(0, .slice a L.length c), (3, .pointer (some ⟨g, 0, none⟩)), (5, .slice x.ad (dropO (L.take x.k) p).length x.cc), (6, .int .i64 x.k)]) (fun x => [pts g (pfC p) 41, Ar 108 16 roC (.slice x.ad (dropO (L.take x.k) p).length x.cc) (dropO (L.take x.k) p)]) (Nat.zero_le _) ⟨rfl, rfl, rfl, rfl, trivial⟩ (fun w H => (H.arLit0 xA).sel xZ) ?_
  rintro ⟨k, ad, cc⟩ hk
  dsimp only at hk ⊢
  have hb := dropO_len (L.take k) p
  rw [List.length_take] at hb
  by_cases hlt : k < L.length
  · obtain ⟨x, hs⟩ : ∃ x, L[k]? = some x := ⟨_, List.getElem?_eq_getElem hlt⟩
    have hsn : dropO (L.take (k + 1)) p = dropO (L.take k) p ++ (if x.p = p then [] else [x]) := by
      rw [List.take_add_one, hs]
      unfold dropO
      rw [List.filter_append]
      by_cases hw : x.p = p <;> simp [hw]
    by_cases hw : x.p.1 = p.1 ∧ x.p.2 = p.2
    · rw [if_pos (Prod.ext hw.1 hw.2), List.append_nil] at hsn
      (repeat' (first | ((with_reducible apply gL); (first | refine yL0 ?_ | refine yL ?_ | (refine yM ?_; intro _) | (refine yA ?_; intro _ _ _ _) | fail)) | ((with_reducible apply gD); (first | (refine JD_nil ?_; try simp only [List.cons_append, List.nil_append]) | (refine JD_bar ?_; try simp only [List.cons_append, List.nil_append]) | refine yD ?_ | fail)) | refine yJ ?_ | ((with_reducible apply gJ_if); (first | (refine J_if xR ?_ ?_ <;> intro _ <;> (try (exfalso; first | contradiction | omega))) | (refine J_ifb xR ?_ ?_ <;> (intro hgb; subst hgb)) | (refine J_ifb xR ?_ ?_ <;> intro _) | fail)) | refine J_draw (id := 5) [0, 1, 2, 3, 4, 5] [6] mixed xC xD xD ?_ | fail))
      refine J_again ⟨k + 1, ad, cc⟩ (by dsimp only; omega) (by dsimp only; omega) ⟨rfl, rfl, ?_, rfl, trivial⟩ (fun w H => ?_)
      · show some _ = some _
        rw [hsn]
      · dsimp only
        rw [hsn]
        exact H.sel xZ
    · rw [if_neg (fun e => hw ⟨by rw [e], by rw [e]⟩)] at hsn
      (repeat' (first | ((with_reducible apply gL); (first | refine yL0 ?_ | ((with_reducible apply gL_c_append); (first | (refine JL_ap1 (z := x) (tabE etab_ok xR) xR xR xA xA xC xR xL xR (by omega) xR xR ?_; intro ad2 c2 _ _) | fail)) | refine yL ?_ | (refine yM ?_; intro _) | (refine yA ?_; intro _ _ _ _) | fail)) | ((with_reducible apply gD); (first | (refine JD_nil ?_; try simp only [List.cons_append, List.nil_append]) | (refine JD_bar ?_; try simp only [List.cons_append, List.nil_append]) | refine yD ?_ | fail)) | refine yJ ?_ | ((with_reducible apply gJ_if); (first | (refine J_if xR ?_ ?_ <;> intro _ <;> (try (exfalso; first | contradiction | omega))) | (refine J_ifb xR ?_ ?_ <;> (intro hgb; subst hgb)) | (refine J_ifb xR ?_ ?_ <;> intro _) | fail)) | refine J_draw (id := 5) [0, 1, 2, 3, 4, 5] [6] mixed xC xD xD ?_ | fail))
      refine J_again ⟨k + 1, ad2, c2⟩ (by dsimp only; omega) (by dsimp only; omega) ⟨rfl, rfl, ?_, rfl, trivial⟩ (fun w H => ?_)
      · show some _ = some _
        rw [hsn]
        simp
      · dsimp only
        rw [hsn, List.length_append]
        exact H.sel xZ
  · obtain rfl : k = L.length := by omega
    rw [List.take_length]
    (repeat' (first | ((with_reducible apply gL); (first | refine yL0 ?_ | refine yL ?_ | (refine yM ?_; intro _) | (refine yA ?_; intro _ _ _ _) | fail)) | ((with_reducible apply gD); (first | (refine JD_nil ?_; try simp only [List.cons_append, List.nil_append]) | (refine JD_bar ?_; try simp only [List.cons_append, List.nil_append]) | refine yD ?_ | fail)) | refine yJ ?_ | ((with_reducible apply gJ_if); (first | (refine J_if xR ?_ ?_ <;> intro _ <;> (try (exfalso; first | contradiction | omega))) | (refine J_ifb xR ?_ ?_ <;> (intro hgb; subst hgb)) | (refine J_ifb xR ?_ ?_ <;> intro _) | fail)) | refine J_draw (id := 5) [0, 1, 2, 3, 4, 5] [6] mixed xC xD xD ?_ | fail))
    exact J_ret1 rfl (by rfl) fun w H => ⟨_, ⟨ad, cc, rfl, rfl⟩, H.sel xZ⟩
def insO : List Ro → Ro → List Ro
  | [], r => [r]
  | x :: l, r => if Ah x.p r.p then x :: insO l r else r :: x :: l
theorem vL_ins : ∀ (L : List Ro) (r : Ro), vL (insO L r) = insV (vL L) r.v
  | [], _ => rfl
  | x :: l, r => by
    show vL (if Ah x.p r.p then x :: insO l r else r :: x :: l) = if Ah x.p r.p then x.v :: insV (vL l) r.v else r.v :: x.v :: vL l
    split
    · rw [← vL_ins l r]
      rfl
    · rfl
theorem insO_at : ∀ {L : List Ro} {r : Ro} {k : Nat}, (∀ x ∈ L.take k, Ah x.p r.p) → k ≤ L.length → (∀ e, L[k]? = some e → ¬ Ah e.p r.p) → insO L r = L.take k ++ [r] ++ L.drop k
  | [], r, k, _, _, _ => by simp [insO]
  | x :: l, r, 0, _, _, h => by
    have h1 := h x (by simp)
    unfold insO
    rw [if_neg h1]
    rfl
  | x :: l, r, k + 1, hn, hk, h => by
    have h1 : Ah x.p r.p := hn x (by simp)
    unfold insO
    rw [if_pos h1, insO_at (k := k) (fun y hy => hn y (by simp [hy])) (by simpa using hk) (fun e he => h e (by simpa using he))]
    rfl
def putO (L : List Ro) (r : Ro) : List Ro := insO (dropO L r.p) r
theorem vL_put (L : List Ro) (r : Ro) : vL (putO L r) = putV (vL L) r.v := by
  unfold putO putV
  rw [vL_ins, vL_drop]
  rfl
theorem insO_len : ∀ (L : List Ro) (r : Ro), (insO L r).length = L.length + 1
  | [], _ => rfl
  | x :: l, r => by
    unfold insO
    split
    · rw [List.length_cons, insO_len l r]
      rfl
    · rfl
theorem rahead_b (p q : Pf) (b : Bool) (hb : decide (Ah p q) = b) : Pact Tryz.prog 114 #[.agg (pfC p).toArray, .agg (pfC q).toArray] (fun _ => True) [] (ret0 (.bool b)) := hb ▸ T.rahead_s p q
theorem rfput_s (a : Option Addr) (c n : Nat) (L : List Ro) (hn : L.length = n) (r : Ro) (hl : n ≤ 100000) : Pact Tryz.prog 86 #[.slice a n c, .agg (roC r).toArray] (fun w => Vw w (.slice a n c) 16 n (flat roC L)) [] (fun u L' => ∃ (a' : Option Addr) (c' : Nat), u = .slice a' (putO L r).length c' ∧ L' = [Ar 108 16 roC (.slice a' (putO L r).length c') (putO L r)]) := by
  subst hn
  refine pact Tryz.func86 rfl Tryz.ntmps86 rfl ?_
  intro W K hK
  have kd := rfdrop_s a c L.length L rfl r.p (by omega)
  have hdl := dropO_len L r.p
  unfold putO
  (repeat' (first | ((with_reducible apply gL); (first | refine yL0 ?_ | refine yL ?_ | ((with_reducible apply gL_go); (first | (refine JL_goq (kd) (hφ := (by (try simp only [List.cons_append, List.nil_append]); exact fun w hr => hK w hr.1)) (h := ?_); rintro _ _ ⟨a0, c0, rfl, rfl⟩; try simp only [List.cons_append, List.nil_append]) | fail)) | (refine yM ?_; intro _) | fail)) | ((with_reducible apply gD); (first | (refine JD_nil ?_; try simp only [List.cons_append, List.nil_append]) | (refine JD_bar ?_; try simp only [List.cons_append, List.nil_append]) | refine yD0 ?_ | refine yD ?_ | ((with_reducible apply gD_go); (first | (refine JD_goq (kd) (hφ := (by (try simp only [List.cons_append, List.nil_append]); exact fun w hr => hK w hr.1)) (h := ?_); rintro _ _ ⟨a0, c0, rfl, rfl⟩; try simp only [List.cons_append, List.nil_append]) | fail)) | (refine yE ?_; intro _) | (refine yB ?_; intro _ _ _ _) | ((with_reducible apply gD_gd); (first | (refine JD_guard xR xR ?_ ?_ <;> intro _ <;> (try (exfalso; first | contradiction | omega))) | (refine JD_guardb xR xR ?_ ?_ <;> (intro hgb; subst hgb)) | (refine JD_guardb xR xR ?_ ?_ <;> (intro hgb; fail_if_success (have : type_of% hgb := rfl))) | fail)) | fail)) | refine yJ ?_ | ((with_reducible apply gJ_if); (first | (refine J_if xR ?_ ?_ <;> intro _ <;> (try (exfalso; first | contradiction | omega))) | (refine J_ifb xR ?_ ?_ <;> (intro hgb; subst hgb)) | (refine J_ifb xR ?_ ?_ <;> intro _) | fail)) | refine J_draw (id := 3) [0, 1, 2, 3, 4, 5, 6, 7, 8, 9, 10, 11] [12, 13] mixed xC xD xD ?_ | refine J_draw (id := 5) [1, 2, 3, 5, 8, 9, 10, 0, 4, 6, 7] [11, 12] mixed xC xD xD ?_ | fail))
  rename_i g
  generalize dropO L r.p = l at *
  refine J_loop (α := Nat) 0 (fun k => l.length - k) (fun k => k ≤ l.length ∧ ∀ x ∈ l.take k, Ah x.p r.p) (fun k => [(0, .slice a0 l.length c0), (3, .pointer (some ⟨g, 0, none⟩)), (5, .int .i64 k)]) (fun _ => [pts g (roC r) 108, Ar 108 16 roC (.slice a0 l.length c0) l]) ⟨Nat.zero_le _, by simp⟩ ⟨rfl, rfl, rfl, trivial⟩ (fun w H => H.sel xZ) ?_
  rintro k ⟨hk, hn⟩
  refine J_fact (φ := l.length ≤ c0 ∧ c0 ≤ maxLen) (fun w H => (H.arShape xA).2) ?_
  rintro ⟨hnc, hcm⟩
  unfold maxLen at hcm
  by_cases hlt : k < l.length
  · obtain ⟨x, hs⟩ : ∃ x, l[k]? = some x := ⟨_, List.getElem?_eq_getElem hlt⟩
    by_cases hA : Ah x.p r.p
    · (repeat' (first | ((with_reducible apply gL); (first | refine yL0 ?_ | refine yL ?_ | ((with_reducible apply gL_go); (first | (refine JL_goq (rahead_b x.p r.p true (decide_eq_true hA)) (hφ := xF) (h := ?_); rintro _ _ ⟨rfl, rfl⟩; try simp only [List.cons_append, List.nil_append]) | fail)) | (refine yM ?_; intro _) | fail)) | ((with_reducible apply gD); (first | (refine JD_nil ?_; try simp only [List.cons_append, List.nil_append]) | (refine JD_bar ?_; try simp only [List.cons_append, List.nil_append]) | refine yD0 ?_ | refine yD ?_ | ((with_reducible apply gD_go); (first | (refine JD_goq (rahead_b x.p r.p true (decide_eq_true hA)) (hφ := xF) (h := ?_); rintro _ _ ⟨rfl, rfl⟩; try simp only [List.cons_append, List.nil_append]) | fail)) | (refine yE ?_; intro _) | (refine yB ?_; intro _ _ _ _) | ((with_reducible apply gD_gd); (first | (refine JD_guard xR xR ?_ ?_ <;> intro _ <;> (try (exfalso; first | contradiction | omega))) | (refine JD_guardb xR xR ?_ ?_ <;> (intro hgb; subst hgb)) | (refine JD_guardb xR xR ?_ ?_ <;> (intro hgb; fail_if_success (have : type_of% hgb := rfl))) | fail)) | fail)) | refine yJ ?_ | ((with_reducible apply gJ_if); (first | (refine J_if xR ?_ ?_ <;> intro _ <;> (try (exfalso; first | contradiction | omega))) | (refine J_ifb xR ?_ ?_ <;> (intro hgb; subst hgb)) | (refine J_ifb xR ?_ ?_ <;> intro _) | fail)) | refine J_draw (id := 3) [0, 1, 2, 3, 4, 5, 6, 7, 8, 9, 10, 11] [12, 13] mixed xC xD xD ?_ | refine J_draw (id := 5) [1, 2, 3, 5, 8, 9, 10, 0, 4, 6, 7] [11, 12] mixed xC xD xD ?_ | fail))
      refine J_again (k + 1) (by omega) ⟨hlt, ?_⟩ ⟨rfl, rfl, rfl, trivial⟩ (fun w H => H.sel xZ)
      rw [List.take_add_one, hs]
      intro y hy
      rcases List.mem_append.1 hy with hy | hy
      · exact hn y hy
      · obtain rfl := List.mem_singleton.1 hy
        exact hA
    · have hE := insO_at hn hk fun e he => by rw [hs] at he; cases he; exact hA
      (repeat' (first | ((with_reducible apply gL); (first | refine yL0 ?_ | refine yL ?_ | ((with_reducible apply gL_go); (first | (refine JL_goq (rahead_b x.p r.p false (decide_eq_false hA)) (hφ := xF) (h := ?_); rintro _ _ ⟨rfl, rfl⟩; try simp only [List.cons_append, List.nil_append]) | fail)) | (refine yM ?_; intro _) | fail)) | ((with_reducible apply gD); (first | (refine JD_nil ?_; try simp only [List.cons_append, List.nil_append]) | (refine JD_bar ?_; try simp only [List.cons_append, List.nil_append]) | refine yD0 ?_ | ((with_reducible apply gD_c_append); (first | (first | (refine JD_appL roC (fs := l.take k) (tabE etab_ok xR) xR xR xA (Src.take (a := a0) (c := c0) (enc := roC) (es := l) (Src.ar xA) (fun _ => rfl) rfl k (by omega)) xC xL xU (by omega) xR ?_; intro ad1 c1 _ _) | (refine JD_ap1 (z := r) (tabE etab_ok xR) xR xR xA xA xC xR xL xR (by simp only [List.length_take]; omega) xR ?_; intro ad2 c2 _ _) | (refine JD_app (fs := l.drop k) (tabE etab_ok xR) xR xR xA (Src.drop (a := a0) (c := c0) (enc := roC) (es := l) (Src.ar xA) (fun _ => rfl) rfl k _ (by omega) rfl) xC xL xU (by simp only [List.length_append, List.length_take, List.length_cons, List.length_nil]; omega) xR ?_; intro ad3 c3 _ _)) | fail)) | refine yD ?_ | ((with_reducible apply gD_go); (first | (refine JD_goq (rahead_b x.p r.p false (decide_eq_false hA)) (hφ := xF) (h := ?_); rintro _ _ ⟨rfl, rfl⟩; try simp only [List.cons_append, List.nil_append]) | fail)) | (refine yE ?_; intro _) | (refine yB ?_; intro _ _ _ _) | ((with_reducible apply gD_gd); (first | (refine JD_guard xR xR ?_ ?_ <;> intro _ <;> (try (exfalso; first | contradiction | omega))) | (refine JD_guardb xR xR ?_ ?_ <;> (intro hgb; subst hgb)) | (refine JD_guardb xR xR ?_ ?_ <;> (intro hgb; fail_if_success (have : type_of% hgb := rfl))) | fail)) | fail)) | refine yJ ?_ | ((with_reducible apply gJ_if); (first | (refine J_if xR ?_ ?_ <;> intro _ <;> (try (exfalso; first | contradiction | omega))) | (refine J_ifb xR ?_ ?_ <;> (intro hgb; subst hgb)) | (refine J_ifb xR ?_ ?_ <;> intro _) | fail)) | refine J_draw (id := 3) [0, 1, 2, 3, 4, 5, 6, 7, 8, 9, 10, 11] [12, 13] mixed xC xD xD ?_ | refine J_draw (id := 5) [1, 2, 3, 5, 8, 9, 10, 0, 4, 6, 7] [11, 12] mixed xC xD xD ?_ | fail))
      have hlen : (l.take k ++ [r] ++ l.drop k).length = (l.take k ++ [r]).length + (l.length - k) := by rw [List.length_append, List.length_drop]
      rw [hE, hlen]
      exact J_ret1 rfl (by rfl) fun w H => ⟨_, ⟨ad3, c3, rfl, rfl⟩, H.sel xZ⟩
  · obtain rfl : k = l.length := by omega
    have hE := insO_at hn hk fun e he => by simp at he
    (repeat' (first | ((with_reducible apply gL); (first | refine yL0 ?_ | refine yL ?_ | (refine yM ?_; intro _) | fail)) | ((with_reducible apply gD); (first | (refine JD_nil ?_; try simp only [List.cons_append, List.nil_append]) | (refine JD_bar ?_; try simp only [List.cons_append, List.nil_append]) | refine yD0 ?_ | ((with_reducible apply gD_c_append); (first | (first | (refine JD_appL roC (fs := l.take l.length) (tabE etab_ok xR) xR xR xA (Src.take (a := a0) (c := c0) (enc := roC) (es := l) (Src.ar xA) (fun _ => rfl) rfl l.length (by omega)) xC xL xU (by omega) xR ?_; intro ad1 c1 _ _) | (refine JD_ap1 (z := r) (tabE etab_ok xR) xR xR xA xA xC xR xL xR (by simp only [List.length_take]; omega) xR ?_; intro ad2 c2 _ _) | (refine JD_app (fs := l.drop l.length) (tabE etab_ok xR) xR xR xA (Src.drop (a := a0) (c := c0) (enc := roC) (es := l) (Src.ar xA) (fun _ => rfl) rfl l.length _ (by omega) rfl) xC xL xU (by simp only [List.length_append, List.length_take, List.length_cons, List.length_nil]; omega) xR ?_; intro ad3 c3 _ _)) | fail)) | refine yD ?_ | (refine yE ?_; intro _) | (refine yB ?_; intro _ _ _ _) | ((with_reducible apply gD_gd); (first | (refine JD_guard xR xR ?_ ?_ <;> intro _ <;> (try (exfalso; first | contradiction | omega))) | (refine JD_guardb xR xR ?_ ?_ <;> (intro hgb; subst hgb)) | (refine JD_guardb xR xR ?_ ?_ <;> (intro hgb; fail_if_success (have : type_of% hgb := rfl))) | fail)) | fail)) | refine yJ ?_ | ((with_reducible apply gJ_if); (first | (refine J_if xR ?_ ?_ <;> intro _ <;> (try (exfalso; first | contradiction | omega))) | (refine J_ifb xR ?_ ?_ <;> (intro hgb; subst hgb)) | (refine J_ifb xR ?_ ?_ <;> intro _) | fail)) | refine J_draw (id := 3) [0, 1, 2, 3, 4, 5, 6, 7, 8, 9, 10, 11] [12, 13] mixed xC xD xD ?_ | refine J_draw (id := 5) [1, 2, 3, 5, 8, 9, 10, 0, 4, 6, 7] [11, 12] mixed xC xD xD ?_ | fail))
    have hlen : (l.take l.length ++ [r] ++ l.drop l.length).length = (l.take l.length ++ [r]).length + (l.length - l.length) := by rw [List.length_append, List.length_drop]
    rw [hE, hlen]
    exact J_ret1 rfl (by rfl) fun w H => ⟨_, ⟨ad3, c3, rfl, rfl⟩, H.sel xZ⟩
end Go.Proofs.YtnhabkipjmgaaaaGreat
