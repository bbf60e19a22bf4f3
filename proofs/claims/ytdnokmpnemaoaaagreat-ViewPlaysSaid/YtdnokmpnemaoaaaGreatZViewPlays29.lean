/-
  Vp3, Vp4, Vp5: merged.
-/
import Derived.Test.YtdnokmpnemaoaaaGreatZViewPlays28
namespace Go.Proofs.YtdnokmpnemaoaaaGreat
set_option linter.unusedSimpArgs false
set_option linter.unusedVariables false
open Go.RowKit Go.Pm

open T (Pf PfN Rt Ah pfC)
abbrev Rq := Pf × Qv
def gq : List Rq → Pf → Option Qv
  | [], _ => none
  | r :: l, q => if r.1 = q then some r.2 else gq l q
def SrQ (l : List Rq) : Prop := l.Pairwise fun x y => Ah x.1 y.1
def insQ : List Rq → Rq → List Rq
  | [], r => [r]
  | x :: l, r => if Ah x.1 r.1 then x :: insQ l r else r :: x :: l
theorem gq_none {l : List Rq} {q : Pf} : gq l q = none ↔ ∀ r ∈ l, r.1 ≠ q := by
  induction l with
  | nil => simp [gq]
  | cons x l ih =>
    unfold gq
    by_cases h : x.1 = q
    · simp [h]
    · rw [if_neg h, ih]
      simp [h]
theorem gq_mem {l : List Rq} (h : SrQ l) {q : Pf} {v : Qv} : gq l q = some v ↔ (q, v) ∈ l := by
  induction l with
  | nil => simp [gq]
  | cons x l ih =>
    obtain ⟨h1, h2⟩ := List.pairwise_cons.1 h
    unfold gq
    by_cases e : x.1 = q
    · rw [if_pos e]
      constructor
      · intro hv
        obtain rfl := Option.some.inj hv
        rw [← e]
        exact List.mem_cons_self
      · intro hm
        rcases List.mem_cons.1 hm with rfl | hm
        · rfl
        · have := h1 _ hm
          rw [e] at this
          exact absurd this T.Ah.irrefl
    · rw [if_neg e, ih h2]
      constructor
      · exact fun hm => List.mem_cons_of_mem _ hm
      · intro hm
        rcases List.mem_cons.1 hm with rfl | hm
        · exact absurd rfl e
        · exact hm
theorem gq_ins (l : List Rq) (r : Rq) (q : Pf) : gq (insQ l r) q = if q = r.1 then some r.2 else gq l q := by
  induction l with
  | nil =>
    unfold insQ gq gq
    by_cases h : r.1 = q
    · rw [if_pos h, if_pos h.symm]
    · rw [if_neg h, if_neg (fun k => h k.symm)]
  | cons x l ih =>
    unfold insQ
    by_cases h : Ah x.1 r.1
    · rw [if_pos h]
      unfold gq
      rw [ih]
      by_cases hx : x.1 = q
      · rw [if_pos hx, if_pos hx, if_neg (fun k => T.Ah.irrefl (hx ▸ k ▸ h))]
      · rw [if_neg hx, if_neg hx]
    · rw [if_neg h]
      show (if r.1 = q then _ else _) = _
      by_cases hr : r.1 = q
      · rw [if_pos hr, if_pos hr.symm]
      · rw [if_neg hr, if_neg (fun k => hr k.symm)]
theorem mem_insQ {l : List Rq} {r x : Rq} : x ∈ insQ l r ↔ x = r ∨ x ∈ l := by
  induction l with
  | nil => simp [insQ]
  | cons y l ih =>
    unfold insQ
    split
    · rw [List.mem_cons, ih, List.mem_cons]
      constructor
      · rintro (h | h | h) <;> simp [h]
      · rintro (h | h | h) <;> simp [h]
    · simp
theorem srq_ins {l : List Rq} {r : Rq} (h : SrQ l) (hn : ∀ x ∈ l, x.1 ≠ r.1) : SrQ (insQ l r) := by
  induction l with
  | nil => exact List.pairwise_singleton _ _
  | cons x l ih =>
    obtain ⟨h1, h2⟩ := List.pairwise_cons.1 h
    unfold insQ
    by_cases hA : Ah x.1 r.1
    · rw [if_pos hA]
      refine List.pairwise_cons.2 ⟨fun y hy => ?_, ih h2 fun z hz => hn z (List.mem_cons_of_mem _ hz)⟩
      rcases mem_insQ.1 hy with rfl | hy
      · exact hA
      · exact h1 y hy
    · rw [if_neg hA]
      have hr : Ah r.1 x.1 := T.Ah.total hA (hn x List.mem_cons_self)
      refine List.pairwise_cons.2 ⟨fun y hy => ?_, h⟩
      rcases List.mem_cons.1 hy with rfl | hy
      · exact hr
      · exact hr.trans (h1 y hy)
theorem srq_ext : ∀ {l m : List Rq}, SrQ l → SrQ m → (∀ q, gq l q = gq m q) → l = m
  | [], [], _, _, _ => rfl
  | [], y :: m, _, _, h => by
    have := h y.1
    unfold gq at this
    rw [if_pos rfl] at this
    cases this
  | x :: l, [], _, _, h => by
    have := h x.1
    unfold gq at this
    rw [if_pos rfl] at this
    cases this
  | x :: l, y :: m, hl, hm, h => by
    obtain ⟨a1, a2⟩ := List.pairwise_cons.1 hl
    obtain ⟨b1, b2⟩ := List.pairwise_cons.1 hm
    have e : x.1 = y.1 := Decidable.byContradiction fun hne => by
      have h1 := h x.1
      have h2 := h y.1
      unfold gq at h1 h2
      rw [if_pos rfl, if_neg (fun k => hne k.symm)] at h1
      rw [if_pos rfl, if_neg hne] at h2
      have k1 := b1 _ ((gq_mem b2).1 h1.symm)
      have k2 := a1 _ ((gq_mem a2).1 h2)
      exact T.Ah.asymm k1 k2
    have e2 : x = y := by
      have h1 := h x.1
      unfold gq at h1
      rw [if_pos rfl, if_pos e.symm] at h1
      exact Prod.ext e (Option.some.inj h1)
    subst e2
    rw [srq_ext a2 b2 fun q => ?_]
    by_cases hq : x.1 = q
    · rw [gq_none.2 fun r hr k => ?_, gq_none.2 fun r hr k => ?_]
      · have := b1 r hr
        rw [k, hq] at this
        exact T.Ah.irrefl this
      · have := a1 r hr
        rw [k, hq] at this
        exact T.Ah.irrefl this
    · have := h q
      unfold gq at this
      rwa [if_neg hq, if_neg hq] at this
def vwQ (E : List T.Ent) (S : List En) : List Rq := E.map fun e => (e.1, entV S e.2)
theorem vwQ_srt {E : List T.Ent} (h : T.Srt E) (S : List En) : SrQ (vwQ E S) := List.pairwise_map.2 h
theorem vwQ_len (E : List T.Ent) (S : List En) : (vwQ E S).length = E.length := List.length_map _
theorem gq_vwQ (E : List T.Ent) (S : List En) (q : Pf) : gq (vwQ E S) q = lkV E S q := by
  unfold vwQ lkV
  induction E with
  | nil => rfl
  | cons e E ih =>
    show (if e.1 = q then some _ else _) = _
    by_cases h : e.1 = q
    · rw [if_pos h, T.getL_cons_eq h]
      rfl
    · rw [if_neg h, T.getL_cons_ne h]
      exact ih
/-! What is handed out. -/
theorem old_set {E : List T.Ent} (h : T.Srt E) {p q : Pf} {x : T.Vt} (hq : q ≠ p) : T.oldV (T.setE E p x) q = T.oldV E q := by
  unfold T.oldV
  rw [getL_set h, if_neg hq]
theorem old_mem {E : List T.Ent} (h : T.Srt E) {e : T.Ent} (he : e ∈ E) : T.oldV E e.1 = e.2 := by
  unfold T.oldV
  rw [(T.getL_mem h).2 he]
  rfl
theorem thoseL_flt {E : List T.Ent} (hE : T.Srt E) {s : List T.Ent → List T.Ent} {q : T.Vt → Bool} (hs : ∀ (pre : List T.Ent) (p : Pf), (∀ e ∈ pre, e.1 ≠ p) → T.oldV (s pre) p = T.oldV E p) : ∀ (F pre : List T.Ent), (∀ e ∈ F, e ∈ E) → F.Pairwise (fun a b => a.1 ≠ b.1) → (∀ e ∈ pre, ∀ f ∈ F, e.1 ≠ f.1) → thoseL s q (F.map (·.1)) pre = pre ++ F.filter fun e => q e.2
  | [], pre, _, _, _ => by simp [thoseL]
  | e :: F, pre, hF, hd, hp => by
    obtain ⟨d1, d2⟩ := List.pairwise_cons.1 hd
    have ho : T.oldV (s pre) e.1 = e.2 := by
      rw [hs pre e.1 fun f hf => hp f hf e (by simp)]
      exact old_mem hE (hF e (by simp))
    show (if q (T.oldV (s pre) e.1) then thoseL s q (F.map (·.1)) (pre ++ [(e.1, T.oldV (s pre) e.1)]) else thoseL s q (F.map (·.1)) pre) = _
    rw [ho]
    by_cases hq : q e.2 = true
    · rw [if_pos hq, List.filter_cons_of_pos (p := fun e : T.Ent => q e.2) hq, thoseL_flt hE hs F (pre ++ [(e.1, e.2)]) (fun f hf => hF f (by simp [hf])) d2 (fun a ha f hf => by
        rcases List.mem_append.1 ha with ha | ha
        · exact hp a ha f (by simp [hf])
        · obtain rfl := List.mem_singleton.1 ha
          exact d1 f hf)]
      rw [List.append_assoc]
      rfl
    · rw [if_neg hq, List.filter_cons_of_neg (p := fun e : T.Ent => q e.2) hq]
      exact thoseL_flt hE hs F pre (fun f hf => hF f (by simp [hf])) d2 (fun a ha f hf => hp a ha f (by simp [hf]))
theorem srt_nd {E : List T.Ent} (h : T.Srt E) : E.Pairwise fun a b => a.1 ≠ b.1 := h.imp fun {a b} k e => by rw [e] at k; exact T.Ah.irrefl k
theorem old_tk : ∀ (pre : List T.Ent) (σ : Vs) (p : Pf), T.Srt σ.E → (∀ e ∈ pre, e.1 ≠ p) → T.oldV (tkE σ pre) p = T.oldV σ.E p
  | [], _, _, _, _ => rfl
  | e :: pre, σ, p, h, hp => by
    show T.oldV (tkE (tkStep σ e) pre) p = _
    rw [old_tk pre (tkStep σ e) p (srt_set h) fun f hf => hp f (by simp [hf])]
    exact old_set h fun k => hp e (by simp) k.symm
theorem old_sF (f : T.Ent → T.Vt) : ∀ (pre E : List T.Ent) (p : Pf), T.Srt E → (∀ e ∈ pre, e.1 ≠ p) → T.oldV (sF f E pre) p = T.oldV E p
  | [], _, _, _, _ => rfl
  | e :: pre, E, p, h, hp => by
    show T.oldV (sF f (T.setE E e.1 (f e)) pre) p = _
    rw [old_sF f pre _ p (srt_set h) fun f hf => hp f (by simp [hf])]
    exact old_set h fun k => hp e (by simp) k.symm
theorem those_all {E : List T.Ent} (hE : T.Srt E) {s : List T.Ent → List T.Ent} {q : T.Vt → Bool} (hs : ∀ (pre : List T.Ent) (p : Pf), (∀ e ∈ pre, e.1 ≠ p) → T.oldV (s pre) p = T.oldV E p) : thoseL s q (T.keysE E) [] = E.filter fun e => q e.2 :=
  thoseL_flt hE hs E [] (fun _ h => h) (srt_nd hE) (fun _ h => absurd h List.not_mem_nil)
theorem take_pre {σ : Vs} (hE : T.Srt σ.E) {n : Nat} {pre : List T.Ent} (h : TakeOk σ n pre) : pre = (σ.E.filter fun e => lateE e.2).take n := by
  have hs : ∀ (pre : List T.Ent) (p : Pf), (∀ e ∈ pre, e.1 ≠ p) → T.oldV (tkE σ pre) p = T.oldV σ.E p := fun pre p hp => old_tk pre σ p hE hp
  rcases h with ⟨h1, h2⟩ | ⟨⟨k, h1⟩, h2⟩
  · rw [those_all hE hs] at h1
    rw [h1] at h2
    rw [h1, List.take_of_length_le (by omega)]
  · have hk : (T.keysE σ.E).take k = (σ.E.take k).map (·.1) := by
      show (σ.E.map _).take k = _
      rw [List.map_take]
    rw [hk, thoseL_flt hE hs (σ.E.take k) [] (fun e he => List.take_subset _ _ he) ((srt_nd hE).sublist (List.take_sublist _ _)) (fun _ h => absurd h List.not_mem_nil), List.nil_append] at h1
    have h3 : (σ.E.filter fun e => lateE e.2) = pre ++ (σ.E.drop k).filter fun e => lateE e.2 := by
      rw [h1, ← List.filter_append, List.take_append_drop]
    rw [h3, List.take_left' (by omega)]
theorem whatB_eq {E : List T.Ent} {S : List En} (h : Rl E S) (hE : T.Srt E) {B c : Int} (hs : StOk B S c) {e : T.Ent} (he : e ∈ E) : whatB S e.2.1 = decide (e.2.1 ≠ 0) ∧ whatB S e.2.2.1 = decide (e.2.2.1 ≠ 0) := by
  have hg := (T.getL_mem hE).2 he
  have key : ∀ id : Int, (id ≠ 0 → 0 < cntF S id) → whatB S id = decide (id ≠ 0) := fun id hi => by
    unfold whatB
    by_cases h0 : id = 0
    · rw [if_pos h0, decide_eq_false (fun k => k h0)]
    · rw [if_neg h0, decide_eq_true h0]
      obtain ⟨a, ha⟩ := (cntF_pos hs).1 (hi h0)
      unfold getE
      rw [ha]
      rfl
  exact ⟨key _ fun k => (h.w hE hg k).2, key _ fun k => (h.s hE hg k).2⟩
theorem tks_rel : ∀ (pre : List T.Ent) (B : Int) (σ : Vs), Rl σ.E σ.S → T.Srt σ.E → StOk B σ.S σ.c → 0 ≤ B → B + pre.length < 4096 → pre.Pairwise (fun a b => a.1 ≠ b.1) → (∀ e ∈ pre, e ∈ σ.E) → Rl (tkF σ pre).E (tkF σ pre).S ∧ (∀ q, lkV (tkF σ pre).E (tkF σ pre).S q = if q ∈ pre.map (·.1) then (lkV σ.E σ.S q).bind tkQ else lkV σ.E σ.S q) ∧ chL σ pre = pre.map fun e => (e.1, (entV σ.S e.2).x, (entV σ.S e.2).w)
  | [], _, _, h, _, _, _, _, _, _ => ⟨h, fun q => by simp [tkF], rfl⟩
  | e :: pre, B, σ, h, hE, hs, hB0, hB, hd, hm => by
    simp only [List.length_cons] at hB
    obtain ⟨d1, d2⟩ := List.pairwise_cons.1 hd
    have he := hm e (by simp)
    have hg : T.getL σ.E e.1 = some e.2 := (T.getL_mem hE).2 he
    obtain ⟨r1, r2⟩ := op_take h hE hs hB0 (by omega) hg
    have hE2 : T.Srt (tkStep σ e).E := srt_set hE
    have hgn : ∀ f ∈ pre, T.getL (tkStep σ e).E f.1 = some f.2 := fun f hf => by
      show T.getL (T.setE σ.E e.1 _) f.1 = _
      rw [getL_set hE, if_neg (fun k => d1 f hf k.symm)]
      exact (T.getL_mem hE).2 (hm f (by simp [hf]))
    have hent : ∀ f ∈ pre, entV (tkStep σ e).S f.2 = entV σ.S f.2 := fun f hf => by
      have k := r2 f.1
      rw [if_neg (fun k => d1 f hf k.symm)] at k
      unfold lkV at k
      rw [hgn f hf, (T.getL_mem hE).2 (hm f (by simp [hf]))] at k
      exact Option.some.inj k
    obtain ⟨r3, r4, r5⟩ := tks_rel pre (B + 1) (tkStep σ e) r1 hE2 (tkStep_ok hs hB0) (by omega) (by omega) d2 (fun f hf => (T.getL_mem hE2).1 (hgn f hf))
    refine ⟨r3, fun q => ?_, ?_⟩
    · show lkV (tkF (tkStep σ e) pre).E (tkF (tkStep σ e) pre).S q = _
      rw [r4 q, r2 q]
      by_cases h1 : q ∈ pre.map (·.1)
      · have hne : q ≠ e.1 := fun k => by
          obtain ⟨f, hf, hfq⟩ := List.mem_map.1 h1
          exact d1 f hf (hfq.trans k).symm
        rw [if_pos h1, if_neg hne, if_pos (by simp only [List.map_cons, List.mem_cons]; exact .inr h1)]
      · rw [if_neg h1]
        by_cases h2 : q = e.1
        · rw [if_pos h2, if_pos (by simp only [List.map_cons, List.mem_cons]; exact .inl h2), h2]
          unfold lkV
          rw [hg]
          rfl
        · rw [if_neg h2, if_neg (fun k => by
            simp only [List.map_cons, List.mem_cons] at k
            exact k.elim h2 h1)]
    · show (e.1, whatX σ.S e.2.1, whatB σ.S e.2.1) :: chL (tkStep σ e) pre = _
      rw [r5, (whatB_eq h hE hs he).1, List.map_cons]
      rw [List.map_congr_left (g := fun e : T.Ent => (e.1, (entV σ.S e.2).x, (entV σ.S e.2).w)) fun f hf => by rw [hent f hf]]
      rfl
theorem ags_rel : ∀ (pre E : List T.Ent) (S : List En), Rl E S → T.Srt E → pre.Pairwise (fun a b => a.1 ≠ b.1) → (∀ e ∈ pre, e ∈ E ∧ e.2.1 ≠ 0) → Rl (agE E pre) S ∧ ∀ q, lkV (agE E pre) S q = if q ∈ pre.map (·.1) then (lkV E S q).map (fun o => ⟨true, o.s, true, o.x, o.y⟩) else lkV E S q
  | [], _, _, h, _, _, _ => ⟨h, fun q => by simp [agE, sF]⟩
  | e :: pre, E, S, h, hE, hd, hm => by
    obtain ⟨d1, d2⟩ := List.pairwise_cons.1 hd
    have he := hm e (by simp)
    have hg : T.getL E e.1 = some e.2 := (T.getL_mem hE).2 he.1
    obtain ⟨r1, r2⟩ := op_again h hE hg he.2
    have hE2 : T.Srt (T.setE E e.1 (e.2.1, e.2.2.1, true)) := srt_set hE
    obtain ⟨r3, r4⟩ := ags_rel pre _ S r1 hE2 d2 (fun f hf => ⟨(T.getL_mem hE2).1 (by
      rw [getL_set hE, if_neg (fun k => d1 f hf k.symm)]
      exact (T.getL_mem hE).2 (hm f (by simp [hf])).1), (hm f (by simp [hf])).2⟩)
    refine ⟨r3, fun q => ?_⟩
    show lkV (agE (T.setE E e.1 (e.2.1, e.2.2.1, true)) pre) S q = _
    rw [r4 q, r2 q]
    by_cases h1 : q ∈ pre.map (·.1)
    · have hne : q ≠ e.1 := fun k => by
        obtain ⟨f, hf, hfq⟩ := List.mem_map.1 h1
        exact d1 f hf (hfq.trans k).symm
      rw [if_pos h1, if_neg hne, if_pos (by simp only [List.map_cons, List.mem_cons]; exact .inr h1)]
    · rw [if_neg h1]
      by_cases h2 : q = e.1
      · rw [if_pos h2, if_pos (by simp only [List.map_cons, List.mem_cons]; exact .inl h2), h2]
        unfold lkV
        rw [hg]
        rfl
      · rw [if_neg h2, if_neg (fun k => by
          simp only [List.map_cons, List.mem_cons] at k
          exact k.elim h2 h1)]
theorem rss_rel {B c : Int} : ∀ (pre E : List T.Ent) (S : List En), Rl E S → T.Srt E → StOk B S c → pre.Pairwise (fun a b => a.1 ≠ b.1) → (∀ e ∈ pre, e ∈ E) → Rl (rsE E pre) (rsS S pre) ∧ ∀ q, lkV (rsE E pre) (rsS S pre) q = if q ∈ pre.map (·.1) then none else lkV E S q
  | [], _, _, h, _, _, _, _ => ⟨h, fun q => by simp [rsE, sF, rsS]⟩
  | e :: pre, E, S, h, hE, hs, hd, hm => by
    obtain ⟨d1, d2⟩ := List.pairwise_cons.1 hd
    have hg : T.getL E e.1 = some e.2 := (T.getL_mem hE).2 (hm e (by simp))
    obtain ⟨r1, r2⟩ := op_reset h hE hs hg
    have hE2 : T.Srt (T.setE E e.1 T.zV) := srt_set hE
    obtain ⟨r3, r4⟩ := rss_rel pre _ _ r1 hE2 (frF_ok (frF_ok hs)) d2 (fun f hf => (T.getL_mem hE2).1 (by
      rw [getL_set hE, if_neg (fun k => d1 f hf k.symm)]
      exact (T.getL_mem hE).2 (hm f (by simp [hf]))))
    refine ⟨r3, fun q => ?_⟩
    show lkV (rsE (T.setE E e.1 T.zV) pre) (rsS (frF (frF S e.2.1) e.2.2.1) pre) q = _
    rw [r4 q, r2 q]
    by_cases h1 : q ∈ pre.map (·.1)
    · rw [if_pos h1, if_pos (by simp only [List.map_cons, List.mem_cons]; exact .inr h1)]
    · rw [if_neg h1]
      by_cases h2 : q = e.1
      · rw [if_pos h2, if_pos (by simp only [List.map_cons, List.mem_cons]; exact .inl h2)]
      · rw [if_neg h2, if_neg (fun k => by
          simp only [List.map_cons, List.mem_cons] at k
          exact k.elim h2 h1)]
theorem rl_empty {E : List T.Ent} {S : List En} {B c : Int} (h : Rl E S) (hs : StOk B S c) (h0 : ∀ q, lkV E S q = none) : E = [] ∧ S = [] := by
  have hE : E = [] := List.eq_nil_iff_forall_not_mem.2 fun e he => by
    have h1 := h0 e.1
    unfold lkV at h1
    cases hg : T.getL E e.1 with
    | none => exact T.getL_none.1 hg e he rfl
    | some o => rw [hg] at h1; cases h1
  refine ⟨hE, List.eq_nil_iff_forall_not_mem.2 fun e he => ?_⟩
  have h1 := hs.ids e he
  have h2 := h.cnt e.id (by omega)
  rw [hE] at h2
  have h3 := (cntF_pos hs).2 ⟨e, fnd_mem hs he⟩
  have h4 : cU [] e.id = 0 := rfl
  omega
def dueQ (o : Qv) : Bool := (o.w != o.s) || (o.w && (o.a || !decide (o.x = o.y)))
theorem late_due {E : List T.Ent} {S : List En} {B c : Int} (h : Rl E S) (hE : T.Srt E) (hs : StOk B S c) {e : T.Ent} (he : e ∈ E) : lateE e.2 = dueQ (entV S e.2) := by
  obtain ⟨p, v⟩ := e
  obtain ⟨e1, e2, e3, e4⟩ := h.e _ he
  have hg : T.getL E p = some v := (T.getL_mem hE).2 he
  obtain ⟨w, s, a⟩ := v
  dsimp only at e1 e2 e3 e4
  unfold lateE dueQ entV
  dsimp only
  by_cases hws : w = s
  · subst hws
    by_cases h0 : w = 0
    · subst h0
      rcases a with _ | _
      · exact absurd rfl e3
      · exact absurd rfl (e4 rfl)
    · simp [h0]
  · have hl : (decide (w ≠ s) || a) = true := by simp [hws]
    rw [hl]
    by_cases hw : w = 0
    · subst hw
      have : s ≠ 0 := fun k => hws k.symm
      simp [this]
    · by_cases hsz : s = 0
      · subst hsz
        simp [hw]
      · have k1 := h.w hE hg hw
        have k2 := h.s hE hg hsz
        have hne : ¬ whatX S w = whatX S s := fun k => by
          unfold whatX at k
          rw [if_neg hw, if_neg hsz] at k
          exact hws (getX_inj hs k1.2 k2.2 k)
        simp [hw, hsz, hne]
end Go.Proofs.YtdnokmpnemaoaaaGreat
namespace Go.Proofs.YtdnokmpnemaoaaaGreat
set_option linter.unusedSimpArgs false
set_option linter.unusedVariables false
set_option maxRecDepth 20000
set_option maxHeartbeats 4000000
open Go.RowKit Go.Pm

open T (Pf PfN Rt Ah pfC)
structure On where
  p : Pf
  w : Bool
  s : Bool
  a : Bool
  x : At
  y : At
def onC (o : On) : List Value := [.int .u32 o.p.1, .int .i64 o.p.2, .bool o.w, .bool o.s, .bool o.a, .int .i64 o.x.origin, .slice o.x.pa o.x.path.length o.x.pc, .int .u32 o.x.next, .bool o.x.hasMed, .int .u32 o.x.med, .bool o.x.hasLocal, .int .u32 o.x.loc, .bool o.x.atomic, .bool o.x.hasMaker, .int .u32 o.x.makerAS, .int .u32 o.x.maker, .slice o.x.ca o.x.comms.length o.x.cc, .slice o.x.oa o.x.others.length o.x.oc, .int .i64 o.y.origin, .slice o.y.pa o.y.path.length o.y.pc, .int .u32 o.y.next, .bool o.y.hasMed, .int .u32 o.y.med, .bool o.y.hasLocal, .int .u32 o.y.loc, .bool o.y.atomic, .bool o.y.hasMaker, .int .u32 o.y.makerAS, .int .u32 o.y.maker, .slice o.y.ca o.y.comms.length o.y.cc, .slice o.y.oa o.y.others.length o.y.oc]
def On.q (o : On) : Qv := ⟨o.w, o.s, o.a, o.x.nf, o.y.nf⟩
def On.v (o : On) : Rq := (o.p, o.q)
def vO (L : List On) : List Rq := L.map On.v
structure OnN (o : On) : Prop where
  p : PfN o.p
  t : Rt o.p
  x : AtF o.x
  y : AtF o.y
abbrev RvL (rb : Nat) (a : Option Addr) (c : Nat) (L : List On) : List HP := [pts rb [.slice a L.length c] 60, Ar 107 31 onC (.slice a L.length c) L, has (fun w => ∀ o ∈ L, AtV w o.x ∧ AtV w o.y)]
def atQ : List On → Pf → Option Nat
  | [], _ => none
  | r :: l, p => if r.p = p then some 0 else (atQ l p).map (· + 1)
def oI : Option Nat → Int
  | none => -1
  | some k => k
theorem atQ_hit : ∀ {L : List On} {p : Pf} {k : Nat} {r : On}, L[k]? = some r → r.p = p → (∀ x ∈ L.take k, x.p ≠ p) → atQ L p = some k
  | [], _, _, _, h, _, _ => by simp at h
  | x :: l, p, 0, r, h, hp, _ => by
    simp at h
    subst h
    unfold atQ
    rw [if_pos hp]
  | x :: l, p, k + 1, r, h, hp, hn => by
    unfold atQ
    rw [if_neg (hn x (by simp)), atQ_hit (k := k) (by simpa using h) hp fun y hy => hn y (by simp [hy])]
    rfl
theorem atQ_miss : ∀ {L : List On} {p : Pf}, (∀ x ∈ L, x.p ≠ p) → atQ L p = none
  | [], _, _ => rfl
  | x :: l, p, h => by
    unfold atQ
    rw [if_neg (h x (by simp)), atQ_miss fun y hy => h y (by simp [hy])]
    rfl
theorem atQ_none : ∀ {L : List On} {p : Pf}, atQ L p = none → gq (vO L) p = none
  | [], _, _ => rfl
  | x :: l, p, h => by
    unfold atQ at h
    show (if x.p = p then _ else _) = _
    split at h
    · cases h
    · rename_i hx
      rw [if_neg hx]
      refine atQ_none (L := l) ?_
      cases hl : atQ l p with
      | none => rfl
      | some k => rw [hl] at h; cases h
theorem atQ_some : ∀ {L : List On} {p : Pf} {k : Nat}, atQ L p = some k → ∃ r, L[k]? = some r ∧ r.p = p ∧ gq (vO L) p = some r.q
  | [], _, _, h => by cases h
  | x :: l, p, k, h => by
    unfold atQ at h
    split at h
    · rename_i hx
      cases h
      exact ⟨x, rfl, hx, by show (if x.p = p then _ else _) = _; rw [if_pos hx]; rfl⟩
    · rename_i hx
      cases hl : atQ l p with
      | none => rw [hl] at h; cases h
      | some j =>
        rw [hl] at h
        cases h
        obtain ⟨r, h1, h2, h3⟩ := atQ_some hl
        exact ⟨r, by simpa using h1, h2, by show (if x.p = p then _ else _) = _; rw [if_neg hx]; exact h3⟩
structure Lq4 where
  k : Nat
  ad : Option Addr
  cc : Nat
theorem take_on {L : List On} {k : Nat} {x : On} (h : L[k]? = some x) : L.take (k + 1) = L.take k ++ [x] := by rw [List.take_add_one, h]; rfl
section
variable (rb : Nat) (a : Option Addr) (c : Nat) (L : List On)
theorem rvat_s (p : Pf) (hl : L.length ≤ 100000) : Pact Tryz.prog 79 #[.pointer (some ⟨rb, 0, none⟩), .agg (pfC p).toArray] (fun _ => True) (RvL rb a c L) (fun u L' => u = .int .i64 (oI (atQ L p)) ∧ L' = RvL rb a c L) := by
  refine pact Tryz.func79 rfl Tryz.ntmps79 rfl ?_
  intro W K _
  (repeat' (first | ((with_reducible apply gL); (first | refine yL0 ?_ | refine yL ?_ | (refine yM ?_; intro _) | fail)) | ((with_reducible apply gD); (first | (refine JD_nil ?_; try simp only [List.cons_append, List.nil_append]) | (refine JD_bar ?_; try simp only [List.cons_append, List.nil_append]) | refine yD ?_ | fail)) | refine yJ ?_ | ((with_reducible apply gJ_if); (first | (refine J_if xR ?_ ?_ <;> intro _ <;> (try (exfalso; first | contradiction | omega))) | (refine J_ifb xR ?_ ?_ <;> (intro hgb; subst hgb)) | (refine J_ifb xR ?_ ?_ <;> intro _) | fail)) | refine J_draw (id := 4) [0, 1, 2, 3, 4, 5, 6, 7, 8] [9] mixed xC xD xD ?_ | fail))
  rename_i g
  refine J_loop (α := Nat) 0 (fun k => L.length - k) (fun k => k ≤ L.length ∧ ∀ x ∈ L.take k, x.p ≠ p) (fun k => [(0, .pointer (some ⟨rb, 0, none⟩)), (3, .pointer (some ⟨g, 0, none⟩)), (5, .int .i64 k)]) (fun _ => pts g (pfC p) 28 :: RvL rb a c L) ⟨Nat.zero_le _, by simp⟩ ⟨rfl, rfl, rfl, trivial⟩ (fun w H => H.sel xZ) ?_
  rintro k ⟨hk, hn⟩
  by_cases hlt : k < L.length
  · obtain ⟨x, hs⟩ : ∃ x, L[k]? = some x := ⟨_, List.getElem?_eq_getElem hlt⟩
    by_cases hx : x.p.1 = p.1 ∧ x.p.2 = p.2
    · (repeat' (first | ((with_reducible apply gL); (first | refine yL0 ?_ | refine yL ?_ | (refine yM ?_; intro _) | fail)) | ((with_reducible apply gD); (first | (refine JD_nil ?_; try simp only [List.cons_append, List.nil_append]) | (refine JD_bar ?_; try simp only [List.cons_append, List.nil_append]) | refine yD ?_ | fail)) | refine yJ ?_ | ((with_reducible apply gJ_if); (first | (refine J_if xR ?_ ?_ <;> intro _ <;> (try (exfalso; first | contradiction | omega))) | (refine J_ifb xR ?_ ?_ <;> (intro hgb; subst hgb)) | (refine J_ifb xR ?_ ?_ <;> intro _) | fail)) | refine J_draw (id := 4) [0, 1, 2, 3, 4, 5, 6, 7, 8] [9] mixed xC xD xD ?_ | fail))
      rw [atQ_hit hs (Prod.ext hx.1 hx.2) hn]
      exact J_ret1 rfl (by rfl) fun w H => ⟨_, ⟨rfl, rfl⟩, H.sel xZ⟩
    · (repeat' (first | ((with_reducible apply gL); (first | refine yL0 ?_ | refine yL ?_ | (refine yM ?_; intro _) | fail)) | ((with_reducible apply gD); (first | (refine JD_nil ?_; try simp only [List.cons_append, List.nil_append]) | (refine JD_bar ?_; try simp only [List.cons_append, List.nil_append]) | refine yD ?_ | fail)) | refine yJ ?_ | ((with_reducible apply gJ_if); (first | (refine J_if xR ?_ ?_ <;> intro _ <;> (try (exfalso; first | contradiction | omega))) | (refine J_ifb xR ?_ ?_ <;> (intro hgb; subst hgb)) | (refine J_ifb xR ?_ ?_ <;> intro _) | fail)) | refine J_draw (id := 4) [0, 1, 2, 3, 4, 5, 6, 7, 8] [9] mixed xC xD xD ?_ | fail))
      refine J_again (k + 1) (by omega) ⟨hlt, ?_⟩ ⟨rfl, rfl, rfl, trivial⟩ (fun w H => H.sel xZ)
      rw [take_on hs]
      intro y hy
      rcases List.mem_append.1 hy with hy | hy
      · exact hn y hy
      · obtain rfl := List.mem_singleton.1 hy
        exact fun e => hx ⟨by rw [e], by rw [e]⟩
  · obtain rfl : k = L.length := by omega
    rw [List.take_length] at hn
    (repeat' (first | ((with_reducible apply gL); (first | refine yL0 ?_ | refine yL ?_ | (refine yM ?_; intro _) | fail)) | ((with_reducible apply gD); (first | (refine JD_nil ?_; try simp only [List.cons_append, List.nil_append]) | (refine JD_bar ?_; try simp only [List.cons_append, List.nil_append]) | refine yD ?_ | fail)) | refine yJ ?_ | ((with_reducible apply gJ_if); (first | (refine J_if xR ?_ ?_ <;> intro _ <;> (try (exfalso; first | contradiction | omega))) | (refine J_ifb xR ?_ ?_ <;> (intro hgb; subst hgb)) | (refine J_ifb xR ?_ ?_ <;> intro _) | fail)) | refine J_draw (id := 4) [0, 1, 2, 3, 4, 5, 6, 7, 8] [9] mixed xC xD xD ?_ | fail))
    rw [atQ_miss hn]
    exact J_ret1 rfl (by rfl) fun w H => ⟨_, ⟨rfl, rfl⟩, H.sel xZ⟩
theorem rvdue_s (o : On) (ho : OnN o) : Pact Tryz.prog 74 #[.agg (onC o).toArray] (fun w => AtV w o.x ∧ AtV w o.y) [] (ret0 (.bool (dueQ o.q))) := by
  refine pact Tryz.func74 rfl Tryz.ntmps74 rfl ?_
  intro W K hK
  have ks := rsame_s o.x o.y ho.x ho.y
  obtain ⟨p, w, s, a, x, y⟩ := o
  obtain ⟨b, hb⟩ : ∃ b, dueQ (On.q ⟨p, w, s, a, x, y⟩) = b := ⟨_, rfl⟩
  rw [hb]
  unfold dueQ On.q at hb
  dsimp only at hb ks
  rcases hd : decide (x.nf = y.nf) with _ | _ <;> rw [hd] at hb ks <;> rcases w with _ | _ <;> rcases s with _ | _ <;> rcases a with _ | _ <;> simp at hb <;> subst hb
  all_goals (
    (repeat' (first | ((with_reducible apply gL); (first | refine yL0 ?_ | refine yL ?_ | ((with_reducible apply gL_go); (first | (refine JL_goq (ks) (hφ := (by (try simp only [List.cons_append, List.nil_append]); exact fun w hr => hK w hr.1)) (h := ?_); rintro _ _ ⟨rfl, rfl⟩; try simp only [List.cons_append, List.nil_append]) | fail)) | (refine yM ?_; intro _) | ((with_reducible apply gL_gd); (first | (refine JL_guard xR xR ?_ ?_ <;> intro _ <;> (try (exfalso; first | contradiction | omega))) | (refine JL_guardb xR xR ?_ ?_ <;> (intro hgb; subst hgb)) | (refine JL_guardb xR xR ?_ ?_ <;> (intro hgb; fail_if_success (have : type_of% hgb := rfl))) | fail)) | fail)) | refine yJ ?_ | fail))
    exact J_ret1 rfl (by rfl) fun w H => ⟨_, ⟨rfl, rfl⟩, H.sel .nil⟩)
def clO (L : List On) : List On := L.filter fun o => o.w || o.s
theorem clO_len (L : List On) : (clO L).length ≤ L.length := List.length_filter_le _ _
theorem rvclean_s (hl : L.length ≤ 100000) : Pact Tryz.prog 75 #[.pointer (some ⟨rb, 0, none⟩)] (fun _ => True) [pts rb [.slice a L.length c] 60, Ar 107 31 onC (.slice a L.length c) L] (fun _ L' => ∃ (a2 : Option Addr) (c2 : Nat), L' = [pts rb [.slice a2 (clO L).length c2] 60, Ar 107 31 onC (.slice a2 (clO L).length c2) (clO L)]) := by
  refine pact Tryz.func75 rfl Tryz.ntmps75 rfl ?_
  intro W K _
  (repeat' (first | ((with_reducible apply gL); (first | refine yL0 ?_ | refine yL ?_ | (refine yM ?_; intro _) | (refine yA ?_; intro _ _ _ _) | ((with_reducible apply gL_gd); (first | (refine JL_guard xR xR ?_ ?_ <;> intro _ <;> (try (exfalso; first | contradiction | omega))) | (refine JL_guardb xR xR ?_ ?_ <;> (intro hgb; subst hgb)) | (refine JL_guardb xR xR ?_ ?_ <;> (intro hgb; fail_if_success (have : type_of% hgb := rfl))) | fail)) | fail)) | refine yJ ?_ | ((with_reducible apply gJ_if); (first | (refine J_if xR ?_ ?_ <;> intro _ <;> (try (exfalso; first | contradiction | omega))) | (refine J_ifb xR ?_ ?_ <;> (intro hgb; subst hgb)) | (refine J_ifb xR ?_ ?_ <;> intro _) | fail)) | fail))
  rename_i g0
  refine J_loop (α := Lq4) ⟨0, some ⟨g0, 0, none⟩, 0⟩ (fun x => L.length - x.k) (fun x => x.k ≤ L.length) (fun x => [(0, .pointer (some ⟨rb, 0, none⟩)), (2, .slice x.ad (clO (L.take x.k)).length x.cc), (3, .int .i64 x.k)]) (fun x => Ar 107 31 onC (.slice x.ad (clO (L.take x.k)).length x.cc) (clO (L.take x.k)) :: [pts rb [.slice a L.length c] 60, Ar 107 31 onC (.slice a L.length c) L]) (Nat.zero_le _) ⟨rfl, rfl, rfl, trivial⟩ (fun w H => (Ow.arLit0 (sz := 31) (enc := onC) (b := g0) (T := 107) H xA).sel xZ) ?_
  rintro ⟨k, ad, cc⟩ hk
  dsimp only at hk ⊢
  have hb := clO_len (L.take k)
  rw [List.length_take] at hb
  by_cases hlt : k < L.length
  · obtain ⟨x, hx⟩ : ∃ x, L[k]? = some x := ⟨_, List.getElem?_eq_getElem hlt⟩
    have hsn : clO (L.take (k + 1)) = clO (L.take k) ++ (if (x.w || x.s) = true then [x] else []) := by
      rw [take_on hx]
      unfold clO
      rw [List.filter_append]
      cases h1 : x.w <;> cases h2 : x.s <;> simp [h1, h2]
    obtain ⟨xp, xw, xs, xa, xx, xy⟩ := x
    rcases xw with _ | _ <;> rcases xs with _ | _
    case false.false =>
      rw [if_neg (by simp), List.append_nil] at hsn
      (repeat' (first | ((with_reducible apply gL); (first | refine yL0 ?_ | refine yL ?_ | (refine yM ?_; intro _) | (refine yA ?_; intro _ _ _ _) | ((with_reducible apply gL_gd); (first | (refine JL_guard xR xR ?_ ?_ <;> intro _ <;> (try (exfalso; first | contradiction | omega))) | (refine JL_guardb xR xR ?_ ?_ <;> (intro hgb; subst hgb)) | (refine JL_guardb xR xR ?_ ?_ <;> (intro hgb; fail_if_success (have : type_of% hgb := rfl))) | fail)) | fail)) | refine yJ ?_ | ((with_reducible apply gJ_if); (first | (refine J_if xR ?_ ?_ <;> intro _ <;> (try (exfalso; first | contradiction | omega))) | (refine J_ifb xR ?_ ?_ <;> (intro hgb; subst hgb)) | (refine J_ifb xR ?_ ?_ <;> intro _) | fail)) | fail))
      refine J_again ⟨k + 1, ad, cc⟩ (by dsimp only; omega) (by dsimp only; omega) ⟨rfl, ?_, rfl, trivial⟩ (fun w H => ?_)
      · show some _ = some _
        rw [hsn]
      · dsimp only
        rw [hsn]
        exact H.sel xZ
    all_goals (
      replace hsn : clO (L.take (k + 1)) = clO (L.take k) ++ [⟨xp, _, _, xa, xx, xy⟩] := hsn
      (repeat' (first | ((with_reducible apply gL); (first | refine yL0 ?_ | ((with_reducible apply gL_c_append); (first | (refine JL_ap1 (z := (⟨xp, _, _, xa, xx, xy⟩ : On)) (tabE etab_ok xR) xR xR xA xA xC xR xL xR (by omega) xR xR ?_; intro ad2 c2 _ _) | fail)) | refine yL ?_ | (refine yM ?_; intro _) | (refine yA ?_; intro _ _ _ _) | ((with_reducible apply gL_gd); (first | (refine JL_guard xR xR ?_ ?_ <;> intro _ <;> (try (exfalso; first | contradiction | omega))) | (refine JL_guardb xR xR ?_ ?_ <;> (intro hgb; subst hgb)) | (refine JL_guardb xR xR ?_ ?_ <;> (intro hgb; fail_if_success (have : type_of% hgb := rfl))) | fail)) | fail)) | refine yJ ?_ | ((with_reducible apply gJ_if); (first | (refine J_if xR ?_ ?_ <;> intro _ <;> (try (exfalso; first | contradiction | omega))) | (refine J_ifb xR ?_ ?_ <;> (intro hgb; subst hgb)) | (refine J_ifb xR ?_ ?_ <;> intro _) | fail)) | fail))
      refine J_again ⟨k + 1, ad2, c2⟩ (by dsimp only; omega) (by dsimp only; omega) ⟨rfl, ?_, rfl, trivial⟩ (fun w H => ?_)
      · show some _ = some _
        rw [hsn, List.length_append]
        rfl
      · dsimp only
        rw [hsn, List.length_append]
        exact H.sel xZ)
  · obtain rfl : k = L.length := by omega
    rw [List.take_length]
    (repeat' (first | ((with_reducible apply gL); (first | refine yL0 ?_ | refine yL ?_ | (refine yM ?_; intro _) | (refine yA ?_; intro _ _ _ _) | ((with_reducible apply gL_gd); (first | (refine JL_guard xR xR ?_ ?_ <;> intro _ <;> (try (exfalso; first | contradiction | omega))) | (refine JL_guardb xR xR ?_ ?_ <;> (intro hgb; subst hgb)) | (refine JL_guardb xR xR ?_ ?_ <;> (intro hgb; fail_if_success (have : type_of% hgb := rfl))) | fail)) | fail)) | refine yJ ?_ | ((with_reducible apply gJ_if); (first | (refine J_if xR ?_ ?_ <;> intro _ <;> (try (exfalso; first | contradiction | omega))) | (refine J_ifb xR ?_ ?_ <;> (intro hgb; subst hgb)) | (refine J_ifb xR ?_ ?_ <;> intro _) | fail)) | fail))
    exact J_end0 rfl fun w H => ⟨_, ⟨ad, cc, rfl⟩, H.sel xZ⟩
end
end Go.Proofs.YtdnokmpnemaoaaaGreat
namespace Go.Proofs.YtdnokmpnemaoaaaGreat
set_option linter.unusedSimpArgs false
set_option linter.unusedVariables false
set_option maxRecDepth 20000
set_option maxHeartbeats 4000000
open Go.RowKit Go.Pm

open T (Pf PfN Rt Ah pfC)
section
variable {P : Program} {n : Nat} {W : World} {K : Hl} {F : Fp} {k : List It} {tm : TM} {L L' R S M M' : List HP} {T : TypeId} {pos : String} {af : Array Edge} {gd : Option (Nat × Bool)} {ops : Array Oper} {rest nx : List Oper} {d : Tmp} {t e : TypeId} {x y : Operand} {a : Option Addr} {m c sz j off : Nat} {v : Value} {α : Type} {enc : α → List Value} {es : List α} {z z' : α} {vs : List Value}
theorem JD_stEf (hx : evT tm x = some (.pointer (some (elA a j sz off)))) (hy : evT tm y = some v) (hm : Tk M (Ar e sz enc (.slice a m c) es) R) (hj : es[j]? = some z) (hv : cellsL v = vs) (hl : ∀ x, (enc x).length = sz) (hz : Nat.blt 0 sz = true) (ht : (P.info? t).map (·.size) = some vs.length) {cs : List Value} (hp : Put (enc z) off vs cs) (hq : enc z' = cs) (h1 : vs.all (·.oneCell') = true) (hg : wantF ops ⟨none, .store t x y, T, pos, af, gd⟩ (tget tm) = some true)
    (h : JD P n W K F ops k nx rest tm S (Ar e sz enc (.slice a m c) (es.set j z') :: R)) : JD P n W K F ops k nx (⟨none, .store t x y, T, pos, af, gd⟩ :: rest) tm S M :=
  JD_a0 rfl hg rfl (.cons hm .nil) (ae_stE hx hy hv hl hz hj ht (by rw [hq]; exact hp.eq.1) (by have := hp.eq.2; rw [hl] at this; exact this) h1) (by rintro _ _ ⟨rfl, rfl⟩; exact h)
end
section
variable {P : Program} {K : Hl} {L : List HP} {d : Option Tmp} {T : TypeId} {pos : String} {af : Array Edge} {gd : Option (Nat × Bool)} {tm : TM}
theorem pe_ixN {t : TypeId} {x i : Operand} {a : Option Addr} {n c j sz b' : Nat} {k : IntKind} {z : Int} {e : TypeId} (hn : ∃ b o, a = some ⟨b, o, none⟩) (hx : evT tm x = some (.slice a n c)) (hi : evT tm i = some (.int k z)) (ht : elemInfo P t = some (e, sz, b')) (hz : z = (j : Int)) (hj : j < n) : PE P K L ⟨d, .indexAddr t x i, T, pos, af, gd⟩ (tget tm) (.pointer (some (elA a j sz 0))) := fun ρ w ha hr => by
  have h1 := ha x (by simp [Op.operands]) _ hx
  have h2 := ha i (by simp [Op.operands]) _ hi
  obtain ⟨inf, hu, hin, hsz, _⟩ := elemInfo_spec ht
  subst hz
  obtain ⟨b, o, rfl⟩ := hn
  unfold execOp
  simp only [h1, h2]
  have h3 : (0 : Int) ≤ (j : Int) ∧ (j : Int) < (n : Int) := by omega
  simp [Instr.indexAt, Sem.run_bind, run_underlying hu, asIntOf, h3, hj, run_sz hin, hsz, elA]
end
def dueO (L : List On) : List On := L.filter fun o => dueQ o.q
theorem dueO_len (L : List On) : (dueO L).length ≤ L.length := List.length_filter_le _ _
theorem dueO_snoc {L : List On} {k : Nat} {x : On} (h : L[k]? = some x) : dueO (L.take (k + 1)) = dueO (L.take k) ++ (if dueQ x.q = true then [x] else []) := by
  rw [take_on h]
  unfold dueO
  rw [List.filter_append]
  cases h1 : dueQ x.q <;> simp [h1]
def mkF (f : On → On) (L : List On) (k : Nat) : List On := (L.take k).map f ++ L.drop k
theorem mkF_len (f : On → On) (L : List On) (k : Nat) : (mkF f L k).length = L.length := by
  unfold mkF
  rw [List.length_append, List.length_map, List.length_take, List.length_drop]
  omega
theorem mkF_at {f : On → On} {L : List On} {k : Nat} {x : On} (h : L[k]? = some x) : (mkF f L k)[k]? = some x ∧ (mkF f L k).set k (f x) = mkF f L (k + 1) ∧ (f x = x → mkF f L (k + 1) = mkF f L k) := by
  have hk := (List.getElem?_eq_some_iff.1 h).1
  have hx := (List.getElem?_eq_some_iff.1 h).2
  have hl : ((L.take k).map f).length = k := by rw [List.length_map, List.length_take]; omega
  have hd : L.drop k = x :: L.drop (k + 1) := by rw [← hx, List.getElem_cons_drop]
  unfold mkF
  refine ⟨?_, ?_, fun hf => ?_⟩
  · rw [List.getElem?_append_right (by omega), hl, Nat.sub_self, hd]
    rfl
  · rw [List.set_append_right _ _ (by omega), hl, Nat.sub_self, hd, take_on h, List.map_append]
    simp
  · rw [take_on h, List.map_append, hd]
    simp [hf]
section
variable (rb : Nat) (a : Option Addr) (c : Nat) (L : List On)
theorem rvDue_s (hL : ∀ o ∈ L, OnN o) (hl : L.length ≤ 100000) : Pact Tryz.prog 41 #[.pointer (some ⟨rb, 0, none⟩)] (fun _ => True) (RvL rb a c L) (fun u L' => u = .int .i64 (dueO L).length ∧ L' = RvL rb a c L) := by
  refine pact Tryz.func41 rfl Tryz.ntmps41 rfl ?_
  intro W K _
  (repeat' (first | ((with_reducible apply gL); (first | refine yL0 ?_ | refine yL ?_ | fail)) | refine yJ ?_ | ((with_reducible apply gJ_if); (first | (refine J_if xR ?_ ?_ <;> intro _ <;> (try (exfalso; first | contradiction | omega))) | (refine J_ifb xR ?_ ?_ <;> (intro hgb; subst hgb)) | (refine J_ifb xR ?_ ?_ <;> intro _) | fail)) | fail))
  refine J_loop (α := Nat) 0 (fun k => L.length - k) (fun k => k ≤ L.length) (fun k => [(0, .pointer (some ⟨rb, 0, none⟩)), (3, .int .i64 (dueO (L.take k)).length), (4, .int .i64 k)]) (fun _ => RvL rb a c L) (Nat.zero_le _) ⟨rfl, rfl, rfl, trivial⟩ (fun w H => H.sel xZ) ?_
  intro k hk
  have hb := dueO_len (L.take k)
  rw [List.length_take] at hb
  by_cases hlt : k < L.length
  · obtain ⟨x, hx⟩ : ∃ x, L[k]? = some x := ⟨_, List.getElem?_eq_getElem hlt⟩
    have hxm := List.mem_of_getElem? hx
    have hsn := dueO_snoc hx
    have kd := rvdue_s x (hL x hxm)
    rcases hst : dueQ x.q with _ | _
    · rw [hst, if_neg (by simp), List.append_nil] at hsn
      rw [hst] at kd
      (repeat' (first | ((with_reducible apply gL); (first | refine yL0 ?_ | refine yL ?_ | ((with_reducible apply gL_go); (first | (refine JL_goq (kd) (hφ := (by (try simp only [List.cons_append, List.nil_append]); exact fun w hr => hr.has (φ := fun w => ∀ o ∈ L, AtV w o.x ∧ AtV w o.y) xA x hxm)) (h := ?_); rintro _ _ ⟨rfl, rfl⟩; try simp only [List.cons_append, List.nil_append]) | fail)) | fail)) | refine yJ ?_ | ((with_reducible apply gJ_if); (first | (refine J_if xR ?_ ?_ <;> intro _ <;> (try (exfalso; first | contradiction | omega))) | (refine J_ifb xR ?_ ?_ <;> (intro hgb; subst hgb)) | (refine J_ifb xR ?_ ?_ <;> intro _) | fail)) | fail))
      refine J_again (k + 1) (by omega) (by omega) ⟨rfl, ?_, rfl, trivial⟩ (fun w H => H.sel xZ)
      show some _ = some _
      rw [hsn]
    · rw [hst, if_pos rfl] at hsn
      rw [hst] at kd
      (repeat' (first | ((with_reducible apply gL); (first | refine yL0 ?_ | refine yL ?_ | ((with_reducible apply gL_go); (first | (refine JL_goq (kd) (hφ := (by (try simp only [List.cons_append, List.nil_append]); exact fun w hr => hr.has (φ := fun w => ∀ o ∈ L, AtV w o.x ∧ AtV w o.y) xA x hxm)) (h := ?_); rintro _ _ ⟨rfl, rfl⟩; try simp only [List.cons_append, List.nil_append]) | fail)) | fail)) | refine yJ ?_ | ((with_reducible apply gJ_if); (first | (refine J_if xR ?_ ?_ <;> intro _ <;> (try (exfalso; first | contradiction | omega))) | (refine J_ifb xR ?_ ?_ <;> (intro hgb; subst hgb)) | (refine J_ifb xR ?_ ?_ <;> intro _) | fail)) | fail))
      refine J_again (k + 1) (by omega) (by omega) ⟨rfl, ?_, rfl, trivial⟩ (fun w H => H.sel xZ)
      show some _ = some _
      rw [hsn, List.length_append]
      rfl
  · obtain rfl : k = L.length := by omega
    rw [List.take_length]
    (repeat' (first | ((with_reducible apply gL); (first | refine yL0 ?_ | refine yL ?_ | fail)) | refine yJ ?_ | ((with_reducible apply gJ_if); (first | (refine J_if xR ?_ ?_ <;> intro _ <;> (try (exfalso; first | contradiction | omega))) | (refine J_ifb xR ?_ ?_ <;> (intro hgb; subst hgb)) | (refine J_ifb xR ?_ ?_ <;> intro _) | fail)) | fail))
    exact J_ret1 rfl (by rfl) fun w H => ⟨_, ⟨rfl, rfl⟩, H.sel xZ⟩
def wntO (L : List On) : List Pf := (L.filter fun o => o.w).map (·.p)
theorem wntO_len (L : List On) : (wntO L).length ≤ L.length := by unfold wntO; rw [List.length_map]; exact List.length_filter_le _ _
theorem rvAll_s (hl : L.length ≤ 100000) : Pact Tryz.prog 40 #[.pointer (some ⟨rb, 0, none⟩)] (fun _ => True) (RvL rb a c L) (fun u L' => ∃ (a2 : Option Addr) (c2 : Nat), u = .slice a2 (wntO L).length c2 ∧ L' = Ar 28 2 pfC (.slice a2 (wntO L).length c2) (wntO L) :: RvL rb a c L) := by
  refine pact Tryz.func40 rfl Tryz.ntmps40 rfl ?_
  intro W K _
  (repeat' (first | ((with_reducible apply gL); (first | refine yL0 ?_ | refine yL ?_ | (refine yM ?_; intro _) | (refine yA ?_; intro _ _ _ _) | fail)) | refine yJ ?_ | ((with_reducible apply gJ_if); (first | (refine J_if xR ?_ ?_ <;> intro _ <;> (try (exfalso; first | contradiction | omega))) | (refine J_ifb xR ?_ ?_ <;> (intro hgb; subst hgb)) | (refine J_ifb xR ?_ ?_ <;> intro _) | fail)) | fail))
  rename_i g0
  refine J_loop (α := Lq4) ⟨0, some ⟨g0, 0, none⟩, 0⟩ (fun x => L.length - x.k) (fun x => x.k ≤ L.length) (fun x => [(0, .pointer (some ⟨rb, 0, none⟩)), (3, .slice x.ad (wntO (L.take x.k)).length x.cc), (4, .int .i64 x.k)]) (fun x => Ar 28 2 pfC (.slice x.ad (wntO (L.take x.k)).length x.cc) (wntO (L.take x.k)) :: RvL rb a c L) (Nat.zero_le _) ⟨rfl, rfl, rfl, trivial⟩ (fun w H => (Ow.arLit0 (sz := 2) (enc := pfC) (b := g0) (T := 28) H xA).sel xZ) ?_
  rintro ⟨k, ad, cc⟩ hk
  dsimp only at hk ⊢
  have hb := wntO_len (L.take k)
  rw [List.length_take] at hb
  by_cases hlt : k < L.length
  · obtain ⟨x, hx⟩ : ∃ x, L[k]? = some x := ⟨_, List.getElem?_eq_getElem hlt⟩
    have hsn : wntO (L.take (k + 1)) = wntO (L.take k) ++ (if x.w = true then [x.p] else []) := by
      rw [take_on hx]
      unfold wntO
      rw [List.filter_append, List.map_append]
      cases h1 : x.w <;> simp [h1]
    obtain ⟨xp, xw, xs, xa, xx, xy⟩ := x
    rcases xw with _ | _
    · replace hsn : wntO (L.take (k + 1)) = wntO (L.take k) ++ [] := hsn
      rw [List.append_nil] at hsn
      (repeat' (first | ((with_reducible apply gL); (first | refine yL0 ?_ | refine yL ?_ | (refine yM ?_; intro _) | (refine yA ?_; intro _ _ _ _) | fail)) | refine yJ ?_ | ((with_reducible apply gJ_if); (first | (refine J_if xR ?_ ?_ <;> intro _ <;> (try (exfalso; first | contradiction | omega))) | (refine J_ifb xR ?_ ?_ <;> (intro hgb; subst hgb)) | (refine J_ifb xR ?_ ?_ <;> intro _) | fail)) | fail))
      refine J_again ⟨k + 1, ad, cc⟩ (by dsimp only; omega) (by dsimp only; omega) ⟨rfl, ?_, rfl, trivial⟩ (fun w H => ?_)
      · show some _ = some _
        rw [hsn]
      · dsimp only
        rw [hsn]
        exact H.sel xZ
    · replace hsn : wntO (L.take (k + 1)) = wntO (L.take k) ++ [xp] := hsn
      (repeat' (first | ((with_reducible apply gL); (first | refine yL0 ?_ | ((with_reducible apply gL_c_append); (first | (refine JL_ap1 (z := xp) (tabE etab_ok xR) xR xR xA xA xC xR xL xR (by omega) xR xR ?_; intro ad2 c2 _ _) | fail)) | refine yL ?_ | (refine yM ?_; intro _) | (refine yA ?_; intro _ _ _ _) | fail)) | refine yJ ?_ | ((with_reducible apply gJ_if); (first | (refine J_if xR ?_ ?_ <;> intro _ <;> (try (exfalso; first | contradiction | omega))) | (refine J_ifb xR ?_ ?_ <;> (intro hgb; subst hgb)) | (refine J_ifb xR ?_ ?_ <;> intro _) | fail)) | fail))
      refine J_again ⟨k + 1, ad2, c2⟩ (by dsimp only; omega) (by dsimp only; omega) ⟨rfl, ?_, rfl, trivial⟩ (fun w H => ?_)
      · show some _ = some _
        rw [hsn, List.length_append]
        rfl
      · dsimp only
        rw [hsn, List.length_append]
        exact H.sel xZ
  · obtain rfl : k = L.length := by omega
    rw [List.take_length]
    (repeat' (first | ((with_reducible apply gL); (first | refine yL0 ?_ | refine yL ?_ | (refine yM ?_; intro _) | (refine yA ?_; intro _ _ _ _) | fail)) | refine yJ ?_ | ((with_reducible apply gJ_if); (first | (refine J_if xR ?_ ?_ <;> intro _ <;> (try (exfalso; first | contradiction | omega))) | (refine J_ifb xR ?_ ?_ <;> (intro hgb; subst hgb)) | (refine J_ifb xR ?_ ?_ <;> intro _) | fail)) | fail))
    exact J_ret1 rfl (by rfl) fun w H => ⟨_, ⟨ad, cc, rfl, rfl⟩, H.sel xZ⟩
def agO (o : On) : On := ⟨o.p, o.w, o.s, o.w, o.x, o.y⟩
theorem rvAgain_s (hl : L.length ≤ 100000) : Pact Tryz.prog 38 #[.pointer (some ⟨rb, 0, none⟩)] (fun _ => True) (RvL rb a c L) (fun _ L' => L' = RvL rb a c (L.map agO)) := by
  refine pact Tryz.func38 rfl Tryz.ntmps38 rfl ?_
  intro W K _
  (repeat' (first | ((with_reducible apply gL); (first | refine yL0 ?_ | refine yL ?_ | fail)) | ((with_reducible apply gD); (first | (refine JD_nil ?_; try simp only [List.cons_append, List.nil_append]) | (refine JD_bar ?_; try simp only [List.cons_append, List.nil_append]) | refine yD ?_ | fail)) | refine yJ ?_ | ((with_reducible apply gJ_if); (first | (refine J_if xR ?_ ?_ <;> intro _ <;> (try (exfalso; first | contradiction | omega))) | (refine J_ifb xR ?_ ?_ <;> (intro hgb; subst hgb)) | (refine J_ifb xR ?_ ?_ <;> intro _) | fail)) | refine J_draw (id := 3) [0, 1, 2, 3, 4, 5, 6, 7, 8, 9, 10, 11, 12] [13, 14, 15] mixed xC xD xD ?_ | fail))
  refine J_loop (α := Nat) 0 (fun k => L.length - k) (fun k => k ≤ L.length) (fun k => [(0, .pointer (some ⟨rb, 0, none⟩)), (2, .int .i64 k)]) (fun k => [pts rb [.slice a L.length c] 60, Ar 107 31 onC (.slice a L.length c) (mkF agO L k), has (fun w => ∀ o ∈ L, AtV w o.x ∧ AtV w o.y)]) (Nat.zero_le _) ⟨rfl, rfl, trivial⟩ (fun w H => H.sel xZ) ?_
  intro k hk
  have hml := mkF_len agO L k
  by_cases hlt : k < L.length
  · obtain ⟨x, hx⟩ : ∃ x, L[k]? = some x := ⟨_, List.getElem?_eq_getElem hlt⟩
    obtain ⟨hm1, hm2, _⟩ := mkF_at (f := agO) hx
    (repeat' (first | ((with_reducible apply gL); (first | refine yL0 ?_ | refine yL ?_ | fail)) | ((with_reducible apply gD); (first | (refine JD_nil ?_; try simp only [List.cons_append, List.nil_append]) | (refine JD_bar ?_; try simp only [List.cons_append, List.nil_append]) | ((with_reducible apply gD_store); (first | (refine JD_stEf (z' := agO x) (by rfl) (by rfl) xA hm1 (by rfl) (by intro _; rfl) (by rfl) (by rfl) (by (first | ((repeat (first | exact Put.e | apply Put.t | apply Put.s)); done) | fail)) (by rfl) (by rfl) (by rfl) ?_) | fail)) | refine yD ?_ | fail)) | refine yJ ?_ | ((with_reducible apply gJ_if); (first | (refine J_if xR ?_ ?_ <;> intro _ <;> (try (exfalso; first | contradiction | omega))) | (refine J_ifb xR ?_ ?_ <;> (intro hgb; subst hgb)) | (refine J_ifb xR ?_ ?_ <;> intro _) | fail)) | refine J_draw (id := 3) [0, 1, 2, 3, 4, 5, 6, 7, 8, 9, 10, 11, 12, 13, 14] [15] mixed xC xD xD ?_ | fail))
    refine J_again (k + 1) (by omega) (by omega) ⟨rfl, rfl, trivial⟩ (fun w H => ?_)
    rw [hm2] at H
    exact H.sel xZ
  · obtain rfl : k = L.length := by omega
    have hE : mkF agO L L.length = L.map agO := by unfold mkF; rw [List.take_length, List.drop_length, List.append_nil]
    rw [hE]
    have hlen : (L.map agO).length = L.length := List.length_map _
    (repeat' (first | ((with_reducible apply gL); (first | refine yL0 ?_ | refine yL ?_ | fail)) | ((with_reducible apply gD); (first | (refine JD_nil ?_; try simp only [List.cons_append, List.nil_append]) | (refine JD_bar ?_; try simp only [List.cons_append, List.nil_append]) | refine yD ?_ | fail)) | refine yJ ?_ | ((with_reducible apply gJ_if); (first | (refine J_if xR ?_ ?_ <;> intro _ <;> (try (exfalso; first | contradiction | omega))) | (refine J_ifb xR ?_ ?_ <;> (intro hgb; subst hgb)) | (refine J_ifb xR ?_ ?_ <;> intro _) | fail)) | refine J_draw (id := 3) [0, 1, 2, 3, 4, 5, 6, 7, 8, 9, 10, 11, 12] [13, 14, 15] mixed xC xD xD ?_ | fail))
    refine J_end0 rfl fun w H => ⟨_, rfl, ?_⟩
    have H := (Ow.has (M := [has (fun w => ∀ o ∈ L, AtV w o.x ∧ AtV w o.y)]) (φ := fun w => ∀ o ∈ L.map agO, AtV w o.x ∧ AtV w o.y) H xZ (fun w hr r hm => by
      obtain ⟨x, hx, rfl⟩ := List.mem_map.1 hm
      exact hr.has (φ := fun w => ∀ o ∈ L, AtV w o.x ∧ AtV w o.y) .here x hx))
    unfold RvL
    rw [hlen]
    exact H.sel xZ
end
end Go.Proofs.YtdnokmpnemaoaaaGreat
