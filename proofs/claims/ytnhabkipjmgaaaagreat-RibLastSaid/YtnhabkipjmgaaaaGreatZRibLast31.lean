/-
  Rb23, Rb18, Rb21, Rb24, Rb25, Rb27: merged.
-/
import Derived.Test.YtnhabkipjmgaaaaGreatZRibLast30
namespace Go.Proofs.YtnhabkipjmgaaaaGreat
set_option linter.unusedSimpArgs false
set_option linter.unusedVariables false
set_option maxRecDepth 20000
set_option maxHeartbeats 4000000
open Go.RowKit Go.Pm

open T (Pf PfN Rt Ah pfC)
def pz (l i : Int) : Int := 2 ^ (i - l).toNat
theorem pz_0 (l : Int) : pz l l = 1 := by unfold pz; rw [Int.sub_self]; rfl
theorem pz_s (l i : Int) (h : l ≤ i) : pz l (i + 1) = 2 * pz l i := by
  unfold pz
  rw [show (i + 1 - l).toNat = (i - l).toNat + 1 by omega, Int.pow_succ]
  omega
theorem pz_b (l i : Int) (h : 0 ≤ l) (h2 : i ≤ 32) : 1 ≤ pz l i ∧ pz l i ≤ 4294967296 := by
  unfold pz
  have h0 : (0 : Int) < 2 ^ (i - l).toNat := Int.pow_pos (by omega)
  have : (2 : Int) ^ (i - l).toNat ≤ 2 ^ 32 := by
    have h1 : (2 : Nat) ^ (i - l).toNat ≤ 2 ^ 32 := Nat.pow_le_pow_right (by omega) (by omega)
    exact_mod_cast h1
  omega
theorem right_s (p : Pf) (hp : PfN p) : Pact Tryz.prog 20 #[.agg (pfC p).toArray] (fun _ => True) [] (ret0 (.bool (decide (Rt p)))) := by
  refine pact Tryz.func20 rfl Tryz.ntmps20 rfl ?_
  intro W K _
  obtain ⟨⟨a0, a1⟩, ⟨b0, b1⟩⟩ := hp
  by_cases hr : 0 ≤ p.2 ∧ p.2 ≤ 32
  · obtain ⟨h0, h1⟩ := hr
    (repeat' (first | ((with_reducible apply gL); (first | refine yL0 ?_ | refine yL ?_ | (refine yM ?_; intro _) | ((with_reducible apply gL_gd); (first | (refine JL_guard xR xR ?_ ?_ <;> intro _ <;> (try (exfalso; first | contradiction | omega))) | (refine JL_guardb xR xR ?_ ?_ <;> (intro hgb; subst hgb)) | (refine JL_guardb xR xR ?_ ?_ <;> (intro hgb; fail_if_success (have : type_of% hgb := rfl))) | fail)) | fail)) | refine yJ ?_ | ((with_reducible apply gJ_if); (first | (refine J_if xR ?_ ?_ <;> intro _ <;> (try (exfalso; first | contradiction | omega))) | (refine J_ifb xR ?_ ?_ <;> (intro hgb; subst hgb)) | (refine J_ifb xR ?_ ?_ <;> intro _) | fail)) | fail))
    all_goals (first | (exfalso; omega) | skip)
    rename_i pb hq0 hq1
    refine J_loop (α := Nat) 0 (fun x => (32 - p.2).toNat - x) (fun x => p.2 + x ≤ 32) (fun x => [(1, .pointer (some ⟨pb, 0, none⟩)), (3, .int .u64 (pz p.2 (p.2 + x))), (4, .int .i64 (p.2 + x))]) (fun _ => [pts pb (pfC p) 41]) (by omega) ⟨rfl, by rw [show p.2 + ((0 : Nat) : Int) = p.2 by omega, pz_0]; rfl, by rw [show p.2 + ((0 : Nat) : Int) = p.2 by omega]; rfl, trivial⟩ (fun w H => H.sel xZ) ?_
    intro x hx

    obtain ⟨i, hi⟩ : ∃ i, i = p.2 + (x : Int) := ⟨_, rfl⟩
    rw [← hi] at hx ⊢
    have hb := pz_b p.2 i h0 hx
    by_cases hlt : i < 32
    · have hs := pz_s p.2 i (by omega)
      (repeat' (first | ((with_reducible apply gL); (first | refine yL0 ?_ | refine yL ?_ | (refine yM ?_; intro _) | ((with_reducible apply gL_gd); (first | (refine JL_guard xR xR ?_ ?_ <;> intro _ <;> (try (exfalso; first | contradiction | omega))) | (refine JL_guardb xR xR ?_ ?_ <;> (intro hgb; subst hgb)) | (refine JL_guardb xR xR ?_ ?_ <;> (intro hgb; fail_if_success (have : type_of% hgb := rfl))) | fail)) | fail)) | refine yJ ?_ | ((with_reducible apply gJ_if); (first | (refine J_if xR ?_ ?_ <;> intro _ <;> (try (exfalso; first | contradiction | omega))) | (refine J_ifb xR ?_ ?_ <;> (intro hgb; subst hgb)) | (refine J_ifb xR ?_ ?_ <;> intro _) | fail)) | fail))
      refine J_again (x + 1) (by omega) (by omega) ⟨rfl, ?_, ?_, trivial⟩ (fun w H => H.sel xZ)
      · rw [show p.2 + ((x + 1 : Nat) : Int) = i + 1 by omega, hs]; rfl
      · rw [show p.2 + ((x + 1 : Nat) : Int) = i + 1 by omega]; rfl
    · obtain rfl : i = 32 := by omega
      have hw : pz p.2 32 = T.pw p.2 := rfl
      rw [hw] at hb ⊢
      (repeat' (first | ((with_reducible apply gL); (first | refine yL0 ?_ | refine yL ?_ | (refine yM ?_; intro _) | ((with_reducible apply gL_gd); (first | (refine JL_guard xR xR ?_ ?_ <;> intro _ <;> (try (exfalso; first | contradiction | omega))) | (refine JL_guardb xR xR ?_ ?_ <;> (intro hgb; subst hgb)) | (refine JL_guardb xR xR ?_ ?_ <;> (intro hgb; fail_if_success (have : type_of% hgb := rfl))) | fail)) | fail)) | refine yJ ?_ | ((with_reducible apply gJ_if); (first | (refine J_if xR ?_ ?_ <;> intro _ <;> (try (exfalso; first | contradiction | omega))) | (refine J_ifb xR ?_ ?_ <;> (intro hgb; subst hgb)) | (refine J_ifb xR ?_ ?_ <;> intro _) | fail)) | fail))
      have he : decide (p.1 % T.pw p.2 = 0) = decide (Rt p) := by
        rw [Bool.eq_iff_iff, decide_eq_true_eq, decide_eq_true_eq]
        exact ⟨fun h => ⟨h0, h1, h⟩, fun h => h.2.2⟩
      exact J_ret1 rfl (by rfl) fun w H => ⟨_, ⟨by rw [he], rfl⟩, H.sel .nil⟩
  · (repeat' (first | ((with_reducible apply gL); (first | refine yL0 ?_ | refine yL ?_ | (refine yM ?_; intro _) | ((with_reducible apply gL_gd); (first | (refine JL_guard xR xR ?_ ?_ <;> intro _ <;> (try (exfalso; first | contradiction | omega))) | (refine JL_guardb xR xR ?_ ?_ <;> (intro hgb; subst hgb)) | (refine JL_guardb xR xR ?_ ?_ <;> (intro hgb; fail_if_success (have : type_of% hgb := rfl))) | fail)) | fail)) | refine yJ ?_ | ((with_reducible apply gJ_if); (first | (refine J_if xR ?_ ?_ <;> intro _ <;> (try (exfalso; first | contradiction | omega))) | (refine J_ifb xR ?_ ?_ <;> (intro hgb; subst hgb)) | (refine J_ifb xR ?_ ?_ <;> intro _) | fail)) | fail))
    all_goals (first | (exfalso; omega) | skip)
    all_goals exact J_ret1 rfl (by rfl) fun w H => ⟨_, ⟨by rw [decide_eq_false (fun h : Rt p => hr ⟨h.1, h.2.1⟩)], rfl⟩, H.sel .nil⟩
end Go.Proofs.YtnhabkipjmgaaaaGreat
namespace Go.Proofs.YtnhabkipjmgaaaaGreat
set_option linter.unusedSimpArgs false
set_option linter.unusedVariables false
open Go.RowKit Go.Pm

open T (Pf PfN Rt Ah pfC)
/-- How often a number stands in the table. -/
def cI (E : List T.Ent) (j : Int) : Int := T.cntI (fun v => decide (v.1 = j)) E
/-- The store counts the routes, and the number x once more. -/
structure Rel (x : Int) (σ : Tb) : Prop where
  cnt : ∀ j, 0 < j → cntF σ.S j = cI σ.E j + if j = x then 1 else 0
  pos : ∀ e ∈ σ.E, 0 < e.2.1
/-- What a prefix has. -/
def lk (σ : Tb) (q : Pf) : Option (Nf × Bool) := (T.getL σ.E q).map fun o => (getX σ.S o.1, o.2)
theorem cI_in {E : List T.Ent} {q : Pf} {o : T.Vt} (h : T.Srt E) (hg : T.getL E q = some o) : 1 ≤ cI E o.1 := by
  show (1 : Int) ≤ ((E.filter fun e => decide (e.2.1 = o.1)).length : Nat)
  have hm : (q, o) ∈ E := (T.getL_mem h).1 hg
  have : (q, o) ∈ E.filter fun e => decide (e.2.1 = o.1) := List.mem_filter.2 ⟨hm, by simp⟩
  have := List.length_pos_of_mem this
  omega
theorem cI_nn (E : List T.Ent) (j : Int) : 0 ≤ cI E j := (T.cntI_le _ _).1
theorem Rel.there {x : Int} {σ : Tb} (h : Rel x σ) (hE : T.EOk σ.E) {q : Pf} {o : T.Vt} (hg : T.getL σ.E q = some o) : 0 < o.1 ∧ 0 < cntF σ.S o.1 := by
  have h1 := h.pos _ ((T.getL_mem hE.s).1 hg)
  dsimp only at h1
  have h2 := h.cnt o.1 h1
  have h3 := cI_in hE.s hg
  refine ⟨h1, ?_⟩
  split at h2 <;> omega
theorem zq {j : Int} (hj : 0 < j) : (fun v : T.Vt => decide (v.1 = j)) T.zV = false := decide_eq_false (by show ¬ (0 : Int) = j; omega)
theorem cI_drop {E : List T.Ent} {p : Pf} {o : T.Vt} (h : T.Srt E) (hg : T.getL E p = some o) {j : Int} (hj : 0 < j) : cI (T.dropL E p) j = cI E j - if j = o.1 then 1 else 0 := by
  unfold cI
  have ho : T.oldV E p = o := by unfold T.oldV; rw [hg]; rfl
  rw [T.cnt_drop (zq hj) h, ho]
  show _ - T.b2 (decide (o.1 = j)) = _
  unfold T.b2
  by_cases e : j = o.1
  · simp [e]
  · have : ¬ o.1 = j := fun h => e h.symm
    simp [e, this]
theorem drop_rel {B x : Int} {σ : Tb} {p : Pf} {o : T.Vt} (h : Rel x σ) (hE : T.EOk σ.E) (hs : StOk B σ.S σ.c) (hg : T.getL σ.E p = some o) : Rel x (dropStep σ p) ∧ ∀ q, lk (dropStep σ p) q = if q = p then none else lk σ q := by
  have ho : T.oldV σ.E p = o := by unfold T.oldV; rw [hg]; rfl
  have ht := h.there hE hg
  obtain ⟨f1, f2⟩ := free_v hs ht.2
  have hr : Rel x (dropStep σ p) := by
    refine ⟨fun j hj => ?_, fun e he => h.pos e (List.mem_filter.1 he).1⟩
    show cntF (freeF σ.S (T.oldV σ.E p).1).1 j = cI (T.dropL σ.E p) j + _
    rw [ho, f1, cI_drop hE.s hg hj, h.cnt j hj]
    omega
  refine ⟨hr, fun q => ?_⟩
  unfold lk
  show Option.map _ (T.getL (T.dropL σ.E p) q) = _
  have hgd := T.getL_drop (p := p) (r := q) hE.s
  rw [hgd]
  by_cases hq : q = p
  · rw [if_pos hq, if_pos hq]; rfl
  · rw [if_neg hq, if_neg hq]
    rw [if_neg hq] at hgd
    cases hgq : T.getL σ.E q with
    | none => rfl
    | some v =>
      rw [hgq] at hgd
      have h3 := (hr.there hE.drop hgd).2
      have h4 : (dropStep σ p).S = (freeF σ.S o.1).1 := by show (freeF σ.S (T.oldV σ.E p).1).1 = _; rw [ho]
      rw [h4] at h3
      show some (getX (dropStep σ p).S v.1, v.2) = some (getX σ.S v.1, v.2)
      rw [h4, f2 v.1 h3]
theorem drops_rel {B x : Int} : ∀ (ps : List Pf) (σ : Tb), Rel x σ → T.EOk σ.E → StOk B σ.S σ.c → ps.Pairwise (· ≠ ·) → (∀ p ∈ ps, (T.getL σ.E p).isSome = true) → Rel x (dropF σ ps) ∧ ∀ q, lk (dropF σ ps) q = if q ∈ ps then none else lk σ q
  | [], σ, h, _, _, _, _ => ⟨h, fun q => by rw [if_neg List.not_mem_nil]; rfl⟩
  | p :: ps, σ, h, hE, hs, hd, hp => by
    obtain ⟨d1, d2⟩ := List.pairwise_cons.1 hd
    obtain ⟨o, hg⟩ := Option.isSome_iff_exists.1 (hp p (by simp))
    obtain ⟨r1, r2⟩ := drop_rel h hE hs hg
    obtain ⟨r3, r4⟩ := drops_rel ps (dropStep σ p) r1 hE.drop (freeF_ok hs) d2 (fun q hq => by
      show (T.getL (T.dropL σ.E p) q).isSome = true
      rw [T.getL_drop hE.s, if_neg (fun e => d1 q hq e.symm)]
      exact hp q (by simp [hq]))
    refine ⟨r3, fun q => ?_⟩
    show lk (dropF (dropStep σ p) ps) q = _
    rw [r4, r2]
    by_cases h1 : q ∈ ps
    · simp [h1]
    · by_cases h2 : q = p <;> simp [h1, h2]
theorem cI_put {E : List T.Ent} {p : Pf} {v : T.Vt} (h : T.Srt E) {j : Int} (hj : 0 < j) : cI (T.putL E p v) j = cI E j - (if j = (T.oldV E p).1 then 1 else 0) + if j = v.1 then 1 else 0 := by
  unfold cI
  rw [T.cnt_put (zq hj) h]
  have e : ∀ z : Int, T.b2 (decide (z = j)) = if j = z then 1 else 0 := fun z => by
    unfold T.b2
    by_cases e : j = z
    · simp [e]
    · have : ¬ z = j := fun h => e h.symm
      simp [e, this]
  rw [e, e]
theorem put_rel {B x : Int} {X : Nf} {σ : Tb} {p : Pf} (h : Rel x σ) (hE : T.EOk σ.E) (hs : StOk B σ.S σ.c) (hB0 : 0 ≤ B) (hB : B < 4096) (hX : okN X = true) (hn : NfN X) (hr : Rt p) (hp : PfN p) : Rel x (putStep X σ p) ∧ (∀ q, lk (putStep X σ p) q = if q = p then some (X, false) else lk σ q) ∧ T.EOk (putStep X σ p).E := by
  obtain ⟨S1, c1, id, hk, kv⟩ := keep_v hs hB hX
  have hs1 : StOk (B + 1) S1 c1 := by have := keepF_ok hs hB0 hn; rw [hk] at this; exact this
  have hid : T.VN (id, false) := by
    have := (keepF_id (x := X) hs)
    rw [hk] at this
    dsimp only at this
    show I64 id
    unfold I64
    omega
  have hE2 : T.EOk (T.putL σ.E p (id, false)) := hE.put hr hp hid
  obtain ⟨S2, hS2, hc2, hx2⟩ : ∃ S2, putStep X σ p = ⟨T.putL σ.E p (id, false), S2, c1⟩ ∧ (∀ j, 0 < j → cntF S2 j = cntF S1 j - if j = (T.oldV σ.E p).1 then 1 else 0) ∧ ∀ j, 0 < cntF S2 j → getX S2 j = getX S1 j := by
    unfold putStep
    rw [hk]
    dsimp only
    cases hg : T.getL σ.E p with
    | none =>
      have ho : T.oldV σ.E p = T.zV := by unfold T.oldV; rw [hg]; rfl
      refine ⟨S1, rfl, fun j hj => ?_, fun j _ => rfl⟩
      rw [ho]
      show _ = _ - if j = (0 : Int) then 1 else 0
      rw [if_neg (by omega)]
      omega
    | some o =>
      have ho : T.oldV σ.E p = o := by unfold T.oldV; rw [hg]; rfl
      have ht := h.there hE hg
      have h1 : 0 < cntF S1 o.1 := by have := kv.cnt o.1; split at this <;> omega
      obtain ⟨f1, f2⟩ := free_v hs1 h1
      rw [ho]
      exact ⟨(freeF S1 o.1).1, rfl, fun j _ => f1 j, f2⟩
  have hrel : Rel x (putStep X σ p) := by
    rw [hS2]
    refine ⟨fun j hj => ?_, fun e he => ?_⟩
    · show cntF S2 j = cI (T.putL σ.E p (id, false)) j + _
      rw [hc2 j hj, kv.cnt, cI_put hE.s hj, h.cnt j hj]
      dsimp only
      omega
    · rcases (T.mem_putL hE.s).1 he with rfl | ⟨h3, _⟩
      · exact kv.pos
      · exact h.pos e h3
  refine ⟨hrel, fun q => ?_, by rw [hS2]; exact hE2⟩
  have hgp := T.getL_put (p := p) (r := q) (v := (id, false)) hE.s
  have key : ∀ v, T.getL (T.putL σ.E p (id, false)) q = some v → 0 < cntF S2 v.1 := fun v hv => by
    have := (hrel.there (by rw [hS2]; exact hE2) (q := q) (o := v) (by rw [hS2]; exact hv)).2
    rw [hS2] at this
    exact this
  unfold lk
  rw [hS2]
  dsimp only
  by_cases hq : q = p
  · rw [if_pos hq] at hgp ⊢
    have h4 := key _ hgp
    rw [hgp]
    show some (getX S2 id, false) = _
    rw [hx2 id h4, kv.new]
  · rw [if_neg hq] at hgp ⊢
    cases hgq : T.getL σ.E q with
    | none => rw [hgp, hgq]; rfl
    | some v =>
      rw [hgq] at hgp
      have h4 := key _ hgp
      rw [hgp]
      show some (getX S2 v.1, v.2) = some (getX σ.S v.1, v.2)
      rw [hx2 v.1 h4, kv.get v.1 (h.there hE hgq).2]
theorem puts_rel {x : Int} {X : Nf} (hX : okN X = true) (hn : NfN X) : ∀ (ps : List Pf) (B : Int) (σ : Tb), Rel x σ → T.EOk σ.E → StOk B σ.S σ.c → 0 ≤ B → B + ps.length < 4096 → (∀ p ∈ ps, PfN p ∧ Rt p) → Rel x (putF X σ ps) ∧ (∀ q, lk (putF X σ ps) q = if q ∈ ps then some (X, false) else lk σ q) ∧ T.EOk (putF X σ ps).E
  | [], _, σ, h, hE, _, _, _, _ => ⟨h, fun q => by rw [if_neg List.not_mem_nil]; rfl, hE⟩
  | p :: ps, B, σ, h, hE, hs, hB0, hB, hp => by
    simp only [List.length_cons] at hB
    have hpp := hp p (by simp)
    obtain ⟨r1, r2, r3⟩ := put_rel h hE hs hB0 (by omega) hX hn hpp.2 hpp.1
    obtain ⟨r4, r5, r6⟩ := puts_rel hX hn ps (B + 1) (putStep X σ p) r1 r3 (putStep_ok hn hs hB0) (by omega) (by omega) (fun q hq => hp q (by simp [hq]))
    refine ⟨r4, fun q => ?_, r6⟩
    show lk (putF X (putStep X σ p) ps) q = _
    rw [r5, r2]
    by_cases h1 : q ∈ ps
    · simp [h1]
    · by_cases h2 : q = p <;> simp [h1, h2]
/-- Behind an update. -/
theorem upd_rel {B lim : Int} {u : Up} {σ : Tb} (h : Rel 0 σ) (hE : T.EOk σ.E) (hs : StOk B σ.S σ.c) (hB0 : 0 ≤ B) (hB : B + 1 + u.td.length < 4096) (hu : UpN u) : Rel 0 (updF lim u σ) ∧ (∀ q, lk (updF lim u σ) q = if noRoom lim u σ then lk σ q else if q ∈ upL u then some (u.d.nf, false) else if q ∈ u.wd then none else lk σ q) ∧ T.EOk (updF lim u σ).E := by
  have hnx : NfN u.d.nf := At.nfN hu.d.num
  have hll := upL_len u
  unfold updF
  by_cases hr : noRoom lim u σ
  · rw [if_pos hr]
    exact ⟨h, fun q => by rw [if_pos hr], hE⟩
  rw [if_neg hr]
  have hd := srt_ne (goneF_srt σ.E (upL u) u.wd)
  have hgs : ∀ p ∈ goneF σ.E (upL u) u.wd, (T.getL σ.E p).isSome = true := fun p hp => (mem_goneF.1 hp).2.1
  have hgo : ∀ q, (if q ∈ upL u then some (u.d.nf, false) else if q ∈ goneF σ.E (upL u) u.wd then none else lk σ q) = if q ∈ upL u then some (u.d.nf, false) else if q ∈ u.wd then none else lk σ q := fun q => by
    by_cases h1 : q ∈ upL u
    · rw [if_pos h1, if_pos h1]
    · rw [if_neg h1, if_neg h1]
      by_cases h2 : q ∈ u.wd
      · rw [if_pos h2]
        cases h3 : T.getL σ.E q with
        | none => unfold lk; rw [h3]; simp
        | some o => rw [if_pos (mem_goneF.2 ⟨h2, by rw [h3]; rfl, h1⟩)]
      · rw [if_neg h2, if_neg (fun h3 => h2 (mem_goneF.1 h3).1)]
  unfold endF
  by_cases hl : upL u = []
  · rw [if_pos hl]
    unfold midF
    rw [if_pos hl]
    obtain ⟨r1, r2⟩ := drops_rel _ σ h hE hs hd hgs
    refine ⟨r1, fun q => ?_, dropF_srt _ σ hE⟩
    rw [if_neg hr, ← hgo q, r2, hl]
    simp
  · rw [if_neg hl]
    obtain ⟨S0, c0, id, hk, kv⟩ := keep_v hs (by omega) (upL_ok hl)
    have hs0 : StOk (B + 1) S0 c0 := by have := keepF_ok hs hB0 hnx; rw [hk] at this; exact this
    have hm : midF u σ = dropF ⟨σ.E, S0, c0⟩ (goneF σ.E (upL u) u.wd) := by unfold midF; rw [if_neg hl, hk]
    have h0 : Rel id ⟨σ.E, S0, c0⟩ := ⟨fun j hj => by
      show cntF S0 j = cI σ.E j + _
      rw [kv.cnt, h.cnt j hj, if_neg (by omega)]
      omega, h.pos⟩
    have hlk0 : ∀ q, lk ⟨σ.E, S0, c0⟩ q = lk σ q := fun q => by
      unfold lk
      dsimp only
      cases hg : T.getL σ.E q with
      | none => rfl
      | some o => show some (getX S0 o.1, o.2) = some (getX σ.S o.1, o.2); rw [kv.get _ (h.there hE hg).2]
    obtain ⟨r1, r2⟩ := drops_rel _ ⟨σ.E, S0, c0⟩ h0 hE hs0 hd hgs
    have r3 := dropF_srt (goneF σ.E (upL u) u.wd) ⟨σ.E, S0, c0⟩ hE
    have r4 := dropF_ok (goneF σ.E (upL u) u.wd) ⟨σ.E, S0, c0⟩ hs0
    rw [hm, hk]
    generalize dropF ⟨σ.E, S0, c0⟩ (goneF σ.E (upL u) u.wd) = σ1 at *
    obtain ⟨p1, p2, p3⟩ := puts_rel (upL_ok hl) hnx (upL u) (B + 1) σ1 r1 r3 r4 (by omega) (by omega) (fun p hp => ⟨hu.td p (mem_upL hp).1, (mem_upL hp).2⟩)
    have p4 := putF_ok hnx (upL u) (B + 1) σ1 r4 (by omega)
    generalize putF u.d.nf σ1 (upL u) = σ2 at *
    have hc : 0 < cntF σ2.S id := by
      have h5 := p1.cnt id kv.pos
      rw [if_pos rfl] at h5
      have := cI_nn σ2.E id
      omega
    obtain ⟨f1, f2⟩ := free_v p4 hc
    have hf : Rel 0 ⟨σ2.E, (freeF σ2.S id).1, σ2.c⟩ := ⟨fun j hj => by
      show cntF (freeF σ2.S id).1 j = cI σ2.E j + _
      rw [f1, p1.cnt j hj, if_neg (show ¬ j = 0 by omega)]
      omega, p1.pos⟩
    refine ⟨hf, fun q => ?_, p3⟩
    have e : lk ⟨σ2.E, (freeF σ2.S id).1, σ2.c⟩ q = lk σ2 q := by
      unfold lk
      dsimp only
      cases hg : T.getL σ2.E q with
      | none => rfl
      | some o => show some (getX _ o.1, o.2) = some (getX σ2.S o.1, o.2); rw [f2 _ (hf.there p3 hg).2]
    show lk ⟨σ2.E, (freeF σ2.S id).1, σ2.c⟩ q = _
    rw [if_neg hr, e, p2, r2, hlk0, hgo]
end Go.Proofs.YtnhabkipjmgaaaaGreat
namespace Go.Proofs.YtnhabkipjmgaaaaGreat
set_option linter.unusedSimpArgs false
set_option linter.unusedVariables false
open Go.RowKit Go.Pm

open T (Pf PfN Rt Ah pfC)
theorem upL_mem {u : Up} (ho : okN u.d.nf = true) {p : Pf} : p ∈ upL u ↔ p ∈ u.td ∧ Rt p := by
  unfold upL
  rw [ho, if_pos rfl]
  exact mem_toldF
theorem rel_nil : Rel 0 ⟨[], [], 0⟩ := ⟨fun j hj => by
  show (0 : Int) = 0 + if j = 0 then 1 else 0
  rw [if_neg (by omega)]; rfl, fun _ h => absurd h List.not_mem_nil⟩
end Go.Proofs.YtnhabkipjmgaaaaGreat
namespace Go.Proofs.YtnhabkipjmgaaaaGreat
set_option linter.unusedSimpArgs false
set_option linter.unusedVariables false
open Go.RowKit Go.Pm

open T (Pf PfN Rt Ah pfC)
theorem cI_mark (j : Int) (hj : 0 < j) : ∀ (ps : List Pf) (E : List T.Ent), T.Srt E → cI (markE E ps) j = cI E j
  | [], _, _ => rfl
  | p :: ps, E, h => by
    have h1 : cI (T.putL E p ((T.oldV E p).1, true)) j = cI E j := by
      rw [cI_put h hj]
      dsimp only
      omega
    exact (cI_mark j hj ps _ (T.srt_putL h)).trans h1
theorem mark_rel {x : Int} {σ : Tb} (h : Rel x σ) (hE : T.EOk σ.E) (hE2 : T.EOk (markE σ.E (T.keysE σ.E))) : Rel x ⟨markE σ.E (T.keysE σ.E), σ.S, σ.c⟩ ∧ ∀ q, lk ⟨markE σ.E (T.keysE σ.E), σ.S, σ.c⟩ q = (lk σ q).map fun v => (v.1, true) := by
  have key : ∀ q, T.getL (markE σ.E (T.keysE σ.E)) q = (T.getL σ.E q).map fun o => (o.1, true) := fun q => by
    rw [mark_get _ _ q hE.s]
    cases hg : T.getL σ.E q with
    | none => rw [if_neg (fun h => by have := mem_keysE.1 h; rw [hg] at this; cases this)]; rfl
    | some o =>
      rw [if_pos (mem_keysE.2 (by rw [hg]; rfl))]
      unfold T.oldV
      rw [hg]
      rfl
  refine ⟨⟨fun j hj => ?_, fun e he => ?_⟩, fun q => ?_⟩
  · dsimp only
    rw [cI_mark j hj _ _ hE.s]
    exact h.cnt j hj
  · have h1 := (T.getL_mem (l := markE σ.E (T.keysE σ.E)) (p := e.1) (v := e.2) hE2.s).2 he
    rw [key] at h1
    cases hg : T.getL σ.E e.1 with
    | none => rw [hg] at h1; cases h1
    | some o =>
      rw [hg] at h1
      have h2 := (h.there hE hg).1
      have h3 := Option.some.inj h1
      rw [← h3]
      exact h2
  · unfold lk
    dsimp only
    rw [key]
    cases T.getL σ.E q <;> rfl
theorem mem_staleK {E : List T.Ent} {q : Pf} : q ∈ staleK E ↔ ∃ o, T.getL E q = some o ∧ o.2 = true := by
  unfold staleK keepP
  rw [List.mem_filter, mem_keysE]
  unfold nst T.oldV
  cases hg : T.getL E q with
  | none => simp
  | some o => simp
theorem keys_ne {E : List T.Ent} (h : T.Srt E) : (T.keysE E).Pairwise (· ≠ ·) := by
  unfold T.keysE
  rw [List.pairwise_map]
  exact List.Pairwise.imp (fun {a b} hab e => by rw [e] at hab; exact T.Ah.irrefl hab) h
theorem sweep_rel {B : Int} {σ : Tb} (h : Rel 0 σ) (hE : T.EOk σ.E) (hs : StOk B σ.S σ.c) : Rel 0 (dropF σ (staleK σ.E)) ∧ ∀ q, lk (dropF σ (staleK σ.E)) q = match lk σ q with | some (x, false) => some (x, false) | _ => none := by
  obtain ⟨r1, r2⟩ := drops_rel (staleK σ.E) σ h hE hs (by
    unfold staleK keepP
    exact (keys_ne hE.s).filter _) (fun p hp => by obtain ⟨o, h1, _⟩ := mem_staleK.1 hp; rw [h1]; rfl)
  refine ⟨r1, fun q => ?_⟩
  rw [r2]
  unfold lk
  cases hg : T.getL σ.E q with
  | none => simp
  | some o =>
    obtain ⟨i, b⟩ := o
    cases b with
    | true => rw [if_pos (mem_staleK.2 ⟨_, hg, rfl⟩)]; rfl
    | false => rw [if_neg (fun h => by obtain ⟨o, h1, h2⟩ := mem_staleK.1 h; rw [hg] at h1; cases h1; cases h2)]; rfl
theorem clear_rel {B : Int} {σ : Tb} (h : Rel 0 σ) (hE : T.EOk σ.E) (hs : StOk B σ.S σ.c) : Rel 0 (dropF σ (T.keysE σ.E)) ∧ ∀ q, lk (dropF σ (T.keysE σ.E)) q = none := by
  obtain ⟨r1, r2⟩ := drops_rel (T.keysE σ.E) σ h hE hs (keys_ne hE.s) (fun p hp => mem_keysE.1 hp)
  refine ⟨r1, fun q => ?_⟩
  rw [r2]
  by_cases hq : q ∈ T.keysE σ.E
  · rw [if_pos hq]
  · rw [if_neg hq]
    unfold lk
    cases hg : T.getL σ.E q with
    | none => rfl
    | some o => exact absurd (mem_keysE.2 (by rw [hg]; rfl)) hq
theorem mark_len : ∀ (ps : List Pf) (E : List T.Ent), T.Srt E → (∀ p ∈ ps, (T.getL E p).isSome = true) → (markE E ps).length = E.length
  | [], _, _, _ => rfl
  | p :: ps, E, h, hp => by
    have h0 : T.Srt (T.putL E p ((T.oldV E p).1, true)) := T.srt_putL h
    have h1 := mark_len ps (T.putL E p ((T.oldV E p).1, true)) h0 (fun q hq => by
      rw [T.getL_put h]
      split
      · rfl
      · exact hp q (by simp [hq]))
    have h2 : (T.putL E p ((T.oldV E p).1, true)).length = E.length := by
      rw [T.len_putL h, if_pos (hp p (by simp))]
    show (markE (T.putL E p _) ps).length = _
    rw [h1, h2]
end Go.Proofs.YtnhabkipjmgaaaaGreat
namespace Go.Proofs.YtnhabkipjmgaaaaGreat
set_option linter.unusedSimpArgs false
set_option linter.unusedVariables false
set_option maxRecDepth 20000
set_option maxHeartbeats 4000000
open Go.RowKit Go.Pm

open T (Pf PfN Rt Ah pfC)
theorem few_o (u : Up) (hu : UpA u) : Pact Tryz.prog 16 #[.agg (upC u).toArray] (fun w => UpV w u) [] (fun v L' => ∃ u', Few u u' ∧ v = .agg (upC u').toArray ∧ L' = [Ar 41 2 pfC (.slice u'.wa u'.wd.length u'.wc) u'.wd, Ar 41 2 pfC (.slice u'.ta u'.td.length u'.tc) u'.td, has (fun w => AtV w u'.d)]) := by
  refine pact Tryz.func16 rfl Tryz.ntmps16 rfl ?_
  intro W K hK
  refine J_fact (φ := ((u.d.path.length ≤ u.d.pc ∧ u.d.pc ≤ maxLen) ∧ (u.d.comms.length ≤ u.d.cc ∧ u.d.cc ≤ maxLen) ∧ (u.d.others.length ≤ u.d.oc ∧ u.d.oc ≤ maxLen)) ∧ (u.wd.length ≤ u.wc ∧ u.wc ≤ maxLen) ∧ (u.td.length ≤ u.tc ∧ u.tc ≤ maxLen)) (fun w H => ?_) ?_
  · have h := hK.of H
    refine ⟨⟨?_, ?_, ?_⟩, ?_, ?_⟩
    · obtain ⟨a', c', he, h1, h2⟩ := h.d.path.vw.shape
      cases he
      exact ⟨h1, h2⟩
    · obtain ⟨a', c', he, h1, h2⟩ := h.d.comms.shape
      cases he
      exact ⟨h1, h2⟩
    · obtain ⟨a', c', he, h1, h2⟩ := h.d.others.vw.shape
      cases he
      exact ⟨h1, h2⟩
    · obtain ⟨a', c', he, h1, h2⟩ := h.wd.shape
      cases he
      exact ⟨h1, h2⟩
    · obtain ⟨a', c', he, h1, h2⟩ := h.td.shape
      cases he
      exact ⟨h1, h2⟩
  rintro ⟨⟨⟨hp, hp2⟩, ⟨hc, hc2⟩, ⟨ho, ho2⟩⟩, ⟨hw, hw2⟩, ⟨ht, ht2⟩⟩
  unfold maxLen at hp2 hc2 ho2 hw2 ht2
  have e1 : u.d.trR.path.length = (min (u.d.path.length : Int) 6).toNat := by simp [At.trR, At.at_]; omega
  have e2 : u.d.trR.comms.length = (min (u.d.comms.length : Int) 40).toNat := by simp [At.trR, At.at_]; omega
  have e3 : u.d.trR.others.length = (min (u.d.others.length : Int) 9).toNat := by simp [At.trR, At.at_]; omega
  have e4 : (u.wd.take 12).length = (min (u.wd.length : Int) 12).toNat := by simp; omega
  have e5 : (u.td.take 12).length = (min (u.td.length : Int) 12).toNat := by simp; omega
  have hwv : Kn K (fun w => Vw w (.slice u.wa (min (u.wd.length : Int) 12).toNat u.wc) 2 (min (u.wd.length : Int) 12).toNat (flat pfC (u.wd.take 12))) := hK.imp fun _ h => Vw_take h.wd (by intro _; rfl) rfl 12 _ e4
  have htv : Kn K (fun w => Vw w (.slice u.ta (min (u.td.length : Int) 12).toNat u.tc) 2 (min (u.td.length : Int) 12).toNat (flat pfC (u.td.take 12))) := hK.imp fun _ h => Vw_take h.td (by intro _; rfl) rfl 12 _ e5
  (repeat' (first | ((with_reducible apply gL); (first | refine yL0 ?_ | ((with_reducible apply gL_c_append); (first | (refine JL_appL (fs := u.wd.take 12) pfC (tabE etab_ok (by rfl)) (by rfl) (by rfl) xA (Src.kn hwv) (by decide +kernel) (by intro _; rfl) (all_one _ (by intro _ _; rfl)) (by omega) (by rfl) (by rfl) ?_; intro ad2 c2 _ _) | (refine JL_appL (fs := u.td.take 12) pfC (tabE etab_ok (by rfl)) (by rfl) (by rfl) xA (Src.kn htv) (by decide +kernel) (by intro _; rfl) (all_one _ (by intro _ _; rfl)) (by omega) (by rfl) (by rfl) ?_; intro ad3 c3 _ _) | fail)) | refine yL ?_ | ((with_reducible apply gL_go); (first | (refine JL_goq (acopy_s u.d.trR (At.trR_few hu.d) _ _ _ e1 e2 e3) (hφ := (by (try simp only [List.cons_append, List.nil_append]); exact fun w hr => (hK w hr.1).d.trR)) (h := ?_); rintro _ _ ⟨d', hd', hnf, rfl, rfl⟩; try simp only [List.cons_append, List.nil_append]) | fail)) | (refine yM ?_; intro _) | (refine yA ?_; intro _ _ _ _) | fail)) | refine yJ ?_ | fail))
  refine J_retC (cs := [.slice ad2 (min (u.wd.length : Int) 12).toNat c2, .slice ad3 (min (u.td.length : Int) 12).toNat c3, .int .i64 d'.origin, .slice d'.pa d'.path.length d'.pc, .int .u32 d'.next, .bool d'.hasMed, .int .u32 d'.med, .bool d'.hasLocal, .int .u32 d'.loc, .bool d'.atomic, .bool d'.hasMaker, .int .u32 d'.makerAS, .int .u32 d'.maker, .slice d'.ca d'.comms.length d'.cc, .slice d'.oa d'.others.length d'.oc, .int .i64 u.f]) rfl (by rfl) xA (by rfl) fun w H => ⟨_, ⟨⟨ad2, c2, u.wd.take 12, ad3, c3, u.td.take 12, d', u.f⟩, ⟨⟨fun p hp => hu.wd p (List.take_subset _ _ hp), fun p hp => hu.td p (List.take_subset _ _ hp), hd', by dsimp only; simp; omega, by dsimp only; simp; omega⟩, rfl, rfl, hnf⟩, by unfold upC; dsimp only; rw [e4, e5], rfl⟩, ?_⟩
  dsimp only
  rw [e4, e5]
  exact H.sel xZ
end Go.Proofs.YtnhabkipjmgaaaaGreat
namespace Go.Proofs.YtnhabkipjmgaaaaGreat
set_option linter.unusedSimpArgs false
set_option linter.unusedVariables false
open Go.RowKit Go.Pm

open T (Pf PfN Rt Ah pfC)
theorem upL_iff {u : Up} {p : Pf} : p ∈ upL u ↔ p ∈ u.td ∧ Rt p ∧ okN u.d.nf = true := by
  rcases ho : okN u.d.nf with _ | _
  · unfold upL
    rw [ho, if_neg (by simp)]
    simp
  · rw [upL_mem ho]
    simp
end Go.Proofs.YtnhabkipjmgaaaaGreat
