/-
  Rb16, Rb18, Sized, Law: merged.
-/
import Derived.Test.YtnhabkipjmgaaaaGreatZRibPlays28
import Derived.HandedShaped
import Derived.SizedLaws
namespace Go.Proofs.YtnhabkipjmgaaaaGreat
set_option linter.unusedSimpArgs false
set_option linter.unusedVariables false
open Go.RowKit Go.Pm

open T (Pf PfN Rt Ah pfC)
section
variable (lim : Int) (u : Up) (σ : Tb)
def noRoom : Prop := (σ.E.length : Int) - (goneF σ.E (upL u) u.wd).length + freshN σ.E (upL u) > lim
noncomputable instance : Decidable (noRoom lim u σ) := by unfold noRoom; infer_instance
noncomputable def midF : Tb := if upL u = [] then dropF σ (goneF σ.E (upL u) u.wd) else dropF ⟨σ.E, (keepF σ.S σ.c u.d.nf).1.1, (keepF σ.S σ.c u.d.nf).1.2⟩ (goneF σ.E (upL u) u.wd)
noncomputable def endF : Tb := if upL u = [] then midF u σ else
  ⟨(putF u.d.nf (midF u σ) (upL u)).E, (freeF (putF u.d.nf (midF u σ) (upL u)).S (keepF σ.S σ.c u.d.nf).2.1).1, (putF u.d.nf (midF u σ) (upL u)).c⟩
noncomputable def updF : Tb := if noRoom lim u σ then σ else endF u σ
noncomputable def updR : List Pf := if noRoom lim u σ then [] else srtP (goneF σ.E (upL u) u.wd ++ chg u.d.nf (midF u σ) (upL u))
noncomputable def updE : Int := if noRoom lim u σ then 4 else 0
end
theorem upL_ok {u : Up} (h : upL u ≠ []) : okN u.d.nf = true := by
  unfold upL at h
  cases ho : okN u.d.nf with
  | true => rfl
  | false => rw [ho] at h; exact absurd rfl h
theorem midF_ok {B : Int} {u : Up} {σ : Tb} (hd : AtF u.d) (hs : StOk B σ.S σ.c) (hB : 0 ≤ B) : StOk (B + 1) (midF u σ).S (midF u σ).c := by
  unfold midF
  split
  · exact (dropF_ok _ σ hs).mono (by omega)
  · exact dropF_ok _ ⟨σ.E, _, _⟩ (keepF_ok hs hB (At.nfN hd.num))
theorem updF_ok {B : Int} {lim : Int} {u : Up} {σ : Tb} (hd : AtF u.d) (hs : StOk B σ.S σ.c) (hB : 0 ≤ B) : StOk (B + 1 + (upL u).length) (updF lim u σ).S (updF lim u σ).c := by
  unfold updF
  split
  · exact hs.mono (by omega)
  · have h1 := midF_ok hd hs hB
    unfold endF
    split
    · exact h1.mono (by omega)
    · exact freeF_ok (putF_ok (At.nfN hd.num) (upL u) (B + 1) (midF u σ) h1 (by omega))
theorem dropF_E (ps : List Pf) : ∀ (E : List T.Ent) (S S' : List En) (c c' : Int), (dropF ⟨E, S, c⟩ ps).E = (dropF ⟨E, S', c'⟩ ps).E := by
  induction ps with
  | nil => intro E S S' c c'; rfl
  | cons p ps ih => intro E S S' c c'; exact ih (T.dropL E p) _ _ _ _
theorem midF_E (u : Up) (σ : Tb) : (midF u σ).E = (dropF σ (goneF σ.E (upL u) u.wd)).E := by
  unfold midF
  split
  · rfl
  · obtain ⟨E, S, c⟩ := σ
    exact dropF_E _ _ _ _ _ _
theorem dropF_srt : ∀ (ps : List Pf) (σ : Tb), T.EOk σ.E → T.EOk (dropF σ ps).E
  | [], _, h => h
  | p :: ps, σ, h => dropF_srt ps (dropStep σ p) h.drop
theorem upd_s (b sp tb : Nat) (lim : Int) (u : Up) (σ : Tb) (B : Int) (hB0 : 0 ≤ B) (hB : B < 4096) (hu : UpN u) (hn : σ.E.length ≤ 2000) (hI : I64 lim) (hE : T.EOk σ.E) (hs : StOk B σ.S σ.c) :
    Pact Tryz.prog 12 #[.pointer (some ⟨b, 0, none⟩), .agg (upC u).toArray] (fun w => UpV w u) (rtL b sp tb lim σ.E σ.S σ.c)
    (fun v L' => ∃ (a : Option Addr) (cc : Nat), v = .tuple #[.slice a (updR lim u σ).length cc, .int .i64 (updE lim u σ)] ∧ L' = [pts b (tbC sp lim tb) 72, T.trA tb (updF lim u σ).E, stoA sp (updF lim u σ).S (updF lim u σ).c, Ar 41 2 pfC (.slice a (updR lim u σ).length cc) (updR lim u σ)]) := by
  obtain ⟨E, S, c⟩ := σ
  dsimp only at hn hE hs
  intro W K w hK H
  unfold updF updR updE
  by_cases hr : noRoom lim u ⟨E, S, c⟩
  · rw [if_pos hr, if_pos hr, if_pos hr]
    refine (upfull_s b sp tb lim E S c u hu (by omega) hI hr W K w hK H).mono fun e w' h => ?_
    obtain ⟨v, L', ⟨rfl, rfl⟩, h5, h6⟩ := h
    exact ⟨_, _, ⟨none, 0, rfl, rfl⟩, h5, (Ow.arNil (e := 41) (sz := 2) (enc := pfC) h6).sel xZ⟩
  · rw [if_neg hr, if_neg hr, if_neg hr]
    by_cases hl : upL u = []
    · refine (upz_s b sp tb lim E S c u B hB0 (by omega) hu hn hI hr hs hl W K w hK H).mono fun e w' h => ?_
      obtain ⟨v, L', ⟨σ1, R, a, cc, h1, h2, rfl, rfl⟩, h5, h6⟩ := h
      have e1 : endF u ⟨E, S, c⟩ = σ1 := by
        unfold endF midF
        rw [if_pos hl, if_pos hl]
        exact h1.symm
      have e2 : srtP (goneF E (upL u) u.wd ++ chg u.d.nf (midF u ⟨E, S, c⟩) (upL u)) = R := by
        rw [h2, hl]
        show srtP (_ ++ []) = _
        rw [List.append_nil]
      rw [e1]
      dsimp only
      rw [e2]
      exact ⟨_, _, ⟨a, cc, rfl, rfl⟩, h5, h6⟩
    · obtain ⟨S0, c0, id0, hk, hv⟩ := keep_v hs hB (upL_ok hl)
      refine (up_s b sp tb lim E S c u B hB0 (by omega) hu hn hI hr hE hs hl S0 c0 id0 hk hv.pos W K w hK H).mono fun e w' h => ?_
      obtain ⟨v, L', ⟨σ1, σ2, R, a, cc, h1, h2, h3, rfl, rfl⟩, h5, h6⟩ := h
      have e0 : midF u ⟨E, S, c⟩ = σ1 := by
        unfold midF
        rw [if_neg hl]
        dsimp only
        rw [hk]
        exact h1.symm
      have e1 : endF u ⟨E, S, c⟩ = ⟨σ2.E, (freeF σ2.S id0).1, σ2.c⟩ := by
        unfold endF
        rw [if_neg hl, e0, ← h2]
        dsimp only
        rw [hk]
      rw [e1, e0]
      dsimp only
      rw [← h3]
      exact ⟨_, _, ⟨a, cc, rfl, rfl⟩, h5, h6⟩
/-! What is there behind an update. -/
theorem dropF_get : ∀ (ps : List Pf) (σ : Tb) (p : Pf), T.Srt σ.E → T.getL (dropF σ ps).E p = if p ∈ ps then none else T.getL σ.E p
  | [], _, _, _ => rfl
  | q :: ps, σ, p, h => by
    have h1 := dropF_get ps (dropStep σ q) p (T.srt_dropL h)
    have h2 : T.getL (dropStep σ q).E p = if p = q then none else T.getL σ.E p := T.getL_drop h
    show T.getL (dropF (dropStep σ q) ps).E p = _
    rw [h1, h2]
    by_cases hp : p ∈ ps
    · simp [hp]
    · by_cases hq : p = q <;> simp [hp, hq]
/-! How many. -/
theorem dropF_cnt : ∀ (ps : List Pf) (σ : Tb), T.Srt σ.E → ps.Pairwise (· ≠ ·) → (∀ p ∈ ps, (T.getL σ.E p).isSome = true) → ((dropF σ ps).E.length : Int) = σ.E.length - ps.length
  | [], σ, _, _, _ => by show (σ.E.length : Int) = σ.E.length - (0 : Nat); omega
  | q :: ps, σ, h, hd, hp => by
    obtain ⟨h1, h2⟩ := List.pairwise_cons.1 hd
    have h3 := dropF_cnt ps (dropStep σ q) (T.srt_dropL h) h2 (fun p hp2 => by
      show (T.getL (T.dropL σ.E q) p).isSome = true
      rw [T.getL_drop h, if_neg (fun e => h1 p hp2 e.symm)]
      exact hp p (by simp [hp2]))
    have h4 : ((dropStep σ q).E.length : Int) = σ.E.length - 1 := by
      have := T.len_dropL (p := q) h (hp q (by simp))
      show ((T.dropL σ.E q).length : Int) = _
      omega
    show ((dropF (dropStep σ q) ps).E.length : Int) = _
    simp only [List.length_cons]
    omega
theorem freshN_cons (E : List T.Ent) (q : Pf) (ps : List Pf) : freshN E (q :: ps) = (if (T.getL E q).isSome then 0 else 1) + freshN E ps := by
  unfold freshN
  cases h : (T.getL E q).isSome with
  | true => rw [List.filter_cons_of_neg (by simp [h])]; simp
  | false => rw [List.filter_cons_of_pos (by simp [h])]; simp; omega
theorem freshN_congr {E E' : List T.Ent} {ps : List Pf} (h : ∀ p ∈ ps, (T.getL E p).isSome = (T.getL E' p).isSome) : freshN E ps = freshN E' ps := by
  unfold freshN
  congr 1
  exact List.filter_congr fun p hp => by rw [h p hp]
theorem putF_cnt (X : Nf) : ∀ (ps : List Pf) (σ : Tb), T.Srt σ.E → ps.Pairwise (· ≠ ·) → (putF X σ ps).E.length = σ.E.length + freshN σ.E ps
  | [], σ, _, _ => rfl
  | q :: ps, σ, h, hd => by
    obtain ⟨h1, h2⟩ := List.pairwise_cons.1 hd
    have h0 : T.Srt (putStep X σ q).E := T.srt_putL h
    have h3 := putF_cnt X ps (putStep X σ q) h0 h2
    have h4 : (putStep X σ q).E.length = σ.E.length + if (T.getL σ.E q).isSome then 0 else 1 := by
      refine (T.len_putL h).trans ?_
      split <;> rfl
    have h5 : freshN (putStep X σ q).E ps = freshN σ.E ps := freshN_congr fun p hp => by
      show (T.getL (T.putL σ.E q _) p).isSome = _
      rw [T.getL_put h, if_neg (fun e => h1 p hp e.symm)]
    show (putF X (putStep X σ q) ps).E.length = _
    rw [h3, h4, h5, freshN_cons]
    omega
theorem srt_ne {l : List Pf} (h : l.Pairwise fun x y => Ah x y) : l.Pairwise (· ≠ ·) := h.imp fun {x y} hxy e => by rw [e] at hxy; exact T.Ah.irrefl hxy
theorem endF_len {u : Up} {σ : Tb} (h : T.EOk σ.E) : ((endF u σ).E.length : Int) = σ.E.length - (goneF σ.E (upL u) u.wd).length + freshN σ.E (upL u) := by
  have h1 : ((midF u σ).E.length : Int) = σ.E.length - (goneF σ.E (upL u) u.wd).length := by
    rw [midF_E]
    exact dropF_cnt _ σ h.s (srt_ne (goneF_srt _ _ _)) (fun p hp => (mem_goneF.1 hp).2.1)
  unfold endF
  by_cases hl : upL u = []
  · rw [if_pos hl, h1, hl]
    show _ = _ + ((0 : Nat) : Int)
    omega
  · rw [if_neg hl]
    have hs : T.Srt (midF u σ).E := by rw [midF_E]; exact (dropF_srt _ σ h).s
    show ((putF u.d.nf (midF u σ) (upL u)).E.length : Int) = _
    rw [putF_cnt _ _ _ hs (srt_ne (upL_srt u))]
    have h2 : freshN (midF u σ).E (upL u) = freshN σ.E (upL u) := freshN_congr fun p hp => by
      rw [midF_E, dropF_get _ σ p h.s, if_neg (fun h3 => (mem_goneF.1 h3).2.2 hp)]
    rw [h2]
    omega
theorem updF_len {lim : Int} {u : Up} {σ : Tb} (h : T.EOk σ.E) : (updF lim u σ).E.length ≤ σ.E.length + u.td.length := by
  unfold updF
  split
  · omega
  · have h1 := endF_len (u := u) h
    have h2 := freshN_le σ.E (upL u)
    have h3 := upL_len u
    omega
end Go.Proofs.YtnhabkipjmgaaaaGreat
namespace Go.Proofs.YtnhabkipjmgaaaaGreat
set_option linter.unusedSimpArgs false
set_option linter.unusedVariables false
open Go.RowKit Go.Pm

open T (Pf PfN Rt Ah pfC)
def cI (E : List T.Ent) (j : Int) : Int := T.cntI (fun v => decide (v.1 = j)) E
structure Rel (x : Int) (σ : Tb) : Prop where
  cnt : ∀ j, 0 < j → cntF σ.S j = cI σ.E j + if j = x then 1 else 0
  pos : ∀ e ∈ σ.E, 0 < e.2.1
def lk (σ : Tb) (q : Pf) : Option (Nf × Bool) := (T.getL σ.E q).map fun o => (getX σ.S o.1, o.2)
theorem cI_in {E : List T.Ent} {q : Pf} {o : T.Vt} (h : T.Srt E) (hg : T.getL E q = some o) : 1 ≤ cI E o.1 := by
  show (1 : Int) ≤ ((E.filter fun e => decide (e.2.1 = o.1)).length : Nat)
  have hm : (q, o) ∈ E := (T.getL_mem h).1 hg
  have : (q, o) ∈ E.filter fun e => decide (e.2.1 = o.1) := List.mem_filter.2 ⟨hm, by simp⟩
  have := List.length_pos_of_mem this
  omega
theorem cI_nn (E : List T.Ent) (j : Int) : 0 ≤ cI E j := (T.cntI_le _ _).1
theorem Rel.there {x : Int} {σ : Tb} (h : Rel x σ) (hE : T.EOk σ.E) {q : Pf} {o : T.Vt} (hg : T.getL σ.E q = some o) : 0 < o.1 ∧ 0 < cntF σ.S o.1 := by
  have h1 := h.pos _ ((T.getL_mem hE.s).1 hg)
  dsimp only at h1
  have h2 := h.cnt o.1 h1
  have h3 := cI_in hE.s hg
  refine ⟨h1, ?_⟩
  split at h2 <;> omega
theorem zq {j : Int} (hj : 0 < j) : (fun v : T.Vt => decide (v.1 = j)) T.zV = false := decide_eq_false (by show ¬ (0 : Int) = j; omega)
theorem cI_drop {E : List T.Ent} {p : Pf} {o : T.Vt} (h : T.Srt E) (hg : T.getL E p = some o) {j : Int} (hj : 0 < j) : cI (T.dropL E p) j = cI E j - if j = o.1 then 1 else 0 := by
  unfold cI
  have ho : T.oldV E p = o := by unfold T.oldV; rw [hg]; rfl
  rw [T.cnt_drop (zq hj) h, ho]
  show _ - T.b2 (decide (o.1 = j)) = _
  unfold T.b2
  by_cases e : j = o.1
  · simp [e]
  · have : ¬ o.1 = j := fun h => e h.symm
    simp [e, this]
theorem drop_rel {B x : Int} {σ : Tb} {p : Pf} {o : T.Vt} (h : Rel x σ) (hE : T.EOk σ.E) (hs : StOk B σ.S σ.c) (hg : T.getL σ.E p = some o) : Rel x (dropStep σ p) ∧ ∀ q, lk (dropStep σ p) q = if q = p then none else lk σ q := by
  have ho : T.oldV σ.E p = o := by unfold T.oldV; rw [hg]; rfl
  have ht := h.there hE hg
  obtain ⟨f1, f2⟩ := free_v hs ht.2
  have hr : Rel x (dropStep σ p) := by
    refine ⟨fun j hj => ?_, fun e he => h.pos e (List.mem_filter.1 he).1⟩
    show cntF (freeF σ.S (T.oldV σ.E p).1).1 j = cI (T.dropL σ.E p) j + _
    rw [ho, f1, cI_drop hE.s hg hj, h.cnt j hj]
    omega
  refine ⟨hr, fun q => ?_⟩
  unfold lk
  show Option.map _ (T.getL (T.dropL σ.E p) q) = _
  have hgd := T.getL_drop (p := p) (r := q) hE.s
  rw [hgd]
  by_cases hq : q = p
  · rw [if_pos hq, if_pos hq]; rfl
  · rw [if_neg hq, if_neg hq]
    rw [if_neg hq] at hgd
    cases hgq : T.getL σ.E q with
    | none => rfl
    | some v =>
      rw [hgq] at hgd
      have h3 := (hr.there hE.drop hgd).2
      have h4 : (dropStep σ p).S = (freeF σ.S o.1).1 := by show (freeF σ.S (T.oldV σ.E p).1).1 = _; rw [ho]
      rw [h4] at h3
      show some (getX (dropStep σ p).S v.1, v.2) = some (getX σ.S v.1, v.2)
      rw [h4, f2 v.1 h3]
theorem drops_rel {B x : Int} : ∀ (ps : List Pf) (σ : Tb), Rel x σ → T.EOk σ.E → StOk B σ.S σ.c → ps.Pairwise (· ≠ ·) → (∀ p ∈ ps, (T.getL σ.E p).isSome = true) → Rel x (dropF σ ps) ∧ ∀ q, lk (dropF σ ps) q = if q ∈ ps then none else lk σ q
  | [], σ, h, _, _, _, _ => ⟨h, fun q => by rw [if_neg List.not_mem_nil]; rfl⟩
  | p :: ps, σ, h, hE, hs, hd, hp => by
    obtain ⟨d1, d2⟩ := List.pairwise_cons.1 hd
    obtain ⟨o, hg⟩ := Option.isSome_iff_exists.1 (hp p (by simp))
    obtain ⟨r1, r2⟩ := drop_rel h hE hs hg
    obtain ⟨r3, r4⟩ := drops_rel ps (dropStep σ p) r1 hE.drop (freeF_ok hs) d2 (fun q hq => by
      show (T.getL (T.dropL σ.E p) q).isSome = true
      rw [T.getL_drop hE.s, if_neg (fun e => d1 q hq e.symm)]
      exact hp q (by simp [hq]))
    refine ⟨r3, fun q => ?_⟩
    show lk (dropF (dropStep σ p) ps) q = _
    rw [r4, r2]
    by_cases h1 : q ∈ ps
    · simp [h1]
    · by_cases h2 : q = p <;> simp [h1, h2]
theorem cI_put {E : List T.Ent} {p : Pf} {v : T.Vt} (h : T.Srt E) {j : Int} (hj : 0 < j) : cI (T.putL E p v) j = cI E j - (if j = (T.oldV E p).1 then 1 else 0) + if j = v.1 then 1 else 0 := by
  unfold cI
  rw [T.cnt_put (zq hj) h]
  have e : ∀ z : Int, T.b2 (decide (z = j)) = if j = z then 1 else 0 := fun z => by
    unfold T.b2
    by_cases e : j = z
    · simp [e]
    · have : ¬ z = j := fun h => e h.symm
      simp [e, this]
  rw [e, e]
theorem put_rel {B x : Int} {X : Nf} {σ : Tb} {p : Pf} (h : Rel x σ) (hE : T.EOk σ.E) (hs : StOk B σ.S σ.c) (hB0 : 0 ≤ B) (hB : B < 4096) (hX : okN X = true) (hn : NfN X) (hr : Rt p) (hp : PfN p) : Rel x (putStep X σ p) ∧ (∀ q, lk (putStep X σ p) q = if q = p then some (X, false) else lk σ q) ∧ T.EOk (putStep X σ p).E := by
  obtain ⟨S1, c1, id, hk, kv⟩ := keep_v hs hB hX
  have hs1 : StOk (B + 1) S1 c1 := by have := keepF_ok hs hB0 hn; rw [hk] at this; exact this
  have hid : T.VN (id, false) := by
    have := (keepF_id (x := X) hs)
    rw [hk] at this
    dsimp only at this
    show I64 id
    unfold I64
    omega
  have hE2 : T.EOk (T.putL σ.E p (id, false)) := hE.put hr hp hid
  obtain ⟨S2, hS2, hc2, hx2⟩ : ∃ S2, putStep X σ p = ⟨T.putL σ.E p (id, false), S2, c1⟩ ∧ (∀ j, 0 < j → cntF S2 j = cntF S1 j - if j = (T.oldV σ.E p).1 then 1 else 0) ∧ ∀ j, 0 < cntF S2 j → getX S2 j = getX S1 j := by
    unfold putStep
    rw [hk]
    dsimp only
    cases hg : T.getL σ.E p with
    | none =>
      have ho : T.oldV σ.E p = T.zV := by unfold T.oldV; rw [hg]; rfl
      refine ⟨S1, rfl, fun j hj => ?_, fun j _ => rfl⟩
      rw [ho]
      show _ = _ - if j = (0 : Int) then 1 else 0
      rw [if_neg (by omega)]
      omega
    | some o =>
      have ho : T.oldV σ.E p = o := by unfold T.oldV; rw [hg]; rfl
      have ht := h.there hE hg
      have h1 : 0 < cntF S1 o.1 := by have := kv.cnt o.1; split at this <;> omega
      obtain ⟨f1, f2⟩ := free_v hs1 h1
      rw [ho]
      exact ⟨(freeF S1 o.1).1, rfl, fun j _ => f1 j, f2⟩
  have hrel : Rel x (putStep X σ p) := by
    rw [hS2]
    refine ⟨fun j hj => ?_, fun e he => ?_⟩
    · show cntF S2 j = cI (T.putL σ.E p (id, false)) j + _
      rw [hc2 j hj, kv.cnt, cI_put hE.s hj, h.cnt j hj]
      dsimp only
      omega
    · rcases (T.mem_putL hE.s).1 he with rfl | ⟨h3, _⟩
      · exact kv.pos
      · exact h.pos e h3
  refine ⟨hrel, fun q => ?_, by rw [hS2]; exact hE2⟩
  have hgp := T.getL_put (p := p) (r := q) (v := (id, false)) hE.s
  have key : ∀ v, T.getL (T.putL σ.E p (id, false)) q = some v → 0 < cntF S2 v.1 := fun v hv => by
    have := (hrel.there (by rw [hS2]; exact hE2) (q := q) (o := v) (by rw [hS2]; exact hv)).2
    rw [hS2] at this
    exact this
  unfold lk
  rw [hS2]
  dsimp only
  by_cases hq : q = p
  · rw [if_pos hq] at hgp ⊢
    have h4 := key _ hgp
    rw [hgp]
    show some (getX S2 id, false) = _
    rw [hx2 id h4, kv.new]
  · rw [if_neg hq] at hgp ⊢
    cases hgq : T.getL σ.E q with
    | none => rw [hgp, hgq]; rfl
    | some v =>
      rw [hgq] at hgp
      have h4 := key _ hgp
      rw [hgp]
      show some (getX S2 v.1, v.2) = some (getX σ.S v.1, v.2)
      rw [hx2 v.1 h4, kv.get v.1 (h.there hE hgq).2]
theorem puts_rel {x : Int} {X : Nf} (hX : okN X = true) (hn : NfN X) : ∀ (ps : List Pf) (B : Int) (σ : Tb), Rel x σ → T.EOk σ.E → StOk B σ.S σ.c → 0 ≤ B → B + ps.length < 4096 → (∀ p ∈ ps, PfN p ∧ Rt p) → Rel x (putF X σ ps) ∧ (∀ q, lk (putF X σ ps) q = if q ∈ ps then some (X, false) else lk σ q) ∧ T.EOk (putF X σ ps).E
  | [], _, σ, h, hE, _, _, _, _ => ⟨h, fun q => by rw [if_neg List.not_mem_nil]; rfl, hE⟩
  | p :: ps, B, σ, h, hE, hs, hB0, hB, hp => by
    simp only [List.length_cons] at hB
    have hpp := hp p (by simp)
    obtain ⟨r1, r2, r3⟩ := put_rel h hE hs hB0 (by omega) hX hn hpp.2 hpp.1
    obtain ⟨r4, r5, r6⟩ := puts_rel hX hn ps (B + 1) (putStep X σ p) r1 r3 (putStep_ok hn hs hB0) (by omega) (by omega) (fun q hq => hp q (by simp [hq]))
    refine ⟨r4, fun q => ?_, r6⟩
    show lk (putF X (putStep X σ p) ps) q = _
    rw [r5, r2]
    by_cases h1 : q ∈ ps
    · simp [h1]
    · by_cases h2 : q = p <;> simp [h1, h2]
theorem upd_rel {B lim : Int} {u : Up} {σ : Tb} (h : Rel 0 σ) (hE : T.EOk σ.E) (hs : StOk B σ.S σ.c) (hB0 : 0 ≤ B) (hB : B + 1 + u.td.length < 4096) (hu : UpN u) : Rel 0 (updF lim u σ) ∧ (∀ q, lk (updF lim u σ) q = if noRoom lim u σ then lk σ q else if q ∈ upL u then some (u.d.nf, false) else if q ∈ u.wd then none else lk σ q) ∧ T.EOk (updF lim u σ).E := by
  have hnx : NfN u.d.nf := At.nfN hu.d.num
  have hll := upL_len u
  unfold updF
  by_cases hr : noRoom lim u σ
  · rw [if_pos hr]
    exact ⟨h, fun q => by rw [if_pos hr], hE⟩
  rw [if_neg hr]
  have hd := srt_ne (goneF_srt σ.E (upL u) u.wd)
  have hgs : ∀ p ∈ goneF σ.E (upL u) u.wd, (T.getL σ.E p).isSome = true := fun p hp => (mem_goneF.1 hp).2.1
  have hgo : ∀ q, (if q ∈ upL u then some (u.d.nf, false) else if q ∈ goneF σ.E (upL u) u.wd then none else lk σ q) = if q ∈ upL u then some (u.d.nf, false) else if q ∈ u.wd then none else lk σ q := fun q => by
    by_cases h1 : q ∈ upL u
    · rw [if_pos h1, if_pos h1]
    · rw [if_neg h1, if_neg h1]
      by_cases h2 : q ∈ u.wd
      · rw [if_pos h2]
        cases h3 : T.getL σ.E q with
        | none => unfold lk; rw [h3]; simp
        | some o => rw [if_pos (mem_goneF.2 ⟨h2, by rw [h3]; rfl, h1⟩)]
      · rw [if_neg h2, if_neg (fun h3 => h2 (mem_goneF.1 h3).1)]
  unfold endF
  by_cases hl : upL u = []
  · rw [if_pos hl]
    unfold midF
    rw [if_pos hl]
    obtain ⟨r1, r2⟩ := drops_rel _ σ h hE hs hd hgs
    refine ⟨r1, fun q => ?_, dropF_srt _ σ hE⟩
    rw [if_neg hr, ← hgo q, r2, hl]
    simp
  · rw [if_neg hl]
    obtain ⟨S0, c0, id, hk, kv⟩ := keep_v hs (by omega) (upL_ok hl)
    have hs0 : StOk (B + 1) S0 c0 := by have := keepF_ok hs hB0 hnx; rw [hk] at this; exact this
    have hm : midF u σ = dropF ⟨σ.E, S0, c0⟩ (goneF σ.E (upL u) u.wd) := by unfold midF; rw [if_neg hl, hk]
    have h0 : Rel id ⟨σ.E, S0, c0⟩ := ⟨fun j hj => by
      show cntF S0 j = cI σ.E j + _
      rw [kv.cnt, h.cnt j hj, if_neg (by omega)]
      omega, h.pos⟩
    have hlk0 : ∀ q, lk ⟨σ.E, S0, c0⟩ q = lk σ q := fun q => by
      unfold lk
      dsimp only
      cases hg : T.getL σ.E q with
      | none => rfl
      | some o => show some (getX S0 o.1, o.2) = some (getX σ.S o.1, o.2); rw [kv.get _ (h.there hE hg).2]
    obtain ⟨r1, r2⟩ := drops_rel _ ⟨σ.E, S0, c0⟩ h0 hE hs0 hd hgs
    have r3 := dropF_srt (goneF σ.E (upL u) u.wd) ⟨σ.E, S0, c0⟩ hE
    have r4 := dropF_ok (goneF σ.E (upL u) u.wd) ⟨σ.E, S0, c0⟩ hs0
    rw [hm, hk]
    generalize dropF ⟨σ.E, S0, c0⟩ (goneF σ.E (upL u) u.wd) = σ1 at *
    obtain ⟨p1, p2, p3⟩ := puts_rel (upL_ok hl) hnx (upL u) (B + 1) σ1 r1 r3 r4 (by omega) (by omega) (fun p hp => ⟨hu.td p (mem_upL hp).1, (mem_upL hp).2⟩)
    have p4 := putF_ok hnx (upL u) (B + 1) σ1 r4 (by omega)
    generalize putF u.d.nf σ1 (upL u) = σ2 at *
    have hc : 0 < cntF σ2.S id := by
      have h5 := p1.cnt id kv.pos
      rw [if_pos rfl] at h5
      have := cI_nn σ2.E id
      omega
    obtain ⟨f1, f2⟩ := free_v p4 hc
    have hf : Rel 0 ⟨σ2.E, (freeF σ2.S id).1, σ2.c⟩ := ⟨fun j hj => by
      show cntF (freeF σ2.S id).1 j = cI σ2.E j + _
      rw [f1, p1.cnt j hj, if_neg (show ¬ j = 0 by omega)]
      omega, p1.pos⟩
    refine ⟨hf, fun q => ?_, p3⟩
    have e : lk ⟨σ2.E, (freeF σ2.S id).1, σ2.c⟩ q = lk σ2 q := by
      unfold lk
      dsimp only
      cases hg : T.getL σ2.E q with
      | none => rfl
      | some o => show some (getX _ o.1, o.2) = some (getX σ2.S o.1, o.2); rw [f2 _ (hf.there p3 hg).2]
    show lk ⟨σ2.E, (freeF σ2.S id).1, σ2.c⟩ q = _
    rw [if_neg hr, e, p2, r2, hlk0, hgo]
end Go.Proofs.YtnhabkipjmgaaaaGreat
namespace Go.Pm
set_option linter.unusedSimpArgs false
set_option linter.unusedVariables false
open Go.RowKit

def Rs (P : Program) (w : World) : Nat → TypeId → List Value → Prop
  | 0, _, _ => False
  | n + 1, t, cs => match P.underlying t with
    | some .bool => ∃ b, cs = [.bool b]
    | some (.int k) => ∃ m, cs = [.int k m] ∧ (Lit.int k m).wf = true
    | some .string => ∃ s : ByteArray, cs = [.string s] ∧ s.size ≤ reachBytes
    | some (.slice e) => cs = [.slice none 0 0] ∨ ∃ (a : Addr) (len cap : Nat), cs = [.slice (some a) len cap] ∧ len ≤ cap ∧ cap ≤ maxLen ∧ cap * P.bytesOf e ≤ reachBytes ∧
        ∀ i, i < cap → ∃ ds : List Value, ds.length = P.cellsOf e ∧ (∀ j, j < ds.length → w.cell? (a.add (i * P.cellsOf e + j)) = ds[j]?) ∧ Rs P w n e ds
    | some (.struct fs) => cs.length = P.cellsOf t ∧ ∀ f, f ∈ fs.toList → Rs P w n f.type ((cs.drop f.offset).take (P.cellsOf f.type))
    | some (.array m e) => cs.length = P.cellsOf t ∧ ∀ i, i < m → Rs P w n e ((cs.drop (i * P.cellsOf e)).take (P.cellsOf e))
    | _ => True

theorem weightsAll_mem {H : Type} {P : Program} {e : TypeId} {ds : List (DataW H)} {d : DataW H} (h : d ∈ ds) {m : Nat} (hm : m ∈ d.weights P e) : m ∈ DataW.weightsAll P e ds := by
  induction ds with
  | nil => cases h
  | cons x r ih =>
    unfold DataW.weightsAll
    rcases List.mem_cons.1 h with rfl | h
    · exact List.mem_append_left _ hm
    · exact List.mem_append_right _ (ih h)
theorem weightsEach_mem {H : Type} {P : Program} : ∀ {ts : List TypeId} {ds : List (DataW H)} {i : Nat} {t : TypeId} {d : DataW H}, ts[i]? = some t → ds[i]? = some d → ∀ {m : Nat}, m ∈ d.weights P t → m ∈ DataW.weightsEach P ts ds
  | [], _, _, _, _, h, _, _, _ => by simp at h
  | _ :: _, [], _, _, _, _, h, _, _ => by simp at h
  | t :: ts, d :: ds, 0, _, _, h1, h2, m, hm => by
    simp only [List.getElem?_cons_zero, Option.some.injEq] at h1 h2
    subst h1 h2
    unfold DataW.weightsEach
    exact List.mem_append_left _ hm
  | t :: ts, d :: ds, i + 1, _, _, h1, h2, m, hm => by
    unfold DataW.weightsEach
    exact List.mem_append_right _ (weightsEach_mem (by simpa using h1) (by simpa using h2) hm)

theorem Rs.ofTrod {H : Type} {enc : TypeId × Value → H} {P : Program} {w : World} {base : Nat} {held : Bool} : ∀ (n : Nat) (t : TypeId) (cs : List Value) (x : DataW H × List MemPlace),
    DataW.trod enc P w base (fun _ => true) held n t cs = some x → (∀ m ∈ x.1.weights P t, m ≤ reachBytes) → Rs P w n t cs := by
  intro n
  induction n with
  | zero => intro t cs x h; simp [DataW.trod] at h
  | succ n ih =>
    intro t cs x h hz
    unfold Rs
    split
    · rename_i hu
      obtain ⟨b, rfl, _⟩ := DataW.trod_bool hu h
      exact ⟨b, rfl⟩
    · rename_i k hu
      obtain ⟨m, rfl, _, hw⟩ := DataW.trod_int hu h
      exact ⟨m, rfl, hw⟩
    · rename_i hu
      obtain ⟨s, rfl, rfl, hw⟩ := DataW.trod_string hu h
      exact ⟨s, rfl, by have := hz s.data.toList.length (by simp [DataW.weights]); simpa using this⟩
    · rename_i e hu
      rcases DataW.trod_slice hu h with ⟨h1, _⟩ | ⟨a, len, cap, elems, rest, m, hm, hcs, hx, _, hl, hcm, hel, he, hr, _⟩
      · exact .inl h1
      · obtain rfl : m = n := by omega
        obtain ⟨hrl, hr⟩ := hr rfl
        subst hx
        have hwe : DataW.weights P t (.slice (elems.map (·.1)) (rest.map (·.1)) : DataW H) = ((elems.map (·.1)).length + (rest.map (·.1)).length) * P.bytesOf e :: (DataW.weightsAll P e (elems.map (·.1)) ++ DataW.weightsAll P e (rest.map (·.1))) := by
          rw [DataW.weights, hu]
        have hz' : ∀ m ∈ DataW.weights P t (.slice (elems.map (·.1)) (rest.map (·.1)) : DataW H), m ≤ reachBytes := hz
        rw [hwe] at hz'
        refine .inr ⟨a, len, cap, hcs, hl, hcm, ?_, fun i hi => ?_⟩
        · have := hz' _ (List.mem_cons_self ..)
          simp only [List.length_map] at this
          rwa [show elems.length + rest.length = cap by omega] at this
        · have key : ∃ y, (w.cells? base (a.add (i * P.cellsOf e)) (P.cellsOf e)).bind (DataW.trod enc P w base (fun _ => true) held m e) = some y ∧ (∀ k ∈ y.1.weights P e, k ≤ reachBytes) := by
            by_cases hil : i < len
            · rw [he i hil, List.getElem?_eq_getElem (by omega)]
              exact ⟨_, rfl, fun k hk => hz' k (List.mem_cons_of_mem _ (List.mem_append_left _ (weightsAll_mem (List.mem_map_of_mem (List.getElem_mem _)) hk)))⟩
            · have h4 := hr (i - len) (by omega)
              rw [show len + (i - len) = i by omega, List.getElem?_eq_getElem (by omega)] at h4
              exact ⟨_, h4, fun k hk => hz' k (List.mem_cons_of_mem _ (List.mem_append_right _ (weightsAll_mem (List.mem_map_of_mem (List.getElem_mem _)) hk)))⟩
          obtain ⟨y, hy, hyz⟩ := key
          cases hc : w.cells? base (a.add (i * P.cellsOf e)) (P.cellsOf e) with
          | none => simp [hc] at hy
          | some ds =>
            simp only [hc, Option.bind_some] at hy
            obtain ⟨_, hlen, hcell⟩ := World.cells?_some hc
            refine ⟨ds, hlen, fun j hj => ?_, ih _ _ _ hy hyz⟩
            rw [← hcell j (by omega), addr_add_add]
    · rename_i fs hu
      obtain ⟨xs, m, hm, hx, hl, hxl, hf⟩ := DataW.trod_struct hu h
      obtain rfl : m = n := by omega
      subst hx
      have hz' : ∀ m ∈ DataW.weightsEach P (fs.toList.map (·.type)) (xs.map (·.1)), m ≤ reachBytes := fun k hk => hz k (by show k ∈ DataW.weights P t (.agg (xs.map (·.1)) : DataW H); rw [DataW.weights, hu]; exact hk)
      refine ⟨hl, fun f hfm => ?_⟩
      obtain ⟨i, hi⟩ := List.getElem?_of_mem hfm
      have hi' : fs[i]? = some f := by simpa using hi
      have h3 := hf i f hi'
      have hil : i < xs.length := by
        have := (List.getElem?_eq_some_iff.1 hi).1
        simp at this
        omega
      rw [List.getElem?_eq_getElem hil] at h3
      exact ih _ _ _ h3 fun k hk => hz' k (weightsEach_mem (i := i) (t := f.type) (by simp [hi]) (d := xs[i].1) (by simp [List.getElem?_eq_getElem hil]) hk)
    · rename_i m e hu
      obtain ⟨xs, m', hm, hx, hl, hxl, hf⟩ := DataW.trod_array hu h
      obtain rfl : m' = n := by omega
      subst hx
      have hz' : ∀ m ∈ DataW.weightsAll P e (xs.map (·.1)), m ≤ reachBytes := fun k hk => hz k (by show k ∈ DataW.weights P t (.agg (xs.map (·.1)) : DataW H); rw [DataW.weights, hu]; exact hk)
      refine ⟨hl, fun i hi => ?_⟩
      have h3 := hf i hi
      rw [List.getElem?_eq_getElem (by omega)] at h3
      exact ih _ _ _ h3 fun k hk => hz' k (weightsAll_mem (List.mem_map_of_mem (List.getElem_mem _)) hk)
    · trivial

theorem Rs.ofTrod' {H : Type} {enc : TypeId × Value → H} {P : Program} {w : World} {base : Nat} {held : Bool} {t : TypeId} {v : Value} {d : DataW H} {ps : List MemPlace}
    (h : DataW.Trod enc P w base (fun _ => true) held t v d ps) (hz : ∀ m ∈ d.weights P t, m ≤ reachBytes) : ∃ n, Rs P w n t v.cells.toList := by
  obtain ⟨n, h⟩ := h
  exact ⟨n, Rs.ofTrod n _ _ _ h hz⟩

theorem Rs.rd {P : Program} {w : World} : ∀ (n : Nat) (t : TypeId) (cs : List Value), Rs P w n t cs → Rd P w n t cs := by
  intro n
  induction n with
  | zero => intro t cs h; exact h
  | succ n ih =>
    intro t cs h
    unfold Rs at h
    unfold Rd
    split
    · rename_i hu; simpa only [hu] using h
    · rename_i k hu; simpa only [hu] using h
    · rename_i hu
      simp only [hu] at h
      obtain ⟨s, hs, hl⟩ := h
      exact ⟨s, hs, by unfold reachBytes at hl; unfold maxLen; omega⟩
    · rename_i e hu
      simp only [hu] at h
      rcases h with h | ⟨a, len, cap, hcs, hl, hm, _, he⟩
      · exact .inl h
      · exact .inr ⟨a, len, cap, hcs, hl, hm, fun i hi => by
          obtain ⟨ds, h1, h2, h3⟩ := he i hi
          exact ⟨ds, h1, h2, ih _ _ h3⟩⟩
    · rename_i fs hu
      simp only [hu] at h
      exact ⟨h.1, fun f hf => ih _ _ (h.2 f hf)⟩
    · rename_i m e hu
      simp only [hu] at h
      exact ⟨h.1, fun i hi => ih _ _ (h.2 i hi)⟩
    · trivial

theorem Rs.slice {P : Program} {w : World} {n : Nat} {t e : TypeId} {cs : List Value} (h : Rs P w n t cs) (hu : P.underlying t = some (.slice e)) :
    cs = [.slice none 0 0] ∨ ∃ (a : Addr) (len cap m : Nat), cs = [.slice (some a) len cap] ∧ len ≤ cap ∧ cap ≤ maxLen ∧ cap * P.bytesOf e ≤ reachBytes ∧
        ∀ i, i < cap → ∃ ds : List Value, ds.length = P.cellsOf e ∧ (∀ j, j < ds.length → w.cell? (a.add (i * P.cellsOf e + j)) = ds[j]?) ∧ Rs P w m e ds := by
  cases n with
  | zero => exact h.elim
  | succ n =>
    unfold Rs at h
    simp only [hu] at h
    rcases h with h | ⟨a, len, cap, h1, h2, h3, h4, h5⟩
    · exact .inl h
    · exact .inr ⟨a, len, cap, n, h1, h2, h3, h4, h5⟩

theorem Rs.elems {P : Program} {w : World} {n : Nat} {t e : TypeId} {a : Option Addr} {len cap sz : Nat} (h : Rs P w n t [.slice a len cap]) (hu : P.underlying t = some (.slice e)) (hc : P.cellsOf e = sz) :
    len ≤ cap ∧ cap ≤ maxLen ∧ cap * P.bytesOf e ≤ reachBytes ∧ ∃ (m : Nat) (ds : List (List Value)), ds.length = len ∧ Vw w (.slice a len cap) sz len ds.flatten ∧ ∀ d ∈ ds, d.length = sz ∧ Rs P w m e d := by
  rcases h.slice hu with h | ⟨x, l, c, m, h1, h2, h3, h4, h5⟩
  · cases h
    exact ⟨Nat.le_refl _, by simp [maxLen], by simp, 0, [], rfl, by simpa using Vw.nil w sz, by simp⟩
  · cases h1
    refine ⟨h2, h3, h4, m, ?_⟩
    obtain ⟨f, hf⟩ := choose_lt (n := len) (p := fun i (d : List Value) => d.length = sz ∧ (∀ j, j < sz → w.cell? (x.add (i * sz + j)) = d[j]?) ∧ Rs P w m e d) (by
      intro i hi
      obtain ⟨d, h6, h7, h8⟩ := h5 i (by omega)
      rw [hc] at h6 h7
      exact ⟨d, h6, fun j hj => h7 j (by omega), h8⟩)
    have hfl : ∀ k, k ≤ len → ((List.range k).map f).flatten.length = k * sz := by
      intro k
      induction k with
      | zero => intro _; simp
      | succ k ih => intro hk; rw [List.range_succ, List.map_append, List.flatten_append, List.length_append, ih (by omega)]; simp [(hf k (by omega)).1, Nat.succ_mul]
    refine ⟨(List.range len).map f, by simp, ⟨_, _, rfl, hfl len (Nat.le_refl _), h2, h3, (fun h => by cases h), fun hne => ?_⟩, ?_⟩
    · have hcell : ∀ k, k ≤ len → ∀ j u, ((List.range k).map f).flatten[j]? = some u → w.cell? (x.add j) = some u := by
        intro k
        induction k with
        | zero => intro _ j u hu; simp at hu
        | succ k ih =>
          intro hk j u hu
          rw [List.range_succ, List.map_append, List.flatten_append, List.getElem?_append] at hu
          split at hu
          · exact ih (by omega) j u hu
          · rename_i hj
            rw [hfl k (by omega)] at hu hj
            simp only [List.map_cons, List.map_nil, List.flatten_cons, List.flatten_nil, List.append_nil] at hu
            have hjl : j - k * sz < sz := by
              have := (List.getElem?_eq_some_iff.1 hu).1
              rw [(hf k (by omega)).1] at this
              exact this
            have := (hf k (by omega)).2.1 (j - k * sz) hjl
            rw [show k * sz + (j - k * sz) = j by omega] at this
            rw [this]
            exact hu
      have h0 : ∃ u, ((List.range len).map f).flatten[0]? = some u := by
        cases hq : ((List.range len).map f).flatten with
        | nil => exact (hne hq).elim
        | cons u r => exact ⟨u, rfl⟩
      obtain ⟨u0, hu0⟩ := h0
      have hc0 := hcell len (Nat.le_refl _) 0 u0 hu0
      obtain ⟨b, off, spot⟩ := x
      have hspot : spot = Option.none := by simpa [Addr.add] using World.cell?_spot hc0
      subst hspot
      exact ⟨b, off, rfl, fun j u hu => by have := hcell len (Nat.le_refl _) j u hu; rwa [addr_add_plain] at this⟩
    · intro d hd
      obtain ⟨i, hi, rfl⟩ := List.mem_map.1 hd
      have hi' : i < len := by simpa using hi
      exact ⟨(hf i hi').1, (hf i hi').2.2⟩

theorem Rs.only {P : Program} {w w' : World} (ho : Only [] w w') : ∀ (n : Nat) (t : TypeId) (cs : List Value), Rs P w n t cs → Rs P w' n t cs := by
  intro n
  induction n with
  | zero => intro t cs h; exact h
  | succ n ih =>
    intro t cs h
    unfold Rs at h ⊢
    split
    · rename_i hu; simpa only [hu] using h
    · rename_i k hu; simpa only [hu] using h
    · rename_i hu; simpa only [hu] using h
    · rename_i e hu
      simp only [hu] at h
      rcases h with h | ⟨a, len, cap, hcs, hl, hm, hz, he⟩
      · exact .inl h
      · refine .inr ⟨a, len, cap, hcs, hl, hm, hz, fun i hi => ?_⟩
        obtain ⟨ds, h1, h2, h3⟩ := he i hi
        refine ⟨ds, h1, fun j hj => ?_, ih _ _ h3⟩
        have h4 := h2 j hj
        have hlt : (a.add (i * P.cellsOf e + j)).block < w.heap.size := by
          rw [List.getElem?_eq_getElem hj] at h4
          exact World.block_lt_of_cell? w _ h4
        rw [World.cell?_of_block (w := w) (ho.block _ hlt (by simp))]
        exact h4
    · rename_i fs hu
      simp only [hu] at h
      exact ⟨h.1, fun f hf => ih _ _ (h.2 f hf)⟩
    · rename_i m e hu
      simp only [hu] at h
      exact ⟨h.1, fun i hi => ih _ _ (h.2 i hi)⟩
    · trivial
theorem Rs.struct {P : Program} {w : World} {n : Nat} {t : TypeId} {cs : List Value} {fs : Array Field} (h : Rs P w n t cs) (hu : P.underlying t = some (.struct fs)) :
    cs.length = P.cellsOf t ∧ ∃ m, ∀ f, f ∈ fs.toList → Rs P w m f.type ((cs.drop f.offset).take (P.cellsOf f.type)) := by
  cases n with
  | zero => exact h.elim
  | succ n => unfold Rs at h; simp only [hu] at h; exact ⟨h.1, n, h.2⟩
theorem Rs.field {P : Program} {w : World} {n : Nat} {t : TypeId} {cs : List Value} {fs : Array Field} (h : Rs P w n t cs) (hu : P.underlying t = some (.struct fs)) (i : Nat) (t' : TypeId) (off sz : Nat)
    (h1 : (fs[i]?).map (fun f => (f.type, f.offset)) = some (t', off)) (h2 : P.cellsOf t' = sz) : ∃ m, Rs P w m t' ((cs.drop off).take sz) := by
  obtain ⟨_, m, hf⟩ := h.struct hu
  cases hi : fs[i]? with
  | none => simp [hi] at h1
  | some f =>
    simp only [hi, Option.map_some, Option.some.injEq, Prod.mk.injEq] at h1
    obtain ⟨rfl, rfl⟩ := h1
    subst h2
    exact ⟨m, hf f (List.mem_of_getElem? (i := i) (by simpa using hi))⟩
end Go.Pm
namespace Go.Pm
set_option linter.unusedSimpArgs false
set_option linter.unusedVariables false
open Go.RowKit

theorem Pact.law {P : Program} {f : FuncId} {args : Array Value} {φ : World → Prop} {W : World} (S : Pact P f args φ [] (fun v L => v = .bool true ∧ L = [])) (h : Kn (World.all W) φ) :
    Calls P f args W fun e w' => e = .returned (.bool true) ∧ Only [] W w' :=
  (S W (World.all W) W h (Ow.start W)).mono fun e w' ⟨v, L', ⟨hv, hl⟩, he, H⟩ => by
    subst hv
    exact ⟨he, H.fin⟩

theorem cell?_heap {w w' : World} (h : w'.heap = w.heap) (a : Addr) : w'.cell? a = w.cell? a := by
  have : w' = { w' with heap := w.heap } := by rw [← h]
  unfold World.cell?
  rw [h]
theorem Rs.heap {P : Program} {w w' : World} (hh : w'.heap = w.heap) : ∀ (n : Nat) (t : TypeId) (cs : List Value), Rs P w n t cs → Rs P w' n t cs := by
  intro n
  induction n with
  | zero => intro t cs h; exact h
  | succ n ih =>
    intro t cs h
    unfold Rs at h ⊢
    split
    · rename_i hu; simpa only [hu] using h
    · rename_i k hu; simpa only [hu] using h
    · rename_i hu; simpa only [hu] using h
    · rename_i e hu
      simp only [hu] at h
      rcases h with h | ⟨a, len, cap, hcs, hl, hm, hz, he⟩
      · exact .inl h
      · refine .inr ⟨a, len, cap, hcs, hl, hm, hz, fun i hi => ?_⟩
        obtain ⟨ds, h1, h2, h3⟩ := he i hi
        exact ⟨ds, h1, fun j hj => by rw [cell?_heap hh]; exact h2 j hj, ih _ _ h3⟩
    · rename_i fs hu
      simp only [hu] at h
      exact ⟨h.1, fun f hf => ih _ _ (h.2 f hf)⟩
    · rename_i m e hu
      simp only [hu] at h
      exact ⟨h.1, fun i hi => ih _ _ (h.2 i hi)⟩
    · trivial
theorem Rs.kn {P : Program} {W : World} {n : Nat} {t : TypeId} {cs : List Value} (h : Rs P W n t cs) : Kn (World.all W) (fun w => Rs P w n t cs) :=
  Kn.all (fun _ ho => Rs.only ho n t cs h) fun _ _ hh hr => Rs.heap hh n t cs hr
theorem Rs.of_weights {H : Type} {enc : TypeId × Value → H} {P : Program} {w : World} {base : Nat} {held : Bool} {ts : List TypeId} {ds : List (DataW H)} (hz : (DataW.weightsEach P ts ds).all (· ≤ reachBytes) = true) (i : Nat) {t : TypeId} {d : DataW H} (h1 : ts[i]? = some t) (h2 : ds[i]? = some d)
    {v : Value} {ps : List MemPlace} (h : DataW.Trod enc P w base (fun _ => true) held t v d ps) : ∃ n, Rs P w n t v.cells.toList :=
  Rs.ofTrod' h fun m hm => by
    have := List.all_eq_true.1 hz m (weightsEach_mem h1 h2 hm)
    simpa using this

/-! The cells of a struct, one by one. -/
def flatF (P : Program) (r : TypeId → Option (List TypeId)) : List Field → Nat → Option (List TypeId)
  | [], _ => some []
  | f :: fs, o => if f.offset = o then match r f.type, flatF P r fs (o + P.cellsOf f.type) with
      | some a, some b => if a.length = P.cellsOf f.type then some (a ++ b) else none
      | _, _ => none
    else none
def flatT (P : Program) : Nat → TypeId → Option (List TypeId)
  | 0, _ => none
  | n + 1, t => match P.underlying t with
    | some (.struct fs) => match flatF P (flatT P n) fs.toList 0 with
      | some a => if a.length = P.cellsOf t then some a else none
      | none => none
    | some (.array m e) => match flatT P n e with
      | some a => if a.length = P.cellsOf e ∧ m * P.cellsOf e = P.cellsOf t then some (List.replicate m a).flatten else none
      | none => none
    | some .bool => some [t]
    | some (.int _) => some [t]
    | some .string => some [t]
    | some (.slice _) => some [t]
    | _ => none
def Leaf (P : Program) (w : World) : List TypeId → List Value → Prop
  | [], cs => cs = []
  | t :: ts, cs => ∃ c r, cs = c :: r ∧ (∃ m, Rs P w m t [c]) ∧ Leaf P w ts r
theorem Leaf.append {P : Program} {w : World} : ∀ {ts us : List TypeId} {cs ds : List Value}, Leaf P w ts cs → Leaf P w us ds → Leaf P w (ts ++ us) (cs ++ ds)
  | [], _, _, _, h, k => by cases h; exact k
  | _ :: _, _, _, _, ⟨c, r, e, h1, h2⟩, k => by subst e; exact ⟨c, _, rfl, h1, Leaf.append h2 k⟩
theorem Leaf.len {P : Program} {w : World} : ∀ {ts : List TypeId} {cs : List Value}, Leaf P w ts cs → cs.length = ts.length
  | [], _, h => by cases h; rfl
  | _ :: _, _, ⟨c, r, e, _, h2⟩ => by subst e; simp [Leaf.len h2]
theorem leaf_fields {P : Program} {w : World} {r : TypeId → Option (List TypeId)} (hr : ∀ t ts m cs, r t = some ts → Rs P w m t cs → Leaf P w ts cs) : ∀ (fs : List Field) (o : Nat) (ts : List TypeId) (m : Nat) (all : List Value),
    flatF P r fs o = some ts → (∀ f ∈ fs, Rs P w m f.type ((all.drop f.offset).take (P.cellsOf f.type))) → Leaf P w ts ((all.drop o).take ts.length)
  | [], _, ts, _, _, h, _ => by
    simp only [flatF, Option.some.injEq] at h
    subst h
    simp [Leaf]
  | f :: fs, o, ts, m, all, h, hf => by
    simp only [flatF] at h
    split at h
    · rename_i ho
      split at h
      · rename_i a b ha hb
        split at h
        · rename_i hl
          cases h
          have h1 := hr _ _ _ _ ha (hf f (List.mem_cons_self ..))
          have h2 := leaf_fields hr fs _ b m all hb fun g hg => hf g (List.mem_cons_of_mem _ hg)
          rw [ho] at h1
          have := h1.append h2
          rw [List.length_append, List.take_add, List.drop_drop]
          rw [hl]
          exact this
        · cases h
      · cases h
    · cases h
theorem leaf_of {P : Program} {w : World} : ∀ (k : Nat) (t : TypeId) (ts : List TypeId) (m : Nat) (cs : List Value), flatT P k t = some ts → Rs P w m t cs → Leaf P w ts cs := by
  intro k
  induction k with
  | zero => intro t ts m cs h; simp [flatT] at h
  | succ k ih =>
    intro t ts m cs h hr
    have one : ∀ c, cs = [c] → ts = [t] → Leaf P w ts cs := fun c e e2 => by subst e e2; exact ⟨c, [], rfl, ⟨m, hr⟩, rfl⟩
    simp only [flatT] at h
    split at h
    · rename_i fs hu
      split at h
      · rename_i a ha
        split at h
        · rename_i hal
          cases h
          obtain ⟨hl, m', hf⟩ := hr.struct hu
          have h1 := leaf_fields (w := w) (fun t ts m cs => ih t ts m cs) fs.toList 0 _ m' cs ha hf
          rw [List.drop_zero, List.take_of_length_le (by omega)] at h1
          exact h1
        · cases h
      · cases h
    · rename_i x e hu
      split at h
      · rename_i a ha
        split at h
        · rename_i hal
          cases h
          obtain ⟨hal, htl⟩ := hal
          cases m with
          | zero => exact hr.elim
          | succ m =>
            unfold Rs at hr
            simp only [hu] at hr
            obtain ⟨hl, hf⟩ := hr
            have key : ∀ y, y ≤ x → Leaf P w (List.replicate y a).flatten (cs.take (y * P.cellsOf e)) := by
              intro y
              induction y with
              | zero => intro _; simp [Leaf]
              | succ y ihy =>
                intro hy
                have h1 := (ihy (by omega)).append (ih _ _ _ _ ha (hf y (by omega)))
                rw [Nat.succ_mul, List.take_add, List.replicate_succ', List.flatten_append]
                simpa using h1
            have := key x (Nat.le_refl _)
            rw [List.take_of_length_le (by omega)] at this
            exact this
        · cases h
      · cases h
    · rename_i hu
      cases h
      cases m with
      | zero => exact hr.elim
      | succ m => have hr' := hr; unfold Rs at hr'; simp only [hu] at hr'; obtain ⟨b, e⟩ := hr'; exact one _ e rfl
    · rename_i hu
      cases h
      cases m with
      | zero => exact hr.elim
      | succ m => have hr' := hr; unfold Rs at hr'; simp only [hu] at hr'; obtain ⟨b, e, _⟩ := hr'; exact one _ e rfl
    · rename_i hu
      cases h
      cases m with
      | zero => exact hr.elim
      | succ m => have hr' := hr; unfold Rs at hr'; simp only [hu] at hr'; obtain ⟨b, e, _⟩ := hr'; exact one _ e rfl
    · rename_i hu
      cases h
      cases m with
      | zero => exact hr.elim
      | succ m => have hr' := hr; unfold Rs at hr'; simp only [hu] at hr'; rcases hr' with e | ⟨a, l, c, e, _⟩ <;> exact one _ e rfl
    · cases h

theorem Leaf.one {P : Program} {w : World} {t : TypeId} {ts : List TypeId} {cs : List Value} (h : Leaf P w (t :: ts) cs) : ∃ c r, cs = c :: r ∧ (∃ m, Rs P w m t [c]) ∧ Leaf P w ts r := h
theorem Leaf.nil' {P : Program} {w : World} {cs : List Value} (h : Leaf P w [] cs) : cs = [] := h
theorem Leaf.int {P : Program} {w : World} {t : TypeId} {ts : List TypeId} {cs : List Value} {k : IntKind} (h : Leaf P w (t :: ts) cs) (hu : P.underlying t = some (.int k)) : ∃ z r, cs = .int k z :: r ∧ (Lit.int k z).wf = true ∧ Leaf P w ts r := by
  obtain ⟨c, r, rfl, ⟨m, h1⟩, h2⟩ := h
  obtain ⟨z, e, h3⟩ := (Rs.rd _ _ _ h1).int hu
  cases e
  exact ⟨z, r, rfl, h3, h2⟩
theorem Leaf.i64 {P : Program} {w : World} {t : TypeId} {ts : List TypeId} {cs : List Value} (h : Leaf P w (t :: ts) cs) (hu : P.underlying t = some (.int .i64)) : ∃ z r, cs = .int .i64 z :: r ∧ (-9223372036854775808 ≤ z ∧ z ≤ 9223372036854775807) ∧ Leaf P w ts r := by
  obtain ⟨z, r, e, h1, h2⟩ := h.int hu
  exact ⟨z, r, e, bounds_i64 h1, h2⟩
theorem Leaf.u32 {P : Program} {w : World} {t : TypeId} {ts : List TypeId} {cs : List Value} (h : Leaf P w (t :: ts) cs) (hu : P.underlying t = some (.int .u32)) : ∃ z r, cs = .int .u32 z :: r ∧ (0 ≤ z ∧ z ≤ 4294967295) ∧ Leaf P w ts r := by
  obtain ⟨z, r, e, h1, h2⟩ := h.int hu
  exact ⟨z, r, e, bounds_u32 h1, h2⟩
theorem Leaf.u8 {P : Program} {w : World} {t : TypeId} {ts : List TypeId} {cs : List Value} (h : Leaf P w (t :: ts) cs) (hu : P.underlying t = some (.int .u8)) : ∃ z r, cs = .int .u8 z :: r ∧ (0 ≤ z ∧ z ≤ 255) ∧ Leaf P w ts r := by
  obtain ⟨z, r, e, h1, h2⟩ := h.int hu
  exact ⟨z, r, e, bounds_u8 h1, h2⟩
theorem Leaf.bool {P : Program} {w : World} {t : TypeId} {ts : List TypeId} {cs : List Value} (h : Leaf P w (t :: ts) cs) (hu : P.underlying t = some .bool) : ∃ z r, cs = .bool z :: r ∧ Leaf P w ts r := by
  obtain ⟨c, r, rfl, ⟨m, h1⟩, h2⟩ := h
  obtain ⟨z, e⟩ := (Rs.rd _ _ _ h1).bool hu
  cases e
  exact ⟨z, r, rfl, h2⟩
theorem Leaf.sl {P : Program} {w : World} {t e : TypeId} {ts : List TypeId} {cs : List Value} (h : Leaf P w (t :: ts) cs) (hu : P.underlying t = some (.slice e)) : ∃ a l c r, cs = .slice a l c :: r ∧ (∃ m, Rs P w m t [.slice a l c]) ∧ Leaf P w ts r := by
  obtain ⟨v, r, rfl, ⟨m, h1⟩, h2⟩ := h
  rcases h1.slice hu with e | ⟨a, l, c, _, e, _⟩
  · cases e
    exact ⟨none, 0, 0, r, rfl, ⟨m, h1⟩, h2⟩
  · cases e
    exact ⟨some a, l, c, r, rfl, ⟨m, h1⟩, h2⟩
theorem Rs.list {P : Program} {w : World} {n : Nat} {t e : TypeId} {a : Option Addr} {l c sz b : Nat} {α : Type} {enc : α → List Value} {ok : α → Prop} (h : Rs P w n t [.slice a l c]) (hu : P.underlying t = some (.slice e)) (hc : P.cellsOf e = sz) (hb : P.bytesOf e = b)
    (hx : ∀ m d, d.length = sz → Rs P w m e d → ∃ x, d = enc x ∧ ok x) :
    ∃ es : List α, es.length = l ∧ l ≤ c ∧ c ≤ maxLen ∧ c * b ≤ reachBytes ∧ Vw w (.slice a es.length c) sz es.length (flat enc es) ∧ ∀ x ∈ es, ok x := by
  obtain ⟨h1, h2, h3, m, ds, h4, h5, h6⟩ := h.elems hu hc
  subst hb
  have : ∃ es : List α, ds = es.map enc ∧ ∀ x ∈ es, ok x := by
    clear h4 h5
    induction ds with
    | nil => exact ⟨[], rfl, by simp⟩
    | cons d ds ih =>
      obtain ⟨es, e1, e2⟩ := ih fun d hd => h6 d (List.mem_cons_of_mem _ hd)
      obtain ⟨hl, hr⟩ := h6 d (List.mem_cons_self ..)
      obtain ⟨x, e3, e4⟩ := hx m d hl hr
      exact ⟨x :: es, by simp [e1, e3], fun y hy => by
        rcases List.mem_cons.1 hy with rfl | hy
        · exact e4
        · exact e2 y hy⟩
  obtain ⟨es, e1, e2⟩ := this
  subst e1
  have hel : es.length = l := by simpa using h4
  subst hel
  exact ⟨es, rfl, h1, h2, h3, by simpa [flat, List.flatMap] using h5, e2⟩
/-! What came in is known of any later world. -/
theorem vwKeep {w w' : World} (hc : ∀ b o u, w.cell? ⟨b, o, none⟩ = some u → w'.cell? ⟨b, o, none⟩ = some u) {v : Value} {sz n : Nat} {xs : List Value} (h : Vw w v sz n xs) : Vw w' v sz n xs := by
  obtain ⟨a, cap, rfl, h1, h2, h3, h4, h5⟩ := h
  refine ⟨a, cap, rfl, h1, h2, h3, h4, fun hne => ?_⟩
  obtain ⟨b, off, h6, h7⟩ := h5 hne
  exact ⟨b, off, h6, fun j u hu => hc _ _ _ (h7 j u hu)⟩
theorem i64Arg {P : Program} {W : World} {m : Nat} {t : TypeId} {z : Int} (hu : P.underlying t = some (.int .i64)) (h : Rs P W m t (Value.int .i64 z).cells.toList) : -9223372036854775808 ≤ z ∧ z ≤ 9223372036854775807 := by
  obtain ⟨y, e, h3⟩ := (Rs.rd _ _ _ h).int hu
  cases e
  exact bounds_i64 h3
end Go.Pm
