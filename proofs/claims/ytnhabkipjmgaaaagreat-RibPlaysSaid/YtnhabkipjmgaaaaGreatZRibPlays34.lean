/-
  Rb34, Rb35, Rb36: merged.
-/
import Derived.Test.YtnhabkipjmgaaaaGreatZRibPlays33
namespace Go.Proofs.YtnhabkipjmgaaaaGreat
set_option linter.unusedSimpArgs false
set_option linter.unusedVariables false
open Go.RowKit Go.Pm

open T (Pf PfN Rt Ah pfC)
structure Al (σ : Tb) (L : List Ro) : Prop where
  v : vL L = vwE σ
  n : ∀ r ∈ L, RoN r
structure Sx (i : Nat) (σ : Tb) : Prop where
  s : StOk (13 * i) σ.S σ.c
  l : σ.E.length ≤ 12 * i
  c : σ.c ≤ i
  r : Rel 0 σ
theorem Al.len {σ : Tb} {L : List Ro} (h : Al σ L) : L.length = σ.E.length := by
  rw [← vL_len, h.v, vwE_len]
theorem Al.keys {σ : Tb} {L : List Ro} (h : Al σ L) : T.keysE σ.E = L.map (·.p) := by
  rw [← vwE_keys, ← h.v]
  unfold vL
  rw [List.map_map]
  rfl
theorem keysE_srt {E : List T.Ent} (h : T.Srt E) : (T.keysE E).Pairwise fun p q => Ah p q := List.pairwise_map.2 h
theorem gv_live : ∀ {l : List Rv}, SrV l → ∀ q, gv (l.filter fun v => !v.2.2) q = match gv l q with | some (x, false) => some (x, false) | _ => none
  | [], _, _ => rfl
  | r :: l, h, q => by
    obtain ⟨h1, h2⟩ := List.pairwise_cons.1 h
    have ih := gv_live h2 q
    obtain ⟨p, x, st⟩ := r
    by_cases hq : p = q
    · have hn : gv l q = none := gv_none.2 fun r hr e => by
        have := h1 r hr
        rw [e] at this
        exact T.Ah.irrefl (hq ▸ this)
      rw [hn] at ih
      have hc : gv ((p, x, st) :: l) q = some (x, st) := by unfold gv; rw [if_pos hq]
      rw [hc]
      cases st with
      | true => rw [List.filter_cons_of_neg (by simp), ih]
      | false =>
        rw [List.filter_cons_of_pos (by simp)]
        unfold gv
        rw [if_pos hq]
    · have hc : gv ((p, x, st) :: l) q = gv l q := by
        conv => lhs; unfold gv
        rw [if_neg hq]
      rw [hc, ← ih]
      cases st with
      | true => rw [List.filter_cons_of_neg (by simp)]
      | false =>
        rw [List.filter_cons_of_pos (by simp)]
        conv => lhs; unfold gv
        rw [if_neg hq]
theorem vL_live (L : List Ro) : vL (liveO L) = (vL L).filter fun v => !v.2.2 := by
  unfold vL liveO
  rw [List.filter_map]
  rfl
theorem gv_mk (L : List Ro) (q : Pf) : gv (vL (L.map mkO)) q = (gv (vL L) q).map fun v => (v.1, true) := by
  induction L with
  | nil => rfl
  | cons r L ih =>
    show (if r.p = q then some (r.d.nf, true) else gv (vL (L.map mkO)) q) = Option.map _ (if r.p = q then some (r.d.nf, r.st) else gv (vL L) q)
    rw [ih]
    split <;> rfl
theorem Al.gv {σ : Tb} {L : List Ro} (h : Al σ L) (q : Pf) : Go.Proofs.YtnhabkipjmgaaaaGreat.gv (vL L) q = lk σ q := by rw [h.v, gv_vwE]
theorem Al.srt {σ : Tb} {L : List Ro} (h : Al σ L) (hE : T.EOk σ.E) : SrV (vL L) := h.v ▸ vwE_srt hE
theorem Al.stale {σ : Tb} {L : List Ro} (h : Al σ L) (hE : T.EOk σ.E) : (staleK σ.E).length = (stO L).length := by
  have h1 : (stO L).length = ((vL L).filter fun v => v.2.2).length := by
    unfold vL stO
    rw [List.filter_map, List.length_map]
    rfl
  have h2 : ((vwE σ).filter fun v => v.2.2).length = (σ.E.filter fun e => e.2.2).length := by
    unfold vwE
    rw [List.filter_map, List.length_map]
    rfl
  have h3 : staleK σ.E = T.keysE (σ.E.filter fun e => e.2.2) := by
    have h4 : (σ.E.filter fun e => e.2.2) = σ.E.filter fun e => !nst σ.E e.1 := List.filter_congr fun e he => by
      have hg : T.getL σ.E e.1 = some e.2 := (T.getL_mem hE.s).2 he
      unfold nst T.oldV
      rw [hg]
      simp
    rw [h4]
    exact (keys_filter σ.E fun p => !nst σ.E p).symm
  rw [h1, h.v, h2, h3]
  exact List.length_map _
theorem Al.mark {σ : Tb} {L : List Ro} (h : Al σ L) (hE : T.EOk σ.E) (hr : Rel 0 σ) (hE2 : T.EOk (markE σ.E (T.keysE σ.E))) : Al ⟨markE σ.E (T.keysE σ.E), σ.S, σ.c⟩ (L.map mkO) := by
  obtain ⟨r1, r2⟩ := mark_rel hr hE hE2
  refine ⟨srv_ext ?_ (vwE_srt hE2) fun q => by rw [gv_mk, gv_vwE, r2, h.gv], fun r hm => ?_⟩
  · have h1 := h.srt hE
    unfold SrV vL at h1 ⊢
    rw [List.map_map]
    rw [List.pairwise_map] at h1 ⊢
    exact h1
  · obtain ⟨x, hx, rfl⟩ := List.mem_map.1 hm
    exact ⟨(h.n x hx).p, (h.n x hx).t, (h.n x hx).d⟩
theorem Al.sweep {B : Int} {σ : Tb} {L : List Ro} (h : Al σ L) (hE : T.EOk σ.E) (hs : StOk B σ.S σ.c) (hr : Rel 0 σ) : Al (dropF σ (staleK σ.E)) (liveO L) ∧ ∀ ps : List Pf, ps.Pairwise (fun p q => Ah p q) → (∀ q, q ∈ ps ↔ Df (vL L) (vL (liveO L)) q) → ps = staleK σ.E := by
  obtain ⟨r1, r2⟩ := sweep_rel hr hE hs
  have hls := h.srt hE
  have hg : ∀ q, Go.Proofs.YtnhabkipjmgaaaaGreat.gv (vL (liveO L)) q = match lk σ q with | some (x, false) => some (x, false) | _ => none := fun q => by
    rw [vL_live, gv_live hls, h.gv]
  refine ⟨⟨srv_ext (by rw [vL_live]; exact hls.filter _) (vwE_srt (dropF_srt _ σ hE)) fun q => by
    rw [hg, gv_vwE, r2]
    cases lk σ q with
    | none => rfl
    | some v =>
      obtain ⟨x, st⟩ := v
      cases st <;> rfl, fun r hm => h.n r (List.mem_filter.1 hm).1⟩, fun ps p1 p2 => ext_p p1 ((keysE_srt hE.s).filter _) fun q => ?_⟩
  rw [p2]
  have hm := mem_staleK (E := σ.E) (q := q)
  rw [hm]
  unfold Df
  rw [hg, h.gv]
  unfold lk
  cases hk : T.getL σ.E q with
  | none => simp
  | some o =>
    obtain ⟨id, st⟩ := o
    cases st <;> simp
theorem Al.clear {B : Int} {σ : Tb} {L : List Ro} (h : Al σ L) (hE : T.EOk σ.E) (hs : StOk B σ.S σ.c) (hr : Rel 0 σ) : Al (dropF σ (T.keysE σ.E)) [] ∧ ∀ ps : List Pf, ps.Pairwise (fun p q => Ah p q) → (∀ q, q ∈ ps ↔ Df (vL L) (vL []) q) → ps = T.keysE σ.E := by
  obtain ⟨r1, r2⟩ := clear_rel hr hE hs
  refine ⟨⟨srv_ext .nil (vwE_srt (dropF_srt _ σ hE)) fun q => by rw [gv_vwE, r2]; rfl, fun _ hm => absurd hm List.not_mem_nil⟩, fun ps p1 p2 => ext_p p1 (keysE_srt hE.s) fun q => ?_⟩
  rw [p2, mem_keysE]
  unfold Df
  rw [h.gv]
  unfold lk
  show _ ≠ none ↔ _
  cases hk : T.getL σ.E q <;> simp
theorem updV_congr {u v : Up} (h1 : v.wd = u.wd) (h2 : v.td = u.td) (h3 : v.d.nf = u.d.nf) (l : List Rv) : updV v l = updV u l := by
  unfold updV
  rw [h1, h2, h3]
theorem Al.upd {B : Int} {u : Up} {σ : Tb} {L : List Ro} (h : Al σ L) (hE : T.EOk σ.E) (hs : StOk B σ.S σ.c) (hr : Rel 0 σ) (hB0 : 0 ≤ B) (hB : B + 1 + u.td.length < 4096) (hu : UpN u) : updV u (vL L) = vwE (endF u σ) := by
  have hul := upL_len u
  have htl := hu.tl
  have hfr := freshN_le σ.E (upL u)
  have hnr : ¬ noRoom (σ.E.length + 2000) u σ := by unfold noRoom; omega
  obtain ⟨r1, r2, r3⟩ := upd_rel (lim := σ.E.length + 2000) hr hE hs hB0 hB hu
  have he : updF (σ.E.length + 2000) u σ = endF u σ := by unfold updF; rw [if_neg hnr]
  rw [he] at r2 r3
  refine srv_ext (srv_upd u (h.srt hE)) (vwE_srt r3) fun q => ?_
  rw [gv_upd, gv_vwE, r2, if_neg hnr, h.gv]
theorem Al.room {B lim : Int} {u : Up} {σ : Tb} {L : List Ro} (h : Al σ L) (hE : T.EOk σ.E) (hs : StOk B σ.S σ.c) (hr : Rel 0 σ) (hB0 : 0 ≤ B) (hB : B + 1 + u.td.length < 4096) (hu : UpN u) : noRoom lim u σ ↔ lim < ((updV u (vL L)).length : Int) := by
  rw [h.upd hE hs hr hB0 hB hu, vwE_len, endF_len hE]
  rfl
end Go.Proofs.YtnhabkipjmgaaaaGreat
namespace Go.Proofs.YtnhabkipjmgaaaaGreat
set_option linter.unusedSimpArgs false
set_option linter.unusedVariables false
set_option maxRecDepth 20000
set_option maxHeartbeats 4000000
open Go.RowKit Go.Pm

open T (Pf PfN Rt Ah pfC)
abbrev BxL (b sp tb : Nat) (lim : Int) (E : List T.Ent) (S : List En) (c : Int) (rb : Nat) (a : Option Addr) (ca : Nat) (L : List Ro) : List HP := [pts b (tbC sp lim tb) 72, T.trA tb E, stoA sp S c, pts rb [.slice a L.length ca, .int .i64 lim] 68, Ar 108 16 roC (.slice a L.length ca) L, has (fun w => ∀ r ∈ L, AtV w r.d)]
theorem do_s (b sp tb : Nat) (lim : Int) (h1 : 1 ≤ lim) (h2 : lim ≤ 4096) (rb : Nat) (a : Option Addr) (c : Nat) (L : List Ro) (σ : Tb) (i : Nat) (hi : i < 40) (hx : Sx i σ) (hE : T.EOk σ.E) (hA : Al σ L) (x : Ac) (hxn : AcN x) :
    Pact Tryz.prog 27 #[.pointer (some ⟨b, 0, none⟩), .pointer (some ⟨rb, 0, none⟩), .agg (acC x).toArray] (fun w => UpV w x.u) (BxL b sp tb lim σ.E σ.S σ.c rb a c L)
    (fun v L' => ∃ (σ' : Tb) (a2 : Option Addr) (c2 : Nat) (L2 : List Ro), (Sx (i + 1) σ' ∧ Al σ' L2 ∧ T.EOk σ'.E) ∧ v = .bool true ∧ L' = BxL b sp tb lim σ'.E σ'.S σ'.c rb a2 c2 L2) := by
  refine pact Tryz.func27 rfl Tryz.ntmps27 rfl ?_
  intro W K hK
  obtain ⟨hs, hn, hc, hR⟩ := hx
  obtain ⟨E, S, cc⟩ := σ
  dsimp only at hs hn hc hE
  have hll := hA.len
  dsimp only at hll
  have hkl : (T.keysE E).length = E.length := List.length_map _
  have hkn : ∀ q ∈ T.keysE E, PfN q ∧ Rt q := fun q hq => by
    obtain ⟨e, he, rfl⟩ := List.mem_map.1 hq
    exact ⟨(hE.e e he).2.1, (hE.e e he).1⟩
  (repeat' (first | ((with_reducible apply gL); (first | refine yL0 ?_ | refine yL ?_ | ((with_reducible apply gL_go); (first | (refine JL_goq (among_s x.do_ 8 (by omega) (by omega) hxn.do_) (hφ := xF) (h := ?_); rintro _ _ ⟨q, rfl, hq, rfl⟩; try simp only [List.cons_append, List.nil_append]) | fail)) | (refine yM ?_; intro _) | ((with_reducible apply gL_gd); (first | (refine JL_guard xR xR ?_ ?_ <;> intro _ <;> (try (exfalso; first | contradiction | omega))) | (refine JL_guardb xR xR ?_ ?_ <;> (intro hgb; subst hgb)) | (refine JL_guardb xR xR ?_ ?_ <;> (intro hgb; fail_if_success (have : type_of% hgb := rfl))) | fail)) | fail)) | refine yJ ?_ | ((with_reducible apply gJ_if); (first | (refine J_if xR ?_ ?_ <;> intro _ <;> (try (exfalso; first | contradiction | omega))) | (refine J_ifb xR ?_ ?_ <;> (intro hgb; subst hgb)) | (refine J_ifb xR ?_ ?_ <;> intro _) | fail)) | fail))
  · have km := mark_s b sp tb lim E (by omega) hE
    have kf := rfmark_s rb lim a c L (by omega)
    have hml := mark_len (T.keysE E) E hE.s (fun q hq => mem_keysE.1 hq)
    have hE2 := markE_ok (T.keysE E) E hE hkn
    have hA2 := hA.mark hE hR hE2
    obtain ⟨r1, r2⟩ := mark_rel hR hE hE2
    dsimp only at hA2 r1
    (repeat' (first | ((with_reducible apply gL); (first | refine yL0 ?_ | refine yL ?_ | ((with_reducible apply gL_go); (first | (refine JL_goq (km) (hφ := xF) (h := ?_); rintro _ _ rfl; try simp only [List.cons_append, List.nil_append]) | (refine JL_goq (kf) (hφ := xF) (h := ?_); rintro _ _ rfl; try simp only [List.cons_append, List.nil_append]) | fail)) | (refine yM ?_; intro _) | ((with_reducible apply gL_gd); (first | (refine JL_guard xR xR ?_ ?_ <;> intro _ <;> (try (exfalso; first | contradiction | omega))) | (refine JL_guardb xR xR ?_ ?_ <;> (intro hgb; subst hgb)) | (refine JL_guardb xR xR ?_ ?_ <;> (intro hgb; fail_if_success (have : type_of% hgb := rfl))) | fail)) | fail)) | refine yJ ?_ | ((with_reducible apply gJ_if); (first | (refine J_if xR ?_ ?_ <;> intro _ <;> (try (exfalso; first | contradiction | omega))) | (refine J_ifb xR ?_ ?_ <;> (intro hgb; subst hgb)) | (refine J_ifb xR ?_ ?_ <;> intro _) | fail)) | fail))
    exact J_ret1 rfl (by rfl) fun w H => ⟨_, ⟨⟨markE E (T.keysE E), S, cc⟩, a, c, L.map mkO, ⟨⟨hs.mono (by omega), by dsimp only; omega, by dsimp only; omega, r1⟩, hA2, hE2⟩, rfl, rfl⟩, H.sel xZ⟩
  · have kw := sweep_s b sp tb lim E S cc (13 * i) (by omega) (by omega) hE hs
    have kf := rfsweep_s rb lim a c L hA.n (hA.srt hE) (by omega)
    obtain ⟨hA2, hps⟩ := hA.sweep hE hs hR
    obtain ⟨r1, r2⟩ := sweep_rel hR hE hs
    have hso := dropF_ok (staleK E) ⟨E, S, cc⟩ hs
    have hds := dropF_len (staleK E) ⟨E, S, cc⟩
    have hcc := dropF_c (staleK E) ⟨E, S, cc⟩
    have hE2 := dropF_srt (staleK E) ⟨E, S, cc⟩ hE
    have hsl : (staleK E).length ≤ E.length := by rw [← hkl]; exact List.length_filter_le _ _
    dsimp only at hA2 hps r1 hso hds hcc
    generalize dropF ⟨E, S, cc⟩ (staleK E) = τ at *
    (repeat' (first | ((with_reducible apply gL); (first | refine yL0 ?_ | refine yL ?_ | ((with_reducible apply gL_go); (first | (refine JL_goq (kw) (hφ := xF) (h := ?_); rintro _ _ ⟨a7, c7, rfl, rfl⟩; try simp only [List.cons_append, List.nil_append]) | (refine JL_goq (kf) (hφ := xF) (h := ?_); rintro _ _ ⟨a2, c2, a3, c3, ps, hp, rfl, rfl⟩; try simp only [List.cons_append, List.nil_append]) | fail)) | (refine yM ?_; intro _) | ((with_reducible apply gL_gd); (first | (refine JL_guard xR xR ?_ ?_ <;> intro _ <;> (try (exfalso; first | contradiction | omega))) | (refine JL_guardb xR xR ?_ ?_ <;> (intro hgb; subst hgb)) | (refine JL_guardb xR xR ?_ ?_ <;> (intro hgb; fail_if_success (have : type_of% hgb := rfl))) | fail)) | fail)) | refine yJ ?_ | ((with_reducible apply gJ_if); (first | (refine J_if xR ?_ ?_ <;> intro _ <;> (try (exfalso; first | contradiction | omega))) | (refine J_ifb xR ?_ ?_ <;> (intro hgb; subst hgb)) | (refine J_ifb xR ?_ ?_ <;> intro _) | fail)) | fail))
    obtain rfl := hps ps hp.1 hp.2
    have kl := list_s a7 a3 c7 c3 _ _ (staleK E) rfl rfl (by omega)
    (repeat' (first | ((with_reducible apply gL); (first | refine yL0 ?_ | refine yL ?_ | ((with_reducible apply gL_go); (first | (refine JL_goq (kl) (hφ := (by (try simp only [List.cons_append, List.nil_append]); exact fun w hr => ⟨Src.ar xA w hr, Src.ar xA w hr⟩)) (h := ?_); rintro _ _ ⟨rfl, rfl⟩; try simp only [List.cons_append, List.nil_append]) | fail)) | (refine yM ?_; intro _) | ((with_reducible apply gL_gd); (first | (refine JL_guard xR xR ?_ ?_ <;> intro _ <;> (try (exfalso; first | contradiction | omega))) | (refine JL_guardb xR xR ?_ ?_ <;> (intro hgb; subst hgb)) | (refine JL_guardb xR xR ?_ ?_ <;> (intro hgb; fail_if_success (have : type_of% hgb := rfl))) | fail)) | fail)) | refine yJ ?_ | ((with_reducible apply gJ_if); (first | (refine J_if xR ?_ ?_ <;> intro _ <;> (try (exfalso; first | contradiction | omega))) | (refine J_ifb xR ?_ ?_ <;> (intro hgb; subst hgb)) | (refine J_ifb xR ?_ ?_ <;> intro _) | fail)) | fail))
    exact J_ret1 rfl (by rfl) fun w H => ⟨_, ⟨τ, a2, c2, liveO L, ⟨⟨hso.mono (by omega), by omega, by omega, r1⟩, hA2, hE2⟩, rfl, rfl⟩, H.sel xZ⟩
  · have kw := clear_s b sp tb lim E S cc (13 * i) (by omega) (by omega) hE hs
    have kf := rfclear_s rb lim a c L hA.n (hA.srt hE) (by omega)
    obtain ⟨hA2, hps⟩ := hA.clear hE hs hR
    obtain ⟨r1, r2⟩ := clear_rel hR hE hs
    have hso := dropF_ok (T.keysE E) ⟨E, S, cc⟩ hs
    have hds := dropF_len (T.keysE E) ⟨E, S, cc⟩
    have hcc := dropF_c (T.keysE E) ⟨E, S, cc⟩
    have hE2 := dropF_srt (T.keysE E) ⟨E, S, cc⟩ hE
    dsimp only at hA2 hps r1 hso hds hcc
    generalize dropF ⟨E, S, cc⟩ (T.keysE E) = τ at *
    (repeat' (first | ((with_reducible apply gL); (first | refine yL0 ?_ | refine yL ?_ | ((with_reducible apply gL_go); (first | (refine JL_goq (kw) (hφ := xF) (h := ?_); rintro _ _ ⟨a7, c7, rfl, rfl⟩; try simp only [List.cons_append, List.nil_append]) | (refine JL_goq (kf) (hφ := xF) (h := ?_); rintro _ _ ⟨a3, c3, ps, hp, rfl, rfl⟩; try simp only [List.cons_append, List.nil_append]) | fail)) | (refine yM ?_; intro _) | ((with_reducible apply gL_gd); (first | (refine JL_guard xR xR ?_ ?_ <;> intro _ <;> (try (exfalso; first | contradiction | omega))) | (refine JL_guardb xR xR ?_ ?_ <;> (intro hgb; subst hgb)) | (refine JL_guardb xR xR ?_ ?_ <;> (intro hgb; fail_if_success (have : type_of% hgb := rfl))) | fail)) | fail)) | refine yJ ?_ | ((with_reducible apply gJ_if); (first | (refine J_if xR ?_ ?_ <;> intro _ <;> (try (exfalso; first | contradiction | omega))) | (refine J_ifb xR ?_ ?_ <;> (intro hgb; subst hgb)) | (refine J_ifb xR ?_ ?_ <;> intro _) | fail)) | fail))
    obtain rfl := hps ps hp.1 hp.2
    have kl := list_s a7 a3 c7 c3 _ _ (T.keysE E) rfl rfl (by omega)
    (repeat' (first | ((with_reducible apply gL); (first | refine yL0 ?_ | refine yL ?_ | ((with_reducible apply gL_go); (first | (refine JL_goq (kl) (hφ := (by (try simp only [List.cons_append, List.nil_append]); exact fun w hr => ⟨Src.ar xA w hr, Src.ar xA w hr⟩)) (h := ?_); rintro _ _ ⟨rfl, rfl⟩; try simp only [List.cons_append, List.nil_append]) | fail)) | (refine yM ?_; intro _) | ((with_reducible apply gL_gd); (first | (refine JL_guard xR xR ?_ ?_ <;> intro _ <;> (try (exfalso; first | contradiction | omega))) | (refine JL_guardb xR xR ?_ ?_ <;> (intro hgb; subst hgb)) | (refine JL_guardb xR xR ?_ ?_ <;> (intro hgb; fail_if_success (have : type_of% hgb := rfl))) | fail)) | fail)) | refine yJ ?_ | ((with_reducible apply gJ_if); (first | (refine J_if xR ?_ ?_ <;> intro _ <;> (try (exfalso; first | contradiction | omega))) | (refine J_ifb xR ?_ ?_ <;> (intro hgb; subst hgb)) | (refine J_ifb xR ?_ ?_ <;> intro _) | fail)) | fail))
    exact J_ret1 rfl (by rfl) fun w H => ⟨_, ⟨τ, none, 0, [], ⟨⟨hso.mono (by omega), by omega, by omega, r1⟩, hA2, hE2⟩, rfl, rfl⟩, H.sel xZ⟩
  · (repeat' (first | ((with_reducible apply gL); (first | refine yL0 ?_ | refine yL ?_ | ((with_reducible apply gL_go); (first | (refine JL_goq (few_s x.u hxn.u) (hφ := (by (try simp only [List.cons_append, List.nil_append]); exact fun w hr => hK w hr.1)) (h := ?_); rintro _ _ ⟨u', hf, rfl, rfl⟩; try simp only [List.cons_append, List.nil_append]) | fail)) | (refine yM ?_; intro _) | ((with_reducible apply gL_gd); (first | (refine JL_guard xR xR ?_ ?_ <;> intro _ <;> (try (exfalso; first | contradiction | omega))) | (refine JL_guardb xR xR ?_ ?_ <;> (intro hgb; subst hgb)) | (refine JL_guardb xR xR ?_ ?_ <;> (intro hgb; fail_if_success (have : type_of% hgb := rfl))) | fail)) | fail)) | refine yJ ?_ | ((with_reducible apply gJ_if); (first | (refine J_if xR ?_ ?_ <;> intro _ <;> (try (exfalso; first | contradiction | omega))) | (refine J_ifb xR ?_ ?_ <;> (intro hgb; subst hgb)) | (refine J_ifb xR ?_ ?_ <;> intro _) | fail)) | fail))
    have ht := few_tl hf
    have hul := upL_len u'
    have hlim : I64 lim := ⟨by omega, by omega⟩
    have ku := upd_s b sp tb lim u' ⟨E, S, cc⟩ (13 * i) (by omega) (by omega) hf.n (by dsimp only; omega) hlim hE hs
    have hok := (updF_ok (lim := lim) (u := u') (σ := ⟨E, S, cc⟩) hf.n.d hs (by omega)).mono (B' := 13 * ((i + 1 : Nat) : Int)) (by omega)
    have hle := updF_len (lim := lim) (u := u') (σ := ⟨E, S, cc⟩) hE
    have huc := upd_c (lim := lim) (u := u') hR hE hs (by omega) (by omega) hf.n
    obtain ⟨hru, _, hE2⟩ := upd_rel (lim := lim) (u := u') hR hE hs (by omega) (by omega) hf.n
    have hroom := hA.room (lim := lim) (u := u') hE hs hR (by omega) (by omega) hf.n
    have hvu := hA.upd (u := u') hE hs hR (by omega) (by omega) hf.n
    have hrm := updR_mem (lim := lim) (u := u') hR hE hs (by omega) (by omega) hf.n
    have hrs := updR_srt lim u' ⟨E, S, cc⟩
    dsimp only at ku hle huc
    by_cases hr : noRoom lim u' ⟨E, S, cc⟩
    · have e1 : updR lim u' ⟨E, S, cc⟩ = [] := by unfold updR; rw [if_pos hr]
      have e2 : updE lim u' ⟨E, S, cc⟩ = 4 := by unfold updE; rw [if_pos hr]
      have e3 : updF lim u' ⟨E, S, cc⟩ = ⟨E, S, cc⟩ := by unfold updF; rw [if_pos hr]
      rw [e1, e2, e3] at ku
      (repeat' (first | ((with_reducible apply gL); (first | refine yL0 ?_ | refine yL ?_ | ((with_reducible apply gL_go); (first | (refine JL_goq (ku) (hφ := (by (try simp only [List.cons_append, List.nil_append]); exact fun w hr => hr.has (φ := fun w => UpV w u') xA)) (h := ?_); rintro _ _ ⟨a7, c7, rfl, rfl⟩; try simp only [List.cons_append, List.nil_append]) | (refine JL_goq (few_s x.u hxn.u) (hφ := (by (try simp only [List.cons_append, List.nil_append]); exact fun w hr => hK w hr.1)) (h := ?_); rintro _ _ ⟨u2, hf2, rfl, rfl⟩; try simp only [List.cons_append, List.nil_append]) | fail)) | (refine yM ?_; intro _) | ((with_reducible apply gL_gd); (first | (refine JL_guard xR xR ?_ ?_ <;> intro _ <;> (try (exfalso; first | contradiction | omega))) | (refine JL_guardb xR xR ?_ ?_ <;> (intro hgb; subst hgb)) | (refine JL_guardb xR xR ?_ ?_ <;> (intro hgb; fail_if_success (have : type_of% hgb := rfl))) | fail)) | fail)) | refine yJ ?_ | ((with_reducible apply gJ_if); (first | (refine J_if xR ?_ ?_ <;> intro _ <;> (try (exfalso; first | contradiction | omega))) | (refine J_ifb xR ?_ ?_ <;> (intro hgb; subst hgb)) | (refine J_ifb xR ?_ ?_ <;> intro _) | fail)) | fail))
      have hcg := updV_congr (u := u') (v := u2) (by rw [hf.wd, hf2.wd]) (by rw [hf.td, hf2.td]) (by rw [hf.nf, hf2.nf]) (vL L)
      have kf : Pact Tryz.prog 58 #[.pointer (some ⟨rb, 0, none⟩), .agg (upC u2).toArray] (fun w => UpV w u2) (RfL rb lim a c L) (fun v L' => v = .tuple #[.slice none 0 0, .int .i64 4] ∧ L' = RfL rb lim a c L) := Pact.imp (rfupd_s rb lim hlim a c L u2 hf2.n hA.n (hA.srt hE) (by omega)) fun v L' h => by
        rcases h with ⟨_, h2, h3⟩ | ⟨h0, _⟩
        · exact ⟨h2, h3⟩
        · rw [hcg] at h0
          exact absurd (hroom.1 hr) h0
      have kl := list_s a7 none c7 0 _ 0 ([] : List Pf) rfl rfl (by show (0 : Nat) ≤ _; omega)
      (repeat' (first | ((with_reducible apply gL); (first | refine yL0 ?_ | refine yL ?_ | ((with_reducible apply gL_go); (first | (refine JL_goq (kf) (hφ := (by (try simp only [List.cons_append, List.nil_append]); exact fun w hr => hr.has (φ := fun w => UpV w u2) xA)) (h := ?_); rintro _ _ ⟨rfl, rfl⟩; try simp only [List.cons_append, List.nil_append]) | (refine JL_goq (kl) (hφ := (by (try simp only [List.cons_append, List.nil_append]); exact fun w hr => ⟨Src.ar xA w hr, Vw.nil w 2⟩)) (h := ?_); rintro _ _ ⟨rfl, rfl⟩; try simp only [List.cons_append, List.nil_append]) | fail)) | (refine yM ?_; intro _) | ((with_reducible apply gL_gd); (first | (refine JL_guard xR xR ?_ ?_ <;> intro _ <;> (try (exfalso; first | contradiction | omega))) | (refine JL_guardb xR xR ?_ ?_ <;> (intro hgb; subst hgb)) | (refine JL_guardb xR xR ?_ ?_ <;> (intro hgb; fail_if_success (have : type_of% hgb := rfl))) | fail)) | fail)) | refine yJ ?_ | ((with_reducible apply gJ_if); (first | (refine J_if xR ?_ ?_ <;> intro _ <;> (try (exfalso; first | contradiction | omega))) | (refine J_ifb xR ?_ ?_ <;> (intro hgb; subst hgb)) | (refine J_ifb xR ?_ ?_ <;> intro _) | fail)) | fail))
      exact J_ret1 rfl (by rfl) fun w H => ⟨_, ⟨⟨E, S, cc⟩, a, c, L, ⟨⟨hs.mono (by omega), by dsimp only; omega, by dsimp only; omega, hR⟩, hA, hE⟩, rfl, rfl⟩, H.sel xZ⟩
    · have e2 : updE lim u' ⟨E, S, cc⟩ = 0 := by unfold updE; rw [if_neg hr]
      have e3 : endF u' ⟨E, S, cc⟩ = updF lim u' ⟨E, S, cc⟩ := by unfold updF; rw [if_neg hr]
      have hrm := hrm hr
      rw [e3] at hvu
      rw [← hA.v] at hrm
      rw [e2] at ku
      generalize updF lim u' ⟨E, S, cc⟩ = τ at *
      generalize updR lim u' ⟨E, S, cc⟩ = rs at *
      (repeat' (first | ((with_reducible apply gL); (first | refine yL0 ?_ | refine yL ?_ | ((with_reducible apply gL_go); (first | (refine JL_goq (ku) (hφ := (by (try simp only [List.cons_append, List.nil_append]); exact fun w hr => hr.has (φ := fun w => UpV w u') xA)) (h := ?_); rintro _ _ ⟨a7, c7, rfl, rfl⟩; try simp only [List.cons_append, List.nil_append]) | (refine JL_goq (few_s x.u hxn.u) (hφ := (by (try simp only [List.cons_append, List.nil_append]); exact fun w hr => hK w hr.1)) (h := ?_); rintro _ _ ⟨u2, hf2, rfl, rfl⟩; try simp only [List.cons_append, List.nil_append]) | fail)) | (refine yM ?_; intro _) | ((with_reducible apply gL_gd); (first | (refine JL_guard xR xR ?_ ?_ <;> intro _ <;> (try (exfalso; first | contradiction | omega))) | (refine JL_guardb xR xR ?_ ?_ <;> (intro hgb; subst hgb)) | (refine JL_guardb xR xR ?_ ?_ <;> (intro hgb; fail_if_success (have : type_of% hgb := rfl))) | fail)) | fail)) | refine yJ ?_ | ((with_reducible apply gJ_if); (first | (refine J_if xR ?_ ?_ <;> intro _ <;> (try (exfalso; first | contradiction | omega))) | (refine J_ifb xR ?_ ?_ <;> (intro hgb; subst hgb)) | (refine J_ifb xR ?_ ?_ <;> intro _) | fail)) | fail))
      have hcg := updV_congr (u := u') (v := u2) (by rw [hf.wd, hf2.wd]) (by rw [hf.td, hf2.td]) (by rw [hf.nf, hf2.nf]) (vL L)
      have kf : Pact Tryz.prog 58 #[.pointer (some ⟨rb, 0, none⟩), .agg (upC u2).toArray] (fun w => UpV w u2) (RfL rb lim a c L) (fun v L' => ∃ (a2 : Option Addr) (c2 : Nat) (L2 : List Ro) (a3 : Option Addr) (c3 : Nat), Al τ L2 ∧ v = .tuple #[.slice a3 rs.length c3, .int .i64 0] ∧ L' = Ar 41 2 pfC (.slice a3 rs.length c3) rs :: RfL rb lim a2 c2 L2) := Pact.imp (rfupd_s rb lim hlim a c L u2 hf2.n hA.n (hA.srt hE) (by omega)) fun v L' h => by
        rcases h with ⟨h0, _⟩ | ⟨_, a2, c2, L2, a3, c3, ps, ⟨g1, g2, g3, g4⟩, h2, h3⟩
        · rw [hcg] at h0
          exact absurd (hroom.2 h0) hr
        · rw [hcg, hvu] at g1
          obtain rfl : ps = rs := ext_p g3 hrs fun q => by rw [g4, hrm, g1]
          exact ⟨a2, c2, L2, a3, c3, ⟨g1, g2⟩, h2, h3⟩
      have hrl : rs.length ≤ 1000000 := by
        refine Nat.le_trans (nodup_len rs (vL L ++ vwE τ |>.map (·.1)) (srt_ne hrs) fun q hq => ?_) ?_
        · have hd := (hrm q).1 hq
          rw [List.map_append, List.mem_append]
          refine Classical.byContradiction fun k => hd ?_
          rw [not_or] at k
          rw [gv_none.2 fun r hr e => k.1 (List.mem_map.2 ⟨r, hr, e⟩), gv_none.2 fun r hr e => k.2 (List.mem_map.2 ⟨r, hr, e⟩)]
        · rw [List.length_map, List.length_append, vL_len, vwE_len]
          omega
      have kl := fun a3 c3 => list_s a7 a3 c7 c3 _ _ rs rfl rfl hrl
      (repeat' (first | ((with_reducible apply gL); (first | refine yL0 ?_ | refine yL ?_ | ((with_reducible apply gL_go); (first | (refine JL_goq (kf) (hφ := (by (try simp only [List.cons_append, List.nil_append]); exact fun w hr => hr.has (φ := fun w => UpV w u2) xA)) (h := ?_); rintro _ _ ⟨a2, c2, L2, a3, c3, hA2, rfl, rfl⟩; try simp only [List.cons_append, List.nil_append]) | (refine JL_goq (kl _ _) (hφ := (by (try simp only [List.cons_append, List.nil_append]); exact fun w hr => ⟨Src.ar xA w hr, Src.ar xA w hr⟩)) (h := ?_); rintro _ _ ⟨rfl, rfl⟩; try simp only [List.cons_append, List.nil_append]) | fail)) | (refine yM ?_; intro _) | ((with_reducible apply gL_gd); (first | (refine JL_guard xR xR ?_ ?_ <;> intro _ <;> (try (exfalso; first | contradiction | omega))) | (refine JL_guardb xR xR ?_ ?_ <;> (intro hgb; subst hgb)) | (refine JL_guardb xR xR ?_ ?_ <;> (intro hgb; fail_if_success (have : type_of% hgb := rfl))) | fail)) | fail)) | refine yJ ?_ | ((with_reducible apply gJ_if); (first | (refine J_if xR ?_ ?_ <;> intro _ <;> (try (exfalso; first | contradiction | omega))) | (refine J_ifb xR ?_ ?_ <;> (intro hgb; subst hgb)) | (refine J_ifb xR ?_ ?_ <;> intro _) | fail)) | fail))
      exact J_ret1 rfl (by rfl) fun w H => ⟨_, ⟨τ, a2, c2, L2, ⟨⟨hok, by omega, by omega, hru⟩, hA2, hE2⟩, rfl, rfl⟩, H.sel xZ⟩
end Go.Proofs.YtnhabkipjmgaaaaGreat
namespace Go.Proofs.YtnhabkipjmgaaaaGreat
set_option linter.unusedSimpArgs false
set_option linter.unusedVariables false
set_option maxRecDepth 20000
set_option maxHeartbeats 4000000
open Go.RowKit Go.Pm

open T (Pf PfN Rt Ah pfC)
theorem rnewbad_s (sp : Nat) (lim : Int) (h1 : lim < 0 ∨ 4096 < lim) : Pact Tryz.prog 10 #[.pointer (some ⟨sp, 0, none⟩), .int .i64 lim] (fun _ => True) [stoA sp [] 0] (fun u L' => u = .tuple #[.pointer none, .int .i64 2] ∧ L' = [stoA sp [] 0]) := by
  refine pact Tryz.func10 rfl Tryz.ntmps10 rfl ?_
  intro W K _
  have hf := free_o 0 (by omega) sp [] [] 0 0 stok_nil rfl
  have e5 : (freeF [] 0).2 = 5 := rfl
  rw [e5] at hf
  (repeat' (first | ((with_reducible apply gL); (first | refine yL0 ?_ | refine yL ?_ | ((with_reducible apply gL_go); (first | (refine JL_goq (hf) (hφ := xF) (h := ?_); rintro _ _ ⟨rfl, rfl⟩; try simp only [List.cons_append, List.nil_append]) | fail)) | (refine yM ?_; intro _) | ((with_reducible apply gL_gd); (first | (refine JL_guard xR xR ?_ ?_ <;> intro _ <;> (try (exfalso; first | contradiction | omega))) | (refine JL_guardb xR xR ?_ ?_ <;> (intro hgb; subst hgb)) | (refine JL_guardb xR xR ?_ ?_ <;> (intro hgb; fail_if_success (have : type_of% hgb := rfl))) | fail)) | fail)) | refine yJ ?_ | ((with_reducible apply gJ_if); (first | (refine J_if xR ?_ ?_ <;> intro _ <;> (try (exfalso; first | contradiction | omega))) | (refine J_ifb xR ?_ ?_ <;> (intro hgb; subst hgb)) | (refine J_ifb xR ?_ ?_ <;> intro _) | fail)) | fail))
  all_goals (first | (exfalso; omega) | skip)
  all_goals exact J_ret2 rfl (by rfl) (by rfl) fun w H => ⟨_, ⟨rfl, rfl⟩, H.sel xZ⟩
theorem alike_s (b sp tb : Nat) (lim : Int) (rb : Nat) (a : Option Addr) (c : Nat) (L : List Ro) (σ : Tb) (hn : σ.E.length ≤ 480) (hE : T.EOk σ.E) (hA : Al σ L) :
    Pact Tryz.prog 28 #[.pointer (some ⟨b, 0, none⟩), .pointer (some ⟨rb, 0, none⟩)] (fun _ => True) (BxL b sp tb lim σ.E σ.S σ.c rb a c L)
    (fun v L' => v = .bool true ∧ L' = BxL b sp tb lim σ.E σ.S σ.c rb a c L) := by
  refine pact Tryz.func28 rfl Tryz.ntmps28 rfl ?_
  intro W K _
  have hll := hA.len
  have hkeys := hA.keys
  have hst := hA.stale hE
  have hsl := stO_len L
  have hgv := hA.gv
  have hls := hA.srt hE
  have hLn := hA.n
  obtain ⟨E, S, cc⟩ := σ
  dsimp only at *
  have kl := rlen_s b sp tb lim E
  have kst := stalen_s b sp tb lim E (by omega) hE
  have krs := rfstale_s rb lim a c L (by omega)
  have kall := rall_s b sp tb lim E (by omega)
  rw [hst] at kst
  rw [← hll] at kl
  have hkl : (T.keysE E).length = L.length := by rw [hkeys, List.length_map]
  (repeat' (first | ((with_reducible apply gL); (first | (with_reducible apply gL_app) | (with_reducible apply gL_app0) | refine yL0 ?_ | refine yL ?_ | ((with_reducible apply gL_go); (first | (refine JL_goq (kall) (hφ := xF) (h := ?_); rintro _ _ ⟨a1, c1, rfl, rfl⟩; try simp only [List.cons_append, List.nil_append]) | (refine JL_goq (kl) (hφ := xF) (h := ?_); rintro _ _ ⟨rfl, rfl⟩; try simp only [List.cons_append, List.nil_append]) | (refine JL_goq (kst) (hφ := xF) (h := ?_); rintro _ _ ⟨rfl, rfl⟩; try simp only [List.cons_append, List.nil_append]) | (refine JL_goq (krs) (hφ := xF) (h := ?_); rintro _ _ ⟨rfl, rfl⟩; try simp only [List.cons_append, List.nil_append]) | fail)) | (refine yM ?_; intro _) | fail)) | ((with_reducible apply gD); (first | (refine JD_nil ?_; try simp only [List.cons_append, List.nil_append]) | (refine JD_bar ?_; try simp only [List.cons_append, List.nil_append]) | (with_reducible apply gD_app) | (with_reducible apply gD_app0) | refine yD0 ?_ | refine yD ?_ | ((with_reducible apply gD_go); (first | (refine JD_goq (kall) (hφ := xF) (h := ?_); rintro _ _ ⟨a1, c1, rfl, rfl⟩; try simp only [List.cons_append, List.nil_append]) | (refine JD_goq (kl) (hφ := xF) (h := ?_); rintro _ _ ⟨rfl, rfl⟩; try simp only [List.cons_append, List.nil_append]) | (refine JD_goq (kst) (hφ := xF) (h := ?_); rintro _ _ ⟨rfl, rfl⟩; try simp only [List.cons_append, List.nil_append]) | (refine JD_goq (krs) (hφ := xF) (h := ?_); rintro _ _ ⟨rfl, rfl⟩; try simp only [List.cons_append, List.nil_append]) | fail)) | ((with_reducible apply gD_gd); (first | (refine JD_guard xR xR ?_ ?_ <;> intro _ <;> (try (exfalso; first | contradiction | omega))) | (refine JD_guardb xR xR ?_ ?_ <;> (intro hgb; subst hgb)) | (refine JD_guardb xR xR ?_ ?_ <;> (intro hgb; fail_if_success (have : type_of% hgb := rfl))) | fail)) | fail)) | refine yJ ?_ | ((with_reducible apply gJ_if); (first | (refine J_if xR ?_ ?_ <;> intro _ <;> (try (exfalso; first | contradiction | omega))) | (refine J_ifb xR ?_ ?_ <;> (intro hgb; subst hgb)) | (refine J_ifb xR ?_ ?_ <;> intro _) | fail)) | refine J_draw (id := 2) [0, 1, 2, 3, 4, 5, 6, 7, 8, 9, 11, 12, 13, 14, 15, 10, 16, 17, 18, 19, 21, 20] [22, 23, 24] mixed xC xD xD ?_ | refine J_draw (id := 8) [0, 1, 2, 3, 4, 5, 6, 7, 8, 9, 10, 11, 12, 13, 14, 15, 16, 17, 18, 19, 20, 21, 22, 23, 24, 25, 26, 27, 28, 29, 30, 31, 32, 33, 34, 35, 36, 37, 38] [39, 40, 41] mixed xC xD xD ?_ | fail))
  all_goals (first | (exfalso; omega) | skip)
  refine J_loop (α := Nat) 0 (fun k => L.length - k) (fun k => k ≤ L.length) (fun k => [(0, .pointer (some ⟨b, 0, none⟩)), (1, .pointer (some ⟨rb, 0, none⟩)), (5, .slice a1 (T.keysE E).length c1), (6, .int .i64 k)]) (fun _ => [pts b (tbC sp lim tb) 72, T.trA tb E, stoA sp S cc, pts rb [.slice a L.length c, .int .i64 lim] 68, Ar 108 16 roC (.slice a L.length c) L, has (fun w => ∀ r ∈ L, AtV w r.d), Ar 41 2 pfC (.slice a1 (T.keysE E).length c1) (T.keysE E)]) (Nat.zero_le _) ⟨rfl, rfl, rfl, rfl, trivial⟩ (fun w H => H.sel xZ) ?_
  intro k hk
  by_cases hlt : k < L.length
  · obtain ⟨r, hr⟩ : ∃ r, L[k]? = some r := ⟨_, List.getElem?_eq_getElem hlt⟩
    have hrm := List.mem_of_getElem? hr
    obtain ⟨rp, rd, st⟩ := r
    have hrn := hLn _ hrm
    have hk2 : (T.keysE E)[k]? = some rp := by rw [hkeys, List.getElem?_map, hr]; rfl
    have kg := rget_s b sp tb lim E S cc rp hrn.p
    have hg : gv (vL L) rp = some (rd.nf, st) := (gv_mem hls).2 (List.mem_map.2 ⟨_, hrm, rfl⟩)
    rw [hgv] at hg
    unfold lk at hg
    cases hgl : T.getL E rp with
    | none => rw [hgl] at hg; cases hg
    | some o =>
      rw [hgl] at hg
      have m1 : getX S o.1 = rd.nf := congrArg Prod.fst (Option.some.inj hg)
      have m2 : o.2 = st := congrArg Prod.snd (Option.some.inj hg)
      unfold rgX rgS at kg
      rw [hgl] at kg
      dsimp only at kg
      rw [m1, m2] at kg
      rcases st with _ | _
      all_goals (
        (repeat' (first | ((with_reducible apply gL); (first | (with_reducible apply gL_app) | (with_reducible apply gL_app0) | refine yL0 ?_ | refine yL ?_ | ((with_reducible apply gL_go); (first | (refine JL_goq (kg) (hφ := xF) (h := ?_); rintro _ _ ⟨dg, hdg, rfl, rfl⟩; try simp only [List.cons_append, List.nil_append]) | fail)) | (refine yM ?_; intro _) | fail)) | ((with_reducible apply gD); (first | (refine JD_nil ?_; try simp only [List.cons_append, List.nil_append]) | (refine JD_bar ?_; try simp only [List.cons_append, List.nil_append]) | (with_reducible apply gD_app) | (with_reducible apply gD_app0) | refine yD0 ?_ | refine yD ?_ | ((with_reducible apply gD_go); (first | (refine JD_goq (kg) (hφ := xF) (h := ?_); rintro _ _ ⟨dg, hdg, rfl, rfl⟩; try simp only [List.cons_append, List.nil_append]) | fail)) | ((with_reducible apply gD_gd); (first | (refine JD_guard xR xR ?_ ?_ <;> intro _ <;> (try (exfalso; first | contradiction | omega))) | (refine JD_guardb xR xR ?_ ?_ <;> (intro hgb; subst hgb)) | (refine JD_guardb xR xR ?_ ?_ <;> (intro hgb; fail_if_success (have : type_of% hgb := rfl))) | fail)) | fail)) | refine yJ ?_ | ((with_reducible apply gJ_if); (first | (refine J_if xR ?_ ?_ <;> intro _ <;> (try (exfalso; first | contradiction | omega))) | (refine J_ifb xR ?_ ?_ <;> (intro hgb; subst hgb)) | (refine J_ifb xR ?_ ?_ <;> intro _) | fail)) | refine J_draw (id := 2) [0, 1, 2, 3, 4, 5, 6, 7, 8, 9, 11, 12, 13, 14, 15, 10, 16, 17, 18, 19, 21, 20] [22, 23, 24] mixed xC xD xD ?_ | refine J_draw (id := 8) [0, 1, 2, 3, 4, 5, 6, 7, 8, 9, 10, 11, 12, 13, 14, 15, 16, 17, 18, 19, 20, 21, 22, 23, 24, 25, 26, 27, 28, 29, 30, 31, 32, 33, 34, 35, 36, 37, 38] [39, 40, 41] mixed xC xD xD ?_ | fail))
        all_goals (first | (exfalso; dsimp only at *; omega) | skip)
        have ks := rsame_s dg rd hdg.1 hrn.d
        rw [hdg.2, decide_eq_true rfl] at ks
        (repeat' (first | ((with_reducible apply gL); (first | (with_reducible apply gL_app) | (with_reducible apply gL_app0) | refine yL0 ?_ | refine yL ?_ | ((with_reducible apply gL_go); (first | (refine JL_goq (ks) (hφ := (by (try simp only [List.cons_append, List.nil_append]); exact fun w hr => ⟨hr.has (φ := fun w => AtV w dg) xA, hr.has (φ := fun w => ∀ r ∈ L, AtV w r.d) xA _ hrm⟩)) (h := ?_); rintro _ _ ⟨rfl, rfl⟩; try simp only [List.cons_append, List.nil_append]) | fail)) | (refine yM ?_; intro _) | fail)) | ((with_reducible apply gD); (first | (refine JD_nil ?_; try simp only [List.cons_append, List.nil_append]) | (refine JD_bar ?_; try simp only [List.cons_append, List.nil_append]) | (with_reducible apply gD_app) | (with_reducible apply gD_app0) | refine yD0 ?_ | refine yD ?_ | ((with_reducible apply gD_go); (first | (refine JD_goq (ks) (hφ := (by (try simp only [List.cons_append, List.nil_append]); exact fun w hr => ⟨hr.has (φ := fun w => AtV w dg) xA, hr.has (φ := fun w => ∀ r ∈ L, AtV w r.d) xA _ hrm⟩)) (h := ?_); rintro _ _ ⟨rfl, rfl⟩; try simp only [List.cons_append, List.nil_append]) | fail)) | ((with_reducible apply gD_gd); (first | (refine JD_guard xR xR ?_ ?_ <;> intro _ <;> (try (exfalso; first | contradiction | omega))) | (refine JD_guardb xR xR ?_ ?_ <;> (intro hgb; subst hgb)) | (refine JD_guardb xR xR ?_ ?_ <;> (intro hgb; fail_if_success (have : type_of% hgb := rfl))) | fail)) | fail)) | refine yJ ?_ | ((with_reducible apply gJ_if); (first | (refine J_if xR ?_ ?_ <;> intro _ <;> (try (exfalso; first | contradiction | omega))) | (refine J_ifb xR ?_ ?_ <;> (intro hgb; subst hgb)) | (refine J_ifb xR ?_ ?_ <;> intro _) | fail)) | refine J_draw (id := 2) [0, 1, 2, 3, 4, 5, 6, 7, 8, 9, 11, 12, 13, 14, 15, 10, 16, 17, 18, 19, 21, 20] [22, 23, 24] mixed xC xD xD ?_ | refine J_draw (id := 8) [0, 1, 2, 3, 4, 5, 6, 7, 8, 9, 10, 11, 12, 13, 14, 15, 16, 17, 18, 19, 20, 21, 22, 23, 24, 25, 26, 27, 28, 29, 30, 31, 32, 33, 34, 35, 36, 37, 38] [39, 40, 41] mixed xC xD xD ?_ | fail))
        exact J_again (k + 1) (by omega) (by omega) ⟨rfl, rfl, rfl, rfl, trivial⟩ (fun w H => H.sel xZ))
  · obtain rfl : k = L.length := by omega
    (repeat' (first | ((with_reducible apply gL); (first | (with_reducible apply gL_app) | (with_reducible apply gL_app0) | refine yL0 ?_ | refine yL ?_ | (refine yM ?_; intro _) | fail)) | ((with_reducible apply gD); (first | (refine JD_nil ?_; try simp only [List.cons_append, List.nil_append]) | (refine JD_bar ?_; try simp only [List.cons_append, List.nil_append]) | (with_reducible apply gD_app) | (with_reducible apply gD_app0) | refine yD0 ?_ | refine yD ?_ | ((with_reducible apply gD_gd); (first | (refine JD_guard xR xR ?_ ?_ <;> intro _ <;> (try (exfalso; first | contradiction | omega))) | (refine JD_guardb xR xR ?_ ?_ <;> (intro hgb; subst hgb)) | (refine JD_guardb xR xR ?_ ?_ <;> (intro hgb; fail_if_success (have : type_of% hgb := rfl))) | fail)) | fail)) | refine yJ ?_ | ((with_reducible apply gJ_if); (first | (refine J_if xR ?_ ?_ <;> intro _ <;> (try (exfalso; first | contradiction | omega))) | (refine J_ifb xR ?_ ?_ <;> (intro hgb; subst hgb)) | (refine J_ifb xR ?_ ?_ <;> intro _) | fail)) | refine J_draw (id := 2) [0, 1, 2, 3, 4, 5, 6, 7, 8, 9, 11, 12, 13, 14, 15, 10, 16, 17, 18, 19, 21, 20] [22, 23, 24] mixed xC xD xD ?_ | refine J_draw (id := 8) [0, 1, 2, 3, 4, 5, 6, 7, 8, 9, 10, 11, 12, 13, 14, 15, 16, 17, 18, 19, 20, 21, 22, 23, 24, 25, 26, 27, 28, 29, 30, 31, 32, 33, 34, 35, 36, 37, 38] [39, 40, 41] mixed xC xD xD ?_ | fail))
    all_goals (first | (exfalso; omega) | skip)
    exact J_ret1 rfl (by rfl) fun w H => ⟨_, ⟨rfl, rfl⟩, H.sel xZ⟩
end Go.Proofs.YtnhabkipjmgaaaaGreat
