/-
  Vp8, Vp9: merged.
-/
import Derived.Test.YtdnokmpnemaoaaaGreatZViewPlays31
namespace Go.Proofs.YtdnokmpnemaoaaaGreat
set_option linter.unusedSimpArgs false
set_option linter.unusedVariables false
open Go.RowKit Go.Pm

open T (Pf PfN Rt Ah pfC)
structure Al (E : List T.Ent) (S : List En) (L : List On) : Prop where
  v : vO L = vwQ E S
  n : ∀ o ∈ L, OnN o
theorem vO_len (L : List On) : (vO L).length = L.length := List.length_map _
theorem Al.len {E : List T.Ent} {S : List En} {L : List On} (h : Al E S L) : L.length = E.length := by
  rw [← vO_len, h.v, vwQ_len]
theorem Al.srt {E : List T.Ent} {S : List En} {L : List On} (h : Al E S L) (hE : T.Srt E) : SrQ (vO L) := h.v ▸ vwQ_srt hE S
theorem Al.gq {E : List T.Ent} {S : List En} {L : List On} (h : Al E S L) (q : Pf) : Go.Proofs.YtdnokmpnemaoaaaGreat.gq (vO L) q = lkV E S q := by rw [h.v, gq_vwQ]
theorem Al.ent {E : List T.Ent} {S : List En} {L : List On} (h : Al E S L) {o : On} (ho : o ∈ L) : ∃ e ∈ E, e.1 = o.p ∧ entV S e.2 = o.q := by
  have : o.v ∈ vwQ E S := by rw [← h.v]; exact List.mem_map.2 ⟨o, ho, rfl⟩
  obtain ⟨e, he, h2⟩ := List.mem_map.1 this
  exact ⟨e, he, congrArg Prod.fst h2, congrArg Prod.snd h2⟩
theorem ent_ws {E : List T.Ent} {S : List En} (h : Rl E S) {e : T.Ent} (he : e ∈ E) : ((entV S e.2).w || (entV S e.2).s) = true ∧ ((entV S e.2).a = true → (entV S e.2).w = true) := by
  obtain ⟨p, w, s, a⟩ := e
  obtain ⟨_, _, h3, h4⟩ := h.e _ he
  dsimp only at h3 h4
  unfold entV
  dsimp only
  refine ⟨?_, fun k => decide_eq_true (h4 k)⟩
  by_cases hw : w = 0
  · by_cases hs : s = 0
    · subst hw
      subst hs
      cases a with
      | false => exact absurd rfl h3
      | true => exact absurd rfl (h4 rfl)
    · simp [hs]
  · simp [hw]
theorem Al.ws {E : List T.Ent} {S : List En} {L : List On} (h : Al E S L) (hR : Rl E S) : ∀ o ∈ L, (o.w || o.s) = true := fun o ho => by
  obtain ⟨e, he, _, h2⟩ := h.ent ho
  have := (ent_ws hR he).1
  rw [h2] at this
  exact this
theorem dueO_v (L : List On) : (dueO L).map On.v = (vO L).filter fun v => dueQ v.2 := by
  unfold dueO vO
  rw [List.filter_map]
  rfl
theorem due_E {E : List T.Ent} {S : List En} {B c : Int} (h : Rl E S) (hE : T.Srt E) (hs : StOk B S c) : (E.filter fun e => lateE e.2).map (fun e => ((e.1, entV S e.2) : Rq)) = (vwQ E S).filter fun v => dueQ v.2 := by
  unfold vwQ
  rw [List.filter_map]
  refine congrArg _ (List.filter_congr fun e he => ?_)
  exact late_due h hE hs he
theorem Al.due {E : List T.Ent} {S : List En} {L : List On} {B c : Int} (h : Al E S L) (hR : Rl E S) (hE : T.Srt E) (hs : StOk B S c) : dueI E = (dueO L).length := by
  have h1 := congrArg List.length (dueO_v L)
  have h2 := congrArg List.length (due_E hR hE hs)
  rw [List.length_map] at h1 h2
  rw [h.v, ← h2] at h1
  show ((E.filter fun e => lateE e.2).length : Int) = _
  rw [h1]
theorem Al.wnt {E : List T.Ent} {S : List En} {L : List On} (h : Al E S L) : (E.filter fun e => wantE e.2).map (·.1) = wntO L := by
  have h1 : wntO L = ((vO L).filter fun v => v.2.w).map (·.1) := by
    unfold wntO vO
    rw [List.filter_map, List.map_map]
    rfl
  rw [h1, h.v]
  unfold vwQ
  rw [List.filter_map, List.map_map]
  rfl
theorem Al.wntI {E : List T.Ent} {S : List En} {L : List On} (h : Al E S L) : Go.Proofs.YtdnokmpnemaoaaaGreat.wntI E = (wntO L).length := by
  rw [← h.wnt, List.length_map]
  rfl
theorem take_v {L : List On} {n : Int} {k : Nat} {ad : Option Addr} {cc : Nat} {out : List Ch} (hI : QtOk L n ⟨k, ad, cc, out⟩) (hk : k = L.length ∨ n ≤ (out.length : Int)) : (dueO (L.take k)).map On.v = ((vO L).filter fun v => dueQ v.2).take n.toNat := by
  have h1 := hI.n
  have h2 := congrArg List.length hI.v
  rw [List.length_map, List.length_map] at h2
  dsimp only at h1 h2
  rw [← dueO_v, ← List.map_take]
  refine congrArg _ ?_
  rcases hk with rfl | hk
  · rw [List.take_length] at h2 ⊢
    rw [List.take_of_length_le (by omega)]
  · have h3 : dueO L = dueO (L.take k) ++ dueO (L.drop k) := by
      unfold dueO
      rw [← List.filter_append, List.take_append_drop]
    rw [h3, List.take_left' (by omega)]
def tkV (o : Qv) : Qv := ⟨o.w, o.w, false, o.x, o.x⟩
theorem gq_mkF : ∀ {L : List On} {k : Nat}, SrQ (vO L) → ∀ q, gq (vO (mkF tkO L k)) q = if q ∈ (dueO (L.take k)).map (·.p) then (gq (vO L) q).map tkV else gq (vO L) q
  | [], k, _, q => by simp [mkF, vO, gq, dueO]
  | o :: L, 0, _, q => by
    show gq (vO (o :: L)) q = if q ∈ (dueO []).map (·.p) then _ else _
    rw [if_neg (by simp [dueO])]
  | o :: L, k + 1, hs, q => by
    obtain ⟨h1, h2⟩ := List.pairwise_cons.1 hs
    have ih := gq_mkF (k := k) h2 q
    show (if (tkO o).p = q then some (tkO o).q else gq (vO (mkF tkO L k)) q) = if q ∈ (dueO (o :: L.take k)).map (·.p) then (if o.p = q then some o.q else gq (vO L) q).map tkV else if o.p = q then some o.q else gq (vO L) q
    rw [ih]
    have hp : (tkO o).p = o.p := by unfold tkO; split <;> rfl
    have hni : o.p = q → q ∉ (dueO (L.take k)).map (·.p) := fun e hm => by
      obtain ⟨z, hz, hzp⟩ := List.mem_map.1 hm
      have hz2 := List.take_subset _ _ (List.mem_filter.1 hz).1
      have := h1 z.v (List.mem_map.2 ⟨z, hz2, rfl⟩)
      have hzp : z.p = q := hzp
      have h3 : Ah o.p z.p := this
      rw [e, hzp] at h3
      exact T.Ah.irrefl h3
    rw [hp]
    by_cases hd : dueQ o.q = true
    · have hc : dueO (o :: L.take k) = o :: dueO (L.take k) := List.filter_cons_of_pos (p := fun o : On => dueQ o.q) hd
      rw [hc, List.map_cons]
      by_cases e : o.p = q
      · rw [if_pos e, if_pos (by simp [e]), if_pos e]
        unfold tkO
        rw [if_pos hd]
        rfl
      · rw [if_neg e, if_neg e]
        by_cases hm : q ∈ (dueO (L.take k)).map (·.p)
        · rw [if_pos hm, if_pos (List.mem_cons_of_mem _ hm)]
        · rw [if_neg hm, if_neg (fun h => (List.mem_cons.1 h).elim (fun h => e h.symm) hm)]
    · have hc : dueO (o :: L.take k) = dueO (L.take k) := List.filter_cons_of_neg (p := fun o : On => dueQ o.q) hd
      rw [hc]
      by_cases e : o.p = q
      · rw [if_pos e, if_neg (hni e), if_pos e]
        unfold tkO
        rw [if_neg hd]
      · rw [if_neg e, if_neg e]
theorem srq_mkF {L : List On} {k : Nat} (hs : SrQ (vO L)) : SrQ (vO (mkF tkO L k)) := by
  have h1 : (mkF tkO L k).map (·.p) = L.map (·.p) := by
    unfold mkF
    rw [List.map_append, List.map_map]
    have : (L.take k).map ((·.p) ∘ tkO) = (L.take k).map (·.p) := List.map_congr_left fun o _ => by
      show (tkO o).p = o.p
      unfold tkO
      split <;> rfl
    rw [this, ← List.map_append, List.take_append_drop]
  have h2 : (L.map (·.p)).Pairwise fun x y => Ah x y := by
    unfold SrQ vO at hs
    rw [List.pairwise_map] at hs ⊢
    exact hs
  rw [← h1] at h2
  unfold SrQ vO
  rw [List.pairwise_map] at h2 ⊢
  exact h2
theorem gq_ws {L : List On} (h : ∀ o ∈ L, (o.w || o.s) = true) {q : Pf} {v : Qv} (hg : gq (vO L) q = some v) : (v.w || v.s) = true := by
  induction L with
  | nil => cases hg
  | cons y L ih =>
    have hg : (if y.p = q then some y.q else gq (vO L) q) = some v := hg
    split at hg
    · rw [← Option.some.inj hg]
      exact h y (by simp)
    · exact ih (fun o ho => h o (by simp [ho])) hg
theorem tkO_n {L : List On} {k : Nat} (h : ∀ o ∈ L, OnN o) : ∀ o ∈ clO (mkF tkO L k), OnN o := fun o ho => by
  have ho := (List.mem_filter.1 ho).1
  unfold mkF at ho
  rcases List.mem_append.1 ho with ho | ho
  · obtain ⟨z, hz, rfl⟩ := List.mem_map.1 ho
    have hn := h z (List.take_subset _ _ hz)
    unfold tkO
    split
    · exact ⟨hn.p, hn.t, hn.x, hn.x⟩
    · exact hn
  · exact h o (List.drop_subset _ _ ho)
theorem Al.take {E : List T.Ent} {S : List En} {L : List On} {B c n : Int} {k : Nat} {ad : Option Addr} {cc : Nat} {out : List Ch} (h : Al E S L) (hR : Rl E S) (hE : T.EOk E) (hs : StOk B S c) (hB0 : 0 ≤ B) (hB : B + E.length < 4096) (hI : QtOk L n ⟨k, ad, cc, out⟩) (hk : k = L.length ∨ n ≤ (out.length : Int)) {pre : List T.Ent} (hp : pre = (E.filter fun e => lateE e.2).take n.toNat) : Rl (tkF ⟨E, S, c⟩ pre).E (tkF ⟨E, S, c⟩ pre).S ∧ (T.Srt (tkF ⟨E, S, c⟩ pre).E → Al (tkF ⟨E, S, c⟩ pre).E (tkF ⟨E, S, c⟩ pre).S (clO (mkF tkO L k))) ∧ chL ⟨E, S, c⟩ pre = out.map chN ∧ pre.length ≤ E.length := by
  have hsub : pre.Sublist E := hp ▸ (List.take_sublist _ _).trans List.filter_sublist
  have hpl := hsub.length_le
  obtain ⟨r1, r2, r3⟩ := tks_rel pre B ⟨E, S, c⟩ hR hE.s hs hB0 (by omega) ((srt_nd hE.s).sublist hsub) (fun e he => hsub.subset he)
  have hv := take_v hI hk
  have hpv : pre.map (fun e => ((e.1, entV S e.2) : Rq)) = (dueO (L.take k)).map On.v := by
    rw [hv, h.v, ← due_E hR hE.s hs, ← List.map_take, ← hp]
  have hkeys : pre.map (·.1) = (dueO (L.take k)).map (·.p) := by
    have := congrArg (List.map (fun v : Rq => v.1)) hpv
    rw [List.map_map, List.map_map] at this
    exact this
  have hsq := h.srt hE.s
  obtain ⟨g1, g2⟩ := gq_cl (srq_mkF (k := k) hsq)
  refine ⟨r1, fun hE2 => ⟨srq_ext g1 (vwQ_srt hE2 _) fun q => ?_, tkO_n h.n⟩, ?_, hpl⟩
  · rw [g2, gq_mkF hsq, gq_vwQ, r2, hkeys, h.gq]
    dsimp only
    by_cases hm : q ∈ (dueO (L.take k)).map (·.p)
    · rw [if_pos hm, if_pos hm]
      cases hl : lkV E S q with
      | none => rfl
      | some o =>
        show (if (o.w || o.w) = true then some (tkV o) else none) = tkQ o
        unfold tkQ tkV
        obtain ⟨w, s, a, x, y⟩ := o
        cases w <;> rfl
    · rw [if_neg hm, if_neg hm]
      cases hl : lkV E S q with
      | none => rfl
      | some o =>
        show (if (o.w || o.s) = true then some o else none) = some o
        rw [if_pos (gq_ws (h.ws hR) ((h.gq q).trans hl))]
  · rw [r3, hI.v]
    have := congrArg (List.map (fun v : Rq => (v.1, v.2.x, v.2.w))) hpv
    rw [List.map_map, List.map_map] at this
    exact this
theorem gq_ag (L : List On) (q : Pf) : gq (vO (L.map agO)) q = (gq (vO L) q).map fun o => ⟨o.w, o.s, o.w, o.x, o.y⟩ := by
  induction L with
  | nil => rfl
  | cons r L ih =>
    show (if r.p = q then some (agO r).q else gq (vO (L.map agO)) q) = Option.map _ (if r.p = q then some r.q else gq (vO L) q)
    rw [ih]
    split <;> rfl
theorem Al.again {E : List T.Ent} {S : List En} {L : List On} (h : Al E S L) (hR : Rl E S) (hE : T.EOk E) {xs : List T.Ent} (hx : xs = E.filter fun e => wantE e.2) : Rl (agE E xs) S ∧ (T.Srt (agE E xs) → Al (agE E xs) S (L.map agO)) := by
  have hsub : xs.Sublist E := hx ▸ List.filter_sublist
  obtain ⟨r1, r2⟩ := ags_rel xs E S hR hE.s ((srt_nd hE.s).sublist hsub) (fun e he => by
    rw [hx] at he
    obtain ⟨h1, h2⟩ := List.mem_filter.1 he
    exact ⟨h1, of_decide_eq_true h2⟩)
  have hsq := h.srt hE.s
  refine ⟨r1, fun hE2 => ⟨srq_ext ?_ (vwQ_srt hE2 _) fun q => ?_, fun o ho => ?_⟩⟩
  · unfold SrQ vO at hsq ⊢
    rw [List.map_map, List.pairwise_map]
    rw [List.pairwise_map] at hsq
    exact hsq
  · rw [gq_ag, gq_vwQ, r2, h.gq]
    unfold lkV
    cases hg : T.getL E q with
    | none => simp
    | some v =>
      have he := (T.getL_mem hE.s).1 hg
      have hwa := (ent_ws hR he).2
      dsimp only at hwa
      have hm : q ∈ xs.map (·.1) ↔ wantE v = true := by
        rw [hx, List.mem_map]
        constructor
        · rintro ⟨e, he2, rfl⟩
          obtain ⟨k1, k2⟩ := List.mem_filter.1 he2
          have := (T.getL_mem hE.s).2 k1
          rw [hg] at this
          rw [Option.some.inj this]
          exact k2
        · exact fun k => ⟨(q, v), List.mem_filter.2 ⟨he, k⟩, rfl⟩
      have hwe : wantE v = (entV S v).w := rfl
      rw [hwe] at hm
      show some (Qv.mk _ _ _ _ _) = _
      by_cases hw : (entV S v).w = true
      · rw [if_pos (hm.2 hw), hw]
        rfl
      · have hw2 : (entV S v).w = false := by simpa using hw
        have ha : (entV S v).a = false := by
          cases h3 : (entV S v).a with
          | false => rfl
          | true => exact absurd (hwa h3) hw
        rw [if_neg (fun k => hw (hm.1 k)), hw2]
        show _ = some (entV S v)
        generalize entV S v = z at *
        obtain ⟨w, s, a, x, y⟩ := z
        dsimp only at hw2 ha ⊢
        rw [hw2, ha]
  · obtain ⟨x, hx, rfl⟩ := List.mem_map.1 ho
    exact ⟨(h.n x hx).p, (h.n x hx).t, (h.n x hx).x, (h.n x hx).y⟩
theorem Al.reset {E : List T.Ent} {S : List En} {B c : Int} (hR : Rl E S) (hE : T.EOk E) (hs : StOk B S c) {xs : List T.Ent} (hx : xs = E) : rsE E xs = [] ∧ rsS S xs = [] := by
  subst hx
  obtain ⟨r1, r2⟩ := rss_rel xs xs S hR hE.s hs (srt_nd hE.s) (fun _ h => h)
  refine rl_empty r1 (rsS_ok hs) fun q => ?_
  rw [r2]
  split
  · rfl
  · rename_i hm
    unfold lkV
    have : T.getL xs q = none := T.getL_none.2 fun e he k => hm (List.mem_map.2 ⟨e, he, k⟩)
    rw [this]
    rfl
end Go.Proofs.YtdnokmpnemaoaaaGreat
namespace Go.Proofs.YtdnokmpnemaoaaaGreat
set_option linter.unusedSimpArgs false
set_option linter.unusedVariables false
set_option maxRecDepth 20000
set_option maxHeartbeats 4000000
open Go.RowKit Go.Pm

open T (Pf PfN Rt Ah pfC)
def At.trW (d : At) : At := d.at_ (d.path.take 6) d.pa d.pc (d.comms.take 40) d.ca d.cc (d.others.take 9) d.oa d.oc
theorem At.trW_few {d : At} (h : AtN d) : AtF d.trW := by
  refine ⟨⟨h.origin, h.next, h.med, h.loc, h.makerAS, h.maker, fun s hs => h.path s (List.take_subset _ _ hs), fun s hs => h.comms s (List.take_subset _ _ hs), fun s hs => h.others s (List.take_subset _ _ hs)⟩, ?_, ?_, ?_⟩ <;> simp [At.trW, At.at_] <;> omega
theorem AtV.trW {w : World} {d : At} (h : AtV w d) : AtV w d.trW :=
  ⟨⟨Vw_take h.path.vw (by intro _; rfl) rfl 6 _ rfl, fun s hs => h.path.segs s (List.take_subset _ _ hs)⟩, Vw_take h.comms (by intro _; rfl) rfl 40 _ rfl, ⟨Vw_take h.others.vw (by intro _; rfl) rfl 9 _ rfl, fun s hs => h.others.raws s (List.take_subset _ _ hs)⟩⟩
theorem listv_s (a b : Option Addr) (c d n m : Nat) (xs : List Pf) (hn : xs.length = n) (hm : xs.length = m) (hl : n ≤ 1000000) : Pact Tryz.prog 42 #[.slice a n c, .slice b m d] (fun w => Vw w (.slice a n c) 2 n (flat pfC xs) ∧ Vw w (.slice b m d) 2 m (flat pfC xs)) [] (ret0 (.bool true)) := by
  subst hn
  subst hm
  refine pact Tryz.func42 rfl Tryz.ntmps42 rfl ?_
  intro W K hK
  have hv := hK.left
  have hv2 := hK.right
  (repeat' (first | ((with_reducible apply gL); (first | refine yL0 ?_ | refine yL ?_ | fail)) | ((with_reducible apply gD); (first | (refine JD_nil ?_; try simp only [List.cons_append, List.nil_append]) | (refine JD_bar ?_; try simp only [List.cons_append, List.nil_append]) | refine yD ?_ | fail)) | refine yJ ?_ | ((with_reducible apply gJ_if); (first | (refine J_if xR ?_ ?_ <;> intro _ <;> (try (exfalso; first | contradiction | omega))) | (refine J_ifb xR ?_ ?_ <;> (intro hgb; subst hgb)) | (refine J_ifb xR ?_ ?_ <;> intro _) | fail)) | refine J_draw (id := 6) [0, 1, 2, 3, 4, 5, 6, 7] [8] mixed xC xD xD ?_ | fail))
  all_goals (first | (exfalso; omega) | skip)
  refine J_loop (α := Nat) 0 (fun k => xs.length - k) (fun k => k ≤ xs.length) (fun k => [(0, .slice a xs.length c), (1, .slice b xs.length d), (5, .int .i64 k)]) (fun _ => []) (Nat.zero_le _) ⟨rfl, rfl, rfl, trivial⟩ (fun w H => H) ?_
  intro k hk
  by_cases hlt : k < xs.length
  · obtain ⟨p, hs⟩ : ∃ p, xs[k]? = some p := ⟨_, List.getElem?_eq_getElem hlt⟩
    (repeat' (first | ((with_reducible apply gL); (first | refine yL0 ?_ | refine yL ?_ | fail)) | ((with_reducible apply gD); (first | (refine JD_nil ?_; try simp only [List.cons_append, List.nil_append]) | (refine JD_bar ?_; try simp only [List.cons_append, List.nil_append]) | refine yD ?_ | fail)) | refine yJ ?_ | ((with_reducible apply gJ_if); (first | (refine J_if xR ?_ ?_ <;> intro _ <;> (try (exfalso; first | contradiction | omega))) | (refine J_ifb xR ?_ ?_ <;> (intro hgb; subst hgb)) | (refine J_ifb xR ?_ ?_ <;> intro _) | fail)) | refine J_draw (id := 6) [0, 1, 2, 3, 4, 5, 6, 7] [8] mixed xC xD xD ?_ | fail))
    all_goals (first | (exfalso; omega) | skip)
    exact J_again (k + 1) (by omega) (by omega) ⟨rfl, rfl, rfl, trivial⟩ (fun w H => H.sel .nil)
  · (repeat' (first | ((with_reducible apply gL); (first | refine yL0 ?_ | refine yL ?_ | fail)) | ((with_reducible apply gD); (first | (refine JD_nil ?_; try simp only [List.cons_append, List.nil_append]) | (refine JD_bar ?_; try simp only [List.cons_append, List.nil_append]) | refine yD ?_ | fail)) | refine yJ ?_ | ((with_reducible apply gJ_if); (first | (refine J_if xR ?_ ?_ <;> intro _ <;> (try (exfalso; first | contradiction | omega))) | (refine J_ifb xR ?_ ?_ <;> (intro hgb; subst hgb)) | (refine J_ifb xR ?_ ?_ <;> intro _) | fail)) | refine J_draw (id := 6) [0, 1, 2, 3, 4, 5, 6, 7] [8] mixed xC xD xD ?_ | fail))
    exact J_ret1 rfl (by rfl) fun w H => ⟨_, ⟨rfl, rfl⟩, H.sel .nil⟩
theorem changes_s (a b : Option Addr) (c d n m : Nat) (xs ys : List Ch) (hn : xs.length = n) (hm : ys.length = m) (he : xs.map chN = ys.map chN) (hx : ∀ x ∈ xs, AtF x.d) (hy : ∀ y ∈ ys, AtF y.d) (hl : n ≤ 1000000) : Pact Tryz.prog 35 #[.slice a n c, .slice b m d] (fun w => (Vw w (.slice a n c) 16 n (flat chC xs) ∧ Vw w (.slice b m d) 16 m (flat chC ys)) ∧ (∀ x ∈ xs, AtV w x.d) ∧ ∀ y ∈ ys, AtV w y.d) [] (ret0 (.bool true)) := by
  have hxy := congrArg List.length he
  rw [List.length_map, List.length_map] at hxy
  subst hn
  subst hm
  refine pact Tryz.func35 rfl Tryz.ntmps35 rfl ?_
  intro W K hK
  have hv := hK.left.left
  have hv2 := hK.left.right
  (repeat' (first | ((with_reducible apply gL); (first | (with_reducible apply gL_app) | (with_reducible apply gL_app0) | refine yL0 ?_ | refine yL ?_ | fail)) | ((with_reducible apply gD); (first | (refine JD_nil ?_; try simp only [List.cons_append, List.nil_append]) | (refine JD_bar ?_; try simp only [List.cons_append, List.nil_append]) | (with_reducible apply gD_app) | (with_reducible apply gD_app0) | refine yD0 ?_ | refine yD ?_ | ((with_reducible apply gD_gd); (first | (refine JD_guard xR xR ?_ ?_ <;> intro _ <;> (try (exfalso; first | contradiction | omega))) | (refine JD_guardb xR xR ?_ ?_ <;> (intro hgb; subst hgb)) | (refine JD_guardb xR xR ?_ ?_ <;> (intro hgb; fail_if_success (have : type_of% hgb := rfl))) | fail)) | fail)) | refine yJ ?_ | ((with_reducible apply gJ_if); (first | (refine J_if xR ?_ ?_ <;> intro _ <;> (try (exfalso; first | contradiction | omega))) | (refine J_ifb xR ?_ ?_ <;> (intro hgb; subst hgb)) | (refine J_ifb xR ?_ ?_ <;> intro _) | fail)) | refine J_draw (id := 6) [0, 1, 2, 3, 4, 5, 6, 7, 8, 9, 10, 11, 12, 13, 14, 15, 16, 17, 18, 19, 20, 21, 22, 23, 24, 25, 26, 27, 28, 29, 30, 31, 32, 33, 34] [35, 36, 37] mixed xC xD xD ?_ | fail))
  all_goals (first | (exfalso; omega) | skip)
  refine J_loop (α := Nat) 0 (fun k => xs.length - k) (fun k => k ≤ xs.length) (fun k => [(0, .slice a xs.length c), (1, .slice b ys.length d), (5, .int .i64 k)]) (fun _ => []) (Nat.zero_le _) ⟨rfl, rfl, rfl, trivial⟩ (fun w H => H) ?_
  intro k hk
  by_cases hlt : k < xs.length
  · obtain ⟨x, hsx⟩ : ∃ x, xs[k]? = some x := ⟨_, List.getElem?_eq_getElem hlt⟩
    obtain ⟨y, hsy⟩ : ∃ y, ys[k]? = some y := ⟨_, List.getElem?_eq_getElem (by omega)⟩
    have hxm := List.mem_of_getElem? hsx
    have hym := List.mem_of_getElem? hsy
    have hc : chN x = chN y := by
      have h1 : (xs.map chN)[k]? = (ys.map chN)[k]? := by rw [he]
      rw [List.getElem?_map, List.getElem?_map, hsx, hsy] at h1
      exact Option.some.inj h1
    obtain ⟨xp, xd, xt⟩ := x
    obtain ⟨yp, yd, yt⟩ := y
    obtain ⟨h1, h2⟩ := Prod.mk.inj hc
    obtain ⟨h3, h4⟩ := Prod.mk.inj h2
    dsimp only at h1 h3 h4
    subst h1
    subst h4
    have ks := rsame_s xd yd (hx _ hxm) (hy _ hym)
    rw [decide_eq_true h3] at ks
    rcases xt with _ | _
    all_goals (
      (repeat' (first | ((with_reducible apply gL); (first | (with_reducible apply gL_app) | (with_reducible apply gL_app0) | refine yL0 ?_ | refine yL ?_ | fail)) | ((with_reducible apply gD); (first | (refine JD_nil ?_; try simp only [List.cons_append, List.nil_append]) | (refine JD_bar ?_; try simp only [List.cons_append, List.nil_append]) | (with_reducible apply gD_app) | (with_reducible apply gD_app0) | refine yD0 ?_ | refine yD ?_ | ((with_reducible apply gD_go); (first | (refine JD_goq (ks) (hφ := (by (try simp only [List.cons_append, List.nil_append]); exact fun w hr => ⟨(hK w hr.1).2.1 _ hxm, (hK w hr.1).2.2 _ hym⟩)) (h := ?_); rintro _ _ ⟨rfl, rfl⟩; try simp only [List.cons_append, List.nil_append]) | fail)) | ((with_reducible apply gD_gd); (first | (refine JD_guard xR xR ?_ ?_ <;> intro _ <;> (try (exfalso; first | contradiction | omega))) | (refine JD_guardb xR xR ?_ ?_ <;> (intro hgb; subst hgb)) | (refine JD_guardb xR xR ?_ ?_ <;> (intro hgb; fail_if_success (have : type_of% hgb := rfl))) | fail)) | fail)) | refine yJ ?_ | ((with_reducible apply gJ_if); (first | (refine J_if xR ?_ ?_ <;> intro _ <;> (try (exfalso; first | contradiction | omega))) | (refine J_ifb xR ?_ ?_ <;> (intro hgb; subst hgb)) | (refine J_ifb xR ?_ ?_ <;> intro _) | fail)) | refine J_draw (id := 6) [0, 1, 2, 3, 4, 5, 6, 7, 8, 9, 10, 11, 12, 13, 14, 15, 16, 17, 18, 19, 20, 21, 22, 23, 24, 25, 26, 27, 28, 29, 30, 31, 32, 33, 34] [35, 36, 37] mixed xC xD xD ?_ | fail))
      all_goals (first | (exfalso; dsimp only at *; omega) | skip)
      exact J_again (k + 1) (by omega) (by omega) ⟨rfl, rfl, rfl, trivial⟩ (fun w H => H.sel .nil))
  · (repeat' (first | ((with_reducible apply gL); (first | (with_reducible apply gL_app) | (with_reducible apply gL_app0) | refine yL0 ?_ | refine yL ?_ | fail)) | ((with_reducible apply gD); (first | (refine JD_nil ?_; try simp only [List.cons_append, List.nil_append]) | (refine JD_bar ?_; try simp only [List.cons_append, List.nil_append]) | (with_reducible apply gD_app) | (with_reducible apply gD_app0) | refine yD0 ?_ | refine yD ?_ | ((with_reducible apply gD_gd); (first | (refine JD_guard xR xR ?_ ?_ <;> intro _ <;> (try (exfalso; first | contradiction | omega))) | (refine JD_guardb xR xR ?_ ?_ <;> (intro hgb; subst hgb)) | (refine JD_guardb xR xR ?_ ?_ <;> (intro hgb; fail_if_success (have : type_of% hgb := rfl))) | fail)) | fail)) | refine yJ ?_ | ((with_reducible apply gJ_if); (first | (refine J_if xR ?_ ?_ <;> intro _ <;> (try (exfalso; first | contradiction | omega))) | (refine J_ifb xR ?_ ?_ <;> (intro hgb; subst hgb)) | (refine J_ifb xR ?_ ?_ <;> intro _) | fail)) | refine J_draw (id := 6) [0, 1, 2, 3, 4, 5, 6, 7, 8, 9, 10, 11, 12, 13, 14, 15, 16, 17, 18, 19, 20, 21, 22, 23, 24, 25, 26, 27, 28, 29, 30, 31, 32, 33, 34] [35, 36, 37] mixed xC xD xD ?_ | fail))
    exact J_ret1 rfl (by rfl) fun w H => ⟨_, ⟨rfl, rfl⟩, H.sel .nil⟩
theorem rvWantbad_s (rb : Nat) (a : Option Addr) (c : Nat) (L : List On) (p : Pf) (hp : PfN p) (d : At) (hd : AtF d) (told : Bool) (hbad : ¬ Rt p ∨ (Rt p ∧ told = true ∧ okN d.bare.nf = false)) :
    Pact Tryz.prog 39 #[.pointer (some ⟨rb, 0, none⟩), .agg (pfC p).toArray, .agg (atC d).toArray, .bool told] (fun w => AtV w d) (RvL rb a c L) (fun u L' => u = .int .i64 2 ∧ L' = RvL rb a c L) := by
  refine pact Tryz.func39 rfl Tryz.ntmps39 rfl ?_
  intro W K hK
  have hbf := At.bare_f hd
  have hbv : ∀ w, AtV w d → AtV w d.bare := fun w h => ⟨h.path, h.comms, h.others⟩
  have kr := T.rright_s p hp
  have kc := rcheck_s d.bare hbf
  rcases hbad with h | ⟨h, rfl, ho⟩
  · rw [decide_eq_false h] at kr
    (repeat' (first | ((with_reducible apply gL); (first | (with_reducible apply gL_app) | (with_reducible apply gL_app0) | refine yL0 ?_ | refine yL ?_ | ((with_reducible apply gL_go); (first | (refine JL_goq (kr) (hφ := xF) (h := ?_); rintro _ _ ⟨rfl, rfl⟩; try simp only [List.cons_append, List.nil_append]) | fail)) | (refine yM ?_; intro _) | ((with_reducible apply gL_gd); (first | (refine JL_guard xR xR ?_ ?_ <;> intro _ <;> (try (exfalso; first | contradiction | omega))) | (refine JL_guardb xR xR ?_ ?_ <;> (intro hgb; subst hgb)) | (refine JL_guardb xR xR ?_ ?_ <;> (intro hgb; fail_if_success (have : type_of% hgb := rfl))) | fail)) | fail)) | ((with_reducible apply gD); (first | (refine JD_nil ?_; try simp only [List.cons_append, List.nil_append]) | (refine JD_bar ?_; try simp only [List.cons_append, List.nil_append]) | (with_reducible apply gD_app) | (with_reducible apply gD_app0) | refine yD0 ?_ | refine yD ?_ | ((with_reducible apply gD_go); (first | (refine JD_goq (kr) (hφ := xF) (h := ?_); rintro _ _ ⟨rfl, rfl⟩; try simp only [List.cons_append, List.nil_append]) | fail)) | (refine yE ?_; intro _) | (refine yB ?_; intro _ _ _ _) | ((with_reducible apply gD_gd); (first | (refine JD_guard xR xR ?_ ?_ <;> intro _ <;> (try (exfalso; first | contradiction | omega))) | (refine JD_guardb xR xR ?_ ?_ <;> (intro hgb; subst hgb)) | (refine JD_guardb xR xR ?_ ?_ <;> (intro hgb; fail_if_success (have : type_of% hgb := rfl))) | fail)) | fail)) | refine yJ ?_ | ((with_reducible apply gJ_if); (first | (refine J_if xR ?_ ?_ <;> intro _ <;> (try (exfalso; first | contradiction | omega))) | (refine J_ifb xR ?_ ?_ <;> (intro hgb; subst hgb)) | (refine J_ifb xR ?_ ?_ <;> intro _) | fail)) | refine J_draw (id := 9) [0, 1, 2, 3, 4, 5, 6, 7, 8, 9, 10, 11, 12, 13, 14, 15, 16] [17, 18] mixed xC xD xD ?_ | refine J_draw (id := 11) [0, 2, 3, 4, 5, 6, 7, 9, 10, 13, 14, 15, 16, 17, 18, 1, 8, 11, 12, 19] [20, 21, 22] mixed xC xD xD ?_ | refine J_draw (id := 12) [0, 1, 2, 3, 4, 5, 6, 7, 8, 9, 10, 11, 12, 13, 14, 15, 16, 17, 18, 19, 20, 21, 22, 23, 24, 25, 26, 27, 28, 29, 30, 31, 32, 33] [34, 35, 36] mixed xC xD xD ?_ | refine J_draw (id := 14) [0, 1, 2, 3, 4, 5, 6] [7, 8, 9] mixed xC xD xD ?_ | fail))
    exact J_ret1 rfl (by rfl) fun w H => ⟨_, ⟨rfl, rfl⟩, H.sel xZ⟩
  · rw [decide_eq_true h] at kr
    rw [ho] at kc
    (repeat' (first | ((with_reducible apply gL); (first | (with_reducible apply gL_app) | (with_reducible apply gL_app0) | refine yL0 ?_ | refine yL ?_ | ((with_reducible apply gL_go); (first | (refine JL_goq (kr) (hφ := xF) (h := ?_); rintro _ _ ⟨rfl, rfl⟩; try simp only [List.cons_append, List.nil_append]) | (refine JL_goq (kc) (hφ := (by (try simp only [List.cons_append, List.nil_append]); exact fun w hr => hbv w (hK w hr.1))) (h := ?_); rintro _ _ ⟨rfl, rfl⟩; try simp only [List.cons_append, List.nil_append]) | fail)) | (refine yM ?_; intro _) | ((with_reducible apply gL_gd); (first | (refine JL_guard xR xR ?_ ?_ <;> intro _ <;> (try (exfalso; first | contradiction | omega))) | (refine JL_guardb xR xR ?_ ?_ <;> (intro hgb; subst hgb)) | (refine JL_guardb xR xR ?_ ?_ <;> (intro hgb; fail_if_success (have : type_of% hgb := rfl))) | fail)) | fail)) | ((with_reducible apply gD); (first | (refine JD_nil ?_; try simp only [List.cons_append, List.nil_append]) | (refine JD_bar ?_; try simp only [List.cons_append, List.nil_append]) | (with_reducible apply gD_app) | (with_reducible apply gD_app0) | refine yD0 ?_ | refine yD ?_ | ((with_reducible apply gD_go); (first | (refine JD_goq (kr) (hφ := xF) (h := ?_); rintro _ _ ⟨rfl, rfl⟩; try simp only [List.cons_append, List.nil_append]) | (refine JD_goq (kc) (hφ := (by (try simp only [List.cons_append, List.nil_append]); exact fun w hr => hbv w (hK w hr.1))) (h := ?_); rintro _ _ ⟨rfl, rfl⟩; try simp only [List.cons_append, List.nil_append]) | fail)) | (refine yE ?_; intro _) | (refine yB ?_; intro _ _ _ _) | ((with_reducible apply gD_gd); (first | (refine JD_guard xR xR ?_ ?_ <;> intro _ <;> (try (exfalso; first | contradiction | omega))) | (refine JD_guardb xR xR ?_ ?_ <;> (intro hgb; subst hgb)) | (refine JD_guardb xR xR ?_ ?_ <;> (intro hgb; fail_if_success (have : type_of% hgb := rfl))) | fail)) | fail)) | refine yJ ?_ | ((with_reducible apply gJ_if); (first | (refine J_if xR ?_ ?_ <;> intro _ <;> (try (exfalso; first | contradiction | omega))) | (refine J_ifb xR ?_ ?_ <;> (intro hgb; subst hgb)) | (refine J_ifb xR ?_ ?_ <;> intro _) | fail)) | refine J_draw (id := 9) [0, 1, 2, 3, 4, 5, 6, 7, 8, 9, 10, 11, 12, 13, 14, 15, 16] [17, 18] mixed xC xD xD ?_ | refine J_draw (id := 11) [0, 2, 3, 4, 5, 6, 7, 9, 10, 13, 14, 15, 16, 17, 18, 1, 8, 11, 12, 19] [20, 21, 22] mixed xC xD xD ?_ | refine J_draw (id := 12) [0, 1, 2, 3, 4, 5, 6, 7, 8, 9, 10, 11, 12, 13, 14, 15, 16, 17, 18, 19, 20, 21, 22, 23, 24, 25, 26, 27, 28, 29, 30, 31, 32, 33] [34, 35, 36] mixed xC xD xD ?_ | refine J_draw (id := 14) [0, 1, 2, 3, 4, 5, 6] [7, 8, 9] mixed xC xD xD ?_ | fail))
    exact J_ret1 rfl (by rfl) fun w H => ⟨_, ⟨rfl, rfl⟩, H.sel xZ⟩
end Go.Proofs.YtdnokmpnemaoaaaGreat
