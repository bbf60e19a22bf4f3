/-
  Rb7, Rb8, Rb9: merged.
-/
import Derived.Test.YtnhabkipjmgaaaaGreatZRibPlays26
namespace Go.Proofs.YtnhabkipjmgaaaaGreat
set_option linter.unusedSimpArgs false
set_option linter.unusedVariables false
set_option maxRecDepth 20000
set_option maxHeartbeats 4000000
open Go.RowKit Go.Pm

open T (Pf PfN Rt Ah pfC)
abbrev rtL (b sp tb : Nat) (lim : Int) (E : List T.Ent) (S : List En) (c : Int) : List HP := [pts b (tbC sp lim tb) 72, T.trA tb E, stoA sp S c]
theorem free_o (B : Int) (hB : B ≤ 1000000000) (sp : Nat) (S S1 : List En) (c id : Int) (hs : StOk B S c) (h1 : (freeF S id).1 = S1) : Pact Tryz.prog 32 #[.pointer (some ⟨sp, 0, none⟩), .int .i64 id] (fun _ => True) [stoA sp S c] (fun u L' => u = .int .i64 (freeF S id).2 ∧ L' = [stoA sp S1 c]) := h1 ▸ free_s B hB sp S c id hs
theorem rdrop_s (B : Int) (hB : B ≤ 1000000000) (b sp tb : Nat) (lim : Int) (E : List T.Ent) (S S1 : List En) (c : Int) (p : Pf) (o : T.Vt) (hp : PfN p) (ho : T.oldV E p = o) (hn : E.length ≤ 4096) (hs : StOk B S c) (h1 : (freeF S o.1).1 = S1) : Pact Tryz.prog 40 #[.pointer (some ⟨b, 0, none⟩), .agg (pfC p).toArray] (fun _ => True) (rtL b sp tb lim E S c) (fun _ L' => L' = rtL b sp tb lim (T.dropL E p) S1 c) := by
  refine pact Tryz.func40 rfl Tryz.ntmps40 rfl ?_
  intro W K _
  obtain ⟨i, hi⟩ : ∃ i, (T.getL E p).isSome = i := ⟨_, rfl⟩
  have k := T.get_old tb E p hp o ho i hi
  have kd := T.drop_a tb E p hp hn
  have kf := free_o B hB sp S S1 c o.1 hs h1
  (repeat' (first | ((with_reducible apply gL); (first | refine yL0 ?_ | refine yL ?_ | (refine yM ?_; intro _) | fail)) | ((with_reducible apply gD); (first | (refine JD_nil ?_; try simp only [List.cons_append, List.nil_append]) | (refine JD_bar ?_; try simp only [List.cons_append, List.nil_append]) | refine yD ?_ | ((with_reducible apply gD_go); (first | (refine JD_goq (k) (hφ := xF) (h := ?_); rintro _ _ ⟨rfl, rfl⟩; try simp only [List.cons_append, List.nil_append]) | (refine JD_goq (kd) (hφ := xF) (h := ?_); rintro _ _ ⟨rfl, rfl⟩; try simp only [List.cons_append, List.nil_append]) | (refine JD_goq (kf) (hφ := xF) (h := ?_); rintro _ _ ⟨rfl, rfl⟩; try simp only [List.cons_append, List.nil_append]) | fail)) | (refine yE ?_; intro _) | fail)) | refine yJ ?_ | refine J_draw (id := 1) [0, 1, 2, 3, 4, 5, 6, 7, 8, 9, 10] [11] mixed xC xD xD ?_ | refine J_draw (id := 2) [0, 1, 2, 3, 4] [5] mixed xC xD xD ?_ | refine J_draw (id := 3) [0, 1, 2, 3, 4, 5] [6] mixed xC xD xD ?_ | fail))
  exact J_end0 rfl fun w H => ⟨_, rfl, H.sel xZ⟩
theorem rput_s (B : Int) (hB0 : 0 ≤ B) (hB : B ≤ 1000000) (b sp tb : Nat) (lim : Int) (E : List T.Ent) (S S1 S2 : List En) (c c1 id er : Int) (p : Pf) (o : T.Vt) (i : Bool) (d : At) (hd : AtF d) (hp : PfN p) (hr : Rt p) (ho : T.oldV E p = o) (hi : (T.getL E p).isSome = i) (hn : E.length < 4096) (hs : StOk B S c) (hk : keepF S c d.nf = ((S1, c1), id, er)) (hs1 : StOk (B + 1) S1 c1) (hid : I64 id) (hox : T.VN o) (h2 : (if i then (freeF S1 o.1).1 else S1) = S2) :
    Pact Tryz.prog 41 #[.pointer (some ⟨b, 0, none⟩), .agg (pfC p).toArray, .agg (atC d).toArray] (fun w => AtV w d) (rtL b sp tb lim E S c) (fun u L' => u = .bool (decide (o.1 ≠ id)) ∧ L' = rtL b sp tb lim (T.putL E p (id, false)) S2 c1) := by
  refine pact Tryz.func41 rfl Tryz.ntmps41 rfl ?_
  intro W K hK
  have k := T.get_old tb E p hp o ho i hi
  have kk := keep_s B hB0 (by omega) sp S c d hd hs
  rw [hk] at kk
  dsimp only at kk
  have kp := T.put_a tb E p (id, false) hp hid (by omega)
  rw [T.putE_ok hr (.inr hn)] at kp
  dsimp only at kp
  cases i with
  | false =>
    have e : S1 = S2 := h2
    subst e
    (repeat' (first | ((with_reducible apply gL); (first | refine yL0 ?_ | refine yL ?_ | (refine yM ?_; intro _) | fail)) | ((with_reducible apply gD); (first | (refine JD_nil ?_; try simp only [List.cons_append, List.nil_append]) | (refine JD_bar ?_; try simp only [List.cons_append, List.nil_append]) | refine yD ?_ | ((with_reducible apply gD_go); (first | (refine JD_goq (kk) (hφ := (by (try simp only [List.cons_append, List.nil_append]); exact fun w hr => hK w hr.1)) (h := ?_); rintro _ _ ⟨rfl, rfl⟩; try simp only [List.cons_append, List.nil_append]) | (refine JD_goq (k) (hφ := xF) (h := ?_); rintro _ _ ⟨rfl, rfl⟩; try simp only [List.cons_append, List.nil_append]) | (refine JD_goq (kp) (hφ := xF) (h := ?_); rintro _ _ ⟨rfl, rfl⟩; try simp only [List.cons_append, List.nil_append]) | fail)) | (refine yE ?_; intro _) | fail)) | refine yJ ?_ | ((with_reducible apply gJ_if); (first | (refine J_if xR ?_ ?_ <;> intro _ <;> (try (exfalso; first | contradiction | omega))) | (refine J_ifb xR ?_ ?_ <;> (intro hgb; subst hgb)) | (refine J_ifb xR ?_ ?_ <;> intro _) | fail)) | refine J_draw (id := 1) [0, 1, 2, 3, 4] [5, 6, 7, 8, 9, 10] mixed xC xD xD ?_ | refine J_draw (id := 2) [0, 1, 2, 3, 4, 5, 6, 7, 8, 9, 10] [11] mixed xC xD xD ?_ | refine J_draw (id := 3) [0, 1, 2, 3, 4, 5, 6] [7] mixed xC xD xD ?_ | refine J_draw (id := 5) [0, 1, 2, 3, 4, 5] [6] mixed xC xD xD ?_ | fail))
    exact J_ret1 rfl (by rfl) fun w H => ⟨_, ⟨rfl, rfl⟩, H.sel xZ⟩
  | true =>
    have kf := free_o (B + 1) (by omega) sp S1 S2 c1 o.1 hs1 h2
    (repeat' (first | ((with_reducible apply gL); (first | refine yL0 ?_ | refine yL ?_ | (refine yM ?_; intro _) | fail)) | ((with_reducible apply gD); (first | (refine JD_nil ?_; try simp only [List.cons_append, List.nil_append]) | (refine JD_bar ?_; try simp only [List.cons_append, List.nil_append]) | refine yD ?_ | ((with_reducible apply gD_go); (first | (refine JD_goq (kk) (hφ := (by (try simp only [List.cons_append, List.nil_append]); exact fun w hr => hK w hr.1)) (h := ?_); rintro _ _ ⟨rfl, rfl⟩; try simp only [List.cons_append, List.nil_append]) | (refine JD_goq (k) (hφ := xF) (h := ?_); rintro _ _ ⟨rfl, rfl⟩; try simp only [List.cons_append, List.nil_append]) | (refine JD_goq (kp) (hφ := xF) (h := ?_); rintro _ _ ⟨rfl, rfl⟩; try simp only [List.cons_append, List.nil_append]) | (refine JD_goq (kf) (hφ := xF) (h := ?_); rintro _ _ ⟨rfl, rfl⟩; try simp only [List.cons_append, List.nil_append]) | fail)) | (refine yE ?_; intro _) | fail)) | refine yJ ?_ | ((with_reducible apply gJ_if); (first | (refine J_if xR ?_ ?_ <;> intro _ <;> (try (exfalso; first | contradiction | omega))) | (refine J_ifb xR ?_ ?_ <;> (intro hgb; subst hgb)) | (refine J_ifb xR ?_ ?_ <;> intro _) | fail)) | refine J_draw (id := 1) [0, 1, 2, 3, 4] [5, 6, 7, 8, 9, 10] mixed xC xD xD ?_ | refine J_draw (id := 2) [0, 1, 2, 3, 4, 5, 6, 7, 8, 9, 10] [11] mixed xC xD xD ?_ | refine J_draw (id := 3) [0, 1, 2, 3, 4, 5, 6] [7] mixed xC xD xD ?_ | refine J_draw (id := 5) [0, 1, 2, 3, 4, 5] [6] mixed xC xD xD ?_ | fail))
    exact J_ret1 rfl (by rfl) fun w H => ⟨_, ⟨rfl, rfl⟩, H.sel xZ⟩
structure Tb where
  E : List T.Ent
  S : List En
  c : Int
def dropStep (σ : Tb) (p : Pf) : Tb := ⟨T.dropL σ.E p, (freeF σ.S (T.oldV σ.E p).1).1, σ.c⟩
def dropF (σ : Tb) (ps : List Pf) : Tb := ps.foldl dropStep σ
theorem dropF_snoc (σ : Tb) (ps : List Pf) (p : Pf) : dropF σ (ps ++ [p]) = dropStep (dropF σ ps) p := by unfold dropF; rw [List.foldl_append]; rfl
theorem dropF_len : ∀ (ps : List Pf) (σ : Tb), (dropF σ ps).E.length ≤ σ.E.length
  | [], _ => Nat.le_refl _
  | p :: ps, σ => by
    have h1 := dropF_len ps (dropStep σ p)
    have h2 : (dropStep σ p).E.length ≤ σ.E.length := List.length_filter_le _ _
    exact Nat.le_trans h1 h2
theorem dropF_ok {B : Int} : ∀ (ps : List Pf) (σ : Tb), StOk B σ.S σ.c → StOk B (dropF σ ps).S (dropF σ ps).c
  | [], _, h => h
  | p :: ps, σ, h => dropF_ok ps (dropStep σ p) (freeF_ok h)
noncomputable def putStep (x : Nf) (σ : Tb) (p : Pf) : Tb :=
  ⟨T.putL σ.E p ((keepF σ.S σ.c x).2.1, false), if (T.getL σ.E p).isSome then (freeF (keepF σ.S σ.c x).1.1 (T.oldV σ.E p).1).1 else (keepF σ.S σ.c x).1.1, (keepF σ.S σ.c x).1.2⟩
noncomputable def putF (x : Nf) (σ : Tb) (ps : List Pf) : Tb := ps.foldl (putStep x) σ
theorem putF_snoc (x : Nf) (σ : Tb) (ps : List Pf) (p : Pf) : putF x σ (ps ++ [p]) = putStep x (putF x σ ps) p := by unfold putF; rw [List.foldl_append]; rfl
noncomputable def putNew (x : Nf) (σ : Tb) (p : Pf) : Bool := decide ((T.oldV σ.E p).1 ≠ (keepF σ.S σ.c x).2.1)
noncomputable def chg (x : Nf) : Tb → List Pf → List Pf
  | _, [] => []
  | σ, p :: r => (if putNew x σ p then [p] else []) ++ chg x (putStep x σ p) r
theorem chg_snoc (x : Nf) (p : Pf) : ∀ (ps : List Pf) (σ : Tb), chg x σ (ps ++ [p]) = chg x σ ps ++ (if putNew x (putF x σ ps) p then [p] else [])
  | [], σ => by
    show (if putNew x σ p then [p] else []) ++ [] = [] ++ _
    rw [List.append_nil, List.nil_append]
    rfl
  | y :: ps, σ => by
    simp only [List.cons_append, chg]
    rw [chg_snoc x p ps, List.append_assoc]
    rfl
theorem chg_len (x : Nf) : ∀ (ps : List Pf) (σ : Tb), (chg x σ ps).length ≤ ps.length
  | [], _ => Nat.le_refl _
  | y :: ps, σ => by
    have := chg_len x ps (putStep x σ y)
    simp only [chg, List.length_append, List.length_cons]
    split <;> simp <;> omega
theorem putF_len (x : Nf) : ∀ (ps : List Pf) (σ : Tb), T.Srt σ.E → (putF x σ ps).E.length ≤ σ.E.length + ps.length ∧ T.Srt (putF x σ ps).E
  | [], _, h => ⟨by simp [putF], h⟩
  | p :: ps, σ, h => by
    have h0 : T.Srt (putStep x σ p).E := T.srt_putL h
    have h1 := putF_len x ps (putStep x σ p) h0
    have h2 : (putStep x σ p).E.length ≤ σ.E.length + 1 := by
      show (T.putL _ _ _).length ≤ _
      rw [T.len_putL h]
      split <;> omega
    refine ⟨?_, h1.2⟩
    have h3 := h1.1
    show (putF x (putStep x σ p) ps).E.length ≤ _
    simp only [List.length_cons]
    omega
theorem keepF_id {B : Int} {S : List En} {c : Int} {x : Nf} (h : StOk B S c) : 0 ≤ (keepF S c x).2.1 ∧ (keepF S c x).2.1 ≤ B + 1 := by
  have hc := h.cnt
  unfold keepF
  split
  · dsimp only; omega
  · split
    · rename_i e hf
      obtain ⟨A, C, rfl, _, _⟩ := fndX_some hf
      have := h.ids e (by simp)
      dsimp only; omega
    · split <;> (dsimp only; omega)
theorem putStep_ok {B : Int} {x : Nf} (hx : NfN x) {σ : Tb} {p : Pf} (h : StOk B σ.S σ.c) (hB : 0 ≤ B) : StOk (B + 1) (putStep x σ p).S (putStep x σ p).c := by
  have h1 := keepF_ok h hB hx
  unfold putStep
  dsimp only
  split
  · exact freeF_ok h1
  · exact h1
theorem putF_ok {x : Nf} (hx : NfN x) : ∀ (ps : List Pf) (B : Int) (σ : Tb), StOk B σ.S σ.c → 0 ≤ B → StOk (B + ps.length) (putF x σ ps).S (putF x σ ps).c
  | [], B, σ, h, _ => by
    have : B + (([] : List Pf).length : Int) = B := by simp
    rw [this]; exact h
  | p :: ps, B, σ, h, hB => by
    have h1 := putF_ok hx ps (B + 1) (putStep x σ p) (putStep_ok hx h hB) (by omega)
    have : B + ((p :: ps).length : Int) = B + 1 + (ps.length : Int) := by simp; omega
    rw [this]
    exact h1
theorem oldV_n {E : List T.Ent} (hE : T.EOk E) (p : Pf) : T.VN (T.oldV E p) := by
  unfold T.oldV
  cases hg : T.getL E p with
  | none => show I64 0; unfold I64; decide
  | some x => exact (hE.e (p, x) ((T.getL_mem hE.s).1 hg)).2.2
theorem away_s (B : Int) (hB : B ≤ 1000000000) (b sp tb : Nat) (lim : Int) (σ : Tb) (a : Option Addr) (c n : Nat) (L : List Pf) (hn : L.length = n) (hl : n ≤ 4096) (hp : ∀ p ∈ L, PfN p) (hs : StOk B σ.S σ.c) (he : σ.E.length ≤ 4096) : Pact Tryz.prog 48 #[.pointer (some ⟨b, 0, none⟩), .slice a n c] (fun _ => True) [pts b (tbC sp lim tb) 72, T.trA tb σ.E, stoA sp σ.S σ.c, Ar 41 2 pfC (.slice a n c) L]
    (fun u L' => u = .slice a n c ∧ L' = [pts b (tbC sp lim tb) 72, T.trA tb (dropF σ L).E, stoA sp (dropF σ L).S (dropF σ L).c, Ar 41 2 pfC (.slice a n c) L]) := by
  subst hn
  refine pact Tryz.func48 rfl Tryz.ntmps48 rfl ?_
  intro W K _
  (repeat' (first | ((with_reducible apply gL); (first | refine yL0 ?_ | refine yL ?_ | (refine yM ?_; intro _) | fail)) | refine yJ ?_ | ((with_reducible apply gJ_if); (first | (refine J_if xR ?_ ?_ <;> intro _ <;> (try (exfalso; first | contradiction | omega))) | (refine J_ifb xR ?_ ?_ <;> (intro hgb; subst hgb)) | (refine J_ifb xR ?_ ?_ <;> intro _) | fail)) | fail))
  refine J_loop (α := Nat) 0 (fun x => L.length - x) (fun x => x ≤ L.length) (fun x => [(0, .pointer (some ⟨b, 0, none⟩)), (1, .slice a L.length c), (7, .slice a L.length c), (8, .int .i64 L.length), (9, .int .i64 x)]) (fun x => [pts b (tbC sp lim tb) 72, T.trA tb (dropF σ (L.take x)).E, stoA sp (dropF σ (L.take x)).S (dropF σ (L.take x)).c, Ar 41 2 pfC (.slice a L.length c) L]) (Nat.zero_le _) ⟨rfl, rfl, rfl, rfl, rfl, trivial⟩ (fun w H => H.sel xZ) ?_
  intro k hk
  by_cases hlt : k < L.length
  · obtain ⟨p, hs2⟩ : ∃ p, L[k]? = some p := ⟨_, List.getElem?_eq_getElem hlt⟩
    have hst := dropF_ok (L.take k) σ hs
    have hlen := dropF_len (L.take k) σ
    obtain ⟨τ, hτ⟩ : ∃ τ, dropF σ (L.take k) = τ := ⟨_, rfl⟩
    rw [hτ] at hst hlen ⊢
    obtain ⟨E1, S1, c1⟩ := τ
    dsimp only at hst hlen ⊢
    have kd := rdrop_s B hB b sp tb lim E1 S1 _ c1 p _ (hp p (List.mem_of_getElem? hs2)) rfl (by omega) hst rfl
    (repeat' (first | ((with_reducible apply gL); (first | refine yL0 ?_ | refine yL ?_ | ((with_reducible apply gL_go); (first | (refine JL_goq (kd) (hφ := xF) (h := ?_); rintro _ _ rfl; try simp only [List.cons_append, List.nil_append]) | fail)) | (refine yM ?_; intro _) | fail)) | refine yJ ?_ | ((with_reducible apply gJ_if); (first | (refine J_if xR ?_ ?_ <;> intro _ <;> (try (exfalso; first | contradiction | omega))) | (refine J_ifb xR ?_ ?_ <;> (intro hgb; subst hgb)) | (refine J_ifb xR ?_ ?_ <;> intro _) | fail)) | fail))
    refine J_again (k + 1) (by omega) (by omega) ⟨rfl, rfl, rfl, rfl, rfl, trivial⟩ (fun w H => ?_)
    rw [take_snoc hs2, dropF_snoc, hτ]
    exact H.sel xZ
  · obtain rfl : k = L.length := by omega
    rw [List.take_length]
    (repeat' (first | ((with_reducible apply gL); (first | refine yL0 ?_ | refine yL ?_ | (refine yM ?_; intro _) | fail)) | refine yJ ?_ | ((with_reducible apply gJ_if); (first | (refine J_if xR ?_ ?_ <;> intro _ <;> (try (exfalso; first | contradiction | omega))) | (refine J_ifb xR ?_ ?_ <;> (intro hgb; subst hgb)) | (refine J_ifb xR ?_ ?_ <;> intro _) | fail)) | fail))
    exact J_ret1 rfl (by rfl) fun w H => ⟨_, ⟨rfl, rfl⟩, H.sel xZ⟩
end Go.Proofs.YtnhabkipjmgaaaaGreat
namespace Go.Proofs.YtnhabkipjmgaaaaGreat
set_option linter.unusedSimpArgs false
set_option linter.unusedVariables false
set_option maxRecDepth 20000
set_option maxHeartbeats 4000000
open Go.RowKit Go.Pm

open T (Pf PfN Rt Ah pfC)
theorem ris_s (b sp tb : Nat) (lim : Int) : Pact Tryz.prog 34 #[.pointer (some ⟨b, 0, none⟩)] (fun _ => True) [pts b (tbC sp lim tb) 72] (fun u L' => u = .bool true ∧ L' = [pts b (tbC sp lim tb) 72]) := by
  refine pact Tryz.func34 rfl Tryz.ntmps34 rfl ?_
  intro W K _
  (repeat' (first | ((with_reducible apply gL); (first | refine yL0 ?_ | refine yL ?_ | ((with_reducible apply gL_gd); (first | (refine JL_guard xR xR ?_ ?_ <;> intro _ <;> (try (exfalso; first | contradiction | omega))) | (refine JL_guardb xR xR ?_ ?_ <;> (intro hgb; subst hgb)) | (refine JL_guardb xR xR ?_ ?_ <;> (intro hgb; fail_if_success (have : type_of% hgb := rfl))) | fail)) | fail)) | refine yJ ?_ | fail))
  exact J_ret1 rfl (by rfl) fun w H => ⟨_, ⟨rfl, rfl⟩, H.sel xZ⟩
noncomputable def upL (u : Up) : List Pf := if okN u.d.nf then toldF u else []
theorem upL_srt (u : Up) : (upL u).Pairwise fun x y => Ah x y := by
  unfold upL
  split
  · exact (ddF_srt _ none (srtP_srt _) (fun _ h => by cases h)).1
  · exact .nil
theorem mem_toldF {u : Up} {p : Pf} : p ∈ toldF u ↔ p ∈ u.td ∧ Rt p := by
  unfold toldF
  rw [ddP_mem, (srtP_perm _).mem_iff]
  unfold keepP nrt
  rw [List.mem_filter]
  simp
theorem mem_upL {u : Up} {p : Pf} (h : p ∈ upL u) : p ∈ u.td ∧ Rt p := by
  unfold upL at h
  split at h
  · exact mem_toldF.1 h
  · cases h
theorem upL_len (u : Up) : (upL u).length ≤ u.td.length := by
  unfold upL
  split
  · unfold toldF
    have h1 := ddF_len (srtP (keepP nrt u.td)) none
    rw [srtP_len] at h1
    have h2 := keepP_len nrt u.td
    show (ddF none _).length ≤ _
    omega
  · exact Nat.zero_le _
theorem mem_goneF {E : List T.Ent} {L wd : List Pf} {p : Pf} : p ∈ goneF E L wd ↔ p ∈ wd ∧ (T.getL E p).isSome = true ∧ p ∉ L := by
  unfold goneF
  rw [ddP_mem, (srtP_perm _).mem_iff]
  unfold keepP gnT
  rw [List.mem_filter]
  simp
theorem goneF_len (E : List T.Ent) (L wd : List Pf) : (goneF E L wd).length ≤ wd.length := by
  unfold goneF
  have h1 := ddF_len (srtP (keepP (gnT E L) wd)) none
  rw [srtP_len] at h1
  have h2 := keepP_len (gnT E L) wd
  show (ddF none _).length ≤ _
  omega
theorem freshN_le (E : List T.Ent) (L : List Pf) : freshN E L ≤ L.length := List.length_filter_le _ _
theorem goneF_srt (E : List T.Ent) (L wd : List Pf) : (goneF E L wd).Pairwise fun x y => Ah x y := (ddF_srt _ none (srtP_srt _) (fun _ h => by cases h)).1
theorem told_u (u : Up) (hu : UpN u) : Pact Tryz.prog 35 #[.agg (upC u).toArray] (fun w => UpV w u) [] (fun v L' => ∃ (a : Option Addr) (c : Nat), v = .slice a (upL u).length c ∧ L' = [Ar 41 2 pfC (.slice a (upL u).length c) (upL u)]) := fun W K w hK H =>
  (told_s u hu W K w hK H).mono fun e w' h => by
    obtain ⟨v, L', ⟨L, a, c, hL, rfl, rfl⟩, h5, h6⟩ := h
    have e : L = upL u := hL
    subst e
    exact ⟨_, _, ⟨a, c, rfl, rfl⟩, h5, h6⟩
section
variable (b sp tb : Nat) (lim : Int) (E : List T.Ent) (S : List En) (c : Int) (u : Up)
theorem upfull_s (hu : UpN u) (hn : E.length ≤ 4096) (hI : I64 lim) (hf : (E.length : Int) - (goneF E (upL u) u.wd).length + freshN E (upL u) > lim) : Pact Tryz.prog 12 #[.pointer (some ⟨b, 0, none⟩), .agg (upC u).toArray] (fun w => UpV w u) (rtL b sp tb lim E S c) (fun v L' => v = .tuple #[.slice none 0 0, .int .i64 4] ∧ L' = rtL b sp tb lim E S c) := by
  refine pact Tryz.func12 rfl Tryz.ntmps12 rfl ?_
  intro W K hK
  have hll := upL_len u
  have htl := hu.tl
  have hgl := goneF_len E (upL u) u.wd
  have hwl := hu.wl
  have hfl := freshN_le E (upL u)
  have hlp : ∀ p ∈ upL u, PfN p := fun p hp => hu.td p (mem_upL hp).1
  have hls := upL_srt u
  generalize hL : upL u = L at *
  generalize hG : goneF E L u.wd = G at *
  generalize hF : freshN E L = F at *
  have kt := told_u u hu
  rw [hL] at kt
  (repeat' (first | ((with_reducible apply gL); (first | refine yL0 ?_ | refine yL ?_ | ((with_reducible apply gL_go); (first | (refine JL_goq (ris_s b sp tb lim) (hφ := xF) (h := ?_); rintro _ _ ⟨rfl, rfl⟩; try simp only [List.cons_append, List.nil_append]) | (refine JL_goq (kt) (hφ := (by (try simp only [List.cons_append, List.nil_append]); exact fun w hr => hK w hr.1)) (h := ?_); rintro _ _ ⟨a, c1, rfl, rfl⟩; try simp only [List.cons_append, List.nil_append]) | fail)) | (refine yM ?_; intro _) | (refine yA ?_; intro _ _ _ _) | fail)) | ((with_reducible apply gD); (first | (refine JD_nil ?_; try simp only [List.cons_append, List.nil_append]) | (refine JD_bar ?_; try simp only [List.cons_append, List.nil_append]) | refine yD ?_ | ((with_reducible apply gD_go); (first | (refine JD_goq (ris_s b sp tb lim) (hφ := xF) (h := ?_); rintro _ _ ⟨rfl, rfl⟩; try simp only [List.cons_append, List.nil_append]) | (refine JD_goq (kt) (hφ := (by (try simp only [List.cons_append, List.nil_append]); exact fun w hr => hK w hr.1)) (h := ?_); rintro _ _ ⟨a, c1, rfl, rfl⟩; try simp only [List.cons_append, List.nil_append]) | fail)) | fail)) | refine yJ ?_ | ((with_reducible apply gJ_if); (first | (refine J_if xR ?_ ?_ <;> intro _ <;> (try (exfalso; first | contradiction | omega))) | (refine J_ifb xR ?_ ?_ <;> (intro hgb; subst hgb)) | (refine J_ifb xR ?_ ?_ <;> intro _) | fail)) | refine J_draw (id := 5) [0, 1, 2, 3, 5, 6, 8, 9, 12, 13, 14, 15, 4, 7, 10, 11] [16] mixed xC xD xD ?_ | refine J_draw (id := 9) [0, 1, 2, 3, 4, 5] [6, 7, 8, 9, 10, 11] mixed xC xD xD ?_ | fail))
  have kg := gone_s b sp tb lim E a c1 _ L rfl hls (by omega) u hu
  rw [hG] at kg
  have kf := fresh_s b tb E a c1 _ L rfl (by omega) hlp
  rw [hF] at kf
  (repeat' (first | ((with_reducible apply gL); (first | refine yL0 ?_ | refine yL ?_ | ((with_reducible apply gL_go); (first | (refine JL_goq (kg) (hφ := (by (try simp only [List.cons_append, List.nil_append]); exact fun w hr => hK w hr.1)) (h := ?_); rintro _ _ ⟨a2, c2, rfl, rfl⟩; try simp only [List.cons_append, List.nil_append]) | (refine JL_goq (T.len_a tb E) (hφ := xF) (h := ?_); rintro _ _ ⟨rfl, rfl⟩; try simp only [List.cons_append, List.nil_append]) | (refine JL_goq (kf) (hφ := (by (try simp only [List.cons_append, List.nil_append]); exact fun w hr => hr.cell xA rfl)) (h := ?_); rintro _ _ ⟨rfl, rfl⟩; try simp only [List.cons_append, List.nil_append]) | fail)) | (refine yM ?_; intro _) | (refine yA ?_; intro _ _ _ _) | fail)) | ((with_reducible apply gD); (first | (refine JD_nil ?_; try simp only [List.cons_append, List.nil_append]) | (refine JD_bar ?_; try simp only [List.cons_append, List.nil_append]) | refine yD ?_ | ((with_reducible apply gD_go); (first | (refine JD_goq (kg) (hφ := (by (try simp only [List.cons_append, List.nil_append]); exact fun w hr => hK w hr.1)) (h := ?_); rintro _ _ ⟨a2, c2, rfl, rfl⟩; try simp only [List.cons_append, List.nil_append]) | (refine JD_goq (T.len_a tb E) (hφ := xF) (h := ?_); rintro _ _ ⟨rfl, rfl⟩; try simp only [List.cons_append, List.nil_append]) | (refine JD_goq (kf) (hφ := (by (try simp only [List.cons_append, List.nil_append]); exact fun w hr => hr.cell xA rfl)) (h := ?_); rintro _ _ ⟨rfl, rfl⟩; try simp only [List.cons_append, List.nil_append]) | fail)) | fail)) | refine yJ ?_ | ((with_reducible apply gJ_if); (first | (refine J_if xR ?_ ?_ <;> intro _ <;> (try (exfalso; first | contradiction | omega))) | (refine J_ifb xR ?_ ?_ <;> (intro hgb; subst hgb)) | (refine J_ifb xR ?_ ?_ <;> intro _) | fail)) | refine J_draw (id := 5) [0, 1, 2, 3, 5, 6, 8, 9, 12, 13, 14, 15, 4, 7, 10, 11] [16] mixed xC xD xD ?_ | refine J_draw (id := 9) [0, 1, 2, 3, 4, 5] [6, 7, 8, 9, 10, 11] mixed xC xD xD ?_ | fail))
  all_goals (first | (exfalso; omega) | skip)
  exact J_ret2 rfl (by rfl) (by rfl) fun w H => ⟨_, ⟨rfl, rfl⟩, H.sel xZ⟩
end
end Go.Proofs.YtnhabkipjmgaaaaGreat
namespace Go.Proofs.YtnhabkipjmgaaaaGreat
set_option linter.unusedSimpArgs false
set_option linter.unusedVariables false
set_option maxRecDepth 20000
set_option maxHeartbeats 4000000
open Go.RowKit Go.Pm

open T (Pf PfN Rt Ah pfC)
structure Ux where
  k : Nat
  a : Option Addr
  c : Nat
section
variable (b sp tb : Nat) (lim : Int) (E : List T.Ent) (S : List En) (c : Int) (u : Up)
theorem up_s (B : Int) (hB0 : 0 ≤ B) (hB : B ≤ 100000) (hu : UpN u) (hn : E.length ≤ 2000) (hI : I64 lim) (hf : ¬ ((E.length : Int) - (goneF E (upL u) u.wd).length + freshN E (upL u) > lim)) (hE : T.EOk E) (hs : StOk B S c) (hne : upL u ≠ []) (S0 : List En) (c0 id0 : Int) (hk : keepF S c u.d.nf = ((S0, c0), id0, 0)) (hid : 0 < id0) :
    Pact Tryz.prog 12 #[.pointer (some ⟨b, 0, none⟩), .agg (upC u).toArray] (fun w => UpV w u) (rtL b sp tb lim E S c)
    (fun v L' => ∃ (σ1 σ2 : Tb) (R : List Pf) (a : Option Addr) (cc : Nat), σ1 = dropF ⟨E, S0, c0⟩ (goneF E (upL u) u.wd) ∧ σ2 = putF u.d.nf σ1 (upL u) ∧ R = srtP (goneF E (upL u) u.wd ++ chg u.d.nf σ1 (upL u)) ∧ v = .tuple #[.slice a R.length cc, .int .i64 0] ∧ L' = [pts b (tbC sp lim tb) 72, T.trA tb σ2.E, stoA sp (freeF σ2.S id0).1 σ2.c, Ar 41 2 pfC (.slice a R.length cc) R]) := by
  refine pact Tryz.func12 rfl Tryz.ntmps12 rfl ?_
  intro W K hK
  have hll := upL_len u
  have htl := hu.tl
  have hgl := goneF_len E (upL u) u.wd
  have hwl := hu.wl
  have hfl := freshN_le E (upL u)
  have hlp : ∀ p ∈ upL u, PfN p ∧ Rt p := fun p hp => ⟨hu.td p (mem_upL hp).1, (mem_upL hp).2⟩
  have hgp : ∀ p ∈ goneF E (upL u) u.wd, PfN p := fun p hp => hu.wd p (mem_goneF.1 hp).1
  have hls := upL_srt u
  have hnx : NfN u.d.nf := At.nfN hu.d.num
  have hs0 : StOk (B + 1) S0 c0 := by have := keepF_ok hs hB0 hnx; rw [hk] at this; exact this
  have hid2 : id0 ≤ B + 1 := by have := (keepF_id (x := u.d.nf) hs).2; rw [hk] at this; exact this
  have kt := told_u u hu
  have kk := keep_s B hB0 (by omega) sp S c u.d hu.d hs
  rw [hk] at kk
  dsimp only at kk
  generalize hL : upL u = L at *
  generalize hG : goneF E L u.wd = G at *
  generalize hF : freshN E L = F at *
  generalize hX : u.d.nf = X at *
  have hlpos : 0 < L.length := List.length_pos_iff.2 hne
  (repeat' (first | ((with_reducible apply gL); (first | refine yL0 ?_ | refine yL ?_ | ((with_reducible apply gL_go); (first | (refine JL_goq (ris_s b sp tb lim) (hφ := xF) (h := ?_); rintro _ _ ⟨rfl, rfl⟩; try simp only [List.cons_append, List.nil_append]) | (refine JL_goq (kt) (hφ := (by (try simp only [List.cons_append, List.nil_append]); exact fun w hr => hK w hr.1)) (h := ?_); rintro _ _ ⟨a, c1, rfl, rfl⟩; try simp only [List.cons_append, List.nil_append]) | fail)) | (refine yM ?_; intro _) | (refine yA ?_; intro _ _ _ _) | fail)) | ((with_reducible apply gD); (first | (refine JD_nil ?_; try simp only [List.cons_append, List.nil_append]) | (refine JD_bar ?_; try simp only [List.cons_append, List.nil_append]) | refine yD ?_ | ((with_reducible apply gD_go); (first | (refine JD_goq (ris_s b sp tb lim) (hφ := xF) (h := ?_); rintro _ _ ⟨rfl, rfl⟩; try simp only [List.cons_append, List.nil_append]) | (refine JD_goq (kt) (hφ := (by (try simp only [List.cons_append, List.nil_append]); exact fun w hr => hK w hr.1)) (h := ?_); rintro _ _ ⟨a, c1, rfl, rfl⟩; try simp only [List.cons_append, List.nil_append]) | fail)) | fail)) | refine yJ ?_ | ((with_reducible apply gJ_if); (first | (refine J_if xR ?_ ?_ <;> intro _ <;> (try (exfalso; first | contradiction | omega))) | (refine J_ifb xR ?_ ?_ <;> (intro hgb; subst hgb)) | (refine J_ifb xR ?_ ?_ <;> intro _) | fail)) | refine J_draw (id := 5) [0, 1, 2, 3, 5, 6, 8, 9, 12, 13, 14, 15, 4, 7, 10, 11] [16] mixed xC xD xD ?_ | refine J_draw (id := 9) [0, 1, 2, 3, 4, 5] [6, 7, 8, 9, 10, 11] mixed xC xD xD ?_ | fail))
  have kg := gone_s b sp tb lim E a c1 _ L rfl hls (by omega) u hu
  rw [hG] at kg
  have kf := fresh_s b tb E a c1 _ L rfl (by omega) (fun p hp => (hlp p hp).1)
  rw [hF] at kf
  (repeat' (first | ((with_reducible apply gL); (first | refine yL0 ?_ | refine yL ?_ | ((with_reducible apply gL_go); (first | (refine JL_goq (kg) (hφ := (by (try simp only [List.cons_append, List.nil_append]); exact fun w hr => hK w hr.1)) (h := ?_); rintro _ _ ⟨a2, c2, rfl, rfl⟩; try simp only [List.cons_append, List.nil_append]) | (refine JL_goq (T.len_a tb E) (hφ := xF) (h := ?_); rintro _ _ ⟨rfl, rfl⟩; try simp only [List.cons_append, List.nil_append]) | (refine JL_goq (kf) (hφ := (by (try simp only [List.cons_append, List.nil_append]); exact fun w hr => hr.cell xA rfl)) (h := ?_); rintro _ _ ⟨rfl, rfl⟩; try simp only [List.cons_append, List.nil_append]) | (refine JL_goq (kk) (hφ := (by (try simp only [List.cons_append, List.nil_append]); exact fun w hr => (hK w hr.1).d)) (h := ?_); rintro _ _ ⟨rfl, rfl⟩; try simp only [List.cons_append, List.nil_append]) | fail)) | (refine yM ?_; intro _) | (refine yA ?_; intro _ _ _ _) | fail)) | ((with_reducible apply gD); (first | (refine JD_nil ?_; try simp only [List.cons_append, List.nil_append]) | (refine JD_bar ?_; try simp only [List.cons_append, List.nil_append]) | refine yD ?_ | ((with_reducible apply gD_go); (first | (refine JD_goq (kg) (hφ := (by (try simp only [List.cons_append, List.nil_append]); exact fun w hr => hK w hr.1)) (h := ?_); rintro _ _ ⟨a2, c2, rfl, rfl⟩; try simp only [List.cons_append, List.nil_append]) | (refine JD_goq (T.len_a tb E) (hφ := xF) (h := ?_); rintro _ _ ⟨rfl, rfl⟩; try simp only [List.cons_append, List.nil_append]) | (refine JD_goq (kf) (hφ := (by (try simp only [List.cons_append, List.nil_append]); exact fun w hr => hr.cell xA rfl)) (h := ?_); rintro _ _ ⟨rfl, rfl⟩; try simp only [List.cons_append, List.nil_append]) | (refine JD_goq (kk) (hφ := (by (try simp only [List.cons_append, List.nil_append]); exact fun w hr => (hK w hr.1).d)) (h := ?_); rintro _ _ ⟨rfl, rfl⟩; try simp only [List.cons_append, List.nil_append]) | fail)) | fail)) | refine yJ ?_ | ((with_reducible apply gJ_if); (first | (refine J_if xR ?_ ?_ <;> intro _ <;> (try (exfalso; first | contradiction | omega))) | (refine J_ifb xR ?_ ?_ <;> (intro hgb; subst hgb)) | (refine J_ifb xR ?_ ?_ <;> intro _) | fail)) | refine J_draw (id := 5) [0, 1, 2, 3, 5, 6, 8, 9, 12, 13, 14, 15, 4, 7, 10, 11] [16] mixed xC xD xD ?_ | refine J_draw (id := 9) [0, 1, 2, 3, 4, 5] [6, 7, 8, 9, 10, 11] mixed xC xD xD ?_ | fail))
  all_goals (first | (exfalso; omega) | skip)
  rename_i ub hq1 hq2
  obtain ⟨σ0, hσ0⟩ : ∃ σ0 : Tb, σ0 = ⟨E, S0, c0⟩ := ⟨_, rfl⟩
  have hst0 : StOk (B + 1) σ0.S σ0.c := by rw [hσ0]; exact hs0
  have hlen0 : σ0.E.length ≤ 2000 := by rw [hσ0]; exact hn
  refine J_loop (α := Nat) 0 (fun x => G.length - x) (fun x => x ≤ G.length) (fun x => [(0, .pointer (some ⟨b, 0, none⟩)), (3, .pointer (some ⟨ub, 0, none⟩)), (6, .slice a L.length c1), (7, .slice a2 G.length c2), (8, .int .i64 id0), (9, .int .i64 0), (55, .slice a2 G.length c2), (56, .int .i64 G.length), (57, .int .i64 x)]) (fun x => [pts b (tbC sp lim tb) 72, T.trA tb (dropF σ0 (G.take x)).E, stoA sp (dropF σ0 (G.take x)).S (dropF σ0 (G.take x)).c, pts ub (upC u) 31, Ar 41 2 pfC (.slice a L.length c1) L, Ar 41 2 pfC (.slice a2 G.length c2) G]) (Nat.zero_le _) ⟨rfl, rfl, rfl, rfl, rfl, rfl, rfl, rfl, rfl, trivial⟩ (fun w H => by rw [List.take_zero, hσ0]; exact H.sel xZ) ?_
  intro k hk
  by_cases hlt : k < G.length
  · obtain ⟨p, hs2⟩ : ∃ p, G[k]? = some p := ⟨_, List.getElem?_eq_getElem hlt⟩
    have hst := dropF_ok (G.take k) σ0 hst0
    have hlen := dropF_len (G.take k) σ0
    obtain ⟨τ, hτ⟩ : ∃ τ, dropF σ0 (G.take k) = τ := ⟨_, rfl⟩
    rw [hτ] at hst hlen ⊢
    obtain ⟨E1, S1, c3⟩ := τ
    dsimp only at hst hlen ⊢
    have kd := rdrop_s (B + 1) (by omega) b sp tb lim E1 S1 _ c3 p _ (hgp p (List.mem_of_getElem? hs2)) rfl (by omega) hst rfl
    (repeat' (first | ((with_reducible apply gL); (first | refine yL0 ?_ | refine yL ?_ | ((with_reducible apply gL_go); (first | (refine JL_goq (kd) (hφ := xF) (h := ?_); rintro _ _ rfl; try simp only [List.cons_append, List.nil_append]) | fail)) | (refine yM ?_; intro _) | (refine yA ?_; intro _ _ _ _) | fail)) | ((with_reducible apply gD); (first | (refine JD_nil ?_; try simp only [List.cons_append, List.nil_append]) | (refine JD_bar ?_; try simp only [List.cons_append, List.nil_append]) | refine yD ?_ | ((with_reducible apply gD_go); (first | (refine JD_goq (kd) (hφ := xF) (h := ?_); rintro _ _ rfl; try simp only [List.cons_append, List.nil_append]) | fail)) | fail)) | refine yJ ?_ | ((with_reducible apply gJ_if); (first | (refine J_if xR ?_ ?_ <;> intro _ <;> (try (exfalso; first | contradiction | omega))) | (refine J_ifb xR ?_ ?_ <;> (intro hgb; subst hgb)) | (refine J_ifb xR ?_ ?_ <;> intro _) | fail)) | refine J_draw (id := 5) [0, 1, 2, 3, 5, 6, 8, 9, 12, 13, 14, 15, 4, 7, 10, 11] [16] mixed xC xD xD ?_ | refine J_draw (id := 9) [0, 1, 2, 3, 4, 5] [6, 7, 8, 9, 10, 11] mixed xC xD xD ?_ | fail))
    refine J_again (k + 1) (by omega) (by omega) ⟨rfl, rfl, rfl, rfl, rfl, rfl, rfl, rfl, rfl, trivial⟩ (fun w H => ?_)
    rw [take_snoc hs2, dropF_snoc, hτ]
    exact H.sel xZ
  obtain rfl : k = G.length := by omega
  rw [List.take_length]
  have hst1 := dropF_ok G σ0 hst0
  have hlen1 := dropF_len G σ0
  obtain ⟨σ1, hσ1⟩ : ∃ σ1, dropF σ0 G = σ1 := ⟨_, rfl⟩
  rw [hσ1] at hst1 hlen1 ⊢
  refine J_fact (φ := T.EOk σ1.E) (fun w H => T.trOk H xA) ?_
  intro hE1
  (repeat' (first | ((with_reducible apply gL); (first | refine yL0 ?_ | refine yL ?_ | (refine yM ?_; intro _) | (refine yA ?_; intro _ _ _ _) | fail)) | ((with_reducible apply gD); (first | (refine JD_nil ?_; try simp only [List.cons_append, List.nil_append]) | (refine JD_bar ?_; try simp only [List.cons_append, List.nil_append]) | refine yD ?_ | fail)) | refine yJ ?_ | ((with_reducible apply gJ_if); (first | (refine J_if xR ?_ ?_ <;> intro _ <;> (try (exfalso; first | contradiction | omega))) | (refine J_ifb xR ?_ ?_ <;> (intro hgb; subst hgb)) | (refine J_ifb xR ?_ ?_ <;> intro _) | fail)) | refine J_draw (id := 5) [0, 1, 2, 3, 5, 6, 8, 9, 12, 13, 14, 15, 4, 7, 10, 11] [16] mixed xC xD xD ?_ | refine J_draw (id := 9) [0, 1, 2, 3, 4, 5] [6, 7, 8, 9, 10, 11] mixed xC xD xD ?_ | fail))
  refine J_loop (α := Ux) ⟨0, a2, c2⟩ (fun x => L.length - x.k) (fun x => x.k ≤ L.length) (fun x => [(0, .pointer (some ⟨b, 0, none⟩)), (3, .pointer (some ⟨ub, 0, none⟩)), (6, .slice a L.length c1), (7, .slice x.a (G ++ chg X σ1 (L.take x.k)).length x.c), (8, .int .i64 id0), (9, .int .i64 0), (65, .slice a L.length c1), (66, .int .i64 L.length), (67, .int .i64 x.k)]) (fun x => [pts b (tbC sp lim tb) 72, T.trA tb (putF X σ1 (L.take x.k)).E, stoA sp (putF X σ1 (L.take x.k)).S (putF X σ1 (L.take x.k)).c, pts ub (upC u) 31, Ar 41 2 pfC (.slice a L.length c1) L, Ar 41 2 pfC (.slice x.a (G ++ chg X σ1 (L.take x.k)).length x.c) (G ++ chg X σ1 (L.take x.k))]) (Nat.zero_le _) ⟨rfl, rfl, rfl, by dsimp only; rw [List.take_zero, chg, List.append_nil]; rfl, rfl, rfl, rfl, rfl, rfl, trivial⟩ (fun w H => by dsimp only; rw [List.take_zero, chg, List.append_nil]; exact H.sel xZ) ?_
  rintro ⟨k, a5, c5⟩ hk5
  dsimp only at hk5 ⊢
  by_cases hlt5 : k < L.length
  · obtain ⟨p, hs2⟩ : ∃ p, L[k]? = some p := ⟨_, List.getElem?_eq_getElem hlt5⟩
    have hpp := hlp p (List.mem_of_getElem? hs2)
    have hst := putF_ok hnx (L.take k) (B + 1) σ1 hst1 (by omega)
    have hlen := (putF_len X (L.take k) σ1 hE1.s).1
    have hcl := chg_len X (L.take k) σ1
    have hcs := chg_snoc X p (L.take k) σ1
    have htk : (L.take k).length = k := by rw [List.length_take]; omega
    rw [htk] at hst hlen hcl
    have hps := putF_snoc X σ1 (L.take k) p
    obtain ⟨CG, hCG⟩ : ∃ CG, chg X σ1 (L.take k) = CG := ⟨_, rfl⟩
    rw [hCG] at hcl hcs ⊢
    obtain ⟨τ, hτ⟩ : ∃ τ, putF X σ1 (L.take k) = τ := ⟨_, rfl⟩
    rw [hτ] at hst hlen hcs hps ⊢
    obtain ⟨E1, S1, c3⟩ := τ
    dsimp only at hst hlen hcs hps ⊢
    refine J_fact (φ := T.EOk E1) (fun w H => T.trOk H xA) ?_
    intro hE2
    have hkf := keepF_ok hst (by omega) hnx
    have hki := keepF_id (x := X) hst
    obtain ⟨⟨⟨Sa, ca⟩, id, er⟩, hkq⟩ : ∃ q, keepF S1 c3 X = q := ⟨_, rfl⟩
    rw [hkq] at hkf hki
    dsimp only at hkf hki
    obtain ⟨o, ho⟩ : ∃ o, T.oldV E1 p = o := ⟨_, rfl⟩
    obtain ⟨i, hi⟩ : ∃ i, (T.getL E1 p).isSome = i := ⟨_, rfl⟩
    have hox : T.VN o := by rw [← ho]; exact oldV_n hE2 p
    obtain ⟨S2, hS2⟩ : ∃ S2, (if i then (freeF Sa o.1).1 else Sa) = S2 := ⟨_, rfl⟩
    have kp := rput_s (B + 1 + k) (by omega) (by omega) b sp tb lim E1 S1 Sa S2 c3 ca id er p o i u.d hu.d hpp.1 hpp.2 ho hi (by omega) hst (by rw [hX]; exact hkq) hkf (by unfold I64; omega) hox hS2
    have hstep : putStep X ⟨E1, S1, c3⟩ p = ⟨T.putL E1 p (id, false), S2, ca⟩ := by
      unfold putStep
      dsimp only
      rw [hkq, ho, hi]
      dsimp only
      rw [hS2]
    have hnew : putNew X ⟨E1, S1, c3⟩ p = decide (o.1 ≠ id) := by
      unfold putNew
      dsimp only
      rw [hkq, ho]
    rw [hstep] at hps
    rw [hnew] at hcs
    by_cases hne5 : o.1 = id
    · have e5 : decide (o.1 ≠ id) = false := decide_eq_false (fun h => h hne5)
      rw [e5] at kp hcs
      simp only [Bool.false_eq_true, if_false, List.append_nil] at hcs
      (repeat' (first | ((with_reducible apply gL); (first | refine yL0 ?_ | refine yL ?_ | ((with_reducible apply gL_go); (first | (refine JL_goq (kp) (hφ := (by (try simp only [List.cons_append, List.nil_append]); exact fun w hr => (hK w hr.1).d)) (h := ?_); rintro _ _ ⟨rfl, rfl⟩; try simp only [List.cons_append, List.nil_append]) | fail)) | (refine yM ?_; intro _) | (refine yA ?_; intro _ _ _ _) | fail)) | ((with_reducible apply gD); (first | (refine JD_nil ?_; try simp only [List.cons_append, List.nil_append]) | (refine JD_bar ?_; try simp only [List.cons_append, List.nil_append]) | refine yD ?_ | ((with_reducible apply gD_go); (first | (refine JD_goq (kp) (hφ := (by (try simp only [List.cons_append, List.nil_append]); exact fun w hr => (hK w hr.1).d)) (h := ?_); rintro _ _ ⟨rfl, rfl⟩; try simp only [List.cons_append, List.nil_append]) | fail)) | fail)) | refine yJ ?_ | ((with_reducible apply gJ_if); (first | (refine J_if xR ?_ ?_ <;> intro _ <;> (try (exfalso; first | contradiction | omega))) | (refine J_ifb xR ?_ ?_ <;> (intro hgb; subst hgb)) | (refine J_ifb xR ?_ ?_ <;> intro _) | fail)) | refine J_draw (id := 5) [0, 1, 2, 3, 5, 6, 8, 9, 12, 13, 14, 15, 4, 7, 10, 11] [16] mixed xC xD xD ?_ | refine J_draw (id := 9) [0, 1, 2, 3, 4, 5] [6, 7, 8, 9, 10, 11] mixed xC xD xD ?_ | fail))
      refine J_again ⟨k + 1, a5, c5⟩ (by dsimp only; omega) (by dsimp only; omega) ⟨rfl, rfl, rfl, ?_, rfl, rfl, rfl, rfl, rfl, trivial⟩ (fun w H => ?_)
      · dsimp only; rw [take_snoc hs2, hcs]; rfl
      · dsimp only; rw [take_snoc hs2, hcs, hps]; exact H.sel xZ
    · have e5 : decide (o.1 ≠ id) = true := decide_eq_true hne5
      rw [e5] at kp hcs
      simp only [if_true] at hcs
      have hgl5 : (G ++ CG).length = G.length + CG.length := List.length_append
      (repeat' (first | ((with_reducible apply gL); (first | refine yL0 ?_ | ((with_reducible apply gL_c_append); (first | (refine JL_ap1 (z := p) (tabE etab_ok xR) xR xR xA xA xC xR xL xR (by omega) xR xR ?_; intro a6 c6 _ _) | fail)) | refine yL ?_ | ((with_reducible apply gL_go); (first | (refine JL_goq (kp) (hφ := (by (try simp only [List.cons_append, List.nil_append]); exact fun w hr => (hK w hr.1).d)) (h := ?_); rintro _ _ ⟨rfl, rfl⟩; try simp only [List.cons_append, List.nil_append]) | fail)) | (refine yM ?_; intro _) | (refine yA ?_; intro _ _ _ _) | fail)) | ((with_reducible apply gD); (first | (refine JD_nil ?_; try simp only [List.cons_append, List.nil_append]) | (refine JD_bar ?_; try simp only [List.cons_append, List.nil_append]) | refine yD ?_ | ((with_reducible apply gD_go); (first | (refine JD_goq (kp) (hφ := (by (try simp only [List.cons_append, List.nil_append]); exact fun w hr => (hK w hr.1).d)) (h := ?_); rintro _ _ ⟨rfl, rfl⟩; try simp only [List.cons_append, List.nil_append]) | fail)) | fail)) | refine yJ ?_ | ((with_reducible apply gJ_if); (first | (refine J_if xR ?_ ?_ <;> intro _ <;> (try (exfalso; first | contradiction | omega))) | (refine J_ifb xR ?_ ?_ <;> (intro hgb; subst hgb)) | (refine J_ifb xR ?_ ?_ <;> intro _) | fail)) | refine J_draw (id := 5) [0, 1, 2, 3, 5, 6, 8, 9, 12, 13, 14, 15, 4, 7, 10, 11] [16] mixed xC xD xD ?_ | refine J_draw (id := 9) [0, 1, 2, 3, 4, 5] [6, 7, 8, 9, 10, 11] mixed xC xD xD ?_ | fail))
      have hl6 : (G ++ CG).length + 1 = (G ++ (CG ++ [p])).length := by simp; omega
      refine J_again ⟨k + 1, a6, c6⟩ (by dsimp only; omega) (by dsimp only; omega) ⟨rfl, rfl, rfl, ?_, rfl, rfl, rfl, rfl, rfl, trivial⟩ (fun w H => ?_)
      · dsimp only; rw [take_snoc hs2, hcs, ← hl6]; rfl
      · dsimp only; rw [take_snoc hs2, hcs, hps, ← hl6, ← List.append_assoc]; exact H.sel xZ
  obtain rfl : k = L.length := by omega
  rw [List.take_length]
  have hst2 := putF_ok hnx L (B + 1) σ1 hst1 (by omega)
  obtain ⟨σ2, hσ2⟩ : ∃ σ2, putF X σ1 L = σ2 := ⟨_, rfl⟩
  rw [hσ2] at hst2 ⊢
  have hcl2 := chg_len X L σ1
  have kfr := free_o (B + 1 + L.length) (by omega) sp σ2.S _ σ2.c id0 hst2 rfl
  have ksr := sort_s a5 c5 _ (G ++ chg X σ1 L) rfl (by rw [List.length_append]; omega)
  (repeat' (first | ((with_reducible apply gL); (first | refine yL0 ?_ | refine yL ?_ | ((with_reducible apply gL_go); (first | (refine JL_goq (kfr) (hφ := xF) (h := ?_); rintro _ _ ⟨rfl, rfl⟩; try simp only [List.cons_append, List.nil_append]) | (refine JL_goq (ksr) (hφ := xF) (h := ?_); rintro _ _ ⟨rfl, rfl⟩; try simp only [List.cons_append, List.nil_append]) | fail)) | (refine yM ?_; intro _) | (refine yA ?_; intro _ _ _ _) | fail)) | ((with_reducible apply gD); (first | (refine JD_nil ?_; try simp only [List.cons_append, List.nil_append]) | (refine JD_bar ?_; try simp only [List.cons_append, List.nil_append]) | refine yD ?_ | ((with_reducible apply gD_go); (first | (refine JD_goq (kfr) (hφ := xF) (h := ?_); rintro _ _ ⟨rfl, rfl⟩; try simp only [List.cons_append, List.nil_append]) | (refine JD_goq (ksr) (hφ := xF) (h := ?_); rintro _ _ ⟨rfl, rfl⟩; try simp only [List.cons_append, List.nil_append]) | fail)) | fail)) | refine yJ ?_ | ((with_reducible apply gJ_if); (first | (refine J_if xR ?_ ?_ <;> intro _ <;> (try (exfalso; first | contradiction | omega))) | (refine J_ifb xR ?_ ?_ <;> (intro hgb; subst hgb)) | (refine J_ifb xR ?_ ?_ <;> intro _) | fail)) | refine J_draw (id := 5) [0, 1, 2, 3, 5, 6, 8, 9, 12, 13, 14, 15, 4, 7, 10, 11] [16] mixed xC xD xD ?_ | refine J_draw (id := 9) [0, 1, 2, 3, 4, 5] [6, 7, 8, 9, 10, 11] mixed xC xD xD ?_ | fail))
  all_goals (first | (exfalso; omega) | skip)
  refine J_ret2 rfl (by rfl) (by rfl) fun w H => ⟨_, ⟨σ1, σ2, srtP (G ++ chg X σ1 L), a5, c5, by rw [← hσ1, hσ0], hσ2.symm, rfl, by rw [srtP_len], rfl⟩, ?_⟩
  rw [srtP_len]
  exact H.sel xZ
end
end Go.Proofs.YtnhabkipjmgaaaaGreat
