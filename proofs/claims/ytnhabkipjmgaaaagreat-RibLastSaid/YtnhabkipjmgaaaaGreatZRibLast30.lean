/-
  Rb13, Rb14, Rb15, Rb16, Rb17, Rb19, Rb20: merged.
-/
import Derived.Test.YtnhabkipjmgaaaaGreatZRibLast29
namespace Go.Proofs.YtnhabkipjmgaaaaGreat
set_option linter.unusedSimpArgs false
set_option linter.unusedVariables false
set_option maxRecDepth 20000
set_option maxHeartbeats 4000000
open Go.RowKit Go.Pm

open T (Pf PfN Rt Ah pfC)
def oneAt (n : Int) : At := ⟨0, none, 0, [], 1, true, n, false, 0, false, false, 0, 0, none, 0, [], none, 0, []⟩
theorem oneAt_f (n : Int) (hn : U32 n) : AtF (oneAt n) := by
  have z : U32 0 := ⟨by omega, by omega⟩
  refine ⟨⟨⟨by simp [oneAt], by simp [oneAt]⟩, ⟨by simp [oneAt], by simp [oneAt]⟩, hn, z, z, z, ?_, ?_, ?_⟩, by simp [oneAt], by simp [oneAt], by simp [oneAt]⟩
  all_goals (intro s hs; exact absurd hs List.not_mem_nil)
theorem oneAt_v (n : Int) (w : World) : AtV w (oneAt n) := ⟨⟨Vw.nil w 2, fun _ h => absurd h List.not_mem_nil⟩, Vw.nil w 1, Vw.nil w 2, fun _ h => absurd h List.not_mem_nil⟩
theorem oneAt_ok (n : Int) : okN (oneAt n).nf = true := okN_t (by simp [oneAt]) rfl (by simp [oneAt]) (by simp [oneAt]) (by simp [oneAt]) (by simp [oneAt]) rfl
abbrev oneC (n : Int) : List Value := [.int .i64 0, .slice none 0 0, .int .u32 1, .bool true, .int .u32 n, .bool false, .int .u32 0, .bool false, .bool false, .int .u32 0, .int .u32 0, .slice none 0 0, .slice none 0 0]
theorem one_s (n : Int) (hn : U32 n) : Pact Tryz.prog 13 #[.int .i64 n] (fun _ => True) [] (ret0 (.agg (oneC n).toArray)) := by
  refine pact Tryz.func13 rfl Tryz.ntmps13 rfl ?_
  intro W K _
  obtain ⟨h0, h1⟩ := hn
  (repeat' (first | ((with_reducible apply gL); (first | refine yL0 ?_ | refine yL ?_ | (refine yM ?_; intro _) | fail)) | refine yJ ?_ | fail))
  exact J_retC (cs := oneC n) rfl (by rfl) xA (by rfl) fun w H => ⟨_, ⟨rfl, rfl⟩, H.sel .nil⟩
abbrev X1 : Nf := (oneAt 1).nf
theorem kk0 : keepF [] 0 X1 = (([⟨1, 1, X1⟩], 1), 1, 0) := by
  unfold keepF fndX; rw [oneAt_ok]; rfl
theorem kk1 (n : Int) : keepF [⟨1, n, X1⟩] 1 X1 = (([⟨1, n + 1, X1⟩], 1), 1, 0) := by
  unfold keepF fndX; rw [oneAt_ok]; simp
theorem u32_1 : U32 1 := ⟨by omega, by omega⟩
theorem nfX : NfN X1 := At.nfN (oneAt_f 1 u32_1).num
theorem st1 : StOk 1 [⟨1, 1, X1⟩] 1 := by
  have := keepF_ok stok_nil (by omega) nfX
  rw [kk0] at this
  exact this
abbrev pX : Pf := (167772160, 8)
abbrev pY : Pf := (167837696, 16)
theorem pX_n : PfN pX := by unfold PfN T.U32 T.I64; decide
theorem pY_n : PfN pY := by unfold PfN T.U32 T.I64; decide
theorem pX_r : Rt pX := by decide +kernel
theorem pY_r : Rt pY := by decide +kernel
theorem pXY : Ah pX pY := by decide +kernel
/-- An update that tells one prefix, with one(1). -/
def upO (ta : Option Addr) (tc : Nat) (p : Pf) : Up := ⟨none, 0, [], ta, tc, [p], oneAt 1, 0⟩
abbrev oneU (ta : Option Addr) (tc : Nat) : List Value := [.slice none 0 0, .slice ta 1 tc, .int .i64 0, .slice none 0 0, .int .u32 1, .bool true, .int .u32 1, .bool false, .int .u32 0, .bool false, .bool false, .int .u32 0, .int .u32 0, .slice none 0 0, .slice none 0 0, .int .i64 0]
theorem upO_l (ta : Option Addr) (tc : Nat) (p : Pf) (hr : Rt p) : upL (upO ta tc p) = [p] := by
  have h : okN (upO ta tc p).d.nf = true := oneAt_ok 1
  unfold upL
  rw [h, if_pos rfl]
  show ddP (srtP (keepP nrt [p])) = [p]
  have h1 : keepP nrt [p] = [p] := by unfold keepP nrt; simp [hr]
  rw [h1]
  have h2 : srtP [p] = [p] := by unfold srtP; simp
  rw [h2]
  rfl
theorem upO_g (E : List T.Ent) (L : List Pf) : goneF E L [] = [] := by
  unfold goneF
  have h2 : srtP (keepP (gnT E L) []) = [] := by unfold srtP keepP; simp
  rw [h2]
  rfl
theorem upO_n (ta : Option Addr) (tc : Nat) (p : Pf) (hp : PfN p) : UpN (upO ta tc p) := ⟨fun _ h => absurd h List.not_mem_nil, fun q hq => by
  obtain rfl := List.mem_singleton.1 hq
  exact hp, oneAt_f 1 u32_1, Nat.zero_le _, by show 1 ≤ 1000; omega⟩
/-- Telling one prefix more. -/
theorem upo_s (B : Int) (hB0 : 0 ≤ B) (hB : B ≤ 1000) (b sp tb : Nat) (E E2 : List T.Ent) (S S1 : List En) (c c1 : Int) (ta : Option Addr) (tc : Nat) (p : Pf) (hp : PfN p) (hr : Rt p) (hn : E.length ≤ 10) (hE : T.EOk E) (hs : StOk B S c) (S0 : List En) (hk : keepF S c X1 = ((S0, 1), 1, 0)) (hk2 : keepF S0 1 X1 = ((S1, c1), 1, 0)) (hg : T.getL E p = none) (h2 : T.putL E p (1, false) = E2) (S2 : List En) (hf : (freeF S1 1).1 = S2) :
    Pact Tryz.prog 12 #[.pointer (some ⟨b, 0, none⟩), .agg (oneU ta tc).toArray] (fun w => Vw w (.slice ta 1 tc) 2 1 (flat pfC [p])) (rtL b sp tb 4096 E S c)
    (fun v L' => ∃ (a : Option Addr) (cc : Nat), v = .tuple #[.slice a 1 cc, .int .i64 0] ∧ L' = [pts b (tbC sp 4096 tb) 72, T.trA tb E2, stoA sp S2 c1]) := by
  intro W K w hK H
  have hgo : T.oldV E p = T.zV := by unfold T.oldV; rw [hg]; rfl
  have k := up_s b sp tb 4096 E S c (upO ta tc p) B hB0 (by omega) (upO_n ta tc p hp) (by omega) ⟨by omega, by omega⟩ (by
    rw [upO_l ta tc p hr]
    have h1 := freshN_le E [p]
    simp only [List.length_cons, List.length_nil] at h1
    omega) hE hs (by rw [upO_l ta tc p hr]; exact List.cons_ne_nil _ _) S0 1 1 hk (by omega)
  refine (k W K w (fun w hr => ⟨Vw.nil w 2, hK w hr, oneAt_v 1 w⟩) H).mono fun e w' h => ?_
  obtain ⟨v, L', ⟨σ1, σ2, R, a, cc, h1, h2', h3, rfl, rfl⟩, h5, h6⟩ := h
  rw [upO_l ta tc p hr] at h1 h2' h3
  have hw : (upO ta tc p).wd = [] := rfl
  rw [hw, upO_g] at h1 h3
  subst h1
  have e2 : σ2 = ⟨E2, S1, c1⟩ := by
    rw [h2']
    show putStep X1 ⟨E, S0, 1⟩ p = _
    unfold putStep
    dsimp only
    rw [hk2, hg, h2]
    rfl
  have e3 : R = [p] := by
    rw [h3]
    have hc : chg (upO ta tc p).d.nf (dropF ⟨E, S0, 1⟩ []) [p] = [p] := by
      show (if putNew X1 ⟨E, S0, 1⟩ p then [p] else []) ++ [] = [p]
      have : putNew X1 ⟨E, S0, 1⟩ p = true := by
        unfold putNew
        dsimp only
        rw [hk2, hgo]
        rfl
      rw [this]
      rfl
    rw [hc]
    unfold srtP; simp
  subst e2
  subst e3
  dsimp only at h6
  rw [hf] at h6
  exact ⟨_, _, ⟨a, cc, rfl, rfl⟩, h5, h6.sel xZ⟩
theorem fr1 (n : Int) (h : n ≠ 1) : freeF [⟨1, n, X1⟩] 1 = ([⟨1, n - 1, X1⟩], 0) := by
  unfold freeF fnd
  simp [h]
theorem markX : markE [(pX, ((1 : Int), false))] (T.keysE [(pX, ((1 : Int), false))]) = [(pX, (1, true))] := by decide +kernel
theorem k01 : keepF [⟨1, 1, X1⟩] 1 X1 = (([⟨1, 2, X1⟩], 1), 1, 0) := kk1 1
theorem k02 : keepF [⟨1, 2, X1⟩] 1 X1 = (([⟨1, 3, X1⟩], 1), 1, 0) := kk1 2
theorem f02 : (freeF [⟨1, 2, X1⟩] 1).1 = [⟨1, 1, X1⟩] := by rw [fr1 2 (by decide)]; rfl
theorem f03 : (freeF [⟨1, 3, X1⟩] 1).1 = [⟨1, 2, X1⟩] := by rw [fr1 3 (by decide)]; rfl
theorem st2 : StOk 2 [⟨1, 2, X1⟩] 1 := by
  have := keepF_ok st1 (by omega) nfX
  rw [k01] at this
  exact this
abbrev EA : List T.Ent := [(pX, ((1 : Int), true))]
abbrev EB : List T.Ent := [(pX, ((1 : Int), true)), (pY, ((1 : Int), false))]
theorem EA_ok : T.EOk EA := ⟨List.pairwise_singleton _ _, fun x hx => by
  obtain rfl := List.mem_singleton.1 hx
  exact ⟨pX_r, pX_n, by unfold T.VN T.I64; decide⟩⟩
theorem EB_ok : T.EOk EB := ⟨by
  refine List.pairwise_cons.2 ⟨fun x hx => ?_, List.pairwise_singleton _ _⟩
  obtain rfl := List.mem_singleton.1 hx
  exact pXY, fun x hx => by
  rcases List.mem_cons.1 hx with rfl | hx
  · exact ⟨pX_r, pX_n, by unfold T.VN T.I64; decide⟩
  · obtain rfl := List.mem_singleton.1 hx
    exact ⟨pY_r, pY_n, by unfold T.VN T.I64; decide⟩⟩
theorem sweep_e (b sp tb : Nat) : Pact Tryz.prog 18 #[.pointer (some ⟨b, 0, none⟩)] (fun _ => True) (rtL b sp tb 4096 EB [⟨1, 2, X1⟩] 1) (fun u L' => ∃ a cc, u = .slice a 1 cc ∧ L' = [pts b (tbC sp 4096 tb) 72, T.trA tb [(pY, ((1 : Int), false))], stoA sp [⟨1, 1, X1⟩] 1, Ar 41 2 pfC (.slice a 1 cc) [pX]]) := by
  have k := sweep_s b sp tb 4096 EB [⟨1, 2, X1⟩] 1 2 (by omega) (by decide) EB_ok st2
  have e1 : staleK EB = [pX] := by decide +kernel
  have e2 : dropF ⟨EB, [⟨1, 2, X1⟩], 1⟩ [pX] = ⟨[(pY, ((1 : Int), false))], [⟨1, 1, X1⟩], 1⟩ := by
    show dropStep _ _ = _
    unfold dropStep
    dsimp only
    have e3 : (T.oldV EB pX).1 = 1 := by decide +kernel
    have e4 : T.dropL EB pX = [(pY, ((1 : Int), false))] := by decide +kernel
    rw [e3, e4, f02]
  rw [e1, e2] at k
  exact k
theorem works_s : Pact Tryz.prog 8 #[] (fun _ => True) [] (ret0 (.bool true)) := by
  refine pact (args := []) Tryz.func8 rfl Tryz.ntmps8 rfl ?_
  intro W K _
  (repeat' (first | ((with_reducible apply gL); (first | (with_reducible apply gL_app) | (with_reducible apply gL_app0) | refine yL0 ?_ | refine yL ?_ | ((with_reducible apply gL_go); (first | (refine JL_goq (new_s) (hφ := xF) (h := ?_); rintro _ _ ⟨sp, rfl, rfl⟩; try simp only [List.cons_append, List.nil_append]) | (refine JL_goq (rnew_s sp 0 4096 (by omega) (by omega) rfl) (hφ := xF) (h := ?_); rintro _ _ ⟨b, tb, rfl, rfl⟩; try simp only [List.cons_append, List.nil_append]) | (refine JL_goq (one_s 1 u32_1) (hφ := xF) (h := ?_); rintro _ _ ⟨rfl, rfl⟩; try simp only [List.cons_append, List.nil_append]) | fail)) | (refine yM ?_; intro _) | fail)) | ((with_reducible apply gD); (first | (refine JD_nil ?_; try simp only [List.cons_append, List.nil_append]) | (refine JD_bar ?_; try simp only [List.cons_append, List.nil_append]) | (with_reducible apply gD_app) | (with_reducible apply gD_app0) | refine yD0 ?_ | refine yD ?_ | ((with_reducible apply gD_go); (first | (refine JD_goq (new_s) (hφ := xF) (h := ?_); rintro _ _ ⟨sp, rfl, rfl⟩; try simp only [List.cons_append, List.nil_append]) | (refine JD_goq (rnew_s sp 0 4096 (by omega) (by omega) rfl) (hφ := xF) (h := ?_); rintro _ _ ⟨b, tb, rfl, rfl⟩; try simp only [List.cons_append, List.nil_append]) | (refine JD_goq (one_s 1 u32_1) (hφ := xF) (h := ?_); rintro _ _ ⟨rfl, rfl⟩; try simp only [List.cons_append, List.nil_append]) | fail)) | (refine yE ?_; intro _) | ((with_reducible apply gD_gd); (first | (refine JD_guard xR xR ?_ ?_ <;> intro _ <;> (try (exfalso; first | contradiction | omega))) | (refine JD_guardb xR xR ?_ ?_ <;> (intro hgb; subst hgb)) | (refine JD_guardb xR xR ?_ ?_ <;> (intro hgb; fail_if_success (have : type_of% hgb := rfl))) | fail)) | fail)) | refine yJ ?_ | ((with_reducible apply gJ_if); (first | (refine J_if xR ?_ ?_ <;> intro _ <;> (try (exfalso; first | contradiction | omega))) | (refine J_ifb xR ?_ ?_ <;> (intro hgb; subst hgb)) | (refine J_ifb xR ?_ ?_ <;> intro _) | fail)) | refine J_draw (id := 6) [0, 1, 3, 2, 4] [5, 6, 7, 8, 9, 10] mixed xC xD xD ?_ | refine J_draw (id := 8) [0, 1, 3, 2, 4] [5] mixed xC xD xD ?_ | refine J_draw (id := 10) [0, 1, 2, 3, 4, 5, 6, 7, 8, 9, 10, 11, 12, 13, 14, 15, 16] [17, 18, 19, 20, 21, 22, 23, 24, 25, 26, 27, 28, 29, 30, 31, 32, 33, 34] mixed xC xD xD ?_ | fail))
  have k1 := fun ta tc => upo_s 0 (by omega) (by omega) b sp tb [] [(pX, ((1 : Int), false))] [] [⟨1, 2, X1⟩] 0 1 ta tc pX pX_n pX_r (by decide) ⟨.nil, fun _ h => absurd h List.not_mem_nil⟩ stok_nil _ kk0 k01 rfl rfl _ f02
  (repeat' (first | ((with_reducible apply gL); (first | (with_reducible apply gL_app) | (with_reducible apply gL_app0) | refine yL0 ?_ | refine yL ?_ | ((with_reducible apply gL_go); (first | (refine JL_goq (k1 _ _) (hφ := (by (try simp only [List.cons_append, List.nil_append]); exact fun w hr => Src.lit (cs := [.int .u32 167772160, .int .i64 8]) xA rfl (by decide) w hr)) (h := ?_); rintro _ _ ⟨a, cc, rfl, rfl⟩; try simp only [List.cons_append, List.nil_append]) | fail)) | (refine yM ?_; intro _) | fail)) | ((with_reducible apply gD); (first | (refine JD_nil ?_; try simp only [List.cons_append, List.nil_append]) | (refine JD_bar ?_; try simp only [List.cons_append, List.nil_append]) | (with_reducible apply gD_app) | (with_reducible apply gD_app0) | refine yD0 ?_ | refine yD ?_ | ((with_reducible apply gD_go); (first | (refine JD_goq (k1 _ _) (hφ := (by (try simp only [List.cons_append, List.nil_append]); exact fun w hr => Src.lit (cs := [.int .u32 167772160, .int .i64 8]) xA rfl (by decide) w hr)) (h := ?_); rintro _ _ ⟨a, cc, rfl, rfl⟩; try simp only [List.cons_append, List.nil_append]) | fail)) | (refine yE ?_; intro _) | ((with_reducible apply gD_gd); (first | (refine JD_guard xR xR ?_ ?_ <;> intro _ <;> (try (exfalso; first | contradiction | omega))) | (refine JD_guardb xR xR ?_ ?_ <;> (intro hgb; subst hgb)) | (refine JD_guardb xR xR ?_ ?_ <;> (intro hgb; fail_if_success (have : type_of% hgb := rfl))) | fail)) | fail)) | refine yJ ?_ | ((with_reducible apply gJ_if); (first | (refine J_if xR ?_ ?_ <;> intro _ <;> (try (exfalso; first | contradiction | omega))) | (refine J_ifb xR ?_ ?_ <;> (intro hgb; subst hgb)) | (refine J_ifb xR ?_ ?_ <;> intro _) | fail)) | refine J_draw (id := 6) [0, 1, 3, 2, 4] [5, 6, 7, 8, 9, 10] mixed xC xD xD ?_ | refine J_draw (id := 8) [0, 1, 3, 2, 4] [5] mixed xC xD xD ?_ | refine J_draw (id := 10) [0, 1, 2, 3, 4, 5, 6, 7, 8, 9, 10, 11, 12, 13, 14, 15, 16] [17, 18, 19, 20, 21, 22, 23, 24, 25, 26, 27, 28, 29, 30, 31, 32, 33, 34] mixed xC xD xD ?_ | fail))
  have km := mark_s b sp tb 4096 [(pX, ((1 : Int), false))] (by decide) ⟨List.pairwise_singleton _ _, fun x hx => by
    obtain rfl := List.mem_singleton.1 hx
    exact ⟨pX_r, pX_n, by unfold T.VN T.I64; decide⟩⟩
  rw [markX] at km
  have k2 := fun ta tc => upo_s 1 (by omega) (by omega) b sp tb EA EB [⟨1, 1, X1⟩] [⟨1, 3, X1⟩] 1 1 ta tc pY pY_n pY_r (by decide) EA_ok st1 _ k01 k02 (by decide +kernel) (by decide +kernel) _ f03
  (repeat' (first | ((with_reducible apply gL); (first | (with_reducible apply gL_app) | (with_reducible apply gL_app0) | refine yL0 ?_ | refine yL ?_ | ((with_reducible apply gL_go); (first | (refine JL_goq (km) (hφ := xF) (h := ?_); rintro _ _ rfl; try simp only [List.cons_append, List.nil_append]) | (refine JL_goq (one_s 1 u32_1) (hφ := xF) (h := ?_); rintro _ _ ⟨rfl, rfl⟩; try simp only [List.cons_append, List.nil_append]) | (refine JL_goq (k2 _ _) (hφ := (by (try simp only [List.cons_append, List.nil_append]); exact fun w hr => Src.lit (cs := [.int .u32 167837696, .int .i64 16]) xA rfl (by decide) w hr)) (h := ?_); rintro _ _ ⟨a2, cc2, rfl, rfl⟩; try simp only [List.cons_append, List.nil_append]) | (refine JL_goq (sweep_e b sp tb) (hφ := xF) (h := ?_); rintro _ _ ⟨a3, cc3, rfl, rfl⟩; try simp only [List.cons_append, List.nil_append]) | fail)) | (refine yM ?_; intro _) | fail)) | ((with_reducible apply gD); (first | (refine JD_nil ?_; try simp only [List.cons_append, List.nil_append]) | (refine JD_bar ?_; try simp only [List.cons_append, List.nil_append]) | (with_reducible apply gD_app) | (with_reducible apply gD_app0) | refine yD0 ?_ | refine yD ?_ | ((with_reducible apply gD_go); (first | (refine JD_goq (km) (hφ := xF) (h := ?_); rintro _ _ rfl; try simp only [List.cons_append, List.nil_append]) | (refine JD_goq (one_s 1 u32_1) (hφ := xF) (h := ?_); rintro _ _ ⟨rfl, rfl⟩; try simp only [List.cons_append, List.nil_append]) | (refine JD_goq (k2 _ _) (hφ := (by (try simp only [List.cons_append, List.nil_append]); exact fun w hr => Src.lit (cs := [.int .u32 167837696, .int .i64 16]) xA rfl (by decide) w hr)) (h := ?_); rintro _ _ ⟨a2, cc2, rfl, rfl⟩; try simp only [List.cons_append, List.nil_append]) | (refine JD_goq (sweep_e b sp tb) (hφ := xF) (h := ?_); rintro _ _ ⟨a3, cc3, rfl, rfl⟩; try simp only [List.cons_append, List.nil_append]) | fail)) | (refine yE ?_; intro _) | ((with_reducible apply gD_gd); (first | (refine JD_guard xR xR ?_ ?_ <;> intro _ <;> (try (exfalso; first | contradiction | omega))) | (refine JD_guardb xR xR ?_ ?_ <;> (intro hgb; subst hgb)) | (refine JD_guardb xR xR ?_ ?_ <;> (intro hgb; fail_if_success (have : type_of% hgb := rfl))) | fail)) | fail)) | refine yJ ?_ | ((with_reducible apply gJ_if); (first | (refine J_if xR ?_ ?_ <;> intro _ <;> (try (exfalso; first | contradiction | omega))) | (refine J_ifb xR ?_ ?_ <;> (intro hgb; subst hgb)) | (refine J_ifb xR ?_ ?_ <;> intro _) | fail)) | refine J_draw (id := 6) [0, 1, 3, 2, 4] [5, 6, 7, 8, 9, 10] mixed xC xD xD ?_ | refine J_draw (id := 8) [0, 1, 3, 2, 4] [5] mixed xC xD xD ?_ | refine J_draw (id := 10) [0, 1, 2, 3, 4, 5, 6, 7, 8, 9, 10, 11, 12, 13, 14, 15, 16] [17, 18, 19, 20, 21, 22, 23, 24, 25, 26, 27, 28, 29, 30, 31, 32, 33, 34] mixed xC xD xD ?_ | fail))
  have f0 : [pX][0]? = some pX := rfl
  have kl := rlen_s b sp tb 4096 [(pY, ((1 : Int), false))]
  have ks := len_s sp [⟨1, 1, X1⟩] 1
  have kc := cnt_s sp [⟨1, 1, X1⟩] 1 1
  have hc : cntF [⟨1, 1, X1⟩] 1 = 1 := rfl
  rw [hc] at kc
  (repeat' (first | ((with_reducible apply gL); (first | (with_reducible apply gL_app) | (with_reducible apply gL_app0) | refine yL0 ?_ | refine yL ?_ | ((with_reducible apply gL_go); (first | (refine JL_goq (kl) (hφ := xF) (h := ?_); rintro _ _ ⟨rfl, rfl⟩; try simp only [List.cons_append, List.nil_append]) | (refine JL_goq (ks) (hφ := xF) (h := ?_); rintro _ _ ⟨rfl, rfl⟩; try simp only [List.cons_append, List.nil_append]) | (refine JL_goq (kc) (hφ := xF) (h := ?_); rintro _ _ ⟨rfl, rfl⟩; try simp only [List.cons_append, List.nil_append]) | fail)) | (refine yM ?_; intro _) | fail)) | ((with_reducible apply gD); (first | (refine JD_nil ?_; try simp only [List.cons_append, List.nil_append]) | (refine JD_bar ?_; try simp only [List.cons_append, List.nil_append]) | (with_reducible apply gD_app) | (with_reducible apply gD_app0) | refine yD0 ?_ | refine yD ?_ | ((with_reducible apply gD_go); (first | (refine JD_goq (kl) (hφ := xF) (h := ?_); rintro _ _ ⟨rfl, rfl⟩; try simp only [List.cons_append, List.nil_append]) | (refine JD_goq (ks) (hφ := xF) (h := ?_); rintro _ _ ⟨rfl, rfl⟩; try simp only [List.cons_append, List.nil_append]) | (refine JD_goq (kc) (hφ := xF) (h := ?_); rintro _ _ ⟨rfl, rfl⟩; try simp only [List.cons_append, List.nil_append]) | fail)) | (refine yE ?_; intro _) | ((with_reducible apply gD_gd); (first | (refine JD_guard xR xR ?_ ?_ <;> intro _ <;> (try (exfalso; first | contradiction | omega))) | (refine JD_guardb xR xR ?_ ?_ <;> (intro hgb; subst hgb)) | (refine JD_guardb xR xR ?_ ?_ <;> (intro hgb; fail_if_success (have : type_of% hgb := rfl))) | fail)) | fail)) | refine yJ ?_ | ((with_reducible apply gJ_if); (first | (refine J_if xR ?_ ?_ <;> intro _ <;> (try (exfalso; first | contradiction | omega))) | (refine J_ifb xR ?_ ?_ <;> (intro hgb; subst hgb)) | (refine J_ifb xR ?_ ?_ <;> intro _) | fail)) | refine J_draw (id := 6) [0, 1, 3, 2, 4] [5, 6, 7, 8, 9, 10] mixed xC xD xD ?_ | refine J_draw (id := 8) [0, 1, 3, 2, 4] [5] mixed xC xD xD ?_ | refine J_draw (id := 10) [0, 1, 2, 3, 4, 5, 6, 7, 8, 9, 10, 11, 12, 13, 14, 15, 16] [17, 18, 19, 20, 21, 22, 23, 24, 25, 26, 27, 28, 29, 30, 31, 32, 33, 34] mixed xC xD xD ?_ | fail))
  exact J_ret1 rfl (by rfl) fun w H => ⟨_, ⟨rfl, rfl⟩, H.sel .nil⟩
end Go.Proofs.YtnhabkipjmgaaaaGreat
namespace Go.Proofs.YtnhabkipjmgaaaaGreat
set_option linter.unusedSimpArgs false
set_option linter.unusedVariables false
set_option maxRecDepth 20000
set_option maxHeartbeats 4000000
open Go.RowKit Go.Pm

open T (Pf PfN Rt Ah pfC)
theorem leaf_app {P : Program} {w : World} : ∀ (ts us : List TypeId) (cs : List Value), Leaf P w (ts ++ us) cs → ∃ a b, cs = a ++ b ∧ Leaf P w ts a ∧ Leaf P w us b
  | [], _, cs, h => ⟨[], cs, rfl, rfl, h⟩
  | t :: ts, us, cs, h => by
    obtain ⟨c, r, rfl, h1, h2⟩ := Leaf.one h
    obtain ⟨a, b, rfl, h3, h4⟩ := leaf_app ts us r h2
    exact ⟨c :: a, b, rfl, ⟨c, a, rfl, h1, h3⟩, h4⟩
theorem pf_el {w : World} (m : Nat) (d : List Value) (_ : d.length = 2) (h : Rs Tryz.prog w m 41 d) : ∃ p : Pf, d = pfC p ∧ PfN p := by
  have h0 := leaf_of 5 41 [25, 3] m _ (by kernel_rfl) h
  obtain ⟨a, r, e, b0, h1⟩ := h0.u32 Tryz.underlying25
  subst e
  obtain ⟨l, r2, e2, b1, h2⟩ := h1.i64 Tryz.underlying3
  subst e2
  obtain rfl := h2.nil'
  exact ⟨(a, l), rfl, b0, b1⟩
theorem pf_arg {W : World} {m : Nat} {cs : Array Value} (h : Rs Tryz.prog W m 41 (Value.agg cs).cells.toList) : ∃ p : Pf, cs = (pfC p).toArray ∧ PfN p := by
  have h0 := leaf_of 5 41 [25, 3] m _ (by kernel_rfl) h
  obtain ⟨a, r, e, b0, h1⟩ := h0.u32 Tryz.underlying25
  obtain ⟨l, r2, e2, b1, h2⟩ := h1.i64 Tryz.underlying3
  obtain rfl := h2.nil'
  subst e2
  exact ⟨(a, l), Array.ext' e, b0, b1⟩
theorem up_leaf {w : World} {cs : List Value} {us : List TypeId} (h0 : Leaf Tryz.prog w ([22, 22, 3, 23, 25, 4, 24, 4, 24, 4, 4, 24, 25, 26, 27, 3] ++ us) cs) : ∃ (u : Up) (r : List Value), cs = upC u ++ r ∧ AtN u.d ∧ (∀ p ∈ u.wd, PfN p) ∧ (∀ p ∈ u.td, PfN p) ∧ UpV w u ∧ Leaf Tryz.prog w us r := by
  obtain ⟨wa, wl, wc, r, e, ⟨m1, hw⟩, h1⟩ := h0.sl Tryz.underlying22
  subst e
  obtain ⟨wd, e, g1, g2, g3, g4, g5⟩ := hw.list (sz := 2) (b := 16) (enc := pfC) (ok := PfN) Tryz.underlying22 (by kernel_rfl) (by kernel_rfl) pf_el
  subst e
  obtain ⟨ta, tl, tc, r, e, ⟨m2, ht⟩, h2⟩ := h1.sl Tryz.underlying22
  subst e
  obtain ⟨td, e, j1, j2, j3, j4, j5⟩ := ht.list (sz := 2) (b := 16) (enc := pfC) (ok := PfN) Tryz.underlying22 (by kernel_rfl) (by kernel_rfl) pf_el
  subst e
  obtain ⟨a, b, rfl, h3, h4⟩ := leaf_app [3, 23, 25, 4, 24, 4, 24, 4, 4, 24, 25, 26, 27] (3 :: us) _ h2
  obtain ⟨d, rfl, hd, hv⟩ := attrs_leaf h3
  obtain ⟨f, r, e, _, h5⟩ := h4.i64 Tryz.underlying3
  subst e
  exact ⟨⟨wa, wc, wd, ta, tc, td, d, f⟩, r, rfl, hd, g5, j5, ⟨g4, j4, hv⟩, h5⟩
theorem UpV.keep {w w' : World} (hc : ∀ b o u, w.cell? ⟨b, o, none⟩ = some u → w'.cell? ⟨b, o, none⟩ = some u) {u : Up} (h : UpV w u) : UpV w' u := ⟨vwKeep hc h.wd, vwKeep hc h.td, h.d.keep hc⟩
end Go.Proofs.YtnhabkipjmgaaaaGreat
namespace Go.Proofs.YtnhabkipjmgaaaaGreat
set_option linter.unusedSimpArgs false
set_option linter.unusedVariables false
open Go.RowKit Go.Pm

open T (Pf PfN Rt Ah pfC)
theorem nodup_len {α : Type} [DecidableEq α] : ∀ (l m : List α), l.Pairwise (· ≠ ·) → (∀ x ∈ l, x ∈ m) → l.length ≤ m.length
  | [], _, _, _ => Nat.zero_le _
  | x :: l, m, h, hs => by
    obtain ⟨h1, h2⟩ := List.pairwise_cons.1 h
    have hx := hs x (by simp)
    have h3 := nodup_len l (m.erase x) h2 (fun y hy => (List.mem_erase_of_ne (fun e => h1 y hy e.symm)).2 (hs y (by simp [hy])))
    rw [List.length_erase_of_mem hx] at h3
    have := List.length_pos_of_mem hx
    simp only [List.length_cons]
    omega
theorem stok_len {B : Int} {S : List En} {c : Int} (h : StOk B S c) : (S.length : Int) ≤ c := by
  have hc := h.cnt
  have h1 := nodup_len (S.map fun e => e.id.toNat) (List.range' 1 c.toNat) (by
    rw [List.pairwise_map]
    refine List.Pairwise.imp_of_mem ?_ h.idd
    intro a b ha hb hn he
    have := h.ids a ha
    have := h.ids b hb
    omega) (by
    intro x hx
    obtain ⟨e, he, rfl⟩ := List.mem_map.1 hx
    have := h.ids e he
    rw [List.mem_range'_1]
    omega)
  rw [List.length_map, List.length_range'] at h1
  omega
theorem fnd_mem {B : Int} {S : List En} {c : Int} (h : StOk B S c) {e : En} (he : e ∈ S) : fnd S e.id = some e := by
  obtain ⟨A, C, rfl⟩ := List.append_of_mem he
  have hm := h.mid
  unfold fnd
  rw [List.find?_append, List.find?_eq_none.2 (fun a ha => by simpa using (hm.1 a ha).1), List.find?_cons_of_pos (by simp)]
  rfl
theorem fnd_map {g : En → En} (hg : ∀ a, (g a).id = a.id) (S : List En) (j : Int) : fnd (S.map g) j = (fnd S j).map g := by
  unfold fnd
  rw [List.find?_map]
  have : ((fun e : En => decide (e.id = j)) ∘ g) = fun e : En => decide (e.id = j) := funext fun a => by show decide ((g a).id = j) = _; rw [hg]
  rw [this]
theorem cntF_pos {B : Int} {S : List En} {c : Int} (h : StOk B S c) {j : Int} : 0 < cntF S j ↔ ∃ e, fnd S j = some e := by
  unfold cntF
  cases hf : fnd S j with
  | none => simp
  | some e =>
    obtain ⟨A, C, rfl, _⟩ := fnd_some hf
    have := (h.n e (by simp)).1
    simp; omega
theorem getX_inj {B : Int} {S : List En} {c : Int} (h : StOk B S c) {i j : Int} (hi : 0 < cntF S i) (hj : 0 < cntF S j) (he : getX S i = getX S j) : i = j := by
  obtain ⟨a, ha⟩ := (cntF_pos h).1 hi
  obtain ⟨b, hb⟩ := (cntF_pos h).1 hj
  unfold getX at he
  rw [ha, hb] at he
  dsimp only at he
  obtain ⟨A, C, rfl, h1, _⟩ := fnd_some ha
  have hm := h.mid
  obtain ⟨A2, C2, hs, h2, _⟩ := fnd_some hb
  have hb2 : b ∈ A ++ a :: C := by rw [hs]; simp
  rcases List.mem_append.1 hb2 with h3 | h3
  · exact absurd he.symm (hm.1 b h3).2
  · rcases List.mem_cons.1 h3 with rfl | h3
    · exact h1.symm.trans h2
    · exact absurd he.symm (hm.2 b h3).2
/-- What keeping does. -/
structure KeepV (S : List En) (x : Nf) (S1 : List En) (id : Int) : Prop where
  pos : 0 < id
  cnt : ∀ j, cntF S1 j = cntF S j + if j = id then 1 else 0
  get : ∀ j, 0 < cntF S j → getX S1 j = getX S j
  new : getX S1 id = x
theorem keep_v {B : Int} {S : List En} {c : Int} {x : Nf} (h : StOk B S c) (hB : B < 4096) (hx : okN x = true) : ∃ S1 c1 id, keepF S c x = ((S1, c1), id, 0) ∧ KeepV S x S1 id := by
  have hl := stok_len h
  have hc := h.cnt
  unfold keepF
  rw [hx]
  dsimp only
  cases hf : fndX S x with
  | some e =>
    dsimp only
    have hm : e ∈ S := List.mem_of_find?_eq_some hf
    have hex : e.x = x := by simpa using List.find?_some hf
    have hfe := fnd_mem h hm
    have hg : ∀ j, fnd (S.map (fun a => if a.x = x then (⟨a.id, a.n + 1, a.x⟩ : En) else a)) j = (fnd S j).map (fun a => if a.x = x then (⟨a.id, a.n + 1, a.x⟩ : En) else a) := fnd_map (fun a => by split <;> rfl) S
    refine ⟨_, _, _, rfl, (h.ids e hm).1, fun j => ?_, fun j hj => ?_, ?_⟩
    · unfold cntF
      rw [hg]
      cases hj : fnd S j with
      | none =>
        have : j ≠ e.id := fun he => by rw [he, hfe] at hj; cases hj
        show (0 : Int) = 0 + _
        rw [if_neg this]; rfl
      | some a =>
        have haj : a.id = j := by simpa using List.find?_some hj
        have ham : a ∈ S := List.mem_of_find?_eq_some hj
        show (if a.x = x then (⟨a.id, a.n + 1, a.x⟩ : En) else a).n = a.n + _
        by_cases hax : a.x = x
        · have : j = e.id := by
            refine getX_inj h (i := j) (j := e.id) ((cntF_pos h).2 ⟨a, hj⟩) ((cntF_pos h).2 ⟨e, hfe⟩) ?_
            unfold getX
            rw [hj, hfe]
            exact hax.trans hex.symm
          rw [if_pos hax, if_pos this]
        · have : j ≠ e.id := fun he => by
            rw [he, hfe] at hj
            cases hj
            exact hax hex
          rw [if_neg hax, if_neg this]
          omega
    · obtain ⟨a, ha⟩ := (cntF_pos h).1 hj
      unfold getX
      rw [hg, ha]
      show (if a.x = x then (⟨a.id, a.n + 1, a.x⟩ : En) else a).x = a.x
      split <;> rfl
    · unfold getX
      rw [hg, hfe]
      show (if e.x = x then (⟨e.id, e.n + 1, e.x⟩ : En) else e).x = x
      split <;> exact hex
  | none =>
    dsimp only
    rw [if_neg (by omega)]
    have hn : fnd S (c + 1) = none := by
      refine List.find?_eq_none.2 fun a ha => ?_
      have := (h.ids a ha).2
      simp
      omega
    have hg : ∀ j, fnd (S ++ [⟨c + 1, 1, x⟩]) j = (fnd S j).or (if c + 1 = j then some ⟨c + 1, 1, x⟩ else none) := fun j => by
      unfold fnd
      rw [List.find?_append, List.find?_singleton]
      congr 1
      by_cases h : c + 1 = j <;> simp [h]
    refine ⟨_, _, _, rfl, by omega, fun j => ?_, fun j hj => ?_, ?_⟩
    · unfold cntF
      rw [hg]
      cases hj : fnd S j with
      | none =>
        by_cases hcj : c + 1 = j
        · simp [hcj]
        · have : ¬ j = c + 1 := fun e => hcj e.symm
          simp [hcj, this]
      | some a =>
        have : j ≠ c + 1 := fun e => by rw [e, hn] at hj; cases hj
        simp [this]
    · obtain ⟨a, ha⟩ := (cntF_pos h).1 hj
      unfold getX
      rw [hg, ha]
      rfl
    · unfold getX
      rw [hg, hn]
      simp
theorem free_v {B : Int} {S : List En} {c id : Int} (h : StOk B S c) (hi : 0 < cntF S id) : (∀ j, cntF (freeF S id).1 j = cntF S j - if j = id then 1 else 0) ∧ ∀ j, 0 < cntF (freeF S id).1 j → getX (freeF S id).1 j = getX S j := by
  obtain ⟨e, he⟩ := (cntF_pos h).1 hi
  have hid : e.id = id := by simpa using List.find?_some he
  unfold freeF
  rw [he]
  dsimp only
  by_cases h1 : e.n = 1
  · rw [if_pos h1]
    have hg : ∀ j, fnd (S.filter (fun a => decide (a.id ≠ id))) j = if j = id then none else fnd S j := fun j => by
      unfold fnd
      rw [List.find?_filter]
      by_cases hj : j = id
      · rw [if_pos hj]
        refine List.find?_eq_none.2 fun a _ => ?_
        simp
        omega
      · rw [if_neg hj]
        congr 1
        funext a
        by_cases ha : a.id = j
        · simp [ha, hj]
        · simp [ha]
    refine ⟨fun j => ?_, fun j hj => ?_⟩
    · dsimp only
      unfold cntF
      rw [hg]
      by_cases hj : j = id
      · rw [if_pos hj, if_pos hj, hj, he]
        show (0 : Int) = e.n - 1
        omega
      · rw [if_neg hj, if_neg hj]
        omega
    · dsimp only at hj ⊢
      unfold cntF at hj
      rw [hg] at hj
      unfold getX
      rw [hg]
      by_cases hji : j = id
      · rw [if_pos hji] at hj
        exact absurd hj (by decide)
      · rw [if_neg hji]
  · rw [if_neg h1]
    have hg : ∀ j, fnd (S.map (fun a => if a.id = id then (⟨a.id, a.n - 1, a.x⟩ : En) else a)) j = (fnd S j).map (fun a => if a.id = id then (⟨a.id, a.n - 1, a.x⟩ : En) else a) := fnd_map (fun a => by split <;> rfl) S
    refine ⟨fun j => ?_, fun j hj => ?_⟩
    · dsimp only
      unfold cntF
      rw [hg]
      cases hj : fnd S j with
      | none =>
        have : j ≠ id := fun e2 => by rw [e2, he] at hj; cases hj
        show (0 : Int) = 0 - _
        rw [if_neg this]; rfl
      | some a =>
        have haj : a.id = j := by simpa using List.find?_some hj
        show (if a.id = id then (⟨a.id, a.n - 1, a.x⟩ : En) else a).n = a.n - _
        rw [haj]
        split <;> simp
    · dsimp only at hj ⊢
      unfold getX
      rw [hg]
      cases fnd S j with
      | none => rfl
      | some a =>
        show (if a.id = id then (⟨a.id, a.n - 1, a.x⟩ : En) else a).x = a.x
        split <;> rfl
end Go.Proofs.YtnhabkipjmgaaaaGreat
namespace Go.Proofs.YtnhabkipjmgaaaaGreat
set_option linter.unusedSimpArgs false
set_option linter.unusedVariables false
open Go.RowKit Go.Pm

open T (Pf PfN Rt Ah pfC)
section
variable (lim : Int) (u : Up) (σ : Tb)
/-- There is no room. -/
def noRoom : Prop := (σ.E.length : Int) - (goneF σ.E (upL u) u.wd).length + freshN σ.E (upL u) > lim
noncomputable instance : Decidable (noRoom lim u σ) := by unfold noRoom; infer_instance
/-- The state with the attributes kept once more, and what is gone dropped. -/
noncomputable def midF : Tb := if upL u = [] then dropF σ (goneF σ.E (upL u) u.wd) else dropF ⟨σ.E, (keepF σ.S σ.c u.d.nf).1.1, (keepF σ.S σ.c u.d.nf).1.2⟩ (goneF σ.E (upL u) u.wd)
noncomputable def endF : Tb := if upL u = [] then midF u σ else
  ⟨(putF u.d.nf (midF u σ) (upL u)).E, (freeF (putF u.d.nf (midF u σ) (upL u)).S (keepF σ.S σ.c u.d.nf).2.1).1, (putF u.d.nf (midF u σ) (upL u)).c⟩
noncomputable def updF : Tb := if noRoom lim u σ then σ else endF u σ
noncomputable def updR : List Pf := if noRoom lim u σ then [] else srtP (goneF σ.E (upL u) u.wd ++ chg u.d.nf (midF u σ) (upL u))
noncomputable def updE : Int := if noRoom lim u σ then 4 else 0
end
theorem upL_ok {u : Up} (h : upL u ≠ []) : okN u.d.nf = true := by
  unfold upL at h
  cases ho : okN u.d.nf with
  | true => rfl
  | false => rw [ho] at h; exact absurd rfl h
theorem midF_ok {B : Int} {u : Up} {σ : Tb} (hd : AtF u.d) (hs : StOk B σ.S σ.c) (hB : 0 ≤ B) : StOk (B + 1) (midF u σ).S (midF u σ).c := by
  unfold midF
  split
  · exact (dropF_ok _ σ hs).mono (by omega)
  · exact dropF_ok _ ⟨σ.E, _, _⟩ (keepF_ok hs hB (At.nfN hd.num))
theorem updF_ok {B : Int} {lim : Int} {u : Up} {σ : Tb} (hd : AtF u.d) (hs : StOk B σ.S σ.c) (hB : 0 ≤ B) : StOk (B + 1 + (upL u).length) (updF lim u σ).S (updF lim u σ).c := by
  unfold updF
  split
  · exact hs.mono (by omega)
  · have h1 := midF_ok hd hs hB
    unfold endF
    split
    · exact h1.mono (by omega)
    · exact freeF_ok (putF_ok (At.nfN hd.num) (upL u) (B + 1) (midF u σ) h1 (by omega))
theorem dropF_E (ps : List Pf) : ∀ (E : List T.Ent) (S S' : List En) (c c' : Int), (dropF ⟨E, S, c⟩ ps).E = (dropF ⟨E, S', c'⟩ ps).E := by
  induction ps with
  | nil => intro E S S' c c'; rfl
  | cons p ps ih => intro E S S' c c'; exact ih (T.dropL E p) _ _ _ _
theorem midF_E (u : Up) (σ : Tb) : (midF u σ).E = (dropF σ (goneF σ.E (upL u) u.wd)).E := by
  unfold midF
  split
  · rfl
  · obtain ⟨E, S, c⟩ := σ
    exact dropF_E _ _ _ _ _ _
theorem dropF_srt : ∀ (ps : List Pf) (σ : Tb), T.EOk σ.E → T.EOk (dropF σ ps).E
  | [], _, h => h
  | p :: ps, σ, h => dropF_srt ps (dropStep σ p) h.drop
theorem upd_s (b sp tb : Nat) (lim : Int) (u : Up) (σ : Tb) (B : Int) (hB0 : 0 ≤ B) (hB : B < 4096) (hu : UpN u) (hn : σ.E.length ≤ 2000) (hI : I64 lim) (hE : T.EOk σ.E) (hs : StOk B σ.S σ.c) :
    Pact Tryz.prog 12 #[.pointer (some ⟨b, 0, none⟩), .agg (upC u).toArray] (fun w => UpV w u) (rtL b sp tb lim σ.E σ.S σ.c)
    (fun v L' => ∃ (a : Option Addr) (cc : Nat), v = .tuple #[.slice a (updR lim u σ).length cc, .int .i64 (updE lim u σ)] ∧ L' = [pts b (tbC sp lim tb) 72, T.trA tb (updF lim u σ).E, stoA sp (updF lim u σ).S (updF lim u σ).c, Ar 41 2 pfC (.slice a (updR lim u σ).length cc) (updR lim u σ)]) := by
  obtain ⟨E, S, c⟩ := σ
  dsimp only at hn hE hs
  intro W K w hK H
  unfold updF updR updE
  by_cases hr : noRoom lim u ⟨E, S, c⟩
  · rw [if_pos hr, if_pos hr, if_pos hr]
    refine (upfull_s b sp tb lim E S c u hu (by omega) hI hr W K w hK H).mono fun e w' h => ?_
    obtain ⟨v, L', ⟨rfl, rfl⟩, h5, h6⟩ := h
    exact ⟨_, _, ⟨none, 0, rfl, rfl⟩, h5, (Ow.arNil (e := 41) (sz := 2) (enc := pfC) h6).sel xZ⟩
  · rw [if_neg hr, if_neg hr, if_neg hr]
    by_cases hl : upL u = []
    · refine (upz_s b sp tb lim E S c u B hB0 (by omega) hu hn hI hr hs hl W K w hK H).mono fun e w' h => ?_
      obtain ⟨v, L', ⟨σ1, R, a, cc, h1, h2, rfl, rfl⟩, h5, h6⟩ := h
      have e1 : endF u ⟨E, S, c⟩ = σ1 := by
        unfold endF midF
        rw [if_pos hl, if_pos hl]
        exact h1.symm
      have e2 : srtP (goneF E (upL u) u.wd ++ chg u.d.nf (midF u ⟨E, S, c⟩) (upL u)) = R := by
        rw [h2, hl]
        show srtP (_ ++ []) = _
        rw [List.append_nil]
      rw [e1]
      dsimp only
      rw [e2]
      exact ⟨_, _, ⟨a, cc, rfl, rfl⟩, h5, h6⟩
    · obtain ⟨S0, c0, id0, hk, hv⟩ := keep_v hs hB (upL_ok hl)
      refine (up_s b sp tb lim E S c u B hB0 (by omega) hu hn hI hr hE hs hl S0 c0 id0 hk hv.pos W K w hK H).mono fun e w' h => ?_
      obtain ⟨v, L', ⟨σ1, σ2, R, a, cc, h1, h2, h3, rfl, rfl⟩, h5, h6⟩ := h
      have e0 : midF u ⟨E, S, c⟩ = σ1 := by
        unfold midF
        rw [if_neg hl]
        dsimp only
        rw [hk]
        exact h1.symm
      have e1 : endF u ⟨E, S, c⟩ = ⟨σ2.E, (freeF σ2.S id0).1, σ2.c⟩ := by
        unfold endF
        rw [if_neg hl, e0, ← h2]
        dsimp only
        rw [hk]
      rw [e1, e0]
      dsimp only
      rw [← h3]
      exact ⟨_, _, ⟨a, cc, rfl, rfl⟩, h5, h6⟩
/-! What is there behind an update. -/
theorem dropF_get : ∀ (ps : List Pf) (σ : Tb) (p : Pf), T.Srt σ.E → T.getL (dropF σ ps).E p = if p ∈ ps then none else T.getL σ.E p
  | [], _, _, _ => rfl
  | q :: ps, σ, p, h => by
    have h1 := dropF_get ps (dropStep σ q) p (T.srt_dropL h)
    have h2 : T.getL (dropStep σ q).E p = if p = q then none else T.getL σ.E p := T.getL_drop h
    show T.getL (dropF (dropStep σ q) ps).E p = _
    rw [h1, h2]
    by_cases hp : p ∈ ps
    · simp [hp]
    · by_cases hq : p = q <;> simp [hp, hq]
/-! How many. -/
theorem dropF_cnt : ∀ (ps : List Pf) (σ : Tb), T.Srt σ.E → ps.Pairwise (· ≠ ·) → (∀ p ∈ ps, (T.getL σ.E p).isSome = true) → ((dropF σ ps).E.length : Int) = σ.E.length - ps.length
  | [], σ, _, _, _ => by show (σ.E.length : Int) = σ.E.length - (0 : Nat); omega
  | q :: ps, σ, h, hd, hp => by
    obtain ⟨h1, h2⟩ := List.pairwise_cons.1 hd
    have h3 := dropF_cnt ps (dropStep σ q) (T.srt_dropL h) h2 (fun p hp2 => by
      show (T.getL (T.dropL σ.E q) p).isSome = true
      rw [T.getL_drop h, if_neg (fun e => h1 p hp2 e.symm)]
      exact hp p (by simp [hp2]))
    have h4 : ((dropStep σ q).E.length : Int) = σ.E.length - 1 := by
      have := T.len_dropL (p := q) h (hp q (by simp))
      show ((T.dropL σ.E q).length : Int) = _
      omega
    show ((dropF (dropStep σ q) ps).E.length : Int) = _
    simp only [List.length_cons]
    omega
theorem freshN_cons (E : List T.Ent) (q : Pf) (ps : List Pf) : freshN E (q :: ps) = (if (T.getL E q).isSome then 0 else 1) + freshN E ps := by
  unfold freshN
  cases h : (T.getL E q).isSome with
  | true => rw [List.filter_cons_of_neg (by simp [h])]; simp
  | false => rw [List.filter_cons_of_pos (by simp [h])]; simp; omega
theorem freshN_congr {E E' : List T.Ent} {ps : List Pf} (h : ∀ p ∈ ps, (T.getL E p).isSome = (T.getL E' p).isSome) : freshN E ps = freshN E' ps := by
  unfold freshN
  congr 1
  exact List.filter_congr fun p hp => by rw [h p hp]
theorem putF_cnt (X : Nf) : ∀ (ps : List Pf) (σ : Tb), T.Srt σ.E → ps.Pairwise (· ≠ ·) → (putF X σ ps).E.length = σ.E.length + freshN σ.E ps
  | [], σ, _, _ => rfl
  | q :: ps, σ, h, hd => by
    obtain ⟨h1, h2⟩ := List.pairwise_cons.1 hd
    have h0 : T.Srt (putStep X σ q).E := T.srt_putL h
    have h3 := putF_cnt X ps (putStep X σ q) h0 h2
    have h4 : (putStep X σ q).E.length = σ.E.length + if (T.getL σ.E q).isSome then 0 else 1 := by
      refine (T.len_putL h).trans ?_
      split <;> rfl
    have h5 : freshN (putStep X σ q).E ps = freshN σ.E ps := freshN_congr fun p hp => by
      show (T.getL (T.putL σ.E q _) p).isSome = _
      rw [T.getL_put h, if_neg (fun e => h1 p hp e.symm)]
    show (putF X (putStep X σ q) ps).E.length = _
    rw [h3, h4, h5, freshN_cons]
    omega
theorem srt_ne {l : List Pf} (h : l.Pairwise fun x y => Ah x y) : l.Pairwise (· ≠ ·) := h.imp fun {x y} hxy e => by rw [e] at hxy; exact T.Ah.irrefl hxy
theorem endF_len {u : Up} {σ : Tb} (h : T.EOk σ.E) : ((endF u σ).E.length : Int) = σ.E.length - (goneF σ.E (upL u) u.wd).length + freshN σ.E (upL u) := by
  have h1 : ((midF u σ).E.length : Int) = σ.E.length - (goneF σ.E (upL u) u.wd).length := by
    rw [midF_E]
    exact dropF_cnt _ σ h.s (srt_ne (goneF_srt _ _ _)) (fun p hp => (mem_goneF.1 hp).2.1)
  unfold endF
  by_cases hl : upL u = []
  · rw [if_pos hl, h1, hl]
    show _ = _ + ((0 : Nat) : Int)
    omega
  · rw [if_neg hl]
    have hs : T.Srt (midF u σ).E := by rw [midF_E]; exact (dropF_srt _ σ h).s
    show ((putF u.d.nf (midF u σ) (upL u)).E.length : Int) = _
    rw [putF_cnt _ _ _ hs (srt_ne (upL_srt u))]
    have h2 : freshN (midF u σ).E (upL u) = freshN σ.E (upL u) := freshN_congr fun p hp => by
      rw [midF_E, dropF_get _ σ p h.s, if_neg (fun h3 => (mem_goneF.1 h3).2.2 hp)]
    rw [h2]
    omega
theorem updF_len {lim : Int} {u : Up} {σ : Tb} (h : T.EOk σ.E) : (updF lim u σ).E.length ≤ σ.E.length + u.td.length := by
  unfold updF
  split
  · omega
  · have h1 := endF_len (u := u) h
    have h2 := freshN_le σ.E (upL u)
    have h3 := upL_len u
    omega
end Go.Proofs.YtnhabkipjmgaaaaGreat
namespace Go.Proofs.YtnhabkipjmgaaaaGreat
set_option linter.unusedSimpArgs false
set_option linter.unusedVariables false
set_option maxRecDepth 20000
set_option maxHeartbeats 4000000
open Go.RowKit Go.Pm

open T (Pf PfN Rt Ah pfC)
def At.trR (d : At) : At := d.at_ (d.path.take 6) d.pa d.pc (d.comms.take 40) d.ca d.cc (d.others.take 9) d.oa d.oc
theorem At.trR_few {d : At} (h : AtN d) : AtF d.trR := by
  refine ⟨⟨h.origin, h.next, h.med, h.loc, h.makerAS, h.maker, fun s hs => h.path s (List.take_subset _ _ hs), fun s hs => h.comms s (List.take_subset _ _ hs), fun s hs => h.others s (List.take_subset _ _ hs)⟩, ?_, ?_, ?_⟩ <;> simp [At.trR, At.at_] <;> omega
theorem AtV.trR {w : World} {d : At} (h : AtV w d) : AtV w d.trR :=
  ⟨⟨Vw_take h.path.vw (by intro _; rfl) rfl 6 _ rfl, fun s hs => h.path.segs s (List.take_subset _ _ hs)⟩, Vw_take h.comms (by intro _; rfl) rfl 40 _ rfl, ⟨Vw_take h.others.vw (by intro _; rfl) rfl 9 _ rfl, fun s hs => h.others.raws s (List.take_subset _ _ hs)⟩⟩
structure UpA (u : Up) : Prop where
  d : AtN u.d
  wd : ∀ p ∈ u.wd, PfN p
  td : ∀ p ∈ u.td, PfN p
structure Few (u u' : Up) : Prop where
  n : UpN u'
  wd : u'.wd = u.wd.take 12
  td : u'.td = u.td.take 12
  nf : u'.d.nf = u.d.trR.nf
end Go.Proofs.YtnhabkipjmgaaaaGreat
namespace Go.Proofs.YtnhabkipjmgaaaaGreat
set_option linter.unusedSimpArgs false
set_option linter.unusedVariables false
set_option maxRecDepth 20000
set_option maxHeartbeats 4000000
open Go.RowKit Go.Pm

open T (Pf PfN Rt Ah pfC)
structure Ac where
  do_ : Int
  u : Up
def acC (x : Ac) : List Value := [.int .i64 x.do_, .slice x.u.wa x.u.wd.length x.u.wc, .slice x.u.ta x.u.td.length x.u.tc, .int .i64 x.u.d.origin, .slice x.u.d.pa x.u.d.path.length x.u.d.pc, .int .u32 x.u.d.next, .bool x.u.d.hasMed, .int .u32 x.u.d.med, .bool x.u.d.hasLocal, .int .u32 x.u.d.loc, .bool x.u.d.atomic, .bool x.u.d.hasMaker, .int .u32 x.u.d.makerAS, .int .u32 x.u.d.maker, .slice x.u.d.ca x.u.d.comms.length x.u.d.cc, .slice x.u.d.oa x.u.d.others.length x.u.d.oc, .int .i64 x.u.f]
structure AcN (x : Ac) : Prop where
  do_ : I64 x.do_
  u : UpA x.u
theorem act_el {w : World} (m : Nat) (d : List Value) (_ : d.length = 17) (h : Rs Tryz.prog w m 52 d) : ∃ x : Ac, d = acC x ∧ AcN x ∧ UpV w x.u := by
  have h0 := leaf_of 5 52 (3 :: ([22, 22, 3, 23, 25, 4, 24, 4, 24, 4, 4, 24, 25, 26, 27, 3] ++ [])) m d (by kernel_rfl) h
  obtain ⟨do_, r, e, b0, h1⟩ := h0.i64 Tryz.underlying3
  subst e
  obtain ⟨u, r, e, h2, h3, h4, h5, h6⟩ := up_leaf h1
  subst e
  obtain rfl := h6.nil'
  exact ⟨⟨do_, u⟩, by rw [List.append_nil]; rfl, ⟨b0, h2, h3, h4⟩, h5⟩
theorem acts_arg {W : World} {n : Nat} {a : Option Addr} {l c : Nat} (h : Rs Tryz.prog W n 50 [.slice a l c]) : ∃ es : List Ac, es.length = l ∧ es.length ≤ 140737488355328 ∧ (∀ x ∈ es, AcN x) ∧ Kn (World.all W) (fun w => Vw w (.slice a es.length c) 17 es.length (flat acC es) ∧ ∀ x ∈ es, UpV w x.u) := by
  obtain ⟨es, rfl, h1, h2, h3, h4, h5⟩ := h.list (sz := 17) (b := 176) (enc := acC) (ok := fun x => AcN x ∧ UpV W x.u) Tryz.underlying50 (by kernel_rfl) (by kernel_rfl) act_el
  exact ⟨es, rfl, by simp only [reachBytes] at h3; omega, fun x hx => (h5 x hx).1, kn_keep (fun hc h => ⟨vwKeep hc h.1, fun x hx => (h.2 x hx).keep hc⟩) ⟨h4, fun x hx => (h5 x hx).2⟩⟩
/-! Marks, plain. -/
theorem mark_get : ∀ (ps : List Pf) (E : List T.Ent) (q : Pf), T.Srt E → T.getL (markE E ps) q = if q ∈ ps then some ((T.oldV E q).1, true) else T.getL E q
  | [], _, _, _ => rfl
  | p :: ps, E, q, h => by
    have h0 : T.Srt (T.putL E p ((T.oldV E p).1, true)) := T.srt_putL h
    have h1 := mark_get ps _ q h0
    have h2 : T.getL (T.putL E p ((T.oldV E p).1, true)) q = if q = p then some ((T.oldV E p).1, true) else T.getL E q := T.getL_put h
    have h3 : (T.oldV (T.putL E p ((T.oldV E p).1, true)) q).1 = (T.oldV E q).1 := by
      refine (congrArg (fun o => (Option.getD o T.zV).1) h2).trans ?_
      by_cases hq : q = p
      · rw [if_pos hq, hq]; rfl
      · rw [if_neg hq]; rfl
    show T.getL (markE (T.putL E p _) ps) q = _
    rw [h1, h2, h3]
    by_cases hq : q ∈ ps
    · simp [hq]
    · by_cases hqp : q = p
      · subst hqp; simp [hq]
      · simp [hq, hqp]
theorem mem_keysE {E : List T.Ent} {q : Pf} : q ∈ T.keysE E ↔ (T.getL E q).isSome = true := by
  constructor
  · intro h
    cases hg : T.getL E q with
    | some _ => rfl
    | none =>
      obtain ⟨e, he, h2⟩ := List.mem_map.1 h
      exact absurd h2 (T.getL_none.1 hg e he)
  · intro h
    cases hg : T.getL E q with
    | none => rw [hg] at h; cases h
    | some v =>
      unfold T.getL at hg
      cases hf : E.find? (fun e => decide (e.1 = q)) with
      | none => rw [hf] at hg; cases hg
      | some e => exact List.mem_map.2 ⟨e, List.mem_of_find?_eq_some hf, by simpa using List.find?_some hf⟩
end Go.Proofs.YtnhabkipjmgaaaaGreat
namespace Go.Proofs.YtnhabkipjmgaaaaGreat
set_option linter.unusedSimpArgs false
set_option linter.unusedVariables false
set_option maxRecDepth 20000
set_option maxHeartbeats 4000000
open Go.RowKit Go.Pm

open T (Pf PfN Rt Ah pfC)
structure Zx where
  i : Nat
  σ : Tb
structure Lg where
  i : Nat
  la : Option Addr
  lc : Nat
  ga : Option Addr
  gc : Nat
section
variable {P : Program} {n : Nat} {W : World} {K : Hl} {F : Fp} {k : List It} {tm : TM} {L : List HP}
end
theorem upd_next {B : Int} {u u' : Up} {σ : Tb} (hs : StOk B σ.S σ.c) (hB : 0 ≤ B) (hE : T.EOk σ.E) (hf : Few u u') : StOk (B + 13) (updF 4096 u' σ).S (updF 4096 u' σ).c ∧ (updF 4096 u' σ).E.length ≤ σ.E.length + 12 := by
  have h1 := updF_ok (lim := 4096) hf.n.d hs hB
  have h2 := upL_len u'
  have h3 : u'.td.length ≤ 12 := by rw [hf.td]; simp; omega
  have h4 := updF_len (lim := 4096) (u := u') hE
  exact ⟨h1.mono (by omega), by omega⟩
theorem markE_ok : ∀ (ps : List Pf) (E : List T.Ent), T.EOk E → (∀ p ∈ ps, PfN p ∧ Rt p) → T.EOk (markE E ps)
  | [], _, h, _ => h
  | p :: ps, E, h, hp => markE_ok ps _ (h.put (hp p (by simp)).2 (hp p (by simp)).1 (oldV_n h p)) (fun q hq => hp q (by simp [hq]))
theorem few_tl {u u' : Up} (hf : Few u u') : u'.td.length ≤ 12 := by rw [hf.td]; simp; omega
end Go.Proofs.YtnhabkipjmgaaaaGreat
