/-
  Aq21, Rb12, Rb13, Rb14, Rb17, Rb19, Rb21, Rb24: merged.
-/
import Derived.Test.YtnhabkipjmgaaaaGreatZRibPlays29
namespace Go.Proofs.YtnhabkipjmgaaaaGreat
set_option linter.unusedSimpArgs false
set_option linter.unusedVariables false
set_option maxRecDepth 20000
set_option maxHeartbeats 4000000
open Go.RowKit Go.Pm

theorem among_s (x : Int) (n : Nat) (h1 : 1 ≤ n) (h2 : n ≤ 1000000) (hx : I64 x) : Pact Tryz.prog 9 #[.int .i64 x, .int .i64 n] (fun _ => True) [] (fun v L' => ∃ k : Nat, v = .int .i64 k ∧ k < n ∧ L' = []) := by
  refine pact Tryz.func9 rfl Tryz.ntmps9 rfl ?_
  intro W K _
  unfold I64 at hx
  (repeat' (first | ((with_reducible apply gL); (first | refine yL0 ?_ | refine yL ?_ | fail)) | refine yJ ?_ | ((with_reducible apply gJ_if); (first | (refine J_if xR ?_ ?_ <;> intro _ <;> (try (exfalso; first | contradiction | omega))) | (refine J_ifb xR ?_ ?_ <;> (intro hgb; subst hgb)) | (refine J_ifb xR ?_ ?_ <;> intro _) | fail)) | fail))
  have h3 : 0 ≤ x % 18446744073709551616 % (n : Int) := Int.emod_nonneg _ (by omega)
  have h4 : x % 18446744073709551616 % (n : Int) < n := Int.emod_lt_of_pos _ (by omega)
  refine J_ret1 rfl (by rfl) fun w H => ⟨_, ⟨(x % 18446744073709551616 % (n : Int)).toNat, ?_, by omega, rfl⟩, H.sel .nil⟩
  rw [w_i64 (by omega) (by omega), Int.toNat_of_nonneg h3]
theorem u32_el {w : World} (m : Nat) (d : List Value) (_ : d.length = 1) (h : Rs Tryz.prog w m 24 d) : ∃ z : Int, d = u32C z ∧ U32 z := by
  obtain ⟨z, e, h1, h2⟩ := (Rs.rd _ _ _ h).u32 Tryz.underlying24
  exact ⟨z, e, h1, h2⟩
theorem u8_el {w : World} (m : Nat) (d : List Value) (_ : d.length = 1) (h : Rs Tryz.prog w m 5 d) : ∃ z : Int, d = byC z ∧ U8 z := by
  have h0 := leaf_of 5 5 [5] m d (by kernel_rfl) h
  obtain ⟨z, r, e, b, h1⟩ := h0.u8 Tryz.underlying5
  subst e
  obtain rfl := h1.nil'
  exact ⟨z, rfl, b⟩
theorem seg_el {w : World} (m : Nat) (d : List Value) (_ : d.length = 2) (h : Rs Tryz.prog w m 135 d) : ∃ s : Sg, d = sgC s ∧ segV w s ∧ SgN s := by
  have h0 := leaf_of 5 135 [4, 26] m d (by kernel_rfl) h
  obtain ⟨b, r, e, h1⟩ := h0.bool Tryz.underlying4
  subst e
  obtain ⟨a, l, c, r, e, ⟨m', hs⟩, h2⟩ := h1.sl Tryz.underlying26
  subst e
  obtain rfl := h2.nil'
  obtain ⟨es, e, g1, g2, g3, g4, g5⟩ := hs.list (sz := 1) (b := 4) (enc := u32C) (ok := U32) Tryz.underlying26 (by kernel_rfl) (by kernel_rfl) u32_el
  subst e
  exact ⟨⟨b, a, c, es⟩, rfl, g4, by show es.length ≤ 35184372088832; simp only [reachBytes] at g3; omega, g5⟩
theorem raw_el {w : World} (m : Nat) (d : List Value) (_ : d.length = 2) (h : Rs Tryz.prog w m 104 d) : ∃ s : Rw, d = rwC s ∧ rawV w s ∧ RwN s := by
  have h0 := leaf_of 5 104 [3, 102] m d (by kernel_rfl) h
  obtain ⟨b, r, e, hb, h1⟩ := h0.i64 Tryz.underlying3
  subst e
  obtain ⟨a, l, c, r, e, ⟨m', hs⟩, h2⟩ := h1.sl Tryz.underlying102
  subst e
  obtain rfl := h2.nil'
  obtain ⟨es, e, g1, g2, g3, g4, g5⟩ := hs.list (sz := 1) (b := 1) (enc := byC) (ok := U8) Tryz.underlying102 (by kernel_rfl) (by kernel_rfl) u8_el
  subst e
  exact ⟨⟨b, a, c, es⟩, rfl, g4, hb, by show es.length ≤ 140737488355328; simp only [reachBytes] at g3; omega, g5⟩
theorem attrs_leaf {w : World} {cs : List Value} (h0 : Leaf Tryz.prog w [3, 23, 25, 4, 24, 4, 24, 4, 4, 24, 25, 26, 27] cs) : ∃ d : At, cs = atC d ∧ AtN d ∧ AtV w d := by
  obtain ⟨origin, r, e, b4, h5⟩ := h0.i64 Tryz.underlying3
  subst e
  obtain ⟨pa, pl, pc, r, e, ⟨m', hs⟩, h6⟩ := h5.sl Tryz.underlying23
  subst e
  obtain ⟨path, e, g1, g2, g3, g4, g5⟩ := hs.list (sz := 2) (b := 32) (enc := sgC) (ok := fun s => segV w s ∧ SgN s) Tryz.underlying23 (by kernel_rfl) (by kernel_rfl) seg_el
  subst e
  obtain ⟨next, r, e, b5, h7⟩ := h6.u32 Tryz.underlying25
  subst e
  obtain ⟨hasMed, r, e, h8⟩ := h7.bool Tryz.underlying4
  subst e
  obtain ⟨med, r, e, b6, h9⟩ := h8.u32 Tryz.underlying24
  subst e
  obtain ⟨hasLocal, r, e, h10⟩ := h9.bool Tryz.underlying4
  subst e
  obtain ⟨loc, r, e, b7, h11⟩ := h10.u32 Tryz.underlying24
  subst e
  obtain ⟨atomic, r, e, h12⟩ := h11.bool Tryz.underlying4
  subst e
  obtain ⟨hasMaker, r, e, h13⟩ := h12.bool Tryz.underlying4
  subst e
  obtain ⟨makerAS, r, e, b8, h14⟩ := h13.u32 Tryz.underlying24
  subst e
  obtain ⟨maker, r, e, b9, h15⟩ := h14.u32 Tryz.underlying25
  subst e
  obtain ⟨ca, cn, cc, r, e, ⟨m2, hc⟩, h16⟩ := h15.sl Tryz.underlying26
  subst e
  obtain ⟨comms, e, i1, i2, i3, i4, i5⟩ := hc.list (sz := 1) (b := 4) (enc := u32C) (ok := U32) Tryz.underlying26 (by kernel_rfl) (by kernel_rfl) u32_el
  subst e
  obtain ⟨oa, on, oc, r, e, ⟨m3, ho⟩, h17⟩ := h16.sl Tryz.underlying27
  subst e
  obtain ⟨others, e, j1, j2, j3, j4, j5⟩ := ho.list (sz := 2) (b := 32) (enc := rwC) (ok := fun s => rawV w s ∧ RwN s) Tryz.underlying27 (by kernel_rfl) (by kernel_rfl) raw_el
  subst e
  obtain rfl := h17.nil'
  exact ⟨⟨origin, pa, pc, path, next, hasMed, med, hasLocal, loc, atomic, hasMaker, makerAS, maker, ca, cc, comms, oa, oc, others⟩, rfl, ⟨b4, b5, b6, b7, b8, b9, fun s hs => (g5 s hs).2, i5, fun s hs => (j5 s hs).2⟩, ⟨g4, fun s hs => (g5 s hs).1⟩, i4, ⟨j4, fun s hs => (j5 s hs).1⟩⟩
theorem AtV.keep {w w' : World} (hc : ∀ b o u, w.cell? ⟨b, o, none⟩ = some u → w'.cell? ⟨b, o, none⟩ = some u) {d : At} (h : AtV w d) : AtV w' d :=
  ⟨⟨vwKeep hc h.path.vw, fun s hs => vwKeep hc (h.path.segs s hs)⟩, vwKeep hc h.comms, ⟨vwKeep hc h.others.vw, fun s hs => vwKeep hc (h.others.raws s hs)⟩⟩
theorem kn_keep {W : World} {φ : World → Prop} (hk : ∀ {w w' : World}, (∀ b o u, w.cell? ⟨b, o, none⟩ = some u → w'.cell? ⟨b, o, none⟩ = some u) → φ w → φ w') (h : φ W) : Kn (World.all W) φ :=
  Kn.all (fun w ho => hk (fun b o u hu => by
    rw [World.cell?_of_block (w := W) (ho.block b (World.block_lt_of_cell? _ _ hu) (by simp))]
    exact hu) h) fun w w' hh hr => hk (fun b o u hu => by rw [cell?_heap hh]; exact hu) hr
end Go.Proofs.YtnhabkipjmgaaaaGreat
namespace Go.Proofs.YtnhabkipjmgaaaaGreat
set_option linter.unusedSimpArgs false
set_option linter.unusedVariables false
set_option maxRecDepth 20000
set_option maxHeartbeats 4000000
open Go.RowKit Go.Pm

open T (Pf PfN Rt Ah pfC)
section
variable (b : Nat)
end
end Go.Proofs.YtnhabkipjmgaaaaGreat
namespace Go.Proofs.YtnhabkipjmgaaaaGreat
set_option linter.unusedSimpArgs false
set_option linter.unusedVariables false
set_option maxRecDepth 20000
set_option maxHeartbeats 4000000
open Go.RowKit Go.Pm

open T (Pf PfN Rt Ah pfC)
def oneAt (n : Int) : At := ⟨0, none, 0, [], 1, true, n, false, 0, false, false, 0, 0, none, 0, [], none, 0, []⟩
theorem oneAt_f (n : Int) (hn : U32 n) : AtF (oneAt n) := by
  have z : U32 0 := ⟨by omega, by omega⟩
  refine ⟨⟨⟨by simp [oneAt], by simp [oneAt]⟩, ⟨by simp [oneAt], by simp [oneAt]⟩, hn, z, z, z, ?_, ?_, ?_⟩, by simp [oneAt], by simp [oneAt], by simp [oneAt]⟩
  all_goals (intro s hs; exact absurd hs List.not_mem_nil)
theorem oneAt_v (n : Int) (w : World) : AtV w (oneAt n) := ⟨⟨Vw.nil w 2, fun _ h => absurd h List.not_mem_nil⟩, Vw.nil w 1, Vw.nil w 2, fun _ h => absurd h List.not_mem_nil⟩
theorem oneAt_ok (n : Int) : okN (oneAt n).nf = true := okN_t (by simp [oneAt]) rfl (by simp [oneAt]) (by simp [oneAt]) (by simp [oneAt]) (by simp [oneAt]) rfl
abbrev oneC (n : Int) : List Value := [.int .i64 0, .slice none 0 0, .int .u32 1, .bool true, .int .u32 n, .bool false, .int .u32 0, .bool false, .bool false, .int .u32 0, .int .u32 0, .slice none 0 0, .slice none 0 0]
theorem one_s (n : Int) (hn : U32 n) : Pact Tryz.prog 13 #[.int .i64 n] (fun _ => True) [] (ret0 (.agg (oneC n).toArray)) := by
  refine pact Tryz.func13 rfl Tryz.ntmps13 rfl ?_
  intro W K _
  obtain ⟨h0, h1⟩ := hn
  (repeat' (first | ((with_reducible apply gL); (first | refine yL0 ?_ | refine yL ?_ | (refine yM ?_; intro _) | fail)) | refine yJ ?_ | fail))
  exact J_retC (cs := oneC n) rfl (by rfl) xA (by rfl) fun w H => ⟨_, ⟨rfl, rfl⟩, H.sel .nil⟩
abbrev X1 : Nf := (oneAt 1).nf
theorem kk0 : keepF [] 0 X1 = (([⟨1, 1, X1⟩], 1), 1, 0) := by
  unfold keepF fndX; rw [oneAt_ok]; rfl
theorem kk1 (n : Int) : keepF [⟨1, n, X1⟩] 1 X1 = (([⟨1, n + 1, X1⟩], 1), 1, 0) := by
  unfold keepF fndX; rw [oneAt_ok]; simp
theorem u32_1 : U32 1 := ⟨by omega, by omega⟩
theorem nfX : NfN X1 := At.nfN (oneAt_f 1 u32_1).num
theorem st1 : StOk 1 [⟨1, 1, X1⟩] 1 := by
  have := keepF_ok stok_nil (by omega) nfX
  rw [kk0] at this
  exact this
abbrev pX : Pf := (167772160, 8)
abbrev pY : Pf := (167837696, 16)
theorem pX_n : PfN pX := by unfold PfN T.U32 T.I64; decide
theorem pY_n : PfN pY := by unfold PfN T.U32 T.I64; decide
theorem pX_r : Rt pX := by decide +kernel
theorem pY_r : Rt pY := by decide +kernel
theorem pXY : Ah pX pY := by decide +kernel
def upO (ta : Option Addr) (tc : Nat) (p : Pf) : Up := ⟨none, 0, [], ta, tc, [p], oneAt 1, 0⟩
abbrev oneU (ta : Option Addr) (tc : Nat) : List Value := [.slice none 0 0, .slice ta 1 tc, .int .i64 0, .slice none 0 0, .int .u32 1, .bool true, .int .u32 1, .bool false, .int .u32 0, .bool false, .bool false, .int .u32 0, .int .u32 0, .slice none 0 0, .slice none 0 0, .int .i64 0]
theorem upO_l (ta : Option Addr) (tc : Nat) (p : Pf) (hr : Rt p) : upL (upO ta tc p) = [p] := by
  have h : okN (upO ta tc p).d.nf = true := oneAt_ok 1
  unfold upL
  rw [h, if_pos rfl]
  show ddP (srtP (keepP nrt [p])) = [p]
  have h1 : keepP nrt [p] = [p] := by unfold keepP nrt; simp [hr]
  rw [h1]
  have h2 : srtP [p] = [p] := by unfold srtP; simp
  rw [h2]
  rfl
theorem upO_g (E : List T.Ent) (L : List Pf) : goneF E L [] = [] := by
  unfold goneF
  have h2 : srtP (keepP (gnT E L) []) = [] := by unfold srtP keepP; simp
  rw [h2]
  rfl
theorem upO_n (ta : Option Addr) (tc : Nat) (p : Pf) (hp : PfN p) : UpN (upO ta tc p) := ⟨fun _ h => absurd h List.not_mem_nil, fun q hq => by
  obtain rfl := List.mem_singleton.1 hq
  exact hp, oneAt_f 1 u32_1, Nat.zero_le _, by show 1 ≤ 1000; omega⟩
theorem upo_s (B : Int) (hB0 : 0 ≤ B) (hB : B ≤ 1000) (b sp tb : Nat) (E E2 : List T.Ent) (S S1 : List En) (c c1 : Int) (ta : Option Addr) (tc : Nat) (p : Pf) (hp : PfN p) (hr : Rt p) (hn : E.length ≤ 10) (hE : T.EOk E) (hs : StOk B S c) (S0 : List En) (hk : keepF S c X1 = ((S0, 1), 1, 0)) (hk2 : keepF S0 1 X1 = ((S1, c1), 1, 0)) (hg : T.getL E p = none) (h2 : T.putL E p (1, false) = E2) (S2 : List En) (hf : (freeF S1 1).1 = S2) :
    Pact Tryz.prog 12 #[.pointer (some ⟨b, 0, none⟩), .agg (oneU ta tc).toArray] (fun w => Vw w (.slice ta 1 tc) 2 1 (flat pfC [p])) (rtL b sp tb 4096 E S c)
    (fun v L' => ∃ (a : Option Addr) (cc : Nat), v = .tuple #[.slice a 1 cc, .int .i64 0] ∧ L' = [pts b (tbC sp 4096 tb) 72, T.trA tb E2, stoA sp S2 c1]) := by
  intro W K w hK H
  have hgo : T.oldV E p = T.zV := by unfold T.oldV; rw [hg]; rfl
  have k := up_s b sp tb 4096 E S c (upO ta tc p) B hB0 (by omega) (upO_n ta tc p hp) (by omega) ⟨by omega, by omega⟩ (by
    rw [upO_l ta tc p hr]
    have h1 := freshN_le E [p]
    simp only [List.length_cons, List.length_nil] at h1
    omega) hE hs (by rw [upO_l ta tc p hr]; exact List.cons_ne_nil _ _) S0 1 1 hk (by omega)
  refine (k W K w (fun w hr => ⟨Vw.nil w 2, hK w hr, oneAt_v 1 w⟩) H).mono fun e w' h => ?_
  obtain ⟨v, L', ⟨σ1, σ2, R, a, cc, h1, h2', h3, rfl, rfl⟩, h5, h6⟩ := h
  rw [upO_l ta tc p hr] at h1 h2' h3
  have hw : (upO ta tc p).wd = [] := rfl
  rw [hw, upO_g] at h1 h3
  subst h1
  have e2 : σ2 = ⟨E2, S1, c1⟩ := by
    rw [h2']
    show putStep X1 ⟨E, S0, 1⟩ p = _
    unfold putStep
    dsimp only
    rw [hk2, hg, h2]
    rfl
  have e3 : R = [p] := by
    rw [h3]
    have hc : chg (upO ta tc p).d.nf (dropF ⟨E, S0, 1⟩ []) [p] = [p] := by
      show (if putNew X1 ⟨E, S0, 1⟩ p then [p] else []) ++ [] = [p]
      have : putNew X1 ⟨E, S0, 1⟩ p = true := by
        unfold putNew
        dsimp only
        rw [hk2, hgo]
        rfl
      rw [this]
      rfl
    rw [hc]
    unfold srtP; simp
  subst e2
  subst e3
  dsimp only at h6
  rw [hf] at h6
  exact ⟨_, _, ⟨a, cc, rfl, rfl⟩, h5, h6.sel xZ⟩
theorem fr1 (n : Int) (h : n ≠ 1) : freeF [⟨1, n, X1⟩] 1 = ([⟨1, n - 1, X1⟩], 0) := by
  unfold freeF fnd
  simp [h]
theorem markX : markE [(pX, ((1 : Int), false))] (T.keysE [(pX, ((1 : Int), false))]) = [(pX, (1, true))] := by decide +kernel
theorem k01 : keepF [⟨1, 1, X1⟩] 1 X1 = (([⟨1, 2, X1⟩], 1), 1, 0) := kk1 1
theorem k02 : keepF [⟨1, 2, X1⟩] 1 X1 = (([⟨1, 3, X1⟩], 1), 1, 0) := kk1 2
theorem f02 : (freeF [⟨1, 2, X1⟩] 1).1 = [⟨1, 1, X1⟩] := by rw [fr1 2 (by decide)]; rfl
theorem f03 : (freeF [⟨1, 3, X1⟩] 1).1 = [⟨1, 2, X1⟩] := by rw [fr1 3 (by decide)]; rfl
theorem st2 : StOk 2 [⟨1, 2, X1⟩] 1 := by
  have := keepF_ok st1 (by omega) nfX
  rw [k01] at this
  exact this
abbrev EA : List T.Ent := [(pX, ((1 : Int), true))]
abbrev EB : List T.Ent := [(pX, ((1 : Int), true)), (pY, ((1 : Int), false))]
theorem EA_ok : T.EOk EA := ⟨List.pairwise_singleton _ _, fun x hx => by
  obtain rfl := List.mem_singleton.1 hx
  exact ⟨pX_r, pX_n, by unfold T.VN T.I64; decide⟩⟩
theorem EB_ok : T.EOk EB := ⟨by
  refine List.pairwise_cons.2 ⟨fun x hx => ?_, List.pairwise_singleton _ _⟩
  obtain rfl := List.mem_singleton.1 hx
  exact pXY, fun x hx => by
  rcases List.mem_cons.1 hx with rfl | hx
  · exact ⟨pX_r, pX_n, by unfold T.VN T.I64; decide⟩
  · obtain rfl := List.mem_singleton.1 hx
    exact ⟨pY_r, pY_n, by unfold T.VN T.I64; decide⟩⟩
theorem sweep_e (b sp tb : Nat) : Pact Tryz.prog 18 #[.pointer (some ⟨b, 0, none⟩)] (fun _ => True) (rtL b sp tb 4096 EB [⟨1, 2, X1⟩] 1) (fun u L' => ∃ a cc, u = .slice a 1 cc ∧ L' = [pts b (tbC sp 4096 tb) 72, T.trA tb [(pY, ((1 : Int), false))], stoA sp [⟨1, 1, X1⟩] 1, Ar 41 2 pfC (.slice a 1 cc) [pX]]) := by
  have k := sweep_s b sp tb 4096 EB [⟨1, 2, X1⟩] 1 2 (by omega) (by decide) EB_ok st2
  have e1 : staleK EB = [pX] := by decide +kernel
  have e2 : dropF ⟨EB, [⟨1, 2, X1⟩], 1⟩ [pX] = ⟨[(pY, ((1 : Int), false))], [⟨1, 1, X1⟩], 1⟩ := by
    show dropStep _ _ = _
    unfold dropStep
    dsimp only
    have e3 : (T.oldV EB pX).1 = 1 := by decide +kernel
    have e4 : T.dropL EB pX = [(pY, ((1 : Int), false))] := by decide +kernel
    rw [e3, e4, f02]
  rw [e1, e2] at k
  exact k
theorem works_s : Pact Tryz.prog 8 #[] (fun _ => True) [] (ret0 (.bool true)) := by
  refine pact (args := []) Tryz.func8 rfl Tryz.ntmps8 rfl ?_
  intro W K _
  (repeat' (first | ((with_reducible apply gL); (first | (with_reducible apply gL_app) | (with_reducible apply gL_app0) | refine yL0 ?_ | refine yL ?_ | ((with_reducible apply gL_go); (first | (refine JL_goq (new_s) (hφ := xF) (h := ?_); rintro _ _ ⟨sp, rfl, rfl⟩; try simp only [List.cons_append, List.nil_append]) | (refine JL_goq (rnew_s sp 0 4096 (by omega) (by omega) rfl) (hφ := xF) (h := ?_); rintro _ _ ⟨b, tb, rfl, rfl⟩; try simp only [List.cons_append, List.nil_append]) | (refine JL_goq (one_s 1 u32_1) (hφ := xF) (h := ?_); rintro _ _ ⟨rfl, rfl⟩; try simp only [List.cons_append, List.nil_append]) | fail)) | (refine yM ?_; intro _) | fail)) | ((with_reducible apply gD); (first | (refine JD_nil ?_; try simp only [List.cons_append, List.nil_append]) | (refine JD_bar ?_; try simp only [List.cons_append, List.nil_append]) | (with_reducible apply gD_app) | (with_reducible apply gD_app0) | refine yD0 ?_ | refine yD ?_ | ((with_reducible apply gD_go); (first | (refine JD_goq (new_s) (hφ := xF) (h := ?_); rintro _ _ ⟨sp, rfl, rfl⟩; try simp only [List.cons_append, List.nil_append]) | (refine JD_goq (rnew_s sp 0 4096 (by omega) (by omega) rfl) (hφ := xF) (h := ?_); rintro _ _ ⟨b, tb, rfl, rfl⟩; try simp only [List.cons_append, List.nil_append]) | (refine JD_goq (one_s 1 u32_1) (hφ := xF) (h := ?_); rintro _ _ ⟨rfl, rfl⟩; try simp only [List.cons_append, List.nil_append]) | fail)) | (refine yE ?_; intro _) | ((with_reducible apply gD_gd); (first | (refine JD_guard xR xR ?_ ?_ <;> intro _ <;> (try (exfalso; first | contradiction | omega))) | (refine JD_guardb xR xR ?_ ?_ <;> (intro hgb; subst hgb)) | (refine JD_guardb xR xR ?_ ?_ <;> (intro hgb; fail_if_success (have : type_of% hgb := rfl))) | fail)) | fail)) | refine yJ ?_ | ((with_reducible apply gJ_if); (first | (refine J_if xR ?_ ?_ <;> intro _ <;> (try (exfalso; first | contradiction | omega))) | (refine J_ifb xR ?_ ?_ <;> (intro hgb; subst hgb)) | (refine J_ifb xR ?_ ?_ <;> intro _) | fail)) | refine J_draw (id := 6) [0, 1, 3, 2, 4] [5, 6, 7, 8, 9, 10] mixed xC xD xD ?_ | refine J_draw (id := 8) [0, 1, 3, 2, 4] [5] mixed xC xD xD ?_ | refine J_draw (id := 10) [0, 1, 2, 3, 4, 5, 6, 7, 8, 9, 10, 11, 12, 13, 14, 15, 16] [17, 18, 19, 20, 21, 22, 23, 24, 25, 26, 27, 28, 29, 30, 31, 32, 33, 34] mixed xC xD xD ?_ | fail))
  have k1 := fun ta tc => upo_s 0 (by omega) (by omega) b sp tb [] [(pX, ((1 : Int), false))] [] [⟨1, 2, X1⟩] 0 1 ta tc pX pX_n pX_r (by decide) ⟨.nil, fun _ h => absurd h List.not_mem_nil⟩ stok_nil _ kk0 k01 rfl rfl _ f02
  (repeat' (first | ((with_reducible apply gL); (first | (with_reducible apply gL_app) | (with_reducible apply gL_app0) | refine yL0 ?_ | refine yL ?_ | ((with_reducible apply gL_go); (first | (refine JL_goq (k1 _ _) (hφ := (by (try simp only [List.cons_append, List.nil_append]); exact fun w hr => Src.lit (cs := [.int .u32 167772160, .int .i64 8]) xA rfl (by decide) w hr)) (h := ?_); rintro _ _ ⟨a, cc, rfl, rfl⟩; try simp only [List.cons_append, List.nil_append]) | fail)) | (refine yM ?_; intro _) | fail)) | ((with_reducible apply gD); (first | (refine JD_nil ?_; try simp only [List.cons_append, List.nil_append]) | (refine JD_bar ?_; try simp only [List.cons_append, List.nil_append]) | (with_reducible apply gD_app) | (with_reducible apply gD_app0) | refine yD0 ?_ | refine yD ?_ | ((with_reducible apply gD_go); (first | (refine JD_goq (k1 _ _) (hφ := (by (try simp only [List.cons_append, List.nil_append]); exact fun w hr => Src.lit (cs := [.int .u32 167772160, .int .i64 8]) xA rfl (by decide) w hr)) (h := ?_); rintro _ _ ⟨a, cc, rfl, rfl⟩; try simp only [List.cons_append, List.nil_append]) | fail)) | (refine yE ?_; intro _) | ((with_reducible apply gD_gd); (first | (refine JD_guard xR xR ?_ ?_ <;> intro _ <;> (try (exfalso; first | contradiction | omega))) | (refine JD_guardb xR xR ?_ ?_ <;> (intro hgb; subst hgb)) | (refine JD_guardb xR xR ?_ ?_ <;> (intro hgb; fail_if_success (have : type_of% hgb := rfl))) | fail)) | fail)) | refine yJ ?_ | ((with_reducible apply gJ_if); (first | (refine J_if xR ?_ ?_ <;> intro _ <;> (try (exfalso; first | contradiction | omega))) | (refine J_ifb xR ?_ ?_ <;> (intro hgb; subst hgb)) | (refine J_ifb xR ?_ ?_ <;> intro _) | fail)) | refine J_draw (id := 6) [0, 1, 3, 2, 4] [5, 6, 7, 8, 9, 10] mixed xC xD xD ?_ | refine J_draw (id := 8) [0, 1, 3, 2, 4] [5] mixed xC xD xD ?_ | refine J_draw (id := 10) [0, 1, 2, 3, 4, 5, 6, 7, 8, 9, 10, 11, 12, 13, 14, 15, 16] [17, 18, 19, 20, 21, 22, 23, 24, 25, 26, 27, 28, 29, 30, 31, 32, 33, 34] mixed xC xD xD ?_ | fail))
  have km := mark_s b sp tb 4096 [(pX, ((1 : Int), false))] (by decide) ⟨List.pairwise_singleton _ _, fun x hx => by
    obtain rfl := List.mem_singleton.1 hx
    exact ⟨pX_r, pX_n, by unfold T.VN T.I64; decide⟩⟩
  rw [markX] at km
  have k2 := fun ta tc => upo_s 1 (by omega) (by omega) b sp tb EA EB [⟨1, 1, X1⟩] [⟨1, 3, X1⟩] 1 1 ta tc pY pY_n pY_r (by decide) EA_ok st1 _ k01 k02 (by decide +kernel) (by decide +kernel) _ f03
  (repeat' (first | ((with_reducible apply gL); (first | (with_reducible apply gL_app) | (with_reducible apply gL_app0) | refine yL0 ?_ | refine yL ?_ | ((with_reducible apply gL_go); (first | (refine JL_goq (km) (hφ := xF) (h := ?_); rintro _ _ rfl; try simp only [List.cons_append, List.nil_append]) | (refine JL_goq (one_s 1 u32_1) (hφ := xF) (h := ?_); rintro _ _ ⟨rfl, rfl⟩; try simp only [List.cons_append, List.nil_append]) | (refine JL_goq (k2 _ _) (hφ := (by (try simp only [List.cons_append, List.nil_append]); exact fun w hr => Src.lit (cs := [.int .u32 167837696, .int .i64 16]) xA rfl (by decide) w hr)) (h := ?_); rintro _ _ ⟨a2, cc2, rfl, rfl⟩; try simp only [List.cons_append, List.nil_append]) | (refine JL_goq (sweep_e b sp tb) (hφ := xF) (h := ?_); rintro _ _ ⟨a3, cc3, rfl, rfl⟩; try simp only [List.cons_append, List.nil_append]) | fail)) | (refine yM ?_; intro _) | fail)) | ((with_reducible apply gD); (first | (refine JD_nil ?_; try simp only [List.cons_append, List.nil_append]) | (refine JD_bar ?_; try simp only [List.cons_append, List.nil_append]) | (with_reducible apply gD_app) | (with_reducible apply gD_app0) | refine yD0 ?_ | refine yD ?_ | ((with_reducible apply gD_go); (first | (refine JD_goq (km) (hφ := xF) (h := ?_); rintro _ _ rfl; try simp only [List.cons_append, List.nil_append]) | (refine JD_goq (one_s 1 u32_1) (hφ := xF) (h := ?_); rintro _ _ ⟨rfl, rfl⟩; try simp only [List.cons_append, List.nil_append]) | (refine JD_goq (k2 _ _) (hφ := (by (try simp only [List.cons_append, List.nil_append]); exact fun w hr => Src.lit (cs := [.int .u32 167837696, .int .i64 16]) xA rfl (by decide) w hr)) (h := ?_); rintro _ _ ⟨a2, cc2, rfl, rfl⟩; try simp only [List.cons_append, List.nil_append]) | (refine JD_goq (sweep_e b sp tb) (hφ := xF) (h := ?_); rintro _ _ ⟨a3, cc3, rfl, rfl⟩; try simp only [List.cons_append, List.nil_append]) | fail)) | (refine yE ?_; intro _) | ((with_reducible apply gD_gd); (first | (refine JD_guard xR xR ?_ ?_ <;> intro _ <;> (try (exfalso; first | contradiction | omega))) | (refine JD_guardb xR xR ?_ ?_ <;> (intro hgb; subst hgb)) | (refine JD_guardb xR xR ?_ ?_ <;> (intro hgb; fail_if_success (have : type_of% hgb := rfl))) | fail)) | fail)) | refine yJ ?_ | ((with_reducible apply gJ_if); (first | (refine J_if xR ?_ ?_ <;> intro _ <;> (try (exfalso; first | contradiction | omega))) | (refine J_ifb xR ?_ ?_ <;> (intro hgb; subst hgb)) | (refine J_ifb xR ?_ ?_ <;> intro _) | fail)) | refine J_draw (id := 6) [0, 1, 3, 2, 4] [5, 6, 7, 8, 9, 10] mixed xC xD xD ?_ | refine J_draw (id := 8) [0, 1, 3, 2, 4] [5] mixed xC xD xD ?_ | refine J_draw (id := 10) [0, 1, 2, 3, 4, 5, 6, 7, 8, 9, 10, 11, 12, 13, 14, 15, 16] [17, 18, 19, 20, 21, 22, 23, 24, 25, 26, 27, 28, 29, 30, 31, 32, 33, 34] mixed xC xD xD ?_ | fail))
  have f0 : [pX][0]? = some pX := rfl
  have kl := rlen_s b sp tb 4096 [(pY, ((1 : Int), false))]
  have ks := len_s sp [⟨1, 1, X1⟩] 1
  have kc := cnt_s sp [⟨1, 1, X1⟩] 1 1
  have hc : cntF [⟨1, 1, X1⟩] 1 = 1 := rfl
  rw [hc] at kc
  (repeat' (first | ((with_reducible apply gL); (first | (with_reducible apply gL_app) | (with_reducible apply gL_app0) | refine yL0 ?_ | refine yL ?_ | ((with_reducible apply gL_go); (first | (refine JL_goq (kl) (hφ := xF) (h := ?_); rintro _ _ ⟨rfl, rfl⟩; try simp only [List.cons_append, List.nil_append]) | (refine JL_goq (ks) (hφ := xF) (h := ?_); rintro _ _ ⟨rfl, rfl⟩; try simp only [List.cons_append, List.nil_append]) | (refine JL_goq (kc) (hφ := xF) (h := ?_); rintro _ _ ⟨rfl, rfl⟩; try simp only [List.cons_append, List.nil_append]) | fail)) | (refine yM ?_; intro _) | fail)) | ((with_reducible apply gD); (first | (refine JD_nil ?_; try simp only [List.cons_append, List.nil_append]) | (refine JD_bar ?_; try simp only [List.cons_append, List.nil_append]) | (with_reducible apply gD_app) | (with_reducible apply gD_app0) | refine yD0 ?_ | refine yD ?_ | ((with_reducible apply gD_go); (first | (refine JD_goq (kl) (hφ := xF) (h := ?_); rintro _ _ ⟨rfl, rfl⟩; try simp only [List.cons_append, List.nil_append]) | (refine JD_goq (ks) (hφ := xF) (h := ?_); rintro _ _ ⟨rfl, rfl⟩; try simp only [List.cons_append, List.nil_append]) | (refine JD_goq (kc) (hφ := xF) (h := ?_); rintro _ _ ⟨rfl, rfl⟩; try simp only [List.cons_append, List.nil_append]) | fail)) | (refine yE ?_; intro _) | ((with_reducible apply gD_gd); (first | (refine JD_guard xR xR ?_ ?_ <;> intro _ <;> (try (exfalso; first | contradiction | omega))) | (refine JD_guardb xR xR ?_ ?_ <;> (intro hgb; subst hgb)) | (refine JD_guardb xR xR ?_ ?_ <;> (intro hgb; fail_if_success (have : type_of% hgb := rfl))) | fail)) | fail)) | refine yJ ?_ | ((with_reducible apply gJ_if); (first | (refine J_if xR ?_ ?_ <;> intro _ <;> (try (exfalso; first | contradiction | omega))) | (refine J_ifb xR ?_ ?_ <;> (intro hgb; subst hgb)) | (refine J_ifb xR ?_ ?_ <;> intro _) | fail)) | refine J_draw (id := 6) [0, 1, 3, 2, 4] [5, 6, 7, 8, 9, 10] mixed xC xD xD ?_ | refine J_draw (id := 8) [0, 1, 3, 2, 4] [5] mixed xC xD xD ?_ | refine J_draw (id := 10) [0, 1, 2, 3, 4, 5, 6, 7, 8, 9, 10, 11, 12, 13, 14, 15, 16] [17, 18, 19, 20, 21, 22, 23, 24, 25, 26, 27, 28, 29, 30, 31, 32, 33, 34] mixed xC xD xD ?_ | fail))
  exact J_ret1 rfl (by rfl) fun w H => ⟨_, ⟨rfl, rfl⟩, H.sel .nil⟩
end Go.Proofs.YtnhabkipjmgaaaaGreat
namespace Go.Proofs.YtnhabkipjmgaaaaGreat
set_option linter.unusedSimpArgs false
set_option linter.unusedVariables false
set_option maxRecDepth 20000
set_option maxHeartbeats 4000000
open Go.RowKit Go.Pm

open T (Pf PfN Rt Ah pfC)
theorem leaf_app {P : Program} {w : World} : ∀ (ts us : List TypeId) (cs : List Value), Leaf P w (ts ++ us) cs → ∃ a b, cs = a ++ b ∧ Leaf P w ts a ∧ Leaf P w us b
  | [], _, cs, h => ⟨[], cs, rfl, rfl, h⟩
  | t :: ts, us, cs, h => by
    obtain ⟨c, r, rfl, h1, h2⟩ := Leaf.one h
    obtain ⟨a, b, rfl, h3, h4⟩ := leaf_app ts us r h2
    exact ⟨c :: a, b, rfl, ⟨c, a, rfl, h1, h3⟩, h4⟩
theorem pf_el {w : World} (m : Nat) (d : List Value) (_ : d.length = 2) (h : Rs Tryz.prog w m 41 d) : ∃ p : Pf, d = pfC p ∧ PfN p := by
  have h0 := leaf_of 5 41 [25, 3] m _ (by kernel_rfl) h
  obtain ⟨a, r, e, b0, h1⟩ := h0.u32 Tryz.underlying25
  subst e
  obtain ⟨l, r2, e2, b1, h2⟩ := h1.i64 Tryz.underlying3
  subst e2
  obtain rfl := h2.nil'
  exact ⟨(a, l), rfl, b0, b1⟩
theorem pf_arg {W : World} {m : Nat} {cs : Array Value} (h : Rs Tryz.prog W m 41 (Value.agg cs).cells.toList) : ∃ p : Pf, cs = (pfC p).toArray ∧ PfN p := by
  have h0 := leaf_of 5 41 [25, 3] m _ (by kernel_rfl) h
  obtain ⟨a, r, e, b0, h1⟩ := h0.u32 Tryz.underlying25
  obtain ⟨l, r2, e2, b1, h2⟩ := h1.i64 Tryz.underlying3
  obtain rfl := h2.nil'
  subst e2
  exact ⟨(a, l), Array.ext' e, b0, b1⟩
theorem up_leaf {w : World} {cs : List Value} {us : List TypeId} (h0 : Leaf Tryz.prog w ([22, 22, 3, 23, 25, 4, 24, 4, 24, 4, 4, 24, 25, 26, 27, 3] ++ us) cs) : ∃ (u : Up) (r : List Value), cs = upC u ++ r ∧ AtN u.d ∧ (∀ p ∈ u.wd, PfN p) ∧ (∀ p ∈ u.td, PfN p) ∧ UpV w u ∧ Leaf Tryz.prog w us r := by
  obtain ⟨wa, wl, wc, r, e, ⟨m1, hw⟩, h1⟩ := h0.sl Tryz.underlying22
  subst e
  obtain ⟨wd, e, g1, g2, g3, g4, g5⟩ := hw.list (sz := 2) (b := 16) (enc := pfC) (ok := PfN) Tryz.underlying22 (by kernel_rfl) (by kernel_rfl) pf_el
  subst e
  obtain ⟨ta, tl, tc, r, e, ⟨m2, ht⟩, h2⟩ := h1.sl Tryz.underlying22
  subst e
  obtain ⟨td, e, j1, j2, j3, j4, j5⟩ := ht.list (sz := 2) (b := 16) (enc := pfC) (ok := PfN) Tryz.underlying22 (by kernel_rfl) (by kernel_rfl) pf_el
  subst e
  obtain ⟨a, b, rfl, h3, h4⟩ := leaf_app [3, 23, 25, 4, 24, 4, 24, 4, 4, 24, 25, 26, 27] (3 :: us) _ h2
  obtain ⟨d, rfl, hd, hv⟩ := attrs_leaf h3
  obtain ⟨f, r, e, _, h5⟩ := h4.i64 Tryz.underlying3
  subst e
  exact ⟨⟨wa, wc, wd, ta, tc, td, d, f⟩, r, rfl, hd, g5, j5, ⟨g4, j4, hv⟩, h5⟩
theorem UpV.keep {w w' : World} (hc : ∀ b o u, w.cell? ⟨b, o, none⟩ = some u → w'.cell? ⟨b, o, none⟩ = some u) {u : Up} (h : UpV w u) : UpV w' u := ⟨vwKeep hc h.wd, vwKeep hc h.td, h.d.keep hc⟩
end Go.Proofs.YtnhabkipjmgaaaaGreat
namespace Go.Proofs.YtnhabkipjmgaaaaGreat
set_option linter.unusedSimpArgs false
set_option linter.unusedVariables false
set_option maxRecDepth 20000
set_option maxHeartbeats 4000000
open Go.RowKit Go.Pm

open T (Pf PfN Rt Ah pfC)
def At.trR (d : At) : At := d.at_ (d.path.take 6) d.pa d.pc (d.comms.take 40) d.ca d.cc (d.others.take 9) d.oa d.oc
theorem At.trR_few {d : At} (h : AtN d) : AtF d.trR := by
  refine ⟨⟨h.origin, h.next, h.med, h.loc, h.makerAS, h.maker, fun s hs => h.path s (List.take_subset _ _ hs), fun s hs => h.comms s (List.take_subset _ _ hs), fun s hs => h.others s (List.take_subset _ _ hs)⟩, ?_, ?_, ?_⟩ <;> simp [At.trR, At.at_] <;> omega
theorem AtV.trR {w : World} {d : At} (h : AtV w d) : AtV w d.trR :=
  ⟨⟨Vw_take h.path.vw (by intro _; rfl) rfl 6 _ rfl, fun s hs => h.path.segs s (List.take_subset _ _ hs)⟩, Vw_take h.comms (by intro _; rfl) rfl 40 _ rfl, ⟨Vw_take h.others.vw (by intro _; rfl) rfl 9 _ rfl, fun s hs => h.others.raws s (List.take_subset _ _ hs)⟩⟩
structure UpA (u : Up) : Prop where
  d : AtN u.d
  wd : ∀ p ∈ u.wd, PfN p
  td : ∀ p ∈ u.td, PfN p
structure Few (u u' : Up) : Prop where
  n : UpN u'
  wd : u'.wd = u.wd.take 12
  td : u'.td = u.td.take 12
  nf : u'.d.nf = u.d.trR.nf
theorem few_s (u : Up) (hu : UpA u) : Pact Tryz.prog 16 #[.agg (upC u).toArray] (fun w => UpV w u) [] (fun v L' => ∃ u', Few u u' ∧ v = .agg (upC u').toArray ∧ L' = [has (fun w => UpV w u')]) := by
  refine pact Tryz.func16 rfl Tryz.ntmps16 rfl ?_
  intro W K hK
  refine J_fact (φ := ((u.d.path.length ≤ u.d.pc ∧ u.d.pc ≤ maxLen) ∧ (u.d.comms.length ≤ u.d.cc ∧ u.d.cc ≤ maxLen) ∧ (u.d.others.length ≤ u.d.oc ∧ u.d.oc ≤ maxLen)) ∧ (u.wd.length ≤ u.wc ∧ u.wc ≤ maxLen) ∧ (u.td.length ≤ u.tc ∧ u.tc ≤ maxLen)) (fun w H => ?_) ?_
  · have h := hK.of H
    refine ⟨⟨?_, ?_, ?_⟩, ?_, ?_⟩
    · obtain ⟨a', c', he, h1, h2⟩ := h.d.path.vw.shape
      cases he
      exact ⟨h1, h2⟩
    · obtain ⟨a', c', he, h1, h2⟩ := h.d.comms.shape
      cases he
      exact ⟨h1, h2⟩
    · obtain ⟨a', c', he, h1, h2⟩ := h.d.others.vw.shape
      cases he
      exact ⟨h1, h2⟩
    · obtain ⟨a', c', he, h1, h2⟩ := h.wd.shape
      cases he
      exact ⟨h1, h2⟩
    · obtain ⟨a', c', he, h1, h2⟩ := h.td.shape
      cases he
      exact ⟨h1, h2⟩
  rintro ⟨⟨⟨hp, hp2⟩, ⟨hc, hc2⟩, ⟨ho, ho2⟩⟩, ⟨hw, hw2⟩, ⟨ht, ht2⟩⟩
  unfold maxLen at hp2 hc2 ho2 hw2 ht2
  have e1 : u.d.trR.path.length = (min (u.d.path.length : Int) 6).toNat := by simp [At.trR, At.at_]; omega
  have e2 : u.d.trR.comms.length = (min (u.d.comms.length : Int) 40).toNat := by simp [At.trR, At.at_]; omega
  have e3 : u.d.trR.others.length = (min (u.d.others.length : Int) 9).toNat := by simp [At.trR, At.at_]; omega
  have e4 : (u.wd.take 12).length = (min (u.wd.length : Int) 12).toNat := by simp; omega
  have e5 : (u.td.take 12).length = (min (u.td.length : Int) 12).toNat := by simp; omega
  have hwv : Kn K (fun w => Vw w (.slice u.wa (min (u.wd.length : Int) 12).toNat u.wc) 2 (min (u.wd.length : Int) 12).toNat (flat pfC (u.wd.take 12))) := hK.imp fun _ h => Vw_take h.wd (by intro _; rfl) rfl 12 _ e4
  have htv : Kn K (fun w => Vw w (.slice u.ta (min (u.td.length : Int) 12).toNat u.tc) 2 (min (u.td.length : Int) 12).toNat (flat pfC (u.td.take 12))) := hK.imp fun _ h => Vw_take h.td (by intro _; rfl) rfl 12 _ e5
  (repeat' (first | ((with_reducible apply gL); (first | refine yL0 ?_ | ((with_reducible apply gL_c_append); (first | (refine JL_appL (fs := u.wd.take 12) pfC (tabE etab_ok (by rfl)) (by rfl) (by rfl) xA (Src.kn hwv) (by decide +kernel) (by intro _; rfl) (all_one _ (by intro _ _; rfl)) (by omega) (by rfl) (by rfl) ?_; intro ad2 c2 _ _) | (refine JL_appL (fs := u.td.take 12) pfC (tabE etab_ok (by rfl)) (by rfl) (by rfl) xA (Src.kn htv) (by decide +kernel) (by intro _; rfl) (all_one _ (by intro _ _; rfl)) (by omega) (by rfl) (by rfl) ?_; intro ad3 c3 _ _) | fail)) | refine yL ?_ | ((with_reducible apply gL_go); (first | (refine JL_goq (acopy_s u.d.trR (At.trR_few hu.d) _ _ _ e1 e2 e3) (hφ := (by (try simp only [List.cons_append, List.nil_append]); exact fun w hr => (hK w hr.1).d.trR)) (h := ?_); rintro _ _ ⟨d', hd', hnf, rfl, rfl⟩; try simp only [List.cons_append, List.nil_append]) | fail)) | (refine yM ?_; intro _) | (refine yA ?_; intro _ _ _ _) | fail)) | refine yJ ?_ | fail))
  refine J_retC (cs := [.slice ad2 (min (u.wd.length : Int) 12).toNat c2, .slice ad3 (min (u.td.length : Int) 12).toNat c3, .int .i64 d'.origin, .slice d'.pa d'.path.length d'.pc, .int .u32 d'.next, .bool d'.hasMed, .int .u32 d'.med, .bool d'.hasLocal, .int .u32 d'.loc, .bool d'.atomic, .bool d'.hasMaker, .int .u32 d'.makerAS, .int .u32 d'.maker, .slice d'.ca d'.comms.length d'.cc, .slice d'.oa d'.others.length d'.oc, .int .i64 u.f]) rfl (by rfl) xA (by rfl) fun w H => ⟨_, ⟨⟨ad2, c2, u.wd.take 12, ad3, c3, u.td.take 12, d', u.f⟩, ⟨⟨fun p hp => hu.wd p (List.take_subset _ _ hp), fun p hp => hu.td p (List.take_subset _ _ hp), hd', by dsimp only; simp; omega, by dsimp only; simp; omega⟩, rfl, rfl, hnf⟩, by unfold upC; dsimp only; rw [e4, e5], rfl⟩, ?_⟩
  refine (Ow.has (M := [Ar 41 2 pfC (.slice ad2 (min (u.wd.length : Int) 12).toNat c2) (u.wd.take 12), Ar 41 2 pfC (.slice ad3 (min (u.td.length : Int) 12).toNat c3) (u.td.take 12), has (fun w => AtV w d')]) (φ := fun w => UpV w ⟨ad2, c2, u.wd.take 12, ad3, c3, u.td.take 12, d', u.f⟩) H xZ ?_).sel xZ
  intro w hr
  refine ⟨?_, ?_, hr.has (.there (.there .here))⟩
  · dsimp only
    rw [e4]
    have := Src.ar .here w hr
    rwa [e4] at this
  · dsimp only
    rw [e5]
    have := Src.ar (.there .here) w hr
    rwa [e5] at this
end Go.Proofs.YtnhabkipjmgaaaaGreat
namespace Go.Proofs.YtnhabkipjmgaaaaGreat
set_option linter.unusedSimpArgs false
set_option linter.unusedVariables false
set_option maxRecDepth 20000
set_option maxHeartbeats 4000000
open Go.RowKit Go.Pm

open T (Pf PfN Rt Ah pfC)
theorem list_s (a b : Option Addr) (c d n m : Nat) (xs : List Pf) (hn : xs.length = n) (hm : xs.length = m) (hl : n ≤ 1000000) : Pact Tryz.prog 25 #[.slice a n c, .slice b m d] (fun w => Vw w (.slice a n c) 2 n (flat pfC xs) ∧ Vw w (.slice b m d) 2 m (flat pfC xs)) [] (ret0 (.bool true)) := by
  subst hn
  subst hm
  refine pact Tryz.func25 rfl Tryz.ntmps25 rfl ?_
  intro W K hK
  have hv := hK.left
  have hv2 := hK.right
  (repeat' (first | ((with_reducible apply gL); (first | refine yL0 ?_ | refine yL ?_ | fail)) | ((with_reducible apply gD); (first | (refine JD_nil ?_; try simp only [List.cons_append, List.nil_append]) | (refine JD_bar ?_; try simp only [List.cons_append, List.nil_append]) | refine yD ?_ | fail)) | refine yJ ?_ | ((with_reducible apply gJ_if); (first | (refine J_if xR ?_ ?_ <;> intro _ <;> (try (exfalso; first | contradiction | omega))) | (refine J_ifb xR ?_ ?_ <;> (intro hgb; subst hgb)) | (refine J_ifb xR ?_ ?_ <;> intro _) | fail)) | refine J_draw (id := 6) [0, 1, 2, 3, 4, 5, 6, 7] [8] mixed xC xD xD ?_ | fail))
  all_goals (first | (exfalso; omega) | skip)
  refine J_loop (α := Nat) 0 (fun k => xs.length - k) (fun k => k ≤ xs.length) (fun k => [(0, .slice a xs.length c), (1, .slice b xs.length d), (5, .int .i64 k)]) (fun _ => []) (Nat.zero_le _) ⟨rfl, rfl, rfl, trivial⟩ (fun w H => H) ?_
  intro k hk
  by_cases hlt : k < xs.length
  · obtain ⟨p, hs⟩ : ∃ p, xs[k]? = some p := ⟨_, List.getElem?_eq_getElem hlt⟩
    (repeat' (first | ((with_reducible apply gL); (first | refine yL0 ?_ | refine yL ?_ | fail)) | ((with_reducible apply gD); (first | (refine JD_nil ?_; try simp only [List.cons_append, List.nil_append]) | (refine JD_bar ?_; try simp only [List.cons_append, List.nil_append]) | refine yD ?_ | fail)) | refine yJ ?_ | ((with_reducible apply gJ_if); (first | (refine J_if xR ?_ ?_ <;> intro _ <;> (try (exfalso; first | contradiction | omega))) | (refine J_ifb xR ?_ ?_ <;> (intro hgb; subst hgb)) | (refine J_ifb xR ?_ ?_ <;> intro _) | fail)) | refine J_draw (id := 6) [0, 1, 2, 3, 4, 5, 6, 7] [8] mixed xC xD xD ?_ | fail))
    all_goals (first | (exfalso; omega) | skip)
    exact J_again (k + 1) (by omega) (by omega) ⟨rfl, rfl, rfl, trivial⟩ (fun w H => H.sel .nil)
  · (repeat' (first | ((with_reducible apply gL); (first | refine yL0 ?_ | refine yL ?_ | fail)) | ((with_reducible apply gD); (first | (refine JD_nil ?_; try simp only [List.cons_append, List.nil_append]) | (refine JD_bar ?_; try simp only [List.cons_append, List.nil_append]) | refine yD ?_ | fail)) | refine yJ ?_ | ((with_reducible apply gJ_if); (first | (refine J_if xR ?_ ?_ <;> intro _ <;> (try (exfalso; first | contradiction | omega))) | (refine J_ifb xR ?_ ?_ <;> (intro hgb; subst hgb)) | (refine J_ifb xR ?_ ?_ <;> intro _) | fail)) | refine J_draw (id := 6) [0, 1, 2, 3, 4, 5, 6, 7] [8] mixed xC xD xD ?_ | fail))
    exact J_ret1 rfl (by rfl) fun w H => ⟨_, ⟨rfl, rfl⟩, H.sel .nil⟩
structure Ac where
  do_ : Int
  u : Up
def acC (x : Ac) : List Value := [.int .i64 x.do_, .slice x.u.wa x.u.wd.length x.u.wc, .slice x.u.ta x.u.td.length x.u.tc, .int .i64 x.u.d.origin, .slice x.u.d.pa x.u.d.path.length x.u.d.pc, .int .u32 x.u.d.next, .bool x.u.d.hasMed, .int .u32 x.u.d.med, .bool x.u.d.hasLocal, .int .u32 x.u.d.loc, .bool x.u.d.atomic, .bool x.u.d.hasMaker, .int .u32 x.u.d.makerAS, .int .u32 x.u.d.maker, .slice x.u.d.ca x.u.d.comms.length x.u.d.cc, .slice x.u.d.oa x.u.d.others.length x.u.d.oc, .int .i64 x.u.f]
structure AcN (x : Ac) : Prop where
  do_ : I64 x.do_
  u : UpA x.u
theorem act_el {w : World} (m : Nat) (d : List Value) (_ : d.length = 17) (h : Rs Tryz.prog w m 52 d) : ∃ x : Ac, d = acC x ∧ AcN x ∧ UpV w x.u := by
  have h0 := leaf_of 5 52 (3 :: ([22, 22, 3, 23, 25, 4, 24, 4, 24, 4, 4, 24, 25, 26, 27, 3] ++ [])) m d (by kernel_rfl) h
  obtain ⟨do_, r, e, b0, h1⟩ := h0.i64 Tryz.underlying3
  subst e
  obtain ⟨u, r, e, h2, h3, h4, h5, h6⟩ := up_leaf h1
  subst e
  obtain rfl := h6.nil'
  exact ⟨⟨do_, u⟩, by rw [List.append_nil]; rfl, ⟨b0, h2, h3, h4⟩, h5⟩
theorem acts_arg {W : World} {n : Nat} {a : Option Addr} {l c : Nat} (h : Rs Tryz.prog W n 50 [.slice a l c]) : ∃ es : List Ac, es.length = l ∧ es.length ≤ 140737488355328 ∧ (∀ x ∈ es, AcN x) ∧ Kn (World.all W) (fun w => Vw w (.slice a es.length c) 17 es.length (flat acC es) ∧ ∀ x ∈ es, UpV w x.u) := by
  obtain ⟨es, rfl, h1, h2, h3, h4, h5⟩ := h.list (sz := 17) (b := 176) (enc := acC) (ok := fun x => AcN x ∧ UpV W x.u) Tryz.underlying50 (by kernel_rfl) (by kernel_rfl) act_el
  exact ⟨es, rfl, by simp only [reachBytes] at h3; omega, fun x hx => (h5 x hx).1, kn_keep (fun hc h => ⟨vwKeep hc h.1, fun x hx => (h.2 x hx).keep hc⟩) ⟨h4, fun x hx => (h5 x hx).2⟩⟩
/-! Marks, plain. -/
theorem mark_get : ∀ (ps : List Pf) (E : List T.Ent) (q : Pf), T.Srt E → T.getL (markE E ps) q = if q ∈ ps then some ((T.oldV E q).1, true) else T.getL E q
  | [], _, _, _ => rfl
  | p :: ps, E, q, h => by
    have h0 : T.Srt (T.putL E p ((T.oldV E p).1, true)) := T.srt_putL h
    have h1 := mark_get ps _ q h0
    have h2 : T.getL (T.putL E p ((T.oldV E p).1, true)) q = if q = p then some ((T.oldV E p).1, true) else T.getL E q := T.getL_put h
    have h3 : (T.oldV (T.putL E p ((T.oldV E p).1, true)) q).1 = (T.oldV E q).1 := by
      refine (congrArg (fun o => (Option.getD o T.zV).1) h2).trans ?_
      by_cases hq : q = p
      · rw [if_pos hq, hq]; rfl
      · rw [if_neg hq]; rfl
    show T.getL (markE (T.putL E p _) ps) q = _
    rw [h1, h2, h3]
    by_cases hq : q ∈ ps
    · simp [hq]
    · by_cases hqp : q = p
      · subst hqp; simp [hq]
      · simp [hq, hqp]
theorem mem_keysE {E : List T.Ent} {q : Pf} : q ∈ T.keysE E ↔ (T.getL E q).isSome = true := by
  constructor
  · intro h
    cases hg : T.getL E q with
    | some _ => rfl
    | none =>
      obtain ⟨e, he, h2⟩ := List.mem_map.1 h
      exact absurd h2 (T.getL_none.1 hg e he)
  · intro h
    cases hg : T.getL E q with
    | none => rw [hg] at h; cases h
    | some v =>
      unfold T.getL at hg
      cases hf : E.find? (fun e => decide (e.1 = q)) with
      | none => rw [hf] at hg; cases hg
      | some e => exact List.mem_map.2 ⟨e, List.mem_of_find?_eq_some hf, by simpa using List.find?_some hf⟩
theorem keys_filter (E : List T.Ent) (q : Pf → Bool) : T.keysE (E.filter fun e => q e.1) = (T.keysE E).filter q := by
  unfold T.keysE
  rw [List.filter_map]
  rfl
end Go.Proofs.YtnhabkipjmgaaaaGreat
namespace Go.Proofs.YtnhabkipjmgaaaaGreat
set_option linter.unusedSimpArgs false
set_option linter.unusedVariables false
open Go.RowKit Go.Pm

open T (Pf PfN Rt Ah pfC)
theorem upL_mem {u : Up} (ho : okN u.d.nf = true) {p : Pf} : p ∈ upL u ↔ p ∈ u.td ∧ Rt p := by
  unfold upL
  rw [ho, if_pos rfl]
  exact mem_toldF
theorem rel_nil : Rel 0 ⟨[], [], 0⟩ := ⟨fun j hj => by
  show (0 : Int) = 0 + if j = 0 then 1 else 0
  rw [if_neg (by omega)]; rfl, fun _ h => absurd h List.not_mem_nil⟩
theorem eok_nil : T.EOk [] := ⟨.nil, fun _ h => absurd h List.not_mem_nil⟩
end Go.Proofs.YtnhabkipjmgaaaaGreat
namespace Go.Proofs.YtnhabkipjmgaaaaGreat
set_option linter.unusedSimpArgs false
set_option linter.unusedVariables false
open Go.RowKit Go.Pm

open T (Pf PfN Rt Ah pfC)
theorem cI_mark (j : Int) (hj : 0 < j) : ∀ (ps : List Pf) (E : List T.Ent), T.Srt E → cI (markE E ps) j = cI E j
  | [], _, _ => rfl
  | p :: ps, E, h => by
    have h1 : cI (T.putL E p ((T.oldV E p).1, true)) j = cI E j := by
      rw [cI_put h hj]
      dsimp only
      omega
    exact (cI_mark j hj ps _ (T.srt_putL h)).trans h1
theorem mark_rel {x : Int} {σ : Tb} (h : Rel x σ) (hE : T.EOk σ.E) (hE2 : T.EOk (markE σ.E (T.keysE σ.E))) : Rel x ⟨markE σ.E (T.keysE σ.E), σ.S, σ.c⟩ ∧ ∀ q, lk ⟨markE σ.E (T.keysE σ.E), σ.S, σ.c⟩ q = (lk σ q).map fun v => (v.1, true) := by
  have key : ∀ q, T.getL (markE σ.E (T.keysE σ.E)) q = (T.getL σ.E q).map fun o => (o.1, true) := fun q => by
    rw [mark_get _ _ q hE.s]
    cases hg : T.getL σ.E q with
    | none => rw [if_neg (fun h => by have := mem_keysE.1 h; rw [hg] at this; cases this)]; rfl
    | some o =>
      rw [if_pos (mem_keysE.2 (by rw [hg]; rfl))]
      unfold T.oldV
      rw [hg]
      rfl
  refine ⟨⟨fun j hj => ?_, fun e he => ?_⟩, fun q => ?_⟩
  · dsimp only
    rw [cI_mark j hj _ _ hE.s]
    exact h.cnt j hj
  · have h1 := (T.getL_mem (l := markE σ.E (T.keysE σ.E)) (p := e.1) (v := e.2) hE2.s).2 he
    rw [key] at h1
    cases hg : T.getL σ.E e.1 with
    | none => rw [hg] at h1; cases h1
    | some o =>
      rw [hg] at h1
      have h2 := (h.there hE hg).1
      have h3 := Option.some.inj h1
      rw [← h3]
      exact h2
  · unfold lk
    dsimp only
    rw [key]
    cases T.getL σ.E q <;> rfl
theorem mem_staleK {E : List T.Ent} {q : Pf} : q ∈ staleK E ↔ ∃ o, T.getL E q = some o ∧ o.2 = true := by
  unfold staleK keepP
  rw [List.mem_filter, mem_keysE]
  unfold nst T.oldV
  cases hg : T.getL E q with
  | none => simp
  | some o => simp
theorem keys_ne {E : List T.Ent} (h : T.Srt E) : (T.keysE E).Pairwise (· ≠ ·) := by
  unfold T.keysE
  rw [List.pairwise_map]
  exact List.Pairwise.imp (fun {a b} hab e => by rw [e] at hab; exact T.Ah.irrefl hab) h
theorem sweep_rel {B : Int} {σ : Tb} (h : Rel 0 σ) (hE : T.EOk σ.E) (hs : StOk B σ.S σ.c) : Rel 0 (dropF σ (staleK σ.E)) ∧ ∀ q, lk (dropF σ (staleK σ.E)) q = match lk σ q with | some (x, false) => some (x, false) | _ => none := by
  obtain ⟨r1, r2⟩ := drops_rel (staleK σ.E) σ h hE hs (by
    unfold staleK keepP
    exact (keys_ne hE.s).filter _) (fun p hp => by obtain ⟨o, h1, _⟩ := mem_staleK.1 hp; rw [h1]; rfl)
  refine ⟨r1, fun q => ?_⟩
  rw [r2]
  unfold lk
  cases hg : T.getL σ.E q with
  | none => simp
  | some o =>
    obtain ⟨i, b⟩ := o
    cases b with
    | true => rw [if_pos (mem_staleK.2 ⟨_, hg, rfl⟩)]; rfl
    | false => rw [if_neg (fun h => by obtain ⟨o, h1, h2⟩ := mem_staleK.1 h; rw [hg] at h1; cases h1; cases h2)]; rfl
theorem clear_rel {B : Int} {σ : Tb} (h : Rel 0 σ) (hE : T.EOk σ.E) (hs : StOk B σ.S σ.c) : Rel 0 (dropF σ (T.keysE σ.E)) ∧ ∀ q, lk (dropF σ (T.keysE σ.E)) q = none := by
  obtain ⟨r1, r2⟩ := drops_rel (T.keysE σ.E) σ h hE hs (keys_ne hE.s) (fun p hp => mem_keysE.1 hp)
  refine ⟨r1, fun q => ?_⟩
  rw [r2]
  by_cases hq : q ∈ T.keysE σ.E
  · rw [if_pos hq]
  · rw [if_neg hq]
    unfold lk
    cases hg : T.getL σ.E q with
    | none => rfl
    | some o => exact absurd (mem_keysE.2 (by rw [hg]; rfl)) hq
theorem mark_len : ∀ (ps : List Pf) (E : List T.Ent), T.Srt E → (∀ p ∈ ps, (T.getL E p).isSome = true) → (markE E ps).length = E.length
  | [], _, _, _ => rfl
  | p :: ps, E, h, hp => by
    have h0 : T.Srt (T.putL E p ((T.oldV E p).1, true)) := T.srt_putL h
    have h1 := mark_len ps (T.putL E p ((T.oldV E p).1, true)) h0 (fun q hq => by
      rw [T.getL_put h]
      split
      · rfl
      · exact hp q (by simp [hq]))
    have h2 : (T.putL E p ((T.oldV E p).1, true)).length = E.length := by
      rw [T.len_putL h, if_pos (hp p (by simp))]
    show (markE (T.putL E p _) ps).length = _
    rw [h1, h2]
end Go.Proofs.YtnhabkipjmgaaaaGreat
