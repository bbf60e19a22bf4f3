/-
  RibStale: what is marked and not told again is swept, and nothing else.
-/
import Derived.Test.YtnhabkipjmgaaaaGreatZRibStale14
import Derived.HandedShaped
namespace Go.Proofs.YtnhabkipjmgaaaaGreat
set_option linter.unusedSimpArgs false
set_option linter.unusedVariables false
set_option maxRecDepth 20000
set_option maxHeartbeats 4000000
open Go.RowKit Go.Pm

open T (Pf PfN Rt Ah pfC)
structure Zx where
  i : Nat
  σ : Tb
structure Lg where
  i : Nat
  la : Option Addr
  lc : Nat
  ga : Option Addr
  gc : Nat
section
variable {P : Program} {n : Nat} {W : World} {K : Hl} {F : Fp} {k : List It} {tm : TM} {L : List HP}
/-- As J_cut, in a block: the ways meet behind it. -/
theorem J_cutB {α : Type} (I : α → Prop) (tmI : α → TM) (LI : α → List HP) {c : Code} {i : Nat} (h1 : J P n W K F (.code c :: .blk i :: .hole (Meet n W K I tmI LI) :: k) tm L) (h2 : ∀ x, I x → J P n W K F k (tmI x) (LI x)) : J P n W K F (.code c :: .blk i :: k) tm L := .mk <| fun a w hf hO => by
  refine wpIn_mono (h1 a w hf hO) ?_
  intro e a' w' he
  have key : ∀ e a' w', runK P F (.hole (Meet n W K I tmI LI) :: k) e a' w' → runK P F k e a' w' := by
    intro e a' w' he
    cases e with
    | normal => obtain ⟨x, h3, h4, h5⟩ := he; exact h2 x h3 a' w' h4 h5
    | _ => exact he
  cases e with
  | normal => exact key _ _ _ he
  | exit j =>
    change Exit.inBlock i (runK P F (.hole (Meet n W K I tmI LI) :: k)) (.exit j) a' w' at he
    show Exit.inBlock i (runK P F k) (.exit j) a' w'
    unfold Exit.inBlock at he ⊢
    dsimp only at he ⊢
    split at he
    · rename_i h; rw [if_pos h]; exact key _ _ _ he
    · rename_i h; rw [if_neg h]; exact key _ _ _ he
  | _ => exact key _ _ _ he
end
theorem upd_next {B : Int} {u u' : Up} {σ : Tb} (hs : StOk B σ.S σ.c) (hB : 0 ≤ B) (hE : T.EOk σ.E) (hf : Few u u') : StOk (B + 13) (updF 4096 u' σ).S (updF 4096 u' σ).c ∧ (updF 4096 u' σ).E.length ≤ σ.E.length + 12 := by
  have h1 := updF_ok (lim := 4096) hf.n.d hs hB
  have h2 := upL_len u'
  have h3 : u'.td.length ≤ 12 := by rw [hf.td]; simp; omega
  have h4 := updF_len (lim := 4096) (u := u') hE
  exact ⟨h1.mono (by omega), by omega⟩
theorem markE_ok : ∀ (ps : List Pf) (E : List T.Ent), T.EOk E → (∀ p ∈ ps, PfN p ∧ Rt p) → T.EOk (markE E ps)
  | [], _, h, _ => h
  | p :: ps, E, h, hp => markE_ok ps _ (h.put (hp p (by simp)).2 (hp p (by simp)).1 (oldV_n h p)) (fun q hq => hp q (by simp [hq]))
theorem rgS_nst (E : List T.Ent) (p : Pf) : rgS E p = !nst E p := by
  unfold rgS nst T.oldV
  cases T.getL E p with
  | none => rfl
  | some o => simp
theorem stale_s (aa : Option Addr) (ca : Nat) (acts : List Ac) (hx : ∀ x ∈ acts, AcN x) (hl : acts.length ≤ 140737488355328) (ba : Option Addr) (cb : Nat) (bcts : List Ac) (hy : ∀ x ∈ bcts, AcN x) (hm : bcts.length ≤ 140737488355328) : Pact Tryz.prog 5 #[.slice aa acts.length ca, .slice ba bcts.length cb] (fun w => (Vw w (.slice aa acts.length ca) 17 acts.length (flat acC acts) ∧ ∀ x ∈ acts, UpV w x.u) ∧ (Vw w (.slice ba bcts.length cb) 17 bcts.length (flat acC bcts) ∧ ∀ x ∈ bcts, UpV w x.u)) [] (ret0 (.bool true)) := by
  refine pact Tryz.func5 rfl Tryz.ntmps5 rfl ?_
  intro W K hK
  have hv := hK.left.left
  have hv2 := hK.right.left
  (repeat' (first | ((with_reducible apply gL); (first | refine yL0 ?_ | refine yL ?_ | ((with_reducible apply gL_go); (first | (refine JL_goq (works_s) (hφ := xF) (h := ?_); rintro _ _ ⟨rfl, rfl⟩; try simp only [List.cons_append, List.nil_append]) | (refine JL_goq (new_s) (hφ := xF) (h := ?_); rintro _ _ ⟨sp, rfl, rfl⟩; try simp only [List.cons_append, List.nil_append]) | (refine JL_goq (rnew_s sp 0 4096 (by omega) (by omega) rfl) (hφ := xF) (h := ?_); rintro _ _ ⟨b, tb, rfl, rfl⟩; try simp only [List.cons_append, List.nil_append]) | fail)) | (refine yM ?_; intro _) | (refine yA ?_; intro _ _ _ _) | ((with_reducible apply gL_gd); (first | (refine JL_guard xR xR ?_ ?_ <;> intro _ <;> (try (exfalso; first | contradiction | omega))) | (refine JL_guardb xR xR ?_ ?_ <;> (intro hgb; subst hgb)) | (refine JL_guardb xR xR ?_ ?_ <;> (intro hgb; fail_if_success (have : type_of% hgb := rfl))) | fail)) | fail)) | refine yJ ?_ | ((with_reducible apply gJ_if); (first | (refine J_if xR ?_ ?_ <;> intro _ <;> (try (exfalso; first | contradiction | omega))) | (refine J_ifb xR ?_ ?_ <;> (intro hgb; subst hgb)) | (refine J_ifb xR ?_ ?_ <;> intro _) | fail)) | fail))
  refine J_cutB (α := Tb) (fun σ => StOk 260 σ.S σ.c ∧ σ.E.length ≤ 240) (fun _ => [(0, .slice aa acts.length ca), (1, .slice ba bcts.length cb), (5, .pointer (some ⟨b, 0, none⟩))]) (fun σ => rtL b sp tb 4096 σ.E σ.S σ.c) ?_ ?_
  · refine J_loop (α := Zx) ⟨0, ⟨[], [], 0⟩⟩ (fun x => 20 - x.i) (fun x => x.i ≤ 20 ∧ x.i ≤ acts.length ∧ StOk (13 * x.i) x.σ.S x.σ.c ∧ x.σ.E.length ≤ 12 * x.i) (fun x => [(0, .slice aa acts.length ca), (1, .slice ba bcts.length cb), (5, .pointer (some ⟨b, 0, none⟩)), (7, .int .i64 x.i)]) (fun x => rtL b sp tb 4096 x.σ.E x.σ.S x.σ.c) ⟨Nat.zero_le _, Nat.zero_le _, stok_nil.mono (by simp), Nat.zero_le _⟩ ⟨rfl, rfl, rfl, rfl, trivial⟩ (fun w H => H.sel xZ) ?_
    rintro ⟨i, σ⟩ ⟨hi, hia, hs, hn⟩
    dsimp only at hi hia hs hn ⊢
    refine J_fact (φ := T.EOk σ.E) (fun w H => T.trOk H xA) ?_
    intro hE
    by_cases hlt : i < acts.length ∧ i < 20
    · obtain ⟨h1, h2⟩ := hlt
      obtain ⟨x, hsx⟩ : ∃ x, acts[i]? = some x := ⟨_, List.getElem?_eq_getElem h1⟩
      have hxm := List.mem_of_getElem? hsx
      have hxn := hx x hxm
      have hdv : Kn K (fun w => UpV w x.u) := hK.left.right.imp fun w h => h x hxm
      (repeat' (first | ((with_reducible apply gL); (first | refine yL0 ?_ | refine yL ?_ | ((with_reducible apply gL_go); (first | (refine JL_goq (few_s x.u hxn.u) (hφ := (by (try simp only [List.cons_append, List.nil_append]); exact fun w hr => hdv w hr.1)) (h := ?_); rintro _ _ ⟨u', hf, rfl, rfl⟩; try simp only [List.cons_append, List.nil_append]) | fail)) | (refine yM ?_; intro _) | (refine yA ?_; intro _ _ _ _) | ((with_reducible apply gL_gd); (first | (refine JL_guard xR xR ?_ ?_ <;> intro _ <;> (try (exfalso; first | contradiction | omega))) | (refine JL_guardb xR xR ?_ ?_ <;> (intro hgb; subst hgb)) | (refine JL_guardb xR xR ?_ ?_ <;> (intro hgb; fail_if_success (have : type_of% hgb := rfl))) | fail)) | fail)) | refine yJ ?_ | ((with_reducible apply gJ_if); (first | (refine J_if xR ?_ ?_ <;> intro _ <;> (try (exfalso; first | contradiction | omega))) | (refine J_ifb xR ?_ ?_ <;> (intro hgb; subst hgb)) | (refine J_ifb xR ?_ ?_ <;> intro _) | fail)) | fail))
      have ku := upd_s b sp tb 4096 u' σ (13 * i) (by omega) (by omega) hf.n (by omega) ⟨by omega, by omega⟩ hE hs
      have hnx := upd_next hs (by omega) hE hf
      (repeat' (first | ((with_reducible apply gL); (first | refine yL0 ?_ | refine yL ?_ | ((with_reducible apply gL_go); (first | (refine JL_goq (ku) (hφ := (by (try simp only [List.cons_append, List.nil_append]); exact fun w hr => hr.has (φ := fun w => UpV w u') xA)) (h := ?_); rintro _ _ ⟨a5, c5, rfl, rfl⟩; try simp only [List.cons_append, List.nil_append]) | fail)) | (refine yM ?_; intro _) | (refine yA ?_; intro _ _ _ _) | ((with_reducible apply gL_gd); (first | (refine JL_guard xR xR ?_ ?_ <;> intro _ <;> (try (exfalso; first | contradiction | omega))) | (refine JL_guardb xR xR ?_ ?_ <;> (intro hgb; subst hgb)) | (refine JL_guardb xR xR ?_ ?_ <;> (intro hgb; fail_if_success (have : type_of% hgb := rfl))) | fail)) | fail)) | refine yJ ?_ | ((with_reducible apply gJ_if); (first | (refine J_if xR ?_ ?_ <;> intro _ <;> (try (exfalso; first | contradiction | omega))) | (refine J_ifb xR ?_ ?_ <;> (intro hgb; subst hgb)) | (refine J_ifb xR ?_ ?_ <;> intro _) | fail)) | fail))
      exact J_again ⟨i + 1, updF 4096 u' σ⟩ (by dsimp only; omega) ⟨by dsimp only; omega, by dsimp only; omega, by dsimp only; exact hnx.1.mono (by omega), by dsimp only; omega⟩ ⟨rfl, rfl, rfl, rfl, trivial⟩ (fun w H => H.sel xZ)
    · (repeat' (first | ((with_reducible apply gL); (first | refine yL0 ?_ | refine yL ?_ | (refine yM ?_; intro _) | (refine yA ?_; intro _ _ _ _) | ((with_reducible apply gL_gd); (first | (refine JL_guard xR xR ?_ ?_ <;> intro _ <;> (try (exfalso; first | contradiction | omega))) | (refine JL_guardb xR xR ?_ ?_ <;> (intro hgb; subst hgb)) | (refine JL_guardb xR xR ?_ ?_ <;> (intro hgb; fail_if_success (have : type_of% hgb := rfl))) | fail)) | fail)) | refine yJ ?_ | ((with_reducible apply gJ_if); (first | (refine J_if xR ?_ ?_ <;> intro _ <;> (try (exfalso; first | contradiction | omega))) | (refine J_ifb xR ?_ ?_ <;> (intro hgb; subst hgb)) | (refine J_ifb xR ?_ ?_ <;> intro _) | fail)) | fail))
      all_goals exact J_meet σ ⟨hs.mono (by omega), by omega⟩ ⟨rfl, rfl, rfl, trivial⟩ (fun w H => H.sel xZ)
  rintro σ ⟨hs, hn⟩
  refine J_fact (φ := T.EOk σ.E) (fun w H => T.trOk H xA) ?_
  intro hE
  have hms := mark_stale σ.E hE.s
  have hml := (markE_srt (T.keysE σ.E) σ.E hE.s).2
  have hkl : (T.keysE σ.E).length = σ.E.length := List.length_map _
  rw [hkl] at hml
  have km := mark_s b sp tb 4096 σ.E (by omega) hE
  have hE2 := markE_ok (T.keysE σ.E) σ.E hE (fun p hp => by
    obtain ⟨e, he, rfl⟩ := List.mem_map.1 hp
    exact ⟨(hE.e e he).2.1, (hE.e e he).1⟩)
  generalize markE σ.E (T.keysE σ.E) = E2 at *
  (repeat' (first | ((with_reducible apply gL); (first | refine yL0 ?_ | refine yL ?_ | ((with_reducible apply gL_go); (first | (refine JL_goq (km) (hφ := xF) (h := ?_); rintro _ _ rfl; try simp only [List.cons_append, List.nil_append]) | fail)) | (refine yM ?_; intro _) | (refine yA ?_; intro _ _ _ _) | ((with_reducible apply gL_gd); (first | (refine JL_guard xR xR ?_ ?_ <;> intro _ <;> (try (exfalso; first | contradiction | omega))) | (refine JL_guardb xR xR ?_ ?_ <;> (intro hgb; subst hgb)) | (refine JL_guardb xR xR ?_ ?_ <;> (intro hgb; fail_if_success (have : type_of% hgb := rfl))) | fail)) | fail)) | refine yJ ?_ | ((with_reducible apply gJ_if); (first | (refine J_if xR ?_ ?_ <;> intro _ <;> (try (exfalso; first | contradiction | omega))) | (refine J_ifb xR ?_ ?_ <;> (intro hgb; subst hgb)) | (refine J_ifb xR ?_ ?_ <;> intro _) | fail)) | fail))
  have kst := stalen_s b sp tb 4096 E2 (by omega) hE2
  have hkl2 : (T.keysE E2).length = E2.length := List.length_map _
  rw [hms, hkl2] at kst
  (repeat' (first | ((with_reducible apply gL); (first | refine yL0 ?_ | refine yL ?_ | ((with_reducible apply gL_go); (first | (refine JL_goq (kst) (hφ := xF) (h := ?_); rintro _ _ ⟨rfl, rfl⟩; try simp only [List.cons_append, List.nil_append]) | (refine JL_goq (rlen_s b sp tb 4096 E2) (hφ := xF) (h := ?_); rintro _ _ ⟨rfl, rfl⟩; try simp only [List.cons_append, List.nil_append]) | fail)) | (refine yM ?_; intro _) | (refine yA ?_; intro _ _ _ _) | ((with_reducible apply gL_gd); (first | (refine JL_guard xR xR ?_ ?_ <;> intro _ <;> (try (exfalso; first | contradiction | omega))) | (refine JL_guardb xR xR ?_ ?_ <;> (intro hgb; subst hgb)) | (refine JL_guardb xR xR ?_ ?_ <;> (intro hgb; fail_if_success (have : type_of% hgb := rfl))) | fail)) | fail)) | refine yJ ?_ | ((with_reducible apply gJ_if); (first | (refine J_if xR ?_ ?_ <;> intro _ <;> (try (exfalso; first | contradiction | omega))) | (refine J_ifb xR ?_ ?_ <;> (intro hgb; subst hgb)) | (refine J_ifb xR ?_ ?_ <;> intro _) | fail)) | fail))
  refine J_cutB (α := Tb) (fun σ => StOk 520 σ.S σ.c ∧ σ.E.length ≤ 720) (fun _ => [(5, .pointer (some ⟨b, 0, none⟩))]) (fun σ => rtL b sp tb 4096 σ.E σ.S σ.c) ?_ ?_
  · refine J_loop (α := Zx) ⟨0, ⟨E2, σ.S, σ.c⟩⟩ (fun x => 20 - x.i) (fun x => x.i ≤ 20 ∧ x.i ≤ bcts.length ∧ StOk (260 + 13 * x.i) x.σ.S x.σ.c ∧ x.σ.E.length ≤ 480 + 12 * x.i) (fun x => [(1, .slice ba bcts.length cb), (5, .pointer (some ⟨b, 0, none⟩)), (8, .int .i64 x.i)]) (fun x => rtL b sp tb 4096 x.σ.E x.σ.S x.σ.c) ⟨Nat.zero_le _, Nat.zero_le _, hs.mono (by dsimp only; omega), by dsimp only; omega⟩ ⟨rfl, rfl, rfl, trivial⟩ (fun w H => H.sel xZ) ?_
    rintro ⟨i, τ⟩ ⟨hi, hia, hs, hn⟩
    dsimp only at hi hia hs hn ⊢
    refine J_fact (φ := T.EOk τ.E) (fun w H => T.trOk H xA) ?_
    intro hE
    by_cases hlt : i < bcts.length ∧ i < 20
    · obtain ⟨h1, h2⟩ := hlt
      obtain ⟨x, hsx⟩ : ∃ x, bcts[i]? = some x := ⟨_, List.getElem?_eq_getElem h1⟩
      have hxm := List.mem_of_getElem? hsx
      have hxn := hy x hxm
      have hdv : Kn K (fun w => UpV w x.u) := hK.right.right.imp fun w h => h x hxm
      (repeat' (first | ((with_reducible apply gL); (first | refine yL0 ?_ | refine yL ?_ | ((with_reducible apply gL_go); (first | (refine JL_goq (few_s x.u hxn.u) (hφ := (by (try simp only [List.cons_append, List.nil_append]); exact fun w hr => hdv w hr.1)) (h := ?_); rintro _ _ ⟨u', hf, rfl, rfl⟩; try simp only [List.cons_append, List.nil_append]) | fail)) | (refine yM ?_; intro _) | (refine yA ?_; intro _ _ _ _) | ((with_reducible apply gL_gd); (first | (refine JL_guard xR xR ?_ ?_ <;> intro _ <;> (try (exfalso; first | contradiction | omega))) | (refine JL_guardb xR xR ?_ ?_ <;> (intro hgb; subst hgb)) | (refine JL_guardb xR xR ?_ ?_ <;> (intro hgb; fail_if_success (have : type_of% hgb := rfl))) | fail)) | fail)) | refine yJ ?_ | ((with_reducible apply gJ_if); (first | (refine J_if xR ?_ ?_ <;> intro _ <;> (try (exfalso; first | contradiction | omega))) | (refine J_ifb xR ?_ ?_ <;> (intro hgb; subst hgb)) | (refine J_ifb xR ?_ ?_ <;> intro _) | fail)) | fail))
      have ku := upd_s b sp tb 4096 u' τ (260 + 13 * i) (by omega) (by omega) hf.n (by omega) ⟨by omega, by omega⟩ hE hs
      have hnx := upd_next hs (by omega) hE hf
      (repeat' (first | ((with_reducible apply gL); (first | refine yL0 ?_ | refine yL ?_ | ((with_reducible apply gL_go); (first | (refine JL_goq (ku) (hφ := (by (try simp only [List.cons_append, List.nil_append]); exact fun w hr => hr.has (φ := fun w => UpV w u') xA)) (h := ?_); rintro _ _ ⟨a5, c5, rfl, rfl⟩; try simp only [List.cons_append, List.nil_append]) | fail)) | (refine yM ?_; intro _) | (refine yA ?_; intro _ _ _ _) | ((with_reducible apply gL_gd); (first | (refine JL_guard xR xR ?_ ?_ <;> intro _ <;> (try (exfalso; first | contradiction | omega))) | (refine JL_guardb xR xR ?_ ?_ <;> (intro hgb; subst hgb)) | (refine JL_guardb xR xR ?_ ?_ <;> (intro hgb; fail_if_success (have : type_of% hgb := rfl))) | fail)) | fail)) | refine yJ ?_ | ((with_reducible apply gJ_if); (first | (refine J_if xR ?_ ?_ <;> intro _ <;> (try (exfalso; first | contradiction | omega))) | (refine J_ifb xR ?_ ?_ <;> (intro hgb; subst hgb)) | (refine J_ifb xR ?_ ?_ <;> intro _) | fail)) | fail))
      exact J_again ⟨i + 1, updF 4096 u' τ⟩ (by dsimp only; omega) ⟨by dsimp only; omega, by dsimp only; omega, by dsimp only; exact hnx.1.mono (by omega), by dsimp only; omega⟩ ⟨rfl, rfl, rfl, trivial⟩ (fun w H => H.sel xZ)
    · (repeat' (first | ((with_reducible apply gL); (first | refine yL0 ?_ | refine yL ?_ | (refine yM ?_; intro _) | (refine yA ?_; intro _ _ _ _) | ((with_reducible apply gL_gd); (first | (refine JL_guard xR xR ?_ ?_ <;> intro _ <;> (try (exfalso; first | contradiction | omega))) | (refine JL_guardb xR xR ?_ ?_ <;> (intro hgb; subst hgb)) | (refine JL_guardb xR xR ?_ ?_ <;> (intro hgb; fail_if_success (have : type_of% hgb := rfl))) | fail)) | fail)) | refine yJ ?_ | ((with_reducible apply gJ_if); (first | (refine J_if xR ?_ ?_ <;> intro _ <;> (try (exfalso; first | contradiction | omega))) | (refine J_ifb xR ?_ ?_ <;> (intro hgb; subst hgb)) | (refine J_ifb xR ?_ ?_ <;> intro _) | fail)) | fail))
      all_goals exact J_meet τ ⟨hs.mono (by omega), by omega⟩ ⟨rfl, trivial⟩ (fun w H => H.sel xZ)
  clear hs hn hE km kst hms hml hE2 hkl hkl2
  rintro ⟨E, S, c⟩ ⟨hs, hn⟩
  dsimp only at hs hn ⊢
  refine J_fact (φ := T.EOk E) (fun w H => T.trOk H xA) ?_
  intro hE
  have hkl : (T.keysE E).length = E.length := List.length_map _
  have hkn : ∀ p ∈ T.keysE E, PfN p := fun p hp => by
    obtain ⟨e, he, rfl⟩ := List.mem_map.1 hp
    exact (hE.e e he).2.1
  have hsw := sweep_s b sp tb 4096 E S c 520 (by omega) (by omega) hE hs
  have hsk := sweep_keys E S c
  have hsn := sweep_none E S c hE.s
  have hE3 := dropF_srt (staleK E) ⟨E, S, c⟩ hE
  have hl3 : (dropF ⟨E, S, c⟩ (staleK E)).E.length ≤ E.length := dropF_len (staleK E) ⟨E, S, c⟩
  have hgl : staleK E = keepP (nst E) (T.keysE E) := rfl
  (repeat' (first | ((with_reducible apply gL); (first | refine yL0 ?_ | refine yL ?_ | ((with_reducible apply gL_go); (first | (refine JL_goq (rall_s b sp tb 4096 E (by omega)) (hφ := xF) (h := ?_); rintro _ _ ⟨a1, c1, rfl, rfl⟩; try simp only [List.cons_append, List.nil_append]) | fail)) | (refine yM ?_; intro _) | (refine yA ?_; intro _ _ _ _) | ((with_reducible apply gL_gd); (first | (refine JL_guard xR xR ?_ ?_ <;> intro _ <;> (try (exfalso; first | contradiction | omega))) | (refine JL_guardb xR xR ?_ ?_ <;> (intro hgb; subst hgb)) | (refine JL_guardb xR xR ?_ ?_ <;> (intro hgb; fail_if_success (have : type_of% hgb := rfl))) | fail)) | fail)) | refine yJ ?_ | ((with_reducible apply gJ_if); (first | (refine J_if xR ?_ ?_ <;> intro _ <;> (try (exfalso; first | contradiction | omega))) | (refine J_ifb xR ?_ ?_ <;> (intro hgb; subst hgb)) | (refine J_ifb xR ?_ ?_ <;> intro _) | fail)) | fail))
  rename_i b1 b2
  generalize hL : T.keysE E = L at *
  refine J_loop (α := Lg) ⟨0, some ⟨b1, 0, none⟩, 0, some ⟨b2, 0, none⟩, 0⟩ (fun x => L.length - x.i) (fun x => x.i ≤ L.length) (fun x => [(5, .pointer (some ⟨b, 0, none⟩)), (9, .slice x.la (keepP (fun p => !nst E p) (L.take x.i)).length x.lc), (10, .slice x.ga (keepP (nst E) (L.take x.i)).length x.gc), (11, .slice a1 L.length c1), (12, .int .i64 x.i)]) (fun x => [pts b (tbC sp 4096 tb) 72, T.trA tb E, stoA sp S c, Ar 41 2 pfC (.slice a1 L.length c1) L, Ar 41 2 pfC (.slice x.la (keepP (fun p => !nst E p) (L.take x.i)).length x.lc) (keepP (fun p => !nst E p) (L.take x.i)), Ar 41 2 pfC (.slice x.ga (keepP (nst E) (L.take x.i)).length x.gc) (keepP (nst E) (L.take x.i))]) (Nat.zero_le _) ⟨rfl, rfl, rfl, rfl, rfl, trivial⟩ (fun w H => ?_) ?_
  · have H := Ow.arLit0 (T := 41) (sz := 2) (enc := pfC) (b := b1) H xA
    have H := Ow.arLit0 (sz := 2) (enc := pfC) (b := b2) (T := 41) H xA
    exact H.sel xZ
  rintro ⟨i, la, lc, ga, gc⟩ hi
  dsimp only at hi ⊢
  by_cases hlt : i < L.length
  · obtain ⟨p, hp⟩ : ∃ p, L[i]? = some p := ⟨_, List.getElem?_eq_getElem hlt⟩
    have hpn := hkn p (List.mem_of_getElem? hp)
    have k1 := keepP_snoc (nst E) hp
    have k2 := keepP_snoc (fun p => !nst E p) hp
    have l1 := keepP_len (nst E) (L.take i)
    have l2 := keepP_len (fun p => !nst E p) (L.take i)
    have l3 : (L.take i).length = i := by rw [List.length_take]; omega
    have kg := rget_s b sp tb 4096 E S c p hpn
    generalize keepP (nst E) (L.take i) = LG at *
    generalize keepP (fun p => !nst E p) (L.take i) = LL at *
    rcases hq : nst E p with _ | _
    · have e : rgS E p = true := by rw [rgS_nst, hq]; rfl
      rw [e] at kg
      rw [hq] at k1
      simp only [hq, Bool.not_false, if_true, List.append_nil] at k2
      simp only [Bool.false_eq_true, if_false] at k1
      (repeat' (first | ((with_reducible apply gL); (first | refine yL0 ?_ | ((with_reducible apply gL_c_append); (first | (refine JL_ap1 (z := p) (tabE etab_ok xR) xR xR xA xA xC xR xL xR (by omega) xR xR ?_; intro a6 c6 _ _) | fail)) | refine yL ?_ | ((with_reducible apply gL_go); (first | (refine JL_goq (kg) (hφ := xF) (h := ?_); rintro _ _ ⟨d', hd', rfl, rfl⟩; try simp only [List.cons_append, List.nil_append]) | fail)) | (refine yM ?_; intro _) | (refine yA ?_; intro _ _ _ _) | ((with_reducible apply gL_gd); (first | (refine JL_guard xR xR ?_ ?_ <;> intro _ <;> (try (exfalso; first | contradiction | omega))) | (refine JL_guardb xR xR ?_ ?_ <;> (intro hgb; subst hgb)) | (refine JL_guardb xR xR ?_ ?_ <;> (intro hgb; fail_if_success (have : type_of% hgb := rfl))) | fail)) | fail)) | refine yJ ?_ | ((with_reducible apply gJ_if); (first | (refine J_if xR ?_ ?_ <;> intro _ <;> (try (exfalso; first | contradiction | omega))) | (refine J_ifb xR ?_ ?_ <;> (intro hgb; subst hgb)) | (refine J_ifb xR ?_ ?_ <;> intro _) | fail)) | fail))
      have hl6 : LG.length + 1 = (LG ++ [p]).length := by simp
      refine J_again ⟨i + 1, la, lc, a6, c6⟩ (by dsimp only; omega) (by dsimp only; omega) ⟨rfl, ?_, ?_, rfl, rfl, trivial⟩ (fun w H => ?_)
      · dsimp only; rw [k2]; rfl
      · dsimp only; rw [k1, ← hl6]; rfl
      · dsimp only; rw [k1, k2, ← hl6]; exact H.sel xZ
    · have e : rgS E p = false := by rw [rgS_nst, hq]; rfl
      rw [e] at kg
      simp only [hq, if_true, List.append_nil] at k1
      simp only [hq, Bool.not_true, Bool.false_eq_true, if_false] at k2
      (repeat' (first | ((with_reducible apply gL); (first | refine yL0 ?_ | ((with_reducible apply gL_c_append); (first | (refine JL_ap1 (z := p) (tabE etab_ok xR) xR xR xA xA xC xR xL xR (by omega) xR xR ?_; intro a6 c6 _ _) | fail)) | refine yL ?_ | ((with_reducible apply gL_go); (first | (refine JL_goq (kg) (hφ := xF) (h := ?_); rintro _ _ ⟨d', hd', rfl, rfl⟩; try simp only [List.cons_append, List.nil_append]) | fail)) | (refine yM ?_; intro _) | (refine yA ?_; intro _ _ _ _) | ((with_reducible apply gL_gd); (first | (refine JL_guard xR xR ?_ ?_ <;> intro _ <;> (try (exfalso; first | contradiction | omega))) | (refine JL_guardb xR xR ?_ ?_ <;> (intro hgb; subst hgb)) | (refine JL_guardb xR xR ?_ ?_ <;> (intro hgb; fail_if_success (have : type_of% hgb := rfl))) | fail)) | fail)) | refine yJ ?_ | ((with_reducible apply gJ_if); (first | (refine J_if xR ?_ ?_ <;> intro _ <;> (try (exfalso; first | contradiction | omega))) | (refine J_ifb xR ?_ ?_ <;> (intro hgb; subst hgb)) | (refine J_ifb xR ?_ ?_ <;> intro _) | fail)) | fail))
      have hl6 : LL.length + 1 = (LL ++ [p]).length := by simp
      refine J_again ⟨i + 1, a6, c6, ga, gc⟩ (by dsimp only; omega) (by dsimp only; omega) ⟨rfl, ?_, ?_, rfl, rfl, trivial⟩ (fun w H => ?_)
      · dsimp only; rw [k2, ← hl6]; rfl
      · dsimp only; rw [k1]; rfl
      · dsimp only; rw [k1, k2, ← hl6]; exact H.sel xZ
  obtain rfl : i = L.length := by omega
  rw [List.take_length, ← hgl, ← hsk]
  have ka := rall_s b sp tb 4096 (dropF ⟨E, S, c⟩ (staleK E)).E (by omega)
  have kt := stalen_s b sp tb 4096 (dropF ⟨E, S, c⟩ (staleK E)).E (by omega) hE3
  rw [hsn] at kt
  have hgn : (staleK E).length ≤ 1000 := by
    rw [hgl]
    have := keepP_len (nst E) L
    omega
  generalize dropF ⟨E, S, c⟩ (staleK E) = τ at *
  have hkn3 : (T.keysE τ.E).length ≤ 1000 := by
    have : (T.keysE τ.E).length = τ.E.length := List.length_map _
    omega
  generalize staleK E = G at *
  generalize T.keysE τ.E = M at *
  have kl1 := fun a c => list_s a ga c gc G.length G.length G rfl rfl (by omega)
  have kl2 := fun a c => list_s a la c lc M.length M.length M rfl rfl (by omega)
  (repeat' (first | ((with_reducible apply gL); (first | refine yL0 ?_ | refine yL ?_ | ((with_reducible apply gL_go); (first | (refine JL_goq (hsw) (hφ := xF) (h := ?_); rintro _ _ ⟨a7, c7, rfl, rfl⟩; try simp only [List.cons_append, List.nil_append]) | (refine JL_goq (kl1 _ _) (hφ := (by (try simp only [List.cons_append, List.nil_append]); exact fun w hr => ⟨Src.ar xA w hr, Src.ar xA w hr⟩)) (h := ?_); rintro _ _ ⟨rfl, rfl⟩; try simp only [List.cons_append, List.nil_append]) | (refine JL_goq (ka) (hφ := xF) (h := ?_); rintro _ _ ⟨a8, c8, rfl, rfl⟩; try simp only [List.cons_append, List.nil_append]) | (refine JL_goq (kl2 _ _) (hφ := (by (try simp only [List.cons_append, List.nil_append]); exact fun w hr => ⟨Src.ar xA w hr, Src.ar xA w hr⟩)) (h := ?_); rintro _ _ ⟨rfl, rfl⟩; try simp only [List.cons_append, List.nil_append]) | (refine JL_goq (kt) (hφ := xF) (h := ?_); rintro _ _ ⟨rfl, rfl⟩; try simp only [List.cons_append, List.nil_append]) | fail)) | (refine yM ?_; intro _) | (refine yA ?_; intro _ _ _ _) | ((with_reducible apply gL_gd); (first | (refine JL_guard xR xR ?_ ?_ <;> intro _ <;> (try (exfalso; first | contradiction | omega))) | (refine JL_guardb xR xR ?_ ?_ <;> (intro hgb; subst hgb)) | (refine JL_guardb xR xR ?_ ?_ <;> (intro hgb; fail_if_success (have : type_of% hgb := rfl))) | fail)) | fail)) | refine yJ ?_ | ((with_reducible apply gJ_if); (first | (refine J_if xR ?_ ?_ <;> intro _ <;> (try (exfalso; first | contradiction | omega))) | (refine J_ifb xR ?_ ?_ <;> (intro hgb; subst hgb)) | (refine J_ifb xR ?_ ?_ <;> intro _) | fail)) | fail))
  exact J_ret1 rfl (by rfl) fun w H => ⟨_, ⟨rfl, rfl⟩, H.sel .nil⟩
end Go.Proofs.YtnhabkipjmgaaaaGreat
namespace Go.Proofs.YtnhabkipjmgaaaaGreat
set_option linter.unusedSimpArgs false
set_option linter.unusedVariables false
open Go.RowKit Go.Pm

namespace ribStale
theorem walk {W : World} (n0 : Nat) {a0 : Option Addr} {l0 c0 : Nat} (g0 : Rs Tryz.prog W n0 50 (Value.slice a0 l0 c0).cells.toList) (n1 : Nat) {a1 : Option Addr} {l1 c1 : Nat} (g1 : Rs Tryz.prog W n1 50 (Value.slice a1 l1 c1).cells.toList) :
    Calls Tryz.prog 5 #[.slice a0 l0 c0, .slice a1 l1 c1] W fun e w' => e = .returned (.bool true) ∧ Only [] W w' := by
  obtain ⟨acts, rfl, h1, h2, h3⟩ := acts_arg g0
  obtain ⟨bcts, rfl, h4, h5, h6⟩ := acts_arg g1
  exact (stale_s a0 c0 acts h2 h1 a1 c1 bcts h5 h4).law (h3.and h6)
end ribStale
namespace ribStale
open Go.ChangeShapes Go.WideShapes Go.ChangeAt
set_option linter.unusedVariables false

theorem own : ownKnob Tryz.prog.godebug = none := by kernel_rfl
theorem laidOut : laidOutB Tryz.prog = true := by kernel_rfl

set_option maxRecDepth 100000 in
theorem lifted (os : Os) (started : os.Started) (H : Type) (enc : TypeId × Value → H) :
    ReturnsInHanded {} Tryz.checked os 5 .any (Rows.ribStaleSpec.pre6 enc Tryz.prog Tryz.f5 Rows.ribStaleRow.domain false) (Rows.ribStaleSpec.post enc Tryz.prog Tryz.f5 false true false false) := by
  refine returnsInHanded_of_change_sized (C := Tryz.checked) own started (by kernel_rfl) Tryz.func5
    (ChangeSpec.witness6 (enc := enc) (C := Tryz.checked) false ⟨#[], #[.slice none 0 0, .slice none 0 0], []⟩ 8 (by kernel_rfl) (by kernel_rfl) (by kernel_rfl) (by kernel_rfl)) ?_
  intro W base args ds gs before hval0 hW hcnd hsz hreach
  have hval : ∀ (j : Nat) t v, Tryz.f5.params[j]? = some t → args[j]? = some v → Value.okWide Tryz.prog W .any base t v := hval0
  have hW' := hW
  obtain ⟨p, q, hA0, hV, rfl, hfz, hnd⟩ := hW
  have hA : DataW.TrodAll enc Tryz.prog W 0 (fun _ => true) true Tryz.f5.params.toList args.toList ds p := hA0
  rw [Tryz.params5] at hA hval
  obtain ⟨v0, vs0, d0, ds0, p0, q0, hargs, rfl, rfl, h0, r0⟩ := trodAll_cons hA
  obtain ⟨v1, vs1, d1, ds1, p1, q1, rfl, rfl, rfl, h1, r1⟩ := trodAll_cons r0
  obtain ⟨rfl, rfl, rfl⟩ := trodAll_nil r1
  obtain rfl : args = #[v0, v1] := by cases args; simp_all
  obtain ⟨rfl, rfl⟩ := trodVars_none hV
  have k0 := h0
  have lt0 : ∀ x ∈ p0, x.block < W.heap.size := by obtain ⟨m, hm⟩ := k0; exact DataW.trod_lt m _ _ _ hm
  obtain ⟨n0, g0⟩ := Rs.of_weights hsz 0 (by first | rfl | (simp [Tryz.params5])) rfl h0
  obtain ⟨a0, l0, c0, rfl⟩ := okWide_slice Tryz.underlying50 (hval 0 50 v0 rfl rfl)
  have k1 := h1
  have lt1 : ∀ x ∈ p1, x.block < W.heap.size := by obtain ⟨m, hm⟩ := k1; exact DataW.trod_lt m _ _ _ hm
  obtain ⟨n1, g1⟩ := Rs.of_weights hsz 1 (by first | rfl | (simp [Tryz.params5])) rfl h1
  obtain ⟨a1, l1, c1, rfl⟩ := okWide_slice Tryz.underlying50 (hval 1 50 v1 rfl rfl)
  refine (walk n0 g0 n1 g1).mono fun e W' ⟨he, hg⟩ => ?_
  subst he
  have bel := hg.belowNil
  exact ⟨_, rfl, _, _, _, [], _, [], hW', trodAll_mk1 (shut_bool Tryz.underlying4 _), (trodAll_cons_mk (Below.trod laidOut (by kernel_rfl) (of_decide_eq_true (by kernel_rfl)) k0 bel lt0) (trodAll_cons_mk (Below.trod laidOut (by kernel_rfl) (of_decide_eq_true (by kernel_rfl)) k1 bel lt1) trodAll_mk0)), rfl, bel.frame _, fun h => by cases h⟩

theorem over : Rows.ribStaleRow.holds Tryz.pinned (OpenSpec.ofChange Rows.ribStaleSpec) :=
  OpenClaim.holds_of_wide 5 Tryz.f5 rfl rfl rfl rfl rfl rfl rfl ⟨rfl, rfl, rfl, rfl, rfl⟩ rfl rfl rfl rfl rfl (by kernel_rfl) Tryz.func5 (by kernel_rfl)
    (of_decide_eq_true (by kernel_rfl)) (by unfold Func.isWrapper; first | (rw [if_pos (by decide +kernel)]; kernel_rfl) | (rw [if_neg (by decide +kernel)]; exact ⟨rfl, rfl⟩))
    (fun os started H enc _ => lifted os started H enc)

/-- The statement. -/
theorem proved : Rows.RibStaleSaid := over
#print axioms proved
end ribStale
end Go.Proofs.YtnhabkipjmgaaaaGreat
