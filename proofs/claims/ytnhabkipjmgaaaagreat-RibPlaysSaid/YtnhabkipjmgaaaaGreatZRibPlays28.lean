/-
  Rb10, Rb11, Rb15: merged.
-/
import Derived.Test.YtnhabkipjmgaaaaGreatZRibPlays27
namespace Go.Proofs.YtnhabkipjmgaaaaGreat
set_option linter.unusedSimpArgs false
set_option linter.unusedVariables false
set_option maxRecDepth 20000
set_option maxHeartbeats 4000000
open Go.RowKit Go.Pm

open T (Pf PfN Rt Ah pfC)
section
variable {P : Program} {n : Nat} {W : World} {K : Hl} {k : List It} {tm : TM} {L R : List HP} {fn : Func} {Rr : Value → List HP → Prop}
theorem J_retC2 {t u s : Tmp} {v x : Value} {ty T : TypeId} {b : Nat} {cs : List Value} (hr : fn.results = #[.cell t ty, .tmp u, .tmp s]) (hv : evT tm (.tmp t) = some (.pointer (some ⟨b, 0, none⟩))) (hu : evT tm (.tmp u) = some v) (hx : evT tm (.tmp s) = some x) (hm : Tk L (pts b cs T) R) (ht : rowTy P ty cs.length = true) (hk : ∀ w, Ow W K L w → ∃ L', Rr (.tuple #[.agg cs.toArray, v, x]) L' ∧ Ow W K L' w) (hd : decM (tget tm mkK) = [] := by rfl) : J P n W K (fpost P fn W K Rr) (.code .ret :: k) tm L := J_outR hd fun a w hf hO => by
  refine ⟨L, hO, fun w' H => ?_⟩
  obtain ⟨L', h1, h2⟩ := hk w' H
  exact ⟨_, by simp [results, hr, hf.get? hv, hf.get? hu, hf.get? hx, run_cellR H hm ht, Array.getD_eq_getD_getElem?, asAddr], L', h1, h2⟩
end
theorem rnew_s (sp : Nat) (lim l2 : Int) (h1 : 0 ≤ lim) (h2 : lim ≤ 4096) (h3 : l2 = if lim = 0 then 4096 else lim) : Pact Tryz.prog 10 #[.pointer (some ⟨sp, 0, none⟩), .int .i64 lim] (fun _ => True) [stoA sp [] 0] (fun u L' => ∃ b tb, u = .tuple #[.pointer (some ⟨b, 0, none⟩), .int .i64 0] ∧ L' = rtL b sp tb l2 [] [] 0) := by
  subst h3
  refine pact Tryz.func10 rfl Tryz.ntmps10 rfl ?_
  intro W K _
  have hf := free_o 0 (by omega) sp [] [] 0 0 stok_nil rfl
  have e5 : (freeF [] 0).2 = 5 := rfl
  rw [e5] at hf
  by_cases h0 : lim = 0
  · subst h0
    (repeat' (first | ((with_reducible apply gL); (first | refine yL0 ?_ | refine yL ?_ | ((with_reducible apply gL_go); (first | (refine JL_goq (hf) (hφ := xF) (h := ?_); rintro _ _ ⟨rfl, rfl⟩; try simp only [List.cons_append, List.nil_append]) | (refine JL_goq (T.new_a) (hφ := xF) (h := ?_); rintro _ _ ⟨tb, rfl, rfl⟩; try simp only [List.cons_append, List.nil_append]) | fail)) | (refine yM ?_; intro _) | ((with_reducible apply gL_gd); (first | (refine JL_guard xR xR ?_ ?_ <;> intro _ <;> (try (exfalso; first | contradiction | omega))) | (refine JL_guardb xR xR ?_ ?_ <;> (intro hgb; subst hgb)) | (refine JL_guardb xR xR ?_ ?_ <;> (intro hgb; fail_if_success (have : type_of% hgb := rfl))) | fail)) | fail)) | refine yJ ?_ | ((with_reducible apply gJ_if); (first | (refine J_if xR ?_ ?_ <;> intro _ <;> (try (exfalso; first | contradiction | omega))) | (refine J_ifb xR ?_ ?_ <;> (intro hgb; subst hgb)) | (refine J_ifb xR ?_ ?_ <;> intro _) | fail)) | fail))
    all_goals (first | (exfalso; omega) | skip)
    exact J_ret2 rfl (by rfl) (by rfl) fun w H => ⟨_, ⟨_, tb, rfl, rfl⟩, H.sel xZ⟩
  · rw [if_neg h0]
    (repeat' (first | ((with_reducible apply gL); (first | refine yL0 ?_ | refine yL ?_ | ((with_reducible apply gL_go); (first | (refine JL_goq (hf) (hφ := xF) (h := ?_); rintro _ _ ⟨rfl, rfl⟩; try simp only [List.cons_append, List.nil_append]) | (refine JL_goq (T.new_a) (hφ := xF) (h := ?_); rintro _ _ ⟨tb, rfl, rfl⟩; try simp only [List.cons_append, List.nil_append]) | fail)) | (refine yM ?_; intro _) | ((with_reducible apply gL_gd); (first | (refine JL_guard xR xR ?_ ?_ <;> intro _ <;> (try (exfalso; first | contradiction | omega))) | (refine JL_guardb xR xR ?_ ?_ <;> (intro hgb; subst hgb)) | (refine JL_guardb xR xR ?_ ?_ <;> (intro hgb; fail_if_success (have : type_of% hgb := rfl))) | fail)) | fail)) | refine yJ ?_ | ((with_reducible apply gJ_if); (first | (refine J_if xR ?_ ?_ <;> intro _ <;> (try (exfalso; first | contradiction | omega))) | (refine J_ifb xR ?_ ?_ <;> (intro hgb; subst hgb)) | (refine J_ifb xR ?_ ?_ <;> intro _) | fail)) | fail))
    all_goals (first | (exfalso; omega) | skip)
    exact J_ret2 rfl (by rfl) (by rfl) fun w H => ⟨_, ⟨_, tb, rfl, rfl⟩, H.sel xZ⟩
section
variable (b sp tb : Nat) (lim : Int) (E : List T.Ent) (S : List En) (c : Int)
def rgX (p : Pf) : Nf := match T.getL E p with | none => zAt.nf | some o => getX S o.1
def rgS (p : Pf) : Bool := match T.getL E p with | none => false | some o => o.2
theorem rget_s (p : Pf) (hp : PfN p) : Pact Tryz.prog 15 #[.pointer (some ⟨b, 0, none⟩), .agg (pfC p).toArray] (fun _ => True) (rtL b sp tb lim E S c) (fun u L' => ∃ d', (AtF d' ∧ d'.nf = rgX E S p) ∧ u = .tuple #[.agg (atC d').toArray, .bool (rgS E p), .bool (T.getL E p).isSome] ∧ L' = [pts b (tbC sp lim tb) 72, T.trA tb E, stoA sp S c, has (fun w => AtV w d')]) := by
  refine pact Tryz.func15 rfl Tryz.ntmps15 rfl ?_
  intro W K _
  unfold rgX rgS
  rcases hg : T.getL E p with _ | o
  · have ho : T.oldV E p = T.zV := by unfold T.oldV; rw [hg]; rfl
    have k := T.get_old tb E p hp _ ho false (by rw [hg]; rfl)
    (repeat' (first | ((with_reducible apply gL); (first | refine yL0 ?_ | refine yL ?_ | ((with_reducible apply gL_go); (first | (refine JL_goq (ris_s b sp tb lim) (hφ := xF) (h := ?_); rintro _ _ ⟨rfl, rfl⟩; try simp only [List.cons_append, List.nil_append]) | (refine JL_goq (k) (hφ := xF) (h := ?_); rintro _ _ ⟨rfl, rfl⟩; try simp only [List.cons_append, List.nil_append]) | fail)) | (refine yM ?_; intro _) | fail)) | ((with_reducible apply gD); (first | (refine JD_nil ?_; try simp only [List.cons_append, List.nil_append]) | (refine JD_bar ?_; try simp only [List.cons_append, List.nil_append]) | refine yD ?_ | ((with_reducible apply gD_go); (first | (refine JD_goq (ris_s b sp tb lim) (hφ := xF) (h := ?_); rintro _ _ ⟨rfl, rfl⟩; try simp only [List.cons_append, List.nil_append]) | (refine JD_goq (k) (hφ := xF) (h := ?_); rintro _ _ ⟨rfl, rfl⟩; try simp only [List.cons_append, List.nil_append]) | fail)) | (refine yE ?_; intro _) | fail)) | refine yJ ?_ | ((with_reducible apply gJ_if); (first | (refine J_if xR ?_ ?_ <;> intro _ <;> (try (exfalso; first | contradiction | omega))) | (refine J_ifb xR ?_ ?_ <;> (intro hgb; subst hgb)) | (refine J_ifb xR ?_ ?_ <;> intro _) | fail)) | refine J_draw (id := 3) [0, 1, 2, 3, 4, 5, 6, 7, 8, 9, 10] [11] mixed xC xD xD ?_ | refine J_draw (id := 6) [0, 1, 2, 3, 4, 5, 6, 7, 8, 9, 10, 11] [12] mixed xC xD xD ?_ | refine J_draw (id := 7) [0, 1, 2, 3] [4, 5] mixed xC xD xD ?_ | fail))
    exact J_retC2 (cs := zC) rfl (by rfl) (by rfl) (by rfl) xA (by rfl) fun w H => ⟨_, ⟨zAt, ⟨zAt_f, rfl⟩, rfl, rfl⟩, (Ow.hasTrue (φ := fun w => AtV w zAt) H zAt_v).sel xZ⟩
  · have ho : T.oldV E p = o := by unfold T.oldV; rw [hg]; rfl
    have k := T.get_old tb E p hp _ ho true (by rw [hg]; rfl)
    (repeat' (first | ((with_reducible apply gL); (first | refine yL0 ?_ | refine yL ?_ | ((with_reducible apply gL_go); (first | (refine JL_goq (ris_s b sp tb lim) (hφ := xF) (h := ?_); rintro _ _ ⟨rfl, rfl⟩; try simp only [List.cons_append, List.nil_append]) | (refine JL_goq (k) (hφ := xF) (h := ?_); rintro _ _ ⟨rfl, rfl⟩; try simp only [List.cons_append, List.nil_append]) | (refine JL_goq (get_s sp S c o.1) (hφ := xF) (h := ?_); rintro _ _ ⟨d', P, hd', hnf, rfl, hP, hP2⟩; try simp only [List.cons_append, List.nil_append]) | fail)) | (refine yM ?_; intro _) | fail)) | ((with_reducible apply gD); (first | (refine JD_nil ?_; try simp only [List.cons_append, List.nil_append]) | (refine JD_bar ?_; try simp only [List.cons_append, List.nil_append]) | refine yD ?_ | ((with_reducible apply gD_go); (first | (refine JD_goq (ris_s b sp tb lim) (hφ := xF) (h := ?_); rintro _ _ ⟨rfl, rfl⟩; try simp only [List.cons_append, List.nil_append]) | (refine JD_goq (k) (hφ := xF) (h := ?_); rintro _ _ ⟨rfl, rfl⟩; try simp only [List.cons_append, List.nil_append]) | (refine JD_goq (get_s sp S c o.1) (hφ := xF) (h := ?_); rintro _ _ ⟨d', P, hd', hnf, rfl, hP, hP2⟩; try simp only [List.cons_append, List.nil_append]) | fail)) | (refine yE ?_; intro _) | fail)) | refine yJ ?_ | ((with_reducible apply gJ_if); (first | (refine J_if xR ?_ ?_ <;> intro _ <;> (try (exfalso; first | contradiction | omega))) | (refine J_ifb xR ?_ ?_ <;> (intro hgb; subst hgb)) | (refine J_ifb xR ?_ ?_ <;> intro _) | fail)) | refine J_draw (id := 3) [0, 1, 2, 3, 4, 5, 6, 7, 8, 9, 10] [11] mixed xC xD xD ?_ | refine J_draw (id := 6) [0, 1, 2, 3, 4, 5, 6, 7, 8, 9, 10, 11] [12] mixed xC xD xD ?_ | refine J_draw (id := 7) [0, 1, 2, 3] [4, 5] mixed xC xD xD ?_ | fail))
    subst hP2
    simp only [List.append_nil] at hP
    subst hP
    simp only [List.cons_append, List.nil_append]
    (repeat' (first | ((with_reducible apply gL); (first | refine yL0 ?_ | refine yL ?_ | (refine yM ?_; intro _) | fail)) | ((with_reducible apply gD); (first | (refine JD_nil ?_; try simp only [List.cons_append, List.nil_append]) | (refine JD_bar ?_; try simp only [List.cons_append, List.nil_append]) | refine yD ?_ | (refine yE ?_; intro _) | fail)) | refine yJ ?_ | ((with_reducible apply gJ_if); (first | (refine J_if xR ?_ ?_ <;> intro _ <;> (try (exfalso; first | contradiction | omega))) | (refine J_ifb xR ?_ ?_ <;> (intro hgb; subst hgb)) | (refine J_ifb xR ?_ ?_ <;> intro _) | fail)) | refine J_draw (id := 3) [0, 1, 2, 3, 4, 5, 6, 7, 8, 9, 10] [11] mixed xC xD xD ?_ | refine J_draw (id := 6) [0, 1, 2, 3, 4, 5, 6, 7, 8, 9, 10, 11] [12] mixed xC xD xD ?_ | refine J_draw (id := 7) [0, 1, 2, 3] [4, 5] mixed xC xD xD ?_ | fail))
    exact J_retC2 (cs := atC d') rfl (by rfl) (by rfl) (by rfl) xA (by rfl) fun w H => ⟨_, ⟨d', ⟨hd', hnf⟩, rfl, rfl⟩, H.sel xZ⟩
theorem rlen_s : Pact Tryz.prog 14 #[.pointer (some ⟨b, 0, none⟩)] (fun _ => True) [pts b (tbC sp lim tb) 72, T.trA tb E] (fun u L' => u = .int .i64 E.length ∧ L' = [pts b (tbC sp lim tb) 72, T.trA tb E]) := by
  refine pact Tryz.func14 rfl Tryz.ntmps14 rfl ?_
  intro W K _
  (repeat' (first | ((with_reducible apply gL); (first | refine yL0 ?_ | refine yL ?_ | ((with_reducible apply gL_go); (first | (refine JL_goq (ris_s b sp tb lim) (hφ := xF) (h := ?_); rintro _ _ ⟨rfl, rfl⟩; try simp only [List.cons_append, List.nil_append]) | (refine JL_goq (T.len_a tb E) (hφ := xF) (h := ?_); rintro _ _ ⟨rfl, rfl⟩; try simp only [List.cons_append, List.nil_append]) | fail)) | fail)) | refine yJ ?_ | ((with_reducible apply gJ_if); (first | (refine J_if xR ?_ ?_ <;> intro _ <;> (try (exfalso; first | contradiction | omega))) | (refine J_ifb xR ?_ ?_ <;> (intro hgb; subst hgb)) | (refine J_ifb xR ?_ ?_ <;> intro _) | fail)) | fail))
  exact J_ret1 rfl (by rfl) fun w H => ⟨_, ⟨rfl, rfl⟩, H.sel xZ⟩
theorem rall_s (hn : E.length ≤ 4096) : Pact Tryz.prog 24 #[.pointer (some ⟨b, 0, none⟩)] (fun _ => True) [pts b (tbC sp lim tb) 72, T.trA tb E] (fun u L' => ∃ a cc, u = .slice a (T.keysE E).length cc ∧ L' = [pts b (tbC sp lim tb) 72, T.trA tb E, Ar 41 2 pfC (.slice a (T.keysE E).length cc) (T.keysE E)]) := by
  refine pact Tryz.func24 rfl Tryz.ntmps24 rfl ?_
  intro W K _
  (repeat' (first | ((with_reducible apply gL); (first | refine yL0 ?_ | refine yL ?_ | ((with_reducible apply gL_go); (first | (refine JL_goq (ris_s b sp tb lim) (hφ := xF) (h := ?_); rintro _ _ ⟨rfl, rfl⟩; try simp only [List.cons_append, List.nil_append]) | (refine JL_goq (T.all_a tb E hn) (hφ := xF) (h := ?_); rintro _ _ ⟨a, cc, rfl, rfl⟩; try simp only [List.cons_append, List.nil_append]) | fail)) | fail)) | refine yJ ?_ | ((with_reducible apply gJ_if); (first | (refine J_if xR ?_ ?_ <;> intro _ <;> (try (exfalso; first | contradiction | omega))) | (refine J_ifb xR ?_ ?_ <;> (intro hgb; subst hgb)) | (refine J_ifb xR ?_ ?_ <;> intro _) | fail)) | fail))
  exact J_ret1 rfl (by rfl) fun w H => ⟨_, ⟨a, cc, rfl, rfl⟩, H.sel xZ⟩
theorem old_s (x : T.Vt) : Pact Tryz.prog 50 #[.agg (T.vC x).toArray] (fun _ => True) [] (ret0 (.bool x.2)) := by
  refine pact Tryz.func50 rfl Tryz.ntmps50 rfl ?_
  intro W K _
  (repeat' (first | ((with_reducible apply gL); (first | refine yL0 ?_ | refine yL ?_ | (refine yM ?_; intro _) | fail)) | refine yJ ?_ | fail))
  exact J_ret1 rfl (by rfl) fun w H => ⟨_, ⟨rfl, rfl⟩, H.sel .nil⟩
def nst (p : Pf) : Bool := !(T.oldV E p).2
theorem rthose1_s (g h : Nat) (p : Pf) (hp : PfN p) : Pact Tryz.prog 81 (.agg (pfC p).toArray :: [.pointer (some ⟨g, 0, none⟩), .pointer (some ⟨h, 0, none⟩)]).toArray (fun w => w.cell? ⟨g, 0, none⟩ = some (.pointer (some ⟨b, 0, none⟩)) ∧ w.cell? ⟨h, 0, none⟩ = some (.func (.func 50) #[] #[])) [pts b (tbC sp lim tb) 72, T.trA tb E]
    (fun u L' => u = .bool (nst E p) ∧ L' = [pts b (tbC sp lim tb) 72, T.trA tb E]) := by
  refine pact Tryz.func81 rfl Tryz.ntmps81 rfl ?_
  intro W K hφ
  have h1 : Kn K (fun w => w.cell? ⟨g, 0, none⟩ = some (.pointer (some ⟨b, 0, none⟩))) := hφ.left
  have h2 : Kn K (fun w => w.cell? ⟨h, 0, none⟩ = some (.func (.func 50) #[] #[])) := hφ.right
  unfold nst
  obtain ⟨o, ho⟩ : ∃ o, T.oldV E p = o := ⟨_, rfl⟩
  have k := T.get_old tb E p hp o ho _ rfl
  rw [ho]
  have kq := old_s o
  rcases hq : o.2 with _ | _
  all_goals (
    rw [hq] at kq
    (repeat' (first | ((with_reducible apply gL); (first | refine yL0 ?_ | refine yL ?_ | ((with_reducible apply gL_go); (first | (refine JL_goq (k) (hφ := xF) (h := ?_); rintro _ _ ⟨rfl, rfl⟩; try simp only [List.cons_append, List.nil_append]) | (refine JL_goq (kq) (hφ := xF) (h := ?_); rintro _ _ ⟨rfl, rfl⟩; try simp only [List.cons_append, List.nil_append]) | fail)) | (refine yM ?_; intro _) | fail)) | ((with_reducible apply gD); (first | (refine JD_nil ?_; try simp only [List.cons_append, List.nil_append]) | (refine JD_bar ?_; try simp only [List.cons_append, List.nil_append]) | refine yD ?_ | ((with_reducible apply gD_go); (first | (refine JD_goq (k) (hφ := xF) (h := ?_); rintro _ _ ⟨rfl, rfl⟩; try simp only [List.cons_append, List.nil_append]) | (refine JD_goq (kq) (hφ := xF) (h := ?_); rintro _ _ ⟨rfl, rfl⟩; try simp only [List.cons_append, List.nil_append]) | fail)) | (refine yE ?_; intro _) | fail)) | refine yJ ?_ | refine J_draw (id := 1) [0, 1, 2, 3, 4, 5, 6, 7, 8, 9, 10] [11] mixed xC xD xD ?_ | fail))
    exact J_ret1 rfl (by rfl) fun w H => ⟨_, ⟨rfl, rfl⟩, H.sel xZ⟩)
def staleK : List Pf := keepP (nst E) (T.keysE E)
theorem rthose_s (hn : E.length ≤ 4096) (hE : T.EOk E) : Pact Tryz.prog 49 #[.pointer (some ⟨b, 0, none⟩), .func (.func 50) #[] #[]] (fun _ => True) [pts b (tbC sp lim tb) 72, T.trA tb E] (fun u L' => ∃ a cc, u = .slice a (staleK E).length cc ∧ L' = [pts b (tbC sp lim tb) 72, T.trA tb E, Ar 41 2 pfC (.slice a (staleK E).length cc) (staleK E)]) := by
  refine pact Tryz.func49 rfl Tryz.ntmps49 rfl ?_
  intro W K _
  have hkl : (T.keysE E).length ≤ 4096 := by show (List.map _ _).length ≤ _; rw [List.length_map]; exact hn
  have hkn : ∀ p ∈ T.keysE E, PfN p := fun p hp => by
    obtain ⟨e, he, rfl⟩ := List.mem_map.1 hp
    exact (hE.e e he).2.1
  (repeat' (first | ((with_reducible apply gL); (first | refine yL0 ?_ | refine yL ?_ | ((with_reducible apply gL_go); (first | (refine JL_goq (rall_s b sp tb lim E hn) (hφ := xF) (h := ?_); rintro _ _ ⟨a1, c1, rfl, rfl⟩; try simp only [List.cons_append, List.nil_append]) | fail)) | (refine yM ?_; intro _) | fail)) | refine yJ ?_ | fail))
  rename_i g h
  have hT : TstP 81 [.pointer (some ⟨g, 0, none⟩), .pointer (some ⟨h, 0, none⟩)] (nst E) _ (sats [pts b (tbC sp lim tb) 72, T.trA tb E]) := tst_of (by decide +kernel) (fun p hp => rthose1_s b sp tb lim E g h p hp)
  have kd := delete_f [pts b (tbC sp lim tb) 72, T.trA tb E] a1 c1 _ (T.keysE E) rfl 81 _ (nst E) _ hT hkn (by omega)
  simp only [List.cons_append, List.nil_append] at kd
  (repeat' (first | ((with_reducible apply gL); (first | refine yL0 ?_ | refine yL ?_ | ((with_reducible apply gL_go); (first | (refine JL_goq (kd) (hφ := (by (try simp only [List.cons_append, List.nil_append]); exact fun w hr => ⟨hr.cell xA rfl, hr.cell xA rfl⟩)) (h := ?_); rintro _ _ ⟨a2, c2, rfl, rfl⟩; try simp only [List.cons_append, List.nil_append]) | fail)) | (refine yM ?_; intro _) | fail)) | refine yJ ?_ | fail))
  exact J_ret1 rfl (by rfl) fun w H => ⟨_, ⟨a2, c2, rfl, rfl⟩, H.sel xZ⟩
theorem stalen_s (hn : E.length ≤ 4096) (hE : T.EOk E) : Pact Tryz.prog 23 #[.pointer (some ⟨b, 0, none⟩)] (fun _ => True) [pts b (tbC sp lim tb) 72, T.trA tb E] (fun u L' => u = .int .i64 (staleK E).length ∧ L' = [pts b (tbC sp lim tb) 72, T.trA tb E]) := by
  refine pact Tryz.func23 rfl Tryz.ntmps23 rfl ?_
  intro W K _
  (repeat' (first | ((with_reducible apply gL); (first | refine yL0 ?_ | refine yL ?_ | ((with_reducible apply gL_go); (first | (refine JL_goq (rthose_s b sp tb lim E hn hE) (hφ := xF) (h := ?_); rintro _ _ ⟨a1, c1, rfl, rfl⟩; try simp only [List.cons_append, List.nil_append]) | fail)) | fail)) | refine yJ ?_ | fail))
  exact J_ret1 rfl (by rfl) fun w H => ⟨_, ⟨rfl, rfl⟩, H.sel xZ⟩
theorem clear_s (B : Int) (hB : B ≤ 1000000000) (hn : E.length ≤ 4096) (hE : T.EOk E) (hs : StOk B S c) : Pact Tryz.prog 19 #[.pointer (some ⟨b, 0, none⟩)] (fun _ => True) (rtL b sp tb lim E S c) (fun u L' => ∃ a cc, u = .slice a (T.keysE E).length cc ∧ L' = [pts b (tbC sp lim tb) 72, T.trA tb (dropF ⟨E, S, c⟩ (T.keysE E)).E, stoA sp (dropF ⟨E, S, c⟩ (T.keysE E)).S (dropF ⟨E, S, c⟩ (T.keysE E)).c, Ar 41 2 pfC (.slice a (T.keysE E).length cc) (T.keysE E)]) := by
  refine pact Tryz.func19 rfl Tryz.ntmps19 rfl ?_
  intro W K _
  have hkl : (T.keysE E).length ≤ 4096 := by show (List.map _ _).length ≤ _; rw [List.length_map]; exact hn
  have hkn : ∀ p ∈ T.keysE E, PfN p := fun p hp => by
    obtain ⟨e, he, rfl⟩ := List.mem_map.1 hp
    exact (hE.e e he).2.1
  (repeat' (first | ((with_reducible apply gL); (first | refine yL0 ?_ | refine yL ?_ | ((with_reducible apply gL_go); (first | (refine JL_goq (rall_s b sp tb lim E hn) (hφ := xF) (h := ?_); rintro _ _ ⟨a1, c1, rfl, rfl⟩; try simp only [List.cons_append, List.nil_append]) | fail)) | fail)) | refine yJ ?_ | fail))
  have ka := away_s B hB b sp tb lim ⟨E, S, c⟩ a1 c1 _ (T.keysE E) rfl hkl hkn hs hn
  (repeat' (first | ((with_reducible apply gL); (first | refine yL0 ?_ | refine yL ?_ | ((with_reducible apply gL_go); (first | (refine JL_goq (ka) (hφ := xF) (h := ?_); rintro _ _ ⟨rfl, rfl⟩; try simp only [List.cons_append, List.nil_append]) | fail)) | fail)) | refine yJ ?_ | fail))
  exact J_ret1 rfl (by rfl) fun w H => ⟨_, ⟨a1, c1, rfl, rfl⟩, H.sel xZ⟩
theorem sweep_s (B : Int) (hB : B ≤ 1000000000) (hn : E.length ≤ 4096) (hE : T.EOk E) (hs : StOk B S c) : Pact Tryz.prog 18 #[.pointer (some ⟨b, 0, none⟩)] (fun _ => True) (rtL b sp tb lim E S c) (fun u L' => ∃ a cc, u = .slice a (staleK E).length cc ∧ L' = [pts b (tbC sp lim tb) 72, T.trA tb (dropF ⟨E, S, c⟩ (staleK E)).E, stoA sp (dropF ⟨E, S, c⟩ (staleK E)).S (dropF ⟨E, S, c⟩ (staleK E)).c, Ar 41 2 pfC (.slice a (staleK E).length cc) (staleK E)]) := by
  refine pact Tryz.func18 rfl Tryz.ntmps18 rfl ?_
  intro W K _
  have hkl : (staleK E).length ≤ 4096 := by
    have h1 := keepP_len (nst E) (T.keysE E)
    have h2 : (T.keysE E).length = E.length := List.length_map _
    show (keepP _ _).length ≤ _
    omega
  have hkn : ∀ p ∈ staleK E, PfN p := fun p hp => by
    obtain ⟨e, he, rfl⟩ := List.mem_map.1 (List.mem_filter.1 hp).1
    exact (hE.e e he).2.1
  (repeat' (first | ((with_reducible apply gL); (first | refine yL0 ?_ | refine yL ?_ | ((with_reducible apply gL_go); (first | (refine JL_goq (rthose_s b sp tb lim E hn hE) (hφ := xF) (h := ?_); rintro _ _ ⟨a1, c1, rfl, rfl⟩; try simp only [List.cons_append, List.nil_append]) | fail)) | fail)) | refine yJ ?_ | fail))
  have ka := away_s B hB b sp tb lim ⟨E, S, c⟩ a1 c1 _ (staleK E) rfl hkl hkn hs hn
  (repeat' (first | ((with_reducible apply gL); (first | refine yL0 ?_ | refine yL ?_ | ((with_reducible apply gL_go); (first | (refine JL_goq (ka) (hφ := xF) (h := ?_); rintro _ _ ⟨rfl, rfl⟩; try simp only [List.cons_append, List.nil_append]) | fail)) | fail)) | refine yJ ?_ | fail))
  exact J_ret1 rfl (by rfl) fun w H => ⟨_, ⟨a1, c1, rfl, rfl⟩, H.sel xZ⟩
def markE (E : List T.Ent) (ps : List Pf) : List T.Ent := ps.foldl (fun E p => T.putL E p ((T.oldV E p).1, true)) E
theorem markE_snoc (ps : List Pf) (p : Pf) : markE E (ps ++ [p]) = T.putL (markE E ps) p ((T.oldV (markE E ps) p).1, true) := by unfold markE; rw [List.foldl_append]; rfl
end
theorem markE_srt : ∀ (ps : List Pf) (E : List T.Ent), T.Srt E → T.Srt (markE E ps) ∧ (markE E ps).length ≤ E.length + ps.length
  | [], _, h => ⟨h, by simp [markE]⟩
  | p :: ps, E, h => by
    have h0 : T.Srt (T.putL E p ((T.oldV E p).1, true)) := T.srt_putL h
    obtain ⟨h1, h2⟩ := markE_srt ps (T.putL E p ((T.oldV E p).1, true)) h0
    have h3 : (T.putL E p ((T.oldV E p).1, true)).length ≤ E.length + 1 := by
      rw [T.len_putL h]
      split <;> omega
    refine ⟨h1, ?_⟩
    show (markE (T.putL E p ((T.oldV E p).1, true)) ps).length ≤ _
    simp only [List.length_cons]
    omega
theorem mark_s (b sp tb : Nat) (lim : Int) (E : List T.Ent) (hn : E.length ≤ 2000) (hE : T.EOk E) : Pact Tryz.prog 17 #[.pointer (some ⟨b, 0, none⟩)] (fun _ => True) [pts b (tbC sp lim tb) 72, T.trA tb E] (fun _ L' => L' = [pts b (tbC sp lim tb) 72, T.trA tb (markE E (T.keysE E))]) := by
  refine pact Tryz.func17 rfl Tryz.ntmps17 rfl ?_
  intro W K _
  have hkl : (T.keysE E).length = E.length := List.length_map _
  have hkn : ∀ p ∈ T.keysE E, PfN p ∧ Rt p := fun p hp => by
    obtain ⟨e, he, rfl⟩ := List.mem_map.1 hp
    exact ⟨(hE.e e he).2.1, (hE.e e he).1⟩
  (repeat' (first | ((with_reducible apply gL); (first | refine yL0 ?_ | refine yL ?_ | ((with_reducible apply gL_go); (first | (refine JL_goq (rall_s b sp tb lim E (by omega)) (hφ := xF) (h := ?_); rintro _ _ ⟨a, c, rfl, rfl⟩; try simp only [List.cons_append, List.nil_append]) | fail)) | (refine yM ?_; intro _) | fail)) | ((with_reducible apply gD); (first | (refine JD_nil ?_; try simp only [List.cons_append, List.nil_append]) | (refine JD_bar ?_; try simp only [List.cons_append, List.nil_append]) | refine yD ?_ | ((with_reducible apply gD_go); (first | (refine JD_goq (rall_s b sp tb lim E (by omega)) (hφ := xF) (h := ?_); rintro _ _ ⟨a, c, rfl, rfl⟩; try simp only [List.cons_append, List.nil_append]) | fail)) | (refine yE ?_; intro _) | fail)) | refine yJ ?_ | ((with_reducible apply gJ_if); (first | (refine J_if xR ?_ ?_ <;> intro _ <;> (try (exfalso; first | contradiction | omega))) | (refine J_ifb xR ?_ ?_ <;> (intro hgb; subst hgb)) | (refine J_ifb xR ?_ ?_ <;> intro _) | fail)) | refine J_draw (id := 3) [0, 1, 2, 3, 4, 5, 6, 7, 8, 9, 10] [11] mixed xC xD xD ?_ | refine J_draw (id := 5) [0, 1, 2, 3, 4, 5] [6] mixed xC xD xD ?_ | fail))
  generalize hL : T.keysE E = L at *
  refine J_loop (α := Nat) 0 (fun x => L.length - x) (fun x => x ≤ L.length) (fun x => [(0, .pointer (some ⟨b, 0, none⟩)), (7, .slice a L.length c), (8, .int .i64 L.length), (9, .int .i64 x)]) (fun x => [pts b (tbC sp lim tb) 72, T.trA tb (markE E (L.take x)), Ar 41 2 pfC (.slice a L.length c) L]) (Nat.zero_le _) ⟨rfl, rfl, rfl, rfl, trivial⟩ (fun w H => H.sel xZ) ?_
  intro k hk
  by_cases hlt : k < L.length
  · obtain ⟨p, hs2⟩ : ∃ p, L[k]? = some p := ⟨_, List.getElem?_eq_getElem hlt⟩
    have hpp := hkn p (List.mem_of_getElem? hs2)
    have hlen := (markE_srt (L.take k) E hE.s).2
    have htk : (L.take k).length = k := by rw [List.length_take]; omega
    rw [htk] at hlen
    have hsn := markE_snoc E (L.take k) p
    obtain ⟨E1, hE1⟩ : ∃ E1, markE E (L.take k) = E1 := ⟨_, rfl⟩
    rw [hE1] at hlen hsn ⊢
    refine J_fact (φ := T.EOk E1) (fun w H => T.trOk H xA) ?_
    intro hE2
    obtain ⟨o, ho⟩ : ∃ o, T.oldV E1 p = o := ⟨_, rfl⟩
    have hox : T.VN o := by rw [← ho]; exact oldV_n hE2 p
    have k := T.get_old tb E1 p hpp.1 o ho _ rfl
    have kp := T.put_a tb E1 p (o.1, true) hpp.1 hox (by omega)
    rw [T.putE_ok hpp.2 (.inr (by omega))] at kp
    dsimp only at kp
    rw [ho] at hsn
    (repeat' (first | ((with_reducible apply gL); (first | refine yL0 ?_ | refine yL ?_ | ((with_reducible apply gL_go); (first | (refine JL_goq (k) (hφ := xF) (h := ?_); rintro _ _ ⟨rfl, rfl⟩; try simp only [List.cons_append, List.nil_append]) | (refine JL_goq (kp) (hφ := xF) (h := ?_); rintro _ _ ⟨rfl, rfl⟩; try simp only [List.cons_append, List.nil_append]) | fail)) | (refine yM ?_; intro _) | fail)) | ((with_reducible apply gD); (first | (refine JD_nil ?_; try simp only [List.cons_append, List.nil_append]) | (refine JD_bar ?_; try simp only [List.cons_append, List.nil_append]) | refine yD ?_ | ((with_reducible apply gD_go); (first | (refine JD_goq (k) (hφ := xF) (h := ?_); rintro _ _ ⟨rfl, rfl⟩; try simp only [List.cons_append, List.nil_append]) | (refine JD_goq (kp) (hφ := xF) (h := ?_); rintro _ _ ⟨rfl, rfl⟩; try simp only [List.cons_append, List.nil_append]) | fail)) | (refine yE ?_; intro _) | fail)) | refine yJ ?_ | ((with_reducible apply gJ_if); (first | (refine J_if xR ?_ ?_ <;> intro _ <;> (try (exfalso; first | contradiction | omega))) | (refine J_ifb xR ?_ ?_ <;> (intro hgb; subst hgb)) | (refine J_ifb xR ?_ ?_ <;> intro _) | fail)) | refine J_draw (id := 3) [0, 1, 2, 3, 4, 5, 6, 7, 8, 9, 10] [11] mixed xC xD xD ?_ | refine J_draw (id := 5) [0, 1, 2, 3, 4, 5] [6] mixed xC xD xD ?_ | fail))
    refine J_again (_ + 1) (by omega) (by omega) ⟨rfl, rfl, rfl, rfl, trivial⟩ (fun w H => ?_)
    rw [take_snoc hs2, hsn]
    exact H.sel xZ
  · obtain rfl : k = L.length := by omega
    rw [List.take_length]
    (repeat' (first | ((with_reducible apply gL); (first | refine yL0 ?_ | refine yL ?_ | (refine yM ?_; intro _) | fail)) | ((with_reducible apply gD); (first | (refine JD_nil ?_; try simp only [List.cons_append, List.nil_append]) | (refine JD_bar ?_; try simp only [List.cons_append, List.nil_append]) | refine yD ?_ | (refine yE ?_; intro _) | fail)) | refine yJ ?_ | ((with_reducible apply gJ_if); (first | (refine J_if xR ?_ ?_ <;> intro _ <;> (try (exfalso; first | contradiction | omega))) | (refine J_ifb xR ?_ ?_ <;> (intro hgb; subst hgb)) | (refine J_ifb xR ?_ ?_ <;> intro _) | fail)) | refine J_draw (id := 3) [0, 1, 2, 3, 4, 5, 6, 7, 8, 9, 10] [11] mixed xC xD xD ?_ | refine J_draw (id := 5) [0, 1, 2, 3, 4, 5] [6] mixed xC xD xD ?_ | fail))
    exact J_end0 rfl fun w H => ⟨_, rfl, H.sel xZ⟩
end Go.Proofs.YtnhabkipjmgaaaaGreat
namespace Go.Proofs.YtnhabkipjmgaaaaGreat
set_option linter.unusedSimpArgs false
set_option linter.unusedVariables false
set_option maxRecDepth 20000
set_option maxHeartbeats 4000000
open Go.RowKit Go.Pm

open T (Pf PfN Rt Ah pfC)
section
variable (b sp tb : Nat) (lim : Int) (E : List T.Ent) (S : List En) (c : Int) (u : Up)
theorem upz_s (B : Int) (hB0 : 0 ≤ B) (hB : B ≤ 100000) (hu : UpN u) (hn : E.length ≤ 2000) (hI : I64 lim) (hf : ¬ ((E.length : Int) - (goneF E (upL u) u.wd).length + freshN E (upL u) > lim)) (hs : StOk B S c) (hne : upL u = []) :
    Pact Tryz.prog 12 #[.pointer (some ⟨b, 0, none⟩), .agg (upC u).toArray] (fun w => UpV w u) (rtL b sp tb lim E S c)
    (fun v L' => ∃ (σ1 : Tb) (R : List Pf) (a : Option Addr) (cc : Nat), σ1 = dropF ⟨E, S, c⟩ (goneF E (upL u) u.wd) ∧ R = srtP (goneF E (upL u) u.wd) ∧ v = .tuple #[.slice a R.length cc, .int .i64 0] ∧ L' = [pts b (tbC sp lim tb) 72, T.trA tb σ1.E, stoA sp σ1.S σ1.c, Ar 41 2 pfC (.slice a R.length cc) R]) := by
  refine pact Tryz.func12 rfl Tryz.ntmps12 rfl ?_
  intro W K hK
  have hgl := goneF_len E (upL u) u.wd
  have hwl := hu.wl
  have hfl := freshN_le E (upL u)
  have hgp : ∀ p ∈ goneF E (upL u) u.wd, PfN p := fun p hp => hu.wd p (mem_goneF.1 hp).1
  have hls := upL_srt u
  have kt := told_u u hu
  have hlpos : (upL u).length = 0 := by rw [hne]; rfl
  generalize hL : upL u = L at *
  generalize hG : goneF E L u.wd = G at *
  generalize hF : freshN E L = F at *
  (repeat' (first | ((with_reducible apply gL); (first | refine yL0 ?_ | refine yL ?_ | ((with_reducible apply gL_go); (first | (refine JL_goq (ris_s b sp tb lim) (hφ := xF) (h := ?_); rintro _ _ ⟨rfl, rfl⟩; try simp only [List.cons_append, List.nil_append]) | (refine JL_goq (kt) (hφ := (by (try simp only [List.cons_append, List.nil_append]); exact fun w hr => hK w hr.1)) (h := ?_); rintro _ _ ⟨a, c1, rfl, rfl⟩; try simp only [List.cons_append, List.nil_append]) | fail)) | (refine yM ?_; intro _) | (refine yA ?_; intro _ _ _ _) | fail)) | ((with_reducible apply gD); (first | (refine JD_nil ?_; try simp only [List.cons_append, List.nil_append]) | (refine JD_bar ?_; try simp only [List.cons_append, List.nil_append]) | refine yD ?_ | ((with_reducible apply gD_go); (first | (refine JD_goq (ris_s b sp tb lim) (hφ := xF) (h := ?_); rintro _ _ ⟨rfl, rfl⟩; try simp only [List.cons_append, List.nil_append]) | (refine JD_goq (kt) (hφ := (by (try simp only [List.cons_append, List.nil_append]); exact fun w hr => hK w hr.1)) (h := ?_); rintro _ _ ⟨a, c1, rfl, rfl⟩; try simp only [List.cons_append, List.nil_append]) | fail)) | fail)) | refine yJ ?_ | ((with_reducible apply gJ_if); (first | (refine J_if xR ?_ ?_ <;> intro _ <;> (try (exfalso; first | contradiction | omega))) | (refine J_ifb xR ?_ ?_ <;> (intro hgb; subst hgb)) | (refine J_ifb xR ?_ ?_ <;> intro _) | fail)) | refine J_draw (id := 5) [0, 1, 2, 3, 5, 6, 8, 9, 12, 13, 14, 15, 4, 7, 10, 11] [16] mixed xC xD xD ?_ | refine J_draw (id := 9) [0, 1, 2, 3, 4, 5] [6, 7, 8, 9, 10, 11] mixed xC xD xD ?_ | fail))
  have kg := gone_s b sp tb lim E a c1 _ L rfl hls (by omega) u hu
  rw [hG] at kg
  have kf := fresh_s b tb E a c1 _ L rfl (by omega) (fun p hp => by rw [hne] at hp; exact absurd hp List.not_mem_nil)
  rw [hF] at kf
  (repeat' (first | ((with_reducible apply gL); (first | refine yL0 ?_ | refine yL ?_ | ((with_reducible apply gL_go); (first | (refine JL_goq (kg) (hφ := (by (try simp only [List.cons_append, List.nil_append]); exact fun w hr => hK w hr.1)) (h := ?_); rintro _ _ ⟨a2, c2, rfl, rfl⟩; try simp only [List.cons_append, List.nil_append]) | (refine JL_goq (T.len_a tb E) (hφ := xF) (h := ?_); rintro _ _ ⟨rfl, rfl⟩; try simp only [List.cons_append, List.nil_append]) | (refine JL_goq (kf) (hφ := (by (try simp only [List.cons_append, List.nil_append]); exact fun w hr => hr.cell xA rfl)) (h := ?_); rintro _ _ ⟨rfl, rfl⟩; try simp only [List.cons_append, List.nil_append]) | fail)) | (refine yM ?_; intro _) | (refine yA ?_; intro _ _ _ _) | fail)) | ((with_reducible apply gD); (first | (refine JD_nil ?_; try simp only [List.cons_append, List.nil_append]) | (refine JD_bar ?_; try simp only [List.cons_append, List.nil_append]) | refine yD ?_ | ((with_reducible apply gD_go); (first | (refine JD_goq (kg) (hφ := (by (try simp only [List.cons_append, List.nil_append]); exact fun w hr => hK w hr.1)) (h := ?_); rintro _ _ ⟨a2, c2, rfl, rfl⟩; try simp only [List.cons_append, List.nil_append]) | (refine JD_goq (T.len_a tb E) (hφ := xF) (h := ?_); rintro _ _ ⟨rfl, rfl⟩; try simp only [List.cons_append, List.nil_append]) | (refine JD_goq (kf) (hφ := (by (try simp only [List.cons_append, List.nil_append]); exact fun w hr => hr.cell xA rfl)) (h := ?_); rintro _ _ ⟨rfl, rfl⟩; try simp only [List.cons_append, List.nil_append]) | fail)) | fail)) | refine yJ ?_ | ((with_reducible apply gJ_if); (first | (refine J_if xR ?_ ?_ <;> intro _ <;> (try (exfalso; first | contradiction | omega))) | (refine J_ifb xR ?_ ?_ <;> (intro hgb; subst hgb)) | (refine J_ifb xR ?_ ?_ <;> intro _) | fail)) | refine J_draw (id := 5) [0, 1, 2, 3, 5, 6, 8, 9, 12, 13, 14, 15, 4, 7, 10, 11] [16] mixed xC xD xD ?_ | refine J_draw (id := 9) [0, 1, 2, 3, 4, 5] [6, 7, 8, 9, 10, 11] mixed xC xD xD ?_ | fail))
  all_goals (first | (exfalso; omega) | skip)
  rename_i ub hq1 hq2
  obtain ⟨σ0, hσ0⟩ : ∃ σ0 : Tb, σ0 = ⟨E, S, c⟩ := ⟨_, rfl⟩
  have hst0 : StOk B σ0.S σ0.c := by rw [hσ0]; exact hs
  have hlen0 : σ0.E.length ≤ 2000 := by rw [hσ0]; exact hn
  refine J_loop (α := Nat) 0 (fun x => G.length - x) (fun x => x ≤ G.length) (fun x => [(0, .pointer (some ⟨b, 0, none⟩)), (3, .pointer (some ⟨ub, 0, none⟩)), (6, .slice a L.length c1), (7, .slice a2 G.length c2), (8, .int .i64 0), (9, .int .i64 0), (55, .slice a2 G.length c2), (56, .int .i64 G.length), (57, .int .i64 x)]) (fun x => [pts b (tbC sp lim tb) 72, T.trA tb (dropF σ0 (G.take x)).E, stoA sp (dropF σ0 (G.take x)).S (dropF σ0 (G.take x)).c, pts ub (upC u) 31, Ar 41 2 pfC (.slice a L.length c1) L, Ar 41 2 pfC (.slice a2 G.length c2) G]) (Nat.zero_le _) ⟨rfl, rfl, rfl, rfl, rfl, rfl, rfl, rfl, rfl, trivial⟩ (fun w H => by rw [List.take_zero, hσ0]; exact H.sel xZ) ?_
  intro k hk
  by_cases hlt : k < G.length
  · obtain ⟨p, hs2⟩ : ∃ p, G[k]? = some p := ⟨_, List.getElem?_eq_getElem hlt⟩
    have hst := dropF_ok (G.take k) σ0 hst0
    have hlen := dropF_len (G.take k) σ0
    obtain ⟨τ, hτ⟩ : ∃ τ, dropF σ0 (G.take k) = τ := ⟨_, rfl⟩
    rw [hτ] at hst hlen ⊢
    obtain ⟨E1, S1, c3⟩ := τ
    dsimp only at hst hlen ⊢
    have kd := rdrop_s B (by omega) b sp tb lim E1 S1 _ c3 p _ (hgp p (List.mem_of_getElem? hs2)) rfl (by omega) hst rfl
    (repeat' (first | ((with_reducible apply gL); (first | refine yL0 ?_ | refine yL ?_ | ((with_reducible apply gL_go); (first | (refine JL_goq (kd) (hφ := xF) (h := ?_); rintro _ _ rfl; try simp only [List.cons_append, List.nil_append]) | fail)) | (refine yM ?_; intro _) | (refine yA ?_; intro _ _ _ _) | fail)) | ((with_reducible apply gD); (first | (refine JD_nil ?_; try simp only [List.cons_append, List.nil_append]) | (refine JD_bar ?_; try simp only [List.cons_append, List.nil_append]) | refine yD ?_ | ((with_reducible apply gD_go); (first | (refine JD_goq (kd) (hφ := xF) (h := ?_); rintro _ _ rfl; try simp only [List.cons_append, List.nil_append]) | fail)) | fail)) | refine yJ ?_ | ((with_reducible apply gJ_if); (first | (refine J_if xR ?_ ?_ <;> intro _ <;> (try (exfalso; first | contradiction | omega))) | (refine J_ifb xR ?_ ?_ <;> (intro hgb; subst hgb)) | (refine J_ifb xR ?_ ?_ <;> intro _) | fail)) | refine J_draw (id := 5) [0, 1, 2, 3, 5, 6, 8, 9, 12, 13, 14, 15, 4, 7, 10, 11] [16] mixed xC xD xD ?_ | refine J_draw (id := 9) [0, 1, 2, 3, 4, 5] [6, 7, 8, 9, 10, 11] mixed xC xD xD ?_ | fail))
    refine J_again (k + 1) (by omega) (by omega) ⟨rfl, rfl, rfl, rfl, rfl, rfl, rfl, rfl, rfl, trivial⟩ (fun w H => ?_)
    rw [take_snoc hs2, dropF_snoc, hτ]
    exact H.sel xZ
  obtain rfl : k = G.length := by omega
  rw [List.take_length]
  obtain ⟨σ1, hσ1⟩ : ∃ σ1, dropF σ0 G = σ1 := ⟨_, rfl⟩
  rw [hσ1]
  (repeat' (first | ((with_reducible apply gL); (first | refine yL0 ?_ | refine yL ?_ | (refine yM ?_; intro _) | (refine yA ?_; intro _ _ _ _) | fail)) | ((with_reducible apply gD); (first | (refine JD_nil ?_; try simp only [List.cons_append, List.nil_append]) | (refine JD_bar ?_; try simp only [List.cons_append, List.nil_append]) | refine yD ?_ | fail)) | refine yJ ?_ | ((with_reducible apply gJ_if); (first | (refine J_if xR ?_ ?_ <;> intro _ <;> (try (exfalso; first | contradiction | omega))) | (refine J_ifb xR ?_ ?_ <;> (intro hgb; subst hgb)) | (refine J_ifb xR ?_ ?_ <;> intro _) | fail)) | refine J_draw (id := 5) [0, 1, 2, 3, 5, 6, 8, 9, 12, 13, 14, 15, 4, 7, 10, 11] [16] mixed xC xD xD ?_ | refine J_draw (id := 9) [0, 1, 2, 3, 4, 5] [6, 7, 8, 9, 10, 11] mixed xC xD xD ?_ | fail))
  refine J_loop (α := Unit) () (fun _ => 0) (fun _ => True) (fun x => [(0, .pointer (some ⟨b, 0, none⟩)), (3, .pointer (some ⟨ub, 0, none⟩)), (6, .slice a L.length c1), (7, .slice a2 G.length c2), (8, .int .i64 0), (9, .int .i64 0), (65, .slice a L.length c1), (66, .int .i64 L.length), (67, .int .i64 0)]) (fun x => [pts b (tbC sp lim tb) 72, T.trA tb σ1.E, stoA sp σ1.S σ1.c, pts ub (upC u) 31, Ar 41 2 pfC (.slice a L.length c1) L, Ar 41 2 pfC (.slice a2 G.length c2) G]) trivial ⟨rfl, rfl, rfl, rfl, rfl, rfl, rfl, rfl, rfl, trivial⟩ (fun w H => H.sel xZ) ?_
  intro _ _
  have ksr := sort_s a2 c2 _ G rfl (by omega)
  (repeat' (first | ((with_reducible apply gL); (first | refine yL0 ?_ | refine yL ?_ | ((with_reducible apply gL_go); (first | (refine JL_goq (ksr) (hφ := xF) (h := ?_); rintro _ _ ⟨rfl, rfl⟩; try simp only [List.cons_append, List.nil_append]) | fail)) | (refine yM ?_; intro _) | (refine yA ?_; intro _ _ _ _) | fail)) | ((with_reducible apply gD); (first | (refine JD_nil ?_; try simp only [List.cons_append, List.nil_append]) | (refine JD_bar ?_; try simp only [List.cons_append, List.nil_append]) | refine yD ?_ | ((with_reducible apply gD_go); (first | (refine JD_goq (ksr) (hφ := xF) (h := ?_); rintro _ _ ⟨rfl, rfl⟩; try simp only [List.cons_append, List.nil_append]) | fail)) | fail)) | refine yJ ?_ | ((with_reducible apply gJ_if); (first | (refine J_if xR ?_ ?_ <;> intro _ <;> (try (exfalso; first | contradiction | omega))) | (refine J_ifb xR ?_ ?_ <;> (intro hgb; subst hgb)) | (refine J_ifb xR ?_ ?_ <;> intro _) | fail)) | refine J_draw (id := 5) [0, 1, 2, 3, 5, 6, 8, 9, 12, 13, 14, 15, 4, 7, 10, 11] [16] mixed xC xD xD ?_ | refine J_draw (id := 9) [0, 1, 2, 3, 4, 5] [6, 7, 8, 9, 10, 11] mixed xC xD xD ?_ | fail))
  all_goals (first | (exfalso; omega) | skip)
  refine J_ret2 rfl (by rfl) (by rfl) fun w H => ⟨_, ⟨σ1, srtP G, a2, c2, by rw [← hσ1, hσ0], rfl, by rw [srtP_len], rfl⟩, ?_⟩
  rw [srtP_len]
  exact H.sel xZ
end
end Go.Proofs.YtnhabkipjmgaaaaGreat
namespace Go.Proofs.YtnhabkipjmgaaaaGreat
set_option linter.unusedSimpArgs false
set_option linter.unusedVariables false
open Go.RowKit Go.Pm

open T (Pf PfN Rt Ah pfC)
theorem nodup_len {α : Type} [DecidableEq α] : ∀ (l m : List α), l.Pairwise (· ≠ ·) → (∀ x ∈ l, x ∈ m) → l.length ≤ m.length
  | [], _, _, _ => Nat.zero_le _
  | x :: l, m, h, hs => by
    obtain ⟨h1, h2⟩ := List.pairwise_cons.1 h
    have hx := hs x (by simp)
    have h3 := nodup_len l (m.erase x) h2 (fun y hy => (List.mem_erase_of_ne (fun e => h1 y hy e.symm)).2 (hs y (by simp [hy])))
    rw [List.length_erase_of_mem hx] at h3
    have := List.length_pos_of_mem hx
    simp only [List.length_cons]
    omega
theorem stok_len {B : Int} {S : List En} {c : Int} (h : StOk B S c) : (S.length : Int) ≤ c := by
  have hc := h.cnt
  have h1 := nodup_len (S.map fun e => e.id.toNat) (List.range' 1 c.toNat) (by
    rw [List.pairwise_map]
    refine List.Pairwise.imp_of_mem ?_ h.idd
    intro a b ha hb hn he
    have := h.ids a ha
    have := h.ids b hb
    omega) (by
    intro x hx
    obtain ⟨e, he, rfl⟩ := List.mem_map.1 hx
    have := h.ids e he
    rw [List.mem_range'_1]
    omega)
  rw [List.length_map, List.length_range'] at h1
  omega
theorem fnd_mem {B : Int} {S : List En} {c : Int} (h : StOk B S c) {e : En} (he : e ∈ S) : fnd S e.id = some e := by
  obtain ⟨A, C, rfl⟩ := List.append_of_mem he
  have hm := h.mid
  unfold fnd
  rw [List.find?_append, List.find?_eq_none.2 (fun a ha => by simpa using (hm.1 a ha).1), List.find?_cons_of_pos (by simp)]
  rfl
theorem fnd_map {g : En → En} (hg : ∀ a, (g a).id = a.id) (S : List En) (j : Int) : fnd (S.map g) j = (fnd S j).map g := by
  unfold fnd
  rw [List.find?_map]
  have : ((fun e : En => decide (e.id = j)) ∘ g) = fun e : En => decide (e.id = j) := funext fun a => by show decide ((g a).id = j) = _; rw [hg]
  rw [this]
theorem cntF_pos {B : Int} {S : List En} {c : Int} (h : StOk B S c) {j : Int} : 0 < cntF S j ↔ ∃ e, fnd S j = some e := by
  unfold cntF
  cases hf : fnd S j with
  | none => simp
  | some e =>
    obtain ⟨A, C, rfl, _⟩ := fnd_some hf
    have := (h.n e (by simp)).1
    simp; omega
theorem cntF_nn {B : Int} {S : List En} {c : Int} (h : StOk B S c) (j : Int) : 0 ≤ cntF S j := by
  unfold cntF
  cases hf : fnd S j with
  | none => exact Int.le_refl _
  | some e =>
    obtain ⟨A, C, rfl, _⟩ := fnd_some hf
    have := (h.n e (by simp)).1
    show 0 ≤ e.n
    omega
theorem getX_inj {B : Int} {S : List En} {c : Int} (h : StOk B S c) {i j : Int} (hi : 0 < cntF S i) (hj : 0 < cntF S j) (he : getX S i = getX S j) : i = j := by
  obtain ⟨a, ha⟩ := (cntF_pos h).1 hi
  obtain ⟨b, hb⟩ := (cntF_pos h).1 hj
  unfold getX at he
  rw [ha, hb] at he
  dsimp only at he
  obtain ⟨A, C, rfl, h1, _⟩ := fnd_some ha
  have hm := h.mid
  obtain ⟨A2, C2, hs, h2, _⟩ := fnd_some hb
  have hb2 : b ∈ A ++ a :: C := by rw [hs]; simp
  rcases List.mem_append.1 hb2 with h3 | h3
  · exact absurd he.symm (hm.1 b h3).2
  · rcases List.mem_cons.1 h3 with rfl | h3
    · exact h1.symm.trans h2
    · exact absurd he.symm (hm.2 b h3).2
structure KeepV (S : List En) (x : Nf) (S1 : List En) (id : Int) : Prop where
  pos : 0 < id
  cnt : ∀ j, cntF S1 j = cntF S j + if j = id then 1 else 0
  get : ∀ j, 0 < cntF S j → getX S1 j = getX S j
  new : getX S1 id = x
theorem keep_v {B : Int} {S : List En} {c : Int} {x : Nf} (h : StOk B S c) (hB : B < 4096) (hx : okN x = true) : ∃ S1 c1 id, keepF S c x = ((S1, c1), id, 0) ∧ KeepV S x S1 id := by
  have hl := stok_len h
  have hc := h.cnt
  unfold keepF
  rw [hx]
  dsimp only
  cases hf : fndX S x with
  | some e =>
    dsimp only
    have hm : e ∈ S := List.mem_of_find?_eq_some hf
    have hex : e.x = x := by simpa using List.find?_some hf
    have hfe := fnd_mem h hm
    have hg : ∀ j, fnd (S.map (fun a => if a.x = x then (⟨a.id, a.n + 1, a.x⟩ : En) else a)) j = (fnd S j).map (fun a => if a.x = x then (⟨a.id, a.n + 1, a.x⟩ : En) else a) := fnd_map (fun a => by split <;> rfl) S
    refine ⟨_, _, _, rfl, (h.ids e hm).1, fun j => ?_, fun j hj => ?_, ?_⟩
    · unfold cntF
      rw [hg]
      cases hj : fnd S j with
      | none =>
        have : j ≠ e.id := fun he => by rw [he, hfe] at hj; cases hj
        show (0 : Int) = 0 + _
        rw [if_neg this]; rfl
      | some a =>
        have haj : a.id = j := by simpa using List.find?_some hj
        have ham : a ∈ S := List.mem_of_find?_eq_some hj
        show (if a.x = x then (⟨a.id, a.n + 1, a.x⟩ : En) else a).n = a.n + _
        by_cases hax : a.x = x
        · have : j = e.id := by
            refine getX_inj h (i := j) (j := e.id) ((cntF_pos h).2 ⟨a, hj⟩) ((cntF_pos h).2 ⟨e, hfe⟩) ?_
            unfold getX
            rw [hj, hfe]
            exact hax.trans hex.symm
          rw [if_pos hax, if_pos this]
        · have : j ≠ e.id := fun he => by
            rw [he, hfe] at hj
            cases hj
            exact hax hex
          rw [if_neg hax, if_neg this]
          omega
    · obtain ⟨a, ha⟩ := (cntF_pos h).1 hj
      unfold getX
      rw [hg, ha]
      show (if a.x = x then (⟨a.id, a.n + 1, a.x⟩ : En) else a).x = a.x
      split <;> rfl
    · unfold getX
      rw [hg, hfe]
      show (if e.x = x then (⟨e.id, e.n + 1, e.x⟩ : En) else e).x = x
      split <;> exact hex
  | none =>
    dsimp only
    rw [if_neg (by omega)]
    have hn : fnd S (c + 1) = none := by
      refine List.find?_eq_none.2 fun a ha => ?_
      have := (h.ids a ha).2
      simp
      omega
    have hg : ∀ j, fnd (S ++ [⟨c + 1, 1, x⟩]) j = (fnd S j).or (if c + 1 = j then some ⟨c + 1, 1, x⟩ else none) := fun j => by
      unfold fnd
      rw [List.find?_append, List.find?_singleton]
      congr 1
      by_cases h : c + 1 = j <;> simp [h]
    refine ⟨_, _, _, rfl, by omega, fun j => ?_, fun j hj => ?_, ?_⟩
    · unfold cntF
      rw [hg]
      cases hj : fnd S j with
      | none =>
        by_cases hcj : c + 1 = j
        · simp [hcj]
        · have : ¬ j = c + 1 := fun e => hcj e.symm
          simp [hcj, this]
      | some a =>
        have : j ≠ c + 1 := fun e => by rw [e, hn] at hj; cases hj
        simp [this]
    · obtain ⟨a, ha⟩ := (cntF_pos h).1 hj
      unfold getX
      rw [hg, ha]
      rfl
    · unfold getX
      rw [hg, hn]
      simp
theorem free_v {B : Int} {S : List En} {c id : Int} (h : StOk B S c) (hi : 0 < cntF S id) : (∀ j, cntF (freeF S id).1 j = cntF S j - if j = id then 1 else 0) ∧ ∀ j, 0 < cntF (freeF S id).1 j → getX (freeF S id).1 j = getX S j := by
  obtain ⟨e, he⟩ := (cntF_pos h).1 hi
  have hid : e.id = id := by simpa using List.find?_some he
  unfold freeF
  rw [he]
  dsimp only
  by_cases h1 : e.n = 1
  · rw [if_pos h1]
    have hg : ∀ j, fnd (S.filter (fun a => decide (a.id ≠ id))) j = if j = id then none else fnd S j := fun j => by
      unfold fnd
      rw [List.find?_filter]
      by_cases hj : j = id
      · rw [if_pos hj]
        refine List.find?_eq_none.2 fun a _ => ?_
        simp
        omega
      · rw [if_neg hj]
        congr 1
        funext a
        by_cases ha : a.id = j
        · simp [ha, hj]
        · simp [ha]
    refine ⟨fun j => ?_, fun j hj => ?_⟩
    · dsimp only
      unfold cntF
      rw [hg]
      by_cases hj : j = id
      · rw [if_pos hj, if_pos hj, hj, he]
        show (0 : Int) = e.n - 1
        omega
      · rw [if_neg hj, if_neg hj]
        omega
    · dsimp only at hj ⊢
      unfold cntF at hj
      rw [hg] at hj
      unfold getX
      rw [hg]
      by_cases hji : j = id
      · rw [if_pos hji] at hj
        exact absurd hj (by decide)
      · rw [if_neg hji]
  · rw [if_neg h1]
    have hg : ∀ j, fnd (S.map (fun a => if a.id = id then (⟨a.id, a.n - 1, a.x⟩ : En) else a)) j = (fnd S j).map (fun a => if a.id = id then (⟨a.id, a.n - 1, a.x⟩ : En) else a) := fnd_map (fun a => by split <;> rfl) S
    refine ⟨fun j => ?_, fun j hj => ?_⟩
    · dsimp only
      unfold cntF
      rw [hg]
      cases hj : fnd S j with
      | none =>
        have : j ≠ id := fun e2 => by rw [e2, he] at hj; cases hj
        show (0 : Int) = 0 - _
        rw [if_neg this]; rfl
      | some a =>
        have haj : a.id = j := by simpa using List.find?_some hj
        show (if a.id = id then (⟨a.id, a.n - 1, a.x⟩ : En) else a).n = a.n - _
        rw [haj]
        split <;> simp
    · dsimp only at hj ⊢
      unfold getX
      rw [hg]
      cases fnd S j with
      | none => rfl
      | some a =>
        show (if a.id = id then (⟨a.id, a.n - 1, a.x⟩ : En) else a).x = a.x
        split <;> rfl
end Go.Proofs.YtnhabkipjmgaaaaGreat
