/-
  RibPlays: a table answers what the document says; the store keeps as many as there are routes.
-/
import Derived.Test.YtnhabkipjmgaaaaGreatZRibPlays34
import Derived.HandedShaped
namespace Go.Proofs.YtnhabkipjmgaaaaGreat
set_option linter.unusedSimpArgs false
set_option linter.unusedVariables false
set_option maxRecDepth 20000
set_option maxHeartbeats 4000000
open Go.RowKit Go.Pm

open T (Pf PfN Rt Ah pfC)
structure QxP where
  i : Nat
  σ : Tb
  a : Option Addr
  c : Nat
  L : List Ro
structure QpOk (n : Nat) (x : QxP) : Prop where
  i : x.i ≤ 40
  n : x.i ≤ n
  s : Sx x.i x.σ
  a : Al x.σ x.L
  e : T.EOk x.σ.E
section
variable {P : Program} {K : Hl} {L : List HP} {d : Option Tmp} {x y : Operand} {xt yt T : TypeId} {pos : String} {af : Array Edge} {gd : Option (Nat × Bool)} {tm : TM} {k : IntKind} {a b : Int}
theorem pe_leqT (hx : evT tm x = some (.int k a)) (hy : evT tm y = some (.int k b)) (h : a ≤ b) : PE P K L ⟨d, .binOp .leq xt x y yt, T, pos, af, gd⟩ (tget tm) (.bool true) := by
  have := pe_leq (P := P) (K := K) (L := L) (d := d) (xt := xt) (yt := yt) (T := T) (pos := pos) (af := af) (gd := gd) hx hy
  rwa [decide_eq_true h] at this
theorem pe_leqF (hx : evT tm x = some (.int k a)) (hy : evT tm y = some (.int k b)) (h : ¬ a ≤ b) : PE P K L ⟨d, .binOp .leq xt x y yt, T, pos, af, gd⟩ (tget tm) (.bool false) := by
  have := pe_leq (P := P) (K := K) (L := L) (d := d) (xt := xt) (yt := yt) (T := T) (pos := pos) (af := af) (gd := gd) hx hy
  rwa [decide_eq_false h] at this
end
theorem plays_s (limit : Int) (hlim : I64 limit) (aa : Option Addr) (ca : Nat) (acts : List Ac) (hx : ∀ x ∈ acts, AcN x) (hl : acts.length ≤ 140737488355328) (p : Pf) (hp : PfN p) : Pact Tryz.prog 6 #[.int .i64 limit, .slice aa acts.length ca, .agg (pfC p).toArray] (fun w => Vw w (.slice aa acts.length ca) 17 acts.length (flat acC acts) ∧ ∀ x ∈ acts, UpV w x.u) [] (ret0 (.bool true)) := by
  refine pact Tryz.func6 rfl Tryz.ntmps6 rfl ?_
  intro W K hK
  have hv := hK.left
  by_cases hbad : limit < 0 ∨ 4096 < limit
  · have kn := fun sp => rnewbad_s sp limit hbad
    have kf := rfnewbad_s limit hbad
    (repeat' (first | ((with_reducible apply gL); (first | refine yL0 ?_ | refine yL ?_ | ((with_reducible apply gL_go); (first | (refine JL_goq (new_s) (hφ := xF) (h := ?_); rintro _ _ ⟨sp, rfl, rfl⟩; try simp only [List.cons_append, List.nil_append]) | (refine JL_goq (kn _) (hφ := xF) (h := ?_); rintro _ _ ⟨rfl, rfl⟩; try simp only [List.cons_append, List.nil_append]) | (refine JL_goq (kf) (hφ := xF) (h := ?_); rintro _ _ ⟨rfl, rfl⟩; try simp only [List.cons_append, List.nil_append]) | fail)) | (refine yM ?_; intro _) | ((with_reducible apply gL_gd); (first | (refine JL_guard xR xR ?_ ?_ <;> intro _ <;> (try (exfalso; first | contradiction | omega))) | (refine JL_guardb xR xR ?_ ?_ <;> (intro hgb; subst hgb)) | (refine JL_guardb xR xR ?_ ?_ <;> (intro hgb; fail_if_success (have : type_of% hgb := rfl))) | fail)) | fail)) | refine yJ ?_ | ((with_reducible apply gJ_if); (first | (refine J_if xR ?_ ?_ <;> intro _ <;> (try (exfalso; first | contradiction | omega))) | (refine J_ifb xR ?_ ?_ <;> (intro hgb; subst hgb)) | (refine J_ifb xR ?_ ?_ <;> intro _) | fail)) | fail))
    refine J_loop (α := Unit) () (fun _ => 0) (fun _ => True) (fun x => [(1, .slice aa acts.length ca), (8, .pointer none), (10, .pointer none), (12, .int .i64 0)]) (fun x => []) trivial ⟨rfl, rfl, rfl, rfl, trivial⟩ (fun w H => H.sel xZ) ?_
    intro _ _
    (repeat' (first | ((with_reducible apply gL); (first | refine yL0 ?_ | refine yL ?_ | ((with_reducible apply gL_go); (first | (refine JL_goq (works_s) (hφ := xF) (h := ?_); rintro _ _ ⟨rfl, rfl⟩; try simp only [List.cons_append, List.nil_append]) | fail)) | (refine yM ?_; intro _) | ((with_reducible apply gL_gd); (first | (refine JL_guard xR xR ?_ ?_ <;> intro _ <;> (try (exfalso; first | contradiction | omega))) | (refine JL_guardb xR xR ?_ ?_ <;> (intro hgb; subst hgb)) | (refine JL_guardb xR xR ?_ ?_ <;> (intro hgb; fail_if_success (have : type_of% hgb := rfl))) | fail)) | fail)) | refine yJ ?_ | ((with_reducible apply gJ_if); (first | (refine J_if xR ?_ ?_ <;> intro _ <;> (try (exfalso; first | contradiction | omega))) | (refine J_ifb xR ?_ ?_ <;> (intro hgb; subst hgb)) | (refine J_ifb xR ?_ ?_ <;> intro _) | fail)) | fail))
    all_goals exact J_ret1 rfl (by rfl) fun w H => ⟨_, ⟨rfl, rfl⟩, H.sel .nil⟩
  obtain ⟨lim, hlm⟩ : ∃ lim : Int, lim = if limit = 0 then 4096 else limit := ⟨_, rfl⟩
  have hl1 : 1 ≤ lim ∧ lim ≤ 4096 := by rw [hlm]; split <;> omega
  obtain ⟨hl1, hl2⟩ := hl1
  have kn := fun sp => rnew_s sp limit lim (by omega) (by omega) hlm
  have kf := rfnew_s limit lim (by omega) (by omega) hlm
  (repeat' (first | ((with_reducible apply gL); (first | refine yL0 ?_ | refine yL ?_ | ((with_reducible apply gL_go); (first | (refine JL_goq (new_s) (hφ := xF) (h := ?_); rintro _ _ ⟨sp, rfl, rfl⟩; try simp only [List.cons_append, List.nil_append]) | (refine JL_goq (kn _) (hφ := xF) (h := ?_); rintro _ _ ⟨b, tb, rfl, rfl⟩; try simp only [List.cons_append, List.nil_append]) | (refine JL_goq (kf) (hφ := xF) (h := ?_); rintro _ _ ⟨rb, rfl, rfl⟩; try simp only [List.cons_append, List.nil_append]) | fail)) | (refine yM ?_; intro _) | ((with_reducible apply gL_gd); (first | (refine JL_guard xR xR ?_ ?_ <;> intro _ <;> (try (exfalso; first | contradiction | omega))) | (refine JL_guardb xR xR ?_ ?_ <;> (intro hgb; subst hgb)) | (refine JL_guardb xR xR ?_ ?_ <;> (intro hgb; fail_if_success (have : type_of% hgb := rfl))) | fail)) | fail)) | refine yJ ?_ | ((with_reducible apply gJ_if); (first | (refine J_if xR ?_ ?_ <;> intro _ <;> (try (exfalso; first | contradiction | omega))) | (refine J_ifb xR ?_ ?_ <;> (intro hgb; subst hgb)) | (refine J_ifb xR ?_ ?_ <;> intro _) | fail)) | fail))
  rename_i pb
  refine J_loop (α := QxP) ⟨0, ⟨[], [], 0⟩, none, 0, []⟩ (fun x => 40 - x.i) (QpOk acts.length) (fun x => [(1, .slice aa acts.length ca), (5, .pointer (some ⟨pb, 0, none⟩)), (7, .pointer (some ⟨sp, 0, none⟩)), (8, .pointer (some ⟨b, 0, none⟩)), (10, .pointer (some ⟨rb, 0, none⟩)), (12, .int .i64 x.i)]) (fun x => pts pb (pfC p) 41 :: BxL b sp tb lim x.σ.E x.σ.S x.σ.c rb x.a x.c x.L) ⟨Nat.zero_le _, Nat.zero_le _, ⟨stok_nil.mono (by simp), Nat.zero_le _, Int.le_refl _, rel_nil⟩, ⟨rfl, fun _ h => absurd h List.not_mem_nil⟩, eok_nil⟩ ⟨rfl, rfl, rfl, rfl, rfl, rfl, trivial⟩ (fun w H => H.sel xZ) ?_
  rintro ⟨i, σ, a, c, L⟩ hI
  obtain ⟨hi, hia, hS, hA, hE⟩ := hI
  dsimp only at hi hia hS hA hE ⊢
  by_cases hlt : i < acts.length ∧ i < 40
  · obtain ⟨h1, h2⟩ := hlt
    obtain ⟨x, hsx⟩ : ∃ x, acts[i]? = some x := ⟨_, List.getElem?_eq_getElem h1⟩
    have hxm := List.mem_of_getElem? hsx
    have hxn := hx x hxm
    have hdv : Kn K (fun w => UpV w x.u) := hK.right.imp fun w h => h x hxm
    have kd := do_s b sp tb lim hl1 hl2 rb a c L σ i h2 hS hE hA x hxn
    (repeat' (first | ((with_reducible apply gL); (first | refine yL0 ?_ | refine yL ?_ | ((with_reducible apply gL_go); (first | (refine JL_goq (kd) (hφ := (by (try simp only [List.cons_append, List.nil_append]); exact fun w hr => hdv w hr.1)) (h := ?_); rintro _ _ ⟨σ', a', c', L', ⟨hS', hA', hE'⟩, rfl, rfl⟩; try simp only [List.cons_append, List.nil_append]) | fail)) | (refine yM ?_; intro _) | ((with_reducible apply gL_gd); (first | (refine JL_guard xR xR ?_ ?_ <;> intro _ <;> (try (exfalso; first | contradiction | omega))) | (refine JL_guardb xR xR ?_ ?_ <;> (intro hgb; subst hgb)) | (refine JL_guardb xR xR ?_ ?_ <;> (intro hgb; fail_if_success (have : type_of% hgb := rfl))) | fail)) | fail)) | refine yJ ?_ | ((with_reducible apply gJ_if); (first | (refine J_if xR ?_ ?_ <;> intro _ <;> (try (exfalso; first | contradiction | omega))) | (refine J_ifb xR ?_ ?_ <;> (intro hgb; subst hgb)) | (refine J_ifb xR ?_ ?_ <;> intro _) | fail)) | fail))
    have hn := hS'.l
    have ka := alike_s b sp tb lim rb a' c' L' σ' (by omega) hE' hA'
    have kg := rget_s b sp tb lim σ'.E σ'.S σ'.c p hp
    have kr := rfget_s rb lim a' c' L' p (by rw [hA'.len]; omega) hA'.n
    have hg := hA'.gv p
    rw [hg] at kr
    unfold lk at kr
    unfold rgX rgS at kg
    have hcc := hS'.c
    have hsum := fun (m : Nat) (h : σ'.c ≤ m) => sumC_all hS'.r hE' hS'.s h
    have hsb : ∀ k, 0 ≤ sumC σ'.S k ∧ sumC σ'.S k ≤ 480 := fun k => by
      have h1 := sumC_le hS'.r k
      have h2 : (σ'.E.filter fun e => decide (e.2.1 ≤ (k : Int))).length ≤ σ'.E.length := List.length_filter_le _ _
      rw [h1]
      omega
    have hll := hA'.len
    have key : ∃ (x : Nf) (st ok : Bool), Pact Tryz.prog 15 #[.pointer (some ⟨b, 0, none⟩), .agg (pfC p).toArray] (fun _ => True) (rtL b sp tb lim σ'.E σ'.S σ'.c) (fun u L' => ∃ d', (AtF d' ∧ d'.nf = x) ∧ u = .tuple #[.agg (atC d').toArray, .bool st, .bool ok] ∧ L' = [pts b (tbC sp lim tb) 72, T.trA tb σ'.E, stoA sp σ'.S σ'.c, has (fun w => AtV w d')]) ∧
        Pact Tryz.prog 29 #[.pointer (some ⟨rb, 0, none⟩), .agg (pfC p).toArray] (fun _ => True) (RfL rb lim a' c' L') (fun u L2 => ∃ d', (AtF d' ∧ d'.nf = x) ∧ u = .tuple #[.agg (atC d').toArray, .bool st, .bool ok] ∧ L2 = has (fun w => AtV w d') :: RfL rb lim a' c' L') := by
      cases hgl : T.getL σ'.E p with
      | none =>
        rw [hgl] at kg kr
        refine ⟨zAt.nf, false, false, kg, Pact.imp kr fun v L2 h => ?_⟩
        obtain ⟨d2, b2, ok2, ⟨g1, g2⟩, h3, h4⟩ := h
        obtain ⟨g3, g4⟩ := Prod.mk.inj g2
        obtain ⟨rfl, rfl⟩ := Prod.mk.inj g4
        exact ⟨d2, ⟨g1, g3⟩, h3, h4⟩
      | some o =>
        rw [hgl] at kg kr
        refine ⟨getX σ'.S o.1, o.2, true, kg, Pact.imp kr fun v L2 h => ?_⟩
        obtain ⟨d2, b2, ok2, ⟨g1, g2⟩, h3, h4⟩ := h
        obtain ⟨g3, g4⟩ := Prod.mk.inj g2
        obtain ⟨rfl, rfl⟩ := Prod.mk.inj g4
        exact ⟨d2, ⟨g1, g3⟩, h3, h4⟩
    clear kg kr hg
    obtain ⟨xg, sg, og, kg, kr⟩ := key
    (repeat' (first | ((with_reducible apply gL); (first | refine yL0 ?_ | refine yL ?_ | ((with_reducible apply gL_go); (first | (refine JL_goq (ka) (hφ := xF) (h := ?_); rintro _ _ ⟨rfl, rfl⟩; try simp only [List.cons_append, List.nil_append]) | (refine JL_goq (kg) (hφ := xF) (h := ?_); rintro _ _ ⟨d1, hd1, rfl, rfl⟩; try simp only [List.cons_append, List.nil_append]) | (refine JL_goq (kr) (hφ := xF) (h := ?_); rintro _ _ ⟨d2, hd2, rfl, rfl⟩; try simp only [List.cons_append, List.nil_append]) | fail)) | (refine yM ?_; intro _) | ((with_reducible apply gL_gd); (first | (refine JL_guard xR xR ?_ ?_ <;> intro _ <;> (try (exfalso; first | contradiction | omega))) | (refine JL_guardb xR xR ?_ ?_ <;> (intro hgb; subst hgb)) | (refine JL_guardb xR xR ?_ ?_ <;> (intro hgb; fail_if_success (have : type_of% hgb := rfl))) | fail)) | fail)) | refine yJ ?_ | ((with_reducible apply gJ_if); (first | (refine J_if xR ?_ ?_ <;> intro _ <;> (try (exfalso; first | contradiction | omega))) | (refine J_ifb xR ?_ ?_ <;> (intro hgb; subst hgb)) | (refine J_ifb xR ?_ ?_ <;> intro _) | fail)) | fail))
    have ks := rsame_s d1 d2 hd1.1 hd2.1
    rw [hd1.2, hd2.2, decide_eq_true rfl] at ks
    rcases sg with _ | _ <;> rcases og with _ | _
    all_goals (
      (repeat' (first | ((with_reducible apply gL); (first | refine yL0 ?_ | refine yL ?_ | ((with_reducible apply gL_go); (first | (refine JL_goq (ks) (hφ := (by (try simp only [List.cons_append, List.nil_append]); exact fun w hr => ⟨hr.has (φ := fun w => AtV w d1) xA, hr.has (φ := fun w => AtV w d2) xA⟩)) (h := ?_); rintro _ _ ⟨rfl, rfl⟩; try simp only [List.cons_append, List.nil_append]) | fail)) | (refine yM ?_; intro _) | ((with_reducible apply gL_gd); (first | (refine JL_guard xR xR ?_ ?_ <;> intro _ <;> (try (exfalso; first | contradiction | omega))) | (refine JL_guardb xR xR ?_ ?_ <;> (intro hgb; subst hgb)) | (refine JL_guardb xR xR ?_ ?_ <;> (intro hgb; fail_if_success (have : type_of% hgb := rfl))) | fail)) | fail)) | refine yJ ?_ | ((with_reducible apply gJ_if); (first | (refine J_if xR ?_ ?_ <;> intro _ <;> (try (exfalso; first | contradiction | omega))) | (refine J_ifb xR ?_ ?_ <;> (intro hgb; subst hgb)) | (refine J_ifb xR ?_ ?_ <;> intro _) | fail)) | fail))
      refine J_loop (α := Nat) 0 (fun k => 481 - k) (fun k => k ≤ 481) (fun k => [(1, .slice aa acts.length ca), (5, .pointer (some ⟨pb, 0, none⟩)), (7, .pointer (some ⟨sp, 0, none⟩)), (8, .pointer (some ⟨b, 0, none⟩)), (10, .pointer (some ⟨rb, 0, none⟩)), (12, .int .i64 i), (19, .int .i64 (sumC σ'.S k)), (20, .int .i64 ((k : Int) + 1))]) (fun _ => pts pb (pfC p) 41 :: BxL b sp tb lim σ'.E σ'.S σ'.c rb a' c' L') (Nat.zero_le _) ⟨rfl, rfl, rfl, rfl, rfl, rfl, rfl, rfl, trivial⟩ (fun w H => H.sel xZ) ?_
      intro k hk
      by_cases hlt : k < 481
      · have kc := cnt_s sp σ'.S σ'.c ((k : Int) + 1)
        have e5 : sumC σ'.S (k + 1) = sumC σ'.S k + cntF σ'.S ((k : Int) + 1) := rfl
        have b1 := hsb k
        have b2 := hsb (k + 1)
        rw [e5] at b2
        obtain ⟨s1, hs1⟩ : ∃ s1, sumC σ'.S k = s1 := ⟨_, rfl⟩
        obtain ⟨c1, hc1⟩ : ∃ c1, cntF σ'.S ((k : Int) + 1) = c1 := ⟨_, rfl⟩
        rw [hs1, hc1] at e5 b2
        rw [hs1] at b1 ⊢
        rw [hc1] at kc
        have hsq := e5
        clear e5 hs1 hc1
        (repeat' (first | ((with_reducible apply gL); (first | refine yL0 ?_ | ((with_reducible apply gL_bin_leq); (first | (first | (refine L_bin_leq (v := .bool true) ?_ (hp := pe_leqT (by rfl) (by rfl) (by omega))) | (refine L_bin_leq (v := .bool false) ?_ (hp := pe_leqF (by rfl) (by rfl) (by omega)))) | fail)) | refine yL ?_ | ((with_reducible apply gL_go); (first | (refine JL_goq (kc) (hφ := xF) (h := ?_); rintro _ _ ⟨rfl, rfl⟩; try simp only [List.cons_append, List.nil_append]) | fail)) | (refine yM ?_; intro _) | ((with_reducible apply gL_gd); (first | (refine JL_guard xR xR ?_ ?_ <;> intro _ <;> (try (exfalso; first | contradiction | omega))) | (refine JL_guardb xR xR ?_ ?_ <;> (intro hgb; subst hgb)) | (refine JL_guardb xR xR ?_ ?_ <;> (intro hgb; fail_if_success (have : type_of% hgb := rfl))) | fail)) | fail)) | refine yJ ?_ | ((with_reducible apply gJ_if); (first | (refine J_if xR ?_ ?_ <;> intro _ <;> (try (exfalso; first | contradiction | omega))) | (refine J_ifb xR ?_ ?_ <;> (intro hgb; subst hgb)) | (refine J_ifb xR ?_ ?_ <;> intro _) | fail)) | fail))
        all_goals (first | (exfalso; omega) | skip)
        refine J_again (k + 1) (by omega) (by omega) ⟨rfl, rfl, rfl, rfl, rfl, rfl, ?_, rfl, trivial⟩ (fun w H => H.sel xZ)
        rw [hsq]
        rfl
      · rw [hsum k (by omega)]
        (repeat' (first | ((with_reducible apply gL); (first | refine yL0 ?_ | ((with_reducible apply gL_bin_leq); (first | (first | (refine L_bin_leq (v := .bool true) ?_ (hp := pe_leqT (by rfl) (by rfl) (by omega))) | (refine L_bin_leq (v := .bool false) ?_ (hp := pe_leqF (by rfl) (by rfl) (by omega)))) | fail)) | refine yL ?_ | (refine yM ?_; intro _) | ((with_reducible apply gL_gd); (first | (refine JL_guard xR xR ?_ ?_ <;> intro _ <;> (try (exfalso; first | contradiction | omega))) | (refine JL_guardb xR xR ?_ ?_ <;> (intro hgb; subst hgb)) | (refine JL_guardb xR xR ?_ ?_ <;> (intro hgb; fail_if_success (have : type_of% hgb := rfl))) | fail)) | fail)) | refine yJ ?_ | ((with_reducible apply gJ_if); (first | (refine J_if xR ?_ ?_ <;> intro _ <;> (try (exfalso; first | contradiction | omega))) | (refine J_ifb xR ?_ ?_ <;> (intro hgb; subst hgb)) | (refine J_ifb xR ?_ ?_ <;> intro _) | fail)) | fail))
        all_goals (first | (exfalso; omega) | skip)
        exact J_again ⟨i + 1, σ', a', c', L'⟩ (by dsimp only; omega) ⟨by dsimp only; omega, by dsimp only; omega, hS', hA', hE'⟩ ⟨rfl, rfl, rfl, rfl, rfl, rfl, trivial⟩ (fun w H => H.sel xZ))
  · have hs := hS.s
    have hn := hS.l
    obtain ⟨r1, r2⟩ := clear_rel hS.r hE hs
    have hso := dropF_ok (T.keysE σ.E) σ hs
    have hem := rel_empty r1 hso r2
    obtain ⟨E, S, cc⟩ := σ
    dsimp only at hs hn hem hE
    have kw := clear_s b sp tb lim E S cc (13 * i) (by omega) (by omega) hE hs
    rw [hem.2] at kw
    (repeat' (first | ((with_reducible apply gL); (first | refine yL0 ?_ | refine yL ?_ | ((with_reducible apply gL_go); (first | (refine JL_goq (kw) (hφ := xF) (h := ?_); rintro _ _ ⟨a7, c7, rfl, rfl⟩; try simp only [List.cons_append, List.nil_append]) | (refine JL_goq (len_s sp _ _) (hφ := xF) (h := ?_); rintro _ _ ⟨rfl, rfl⟩; try simp only [List.cons_append, List.nil_append]) | (refine JL_goq (works_s) (hφ := xF) (h := ?_); rintro _ _ ⟨rfl, rfl⟩; try simp only [List.cons_append, List.nil_append]) | fail)) | (refine yM ?_; intro _) | ((with_reducible apply gL_gd); (first | (refine JL_guard xR xR ?_ ?_ <;> intro _ <;> (try (exfalso; first | contradiction | omega))) | (refine JL_guardb xR xR ?_ ?_ <;> (intro hgb; subst hgb)) | (refine JL_guardb xR xR ?_ ?_ <;> (intro hgb; fail_if_success (have : type_of% hgb := rfl))) | fail)) | fail)) | refine yJ ?_ | ((with_reducible apply gJ_if); (first | (refine J_if xR ?_ ?_ <;> intro _ <;> (try (exfalso; first | contradiction | omega))) | (refine J_ifb xR ?_ ?_ <;> (intro hgb; subst hgb)) | (refine J_ifb xR ?_ ?_ <;> intro _) | fail)) | fail))
    all_goals exact J_ret1 rfl (by rfl) fun w H => ⟨_, ⟨rfl, rfl⟩, H.sel .nil⟩
end Go.Proofs.YtnhabkipjmgaaaaGreat
namespace Go.Proofs.YtnhabkipjmgaaaaGreat
set_option linter.unusedSimpArgs false
set_option linter.unusedVariables false
open Go.RowKit Go.Pm

namespace ribPlays
theorem walk {W : World} (n0 : Nat) {x0 : Int} (g0 : Rs Tryz.prog W n0 3 (Value.int .i64 x0).cells.toList) (n1 : Nat) {a1 : Option Addr} {l1 c1 : Nat} (g1 : Rs Tryz.prog W n1 50 (Value.slice a1 l1 c1).cells.toList) (n2 : Nat) {cs2 : Array Value} (g2 : Rs Tryz.prog W n2 41 (Value.agg cs2).cells.toList) :
    Calls Tryz.prog 6 #[.int .i64 x0, .slice a1 l1 c1, .agg cs2] W fun e w' => e = .returned (.bool true) ∧ Only [] W w' := by
  obtain ⟨acts, rfl, h1, h2, h3⟩ := acts_arg g1
  obtain ⟨p, rfl, hp⟩ := pf_arg g2
  exact (plays_s x0 (i64Arg Tryz.underlying3 g0) a1 c1 acts h2 h1 p hp).law h3
end ribPlays
namespace ribPlays
open Go.ChangeShapes Go.WideShapes Go.ChangeAt
set_option linter.unusedVariables false

theorem own : ownKnob Tryz.prog.godebug = none := by kernel_rfl
theorem laidOut : laidOutB Tryz.prog = true := by kernel_rfl

set_option maxRecDepth 100000 in
theorem lifted (os : Os) (started : os.Started) (H : Type) (enc : TypeId × Value → H) :
    ReturnsInHanded {} Tryz.checked os 6 .any (Rows.ribPlaysSpec.pre6 enc Tryz.prog Tryz.f6 Rows.ribPlaysRow.domain false) (Rows.ribPlaysSpec.post enc Tryz.prog Tryz.f6 false true false false) := by
  refine returnsInHanded_of_change_sized (C := Tryz.checked) own started (by kernel_rfl) Tryz.func6
    (ChangeSpec.witness6 (enc := enc) (C := Tryz.checked) false ⟨#[], #[.int .i64 0, .slice none 0 0, .agg #[.int .u32 0, .int .i64 0]], []⟩ 8 (by kernel_rfl) (by kernel_rfl) (by kernel_rfl) (by kernel_rfl)) ?_
  intro W base args ds gs before hval0 hW hcnd hsz hreach
  have hval : ∀ (j : Nat) t v, Tryz.f6.params[j]? = some t → args[j]? = some v → Value.okWide Tryz.prog W .any base t v := hval0
  have hW' := hW
  obtain ⟨p, q, hA0, hV, rfl, hfz, hnd⟩ := hW
  have hA : DataW.TrodAll enc Tryz.prog W 0 (fun _ => true) true Tryz.f6.params.toList args.toList ds p := hA0
  rw [Tryz.params6] at hA hval
  obtain ⟨v0, vs0, d0, ds0, p0, q0, hargs, rfl, rfl, h0, r0⟩ := trodAll_cons hA
  obtain ⟨v1, vs1, d1, ds1, p1, q1, rfl, rfl, rfl, h1, r1⟩ := trodAll_cons r0
  obtain ⟨v2, vs2, d2, ds2, p2, q2, rfl, rfl, rfl, h2, r2⟩ := trodAll_cons r1
  obtain ⟨rfl, rfl, rfl⟩ := trodAll_nil r2
  obtain rfl : args = #[v0, v1, v2] := by cases args; simp_all
  obtain ⟨rfl, rfl⟩ := trodVars_none hV
  have k0 := h0
  have lt0 : ∀ x ∈ p0, x.block < W.heap.size := by obtain ⟨m, hm⟩ := k0; exact DataW.trod_lt m _ _ _ hm
  obtain ⟨n0, g0⟩ := Rs.of_weights hsz 0 (by first | rfl | (simp [Tryz.params6])) rfl h0
  obtain ⟨a0, rfl⟩ := okWide_int Tryz.underlying3 (hval 0 3 v0 rfl rfl)
  have k1 := h1
  have lt1 : ∀ x ∈ p1, x.block < W.heap.size := by obtain ⟨m, hm⟩ := k1; exact DataW.trod_lt m _ _ _ hm
  obtain ⟨n1, g1⟩ := Rs.of_weights hsz 1 (by first | rfl | (simp [Tryz.params6])) rfl h1
  obtain ⟨a1, l1, c1, rfl⟩ := okWide_slice Tryz.underlying50 (hval 1 50 v1 rfl rfl)
  have k2 := h2
  have lt2 : ∀ x ∈ p2, x.block < W.heap.size := by obtain ⟨m, hm⟩ := k2; exact DataW.trod_lt m _ _ _ hm
  obtain ⟨n2, g2⟩ := Rs.of_weights hsz 2 (by first | rfl | (simp [Tryz.params6])) rfl h2
  obtain ⟨cs2, rfl, hs2⟩ := okWide_struct Tryz.underlying41 (hval 2 41 v2 rfl rfl)
  refine (walk n0 g0 n1 g1 n2 g2).mono fun e W' ⟨he, hg⟩ => ?_
  subst he
  have bel := hg.belowNil
  exact ⟨_, rfl, _, _, _, [], _, [], hW', trodAll_mk1 (shut_bool Tryz.underlying4 _), (trodAll_cons_mk (Below.trod laidOut (by kernel_rfl) (of_decide_eq_true (by kernel_rfl)) k0 bel lt0) (trodAll_cons_mk (Below.trod laidOut (by kernel_rfl) (of_decide_eq_true (by kernel_rfl)) k1 bel lt1) (trodAll_cons_mk (Below.trod laidOut (by kernel_rfl) (of_decide_eq_true (by kernel_rfl)) k2 bel lt2) trodAll_mk0))), rfl, bel.frame _, fun h => by cases h⟩

theorem over : Rows.ribPlaysRow.holds Tryz.pinned (OpenSpec.ofChange Rows.ribPlaysSpec) :=
  OpenClaim.holds_of_wide 6 Tryz.f6 rfl rfl rfl rfl rfl rfl rfl ⟨rfl, rfl, rfl, rfl, rfl⟩ rfl rfl rfl rfl rfl (by kernel_rfl) Tryz.func6 (by kernel_rfl)
    (of_decide_eq_true (by kernel_rfl)) (by unfold Func.isWrapper; first | (rw [if_pos (by decide +kernel)]; kernel_rfl) | (rw [if_neg (by decide +kernel)]; exact ⟨rfl, rfl⟩))
    (fun os started H enc _ => lifted os started H enc)

theorem proved : Rows.RibPlaysSaid := over
#print axioms proved
end ribPlays
end Go.Proofs.YtnhabkipjmgaaaaGreat
