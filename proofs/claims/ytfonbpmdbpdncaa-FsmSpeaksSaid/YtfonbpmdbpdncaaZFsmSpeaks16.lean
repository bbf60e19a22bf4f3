/-
  J9, Fs18, Fs19: merged.
-/
import Derived.Test.YtfonbpmdbpdncaaZFsmSpeaks15
namespace Go.Pm
set_option linter.unusedSimpArgs false
set_option linter.unusedVariables false
open Go.RowKit
section
variable {P : Program} {n : Nat} {W : World} {K : Hl} {k : List It} {tm : TM} {L R R' : List HP} {fn : Func} {Rr : Value → List HP → Prop}
theorem J_retCC {t u s : Tmp} {x : Value} {ty T ty' T' : TypeId} {b b' : Nat} {cs cs' : List Value} (hr : fn.results = #[.cell t ty, .cell u ty', .tmp s]) (hv : evT tm (.tmp t) = some (.pointer (some ⟨b, 0, none⟩))) (hu : evT tm (.tmp u) = some (.pointer (some ⟨b', 0, none⟩))) (hs : evT tm (.tmp s) = some x) (hm : Tk L (pts b cs T) R) (hm' : Tk L (pts b' cs' T') R') (ht : rowTy P ty cs.length = true) (ht' : rowTy P ty' cs'.length = true) (hk : ∀ w, Ow W K L w → ∃ L', Rr (.tuple #[.agg cs.toArray, .agg cs'.toArray, x]) L' ∧ Ow W K L' w) (hd : decM (tget tm mkK) = [] := by rfl) : J P n W K (fpost P fn W K Rr) (.code .ret :: k) tm L := J_outR hd fun a w hf hO => by
  refine ⟨L, hO, fun w' H => ?_⟩
  obtain ⟨L', h1, h2⟩ := hk w' H
  exact ⟨_, by simp [results, hr, hf.get? hv, hf.get? hu, hf.get? hs, run_cellR H hm ht, run_cellR H hm' ht', Array.getD_eq_getD_getElem?, asAddr], L', h1, h2⟩
end
section
variable {P : Program} {n : Nat} {W : World} {K : Hl} {L : List HP} {T : TypeId} {pos : String} {af : Array Edge} {gd : Option (Nat × Bool)} {d : Option Tmp} {tm : TM}
theorem pe_indexR {t : TypeId} {x i : Operand} {cs : List Value} {m j sz : Nat} {kk : IntKind} {z : Int} {v : Value} (hx : evT tm x = some (.agg cs.toArray)) (hi : evT tm i = some (.int kk z)) (ht : arrInfo P t = some (m, sz, true)) (hz : z = (j : Int)) (hj : j < m) (hv : Value.agg (cs.toArray.extract (j * sz) (j * sz + sz)) = v) : PE P K L ⟨d, .index t x i, T, pos, af, gd⟩ (tget tm) v := fun ρ w ha _ => by
  have h1 := ha x (by simp [Op.operands]) _ hx
  have h2 := ha i (by simp [Op.operands]) _ hi
  obtain ⟨e, inf, de, hu, hin, hsz, hd, hr⟩ := arrInfo_spec ht
  subst hz hv
  unfold execOp
  simp only [h1, h2]
  have h3 : (0 : Int) ≤ (j : Int) ∧ (j : Int) < (m : Int) := by omega
  simp [Instr.index, Sem.run_bind, run_underlying hu, asIntOf, h3, hj, run_sz hin, hsz, part, run_agg hd, hr]
end
theorem J_jmp {P : Program} {n : Nat} {W : World} {K : Hl} {F : Fp} {k : List It} {tm : TM} {L : List HP} {l : Nat} {H : Act → World → Prop} (h : J P n W K F k tm L) : J P n W K F (.jmp l H :: k) tm L := .mk fun a w hf hO => by
  have := h a w hf hO
  simpa only [runK, Exit.jump] using this
end Go.Pm
namespace Go.Proofs.Ytfonbpmdbpdncaa
set_option linter.unusedSimpArgs false
set_option linter.unusedVariables false
set_option maxRecDepth 20000
set_option maxHeartbeats 4000000
open Go.RowKit Go.Pm

abbrev arr30 (x y : Qtr) : Value := .agg #[.int .i64 x.st, .int .u32 x.p.as_, .int .i64 x.p.hold, .int .u32 x.p.id, .bool x.p.multi, .bool x.p.four, .bool x.p.refresh, .bool x.p.graceful, .int .i64 x.p.time, .bool x.p.restarts, .bool x.p.keeps, .int .i64 x.hold, .int .i64 x.keep, .int .i64 x.heard, .int .i64 x.spoke, .int .i64 y.st, .int .u32 y.p.as_, .int .i64 y.p.hold, .int .u32 y.p.id, .bool y.p.multi, .bool y.p.four, .bool y.p.refresh, .bool y.p.graceful, .int .i64 y.p.time, .bool y.p.restarts, .bool y.p.keeps, .int .i64 y.hold, .int .i64 y.keep, .int .i64 y.heard, .int .i64 y.spoke]
def nK (x y : Qtr) : Nat → Int
  | 0 => 2
  | 1 => max 2 x.st
  | _ => max (max 2 x.st) y.st
def stV (s : Qse) : Int := if s.on = true then (if max (max 2 s.t0.st) s.t1.st = 2 ∧ s.t0.st = 1 then 1 else max (max 2 s.t0.st) s.t1.st) else 0
theorem State_s (b : Nat) (q : Bool) (s : Qse) (v : Value) : Pact Try.prog 10 #[.pointer (some ⟨b, 0, none⟩)] (fun _ => True) [pts b (seC q s v) 52] (fun u L' => u = .int .i64 (stV s) ∧ L' = [pts b (seC q s v) 52]) := by
  refine pact Try.func10 rfl Try.ntmps10 rfl ?_
  intro W K _
  by_cases ho : s.on = true
  · unfold stV
    rw [if_pos ho]
    obtain ⟨on, nw, ag, t0, t1⟩ := s
    dsimp only at ho
    subst ho
    dsimp only [seC]
    (repeat' (first | ((with_reducible apply gL); (first | refine yL0 ?_ | refine yL ?_ | (refine yM ?_; intro _) | ((with_reducible apply gL_gd); (first | (refine JL_guard xR xR ?_ ?_ <;> intro _ <;> (try (exfalso; first | contradiction | omega))) | (refine JL_guardb xR xR ?_ ?_ <;> (intro hgb; subst hgb)) | (refine JL_guardb xR xR ?_ ?_ <;> (intro hgb; fail_if_success (have : type_of% hgb := rfl))) | fail)) | fail)) | refine yJ ?_ | ((with_reducible apply gJ_if); (first | (refine J_if xR ?_ ?_ <;> intro _ <;> (try (exfalso; first | contradiction | omega))) | (refine J_ifb xR ?_ ?_ <;> (intro hgb; subst hgb)) | (refine J_ifb xR ?_ ?_ <;> intro _) | fail)) | fail))
    refine J_loop (α := Nat) 0 (fun k => 2 - k) (fun k => k ≤ 2) (fun k => [(0, .pointer (some ⟨b, 0, none⟩)), (3, .int .i64 (nK t0 t1 k)), (18, arr30 t0 t1), (19, .int .i64 k)]) (fun _ => [pts b (seC q ⟨true, nw, ag, t0, t1⟩ v) 52]) (by decide) ⟨rfl, rfl, rfl, rfl, trivial⟩ (fun w H => H.sel xZ) ?_
    intro k hk
    dsimp only [arr30, seC]
    obtain rfl | rfl | rfl : k = 0 ∨ k = 1 ∨ k = 2 := by omega
    · (repeat' (first | ((with_reducible apply gL); (first | refine yL0 ?_ | ((with_reducible apply gL_index); (first | (refine JL_p rfl xR xR (pe_indexR (m := 2) (sz := 15) (j := 0) (v := .agg (trC t0).toArray) xR xR xC rfl (by omega) rfl) ?_) | fail)) | refine yL ?_ | (refine yM ?_; intro _) | ((with_reducible apply gL_gd); (first | (refine JL_guard xR xR ?_ ?_ <;> intro _ <;> (try (exfalso; first | contradiction | omega))) | (refine JL_guardb xR xR ?_ ?_ <;> (intro hgb; subst hgb)) | (refine JL_guardb xR xR ?_ ?_ <;> (intro hgb; fail_if_success (have : type_of% hgb := rfl))) | fail)) | fail)) | refine yJ ?_ | ((with_reducible apply gJ_if); (first | (refine J_if xR ?_ ?_ <;> intro _ <;> (try (exfalso; first | contradiction | omega))) | (refine J_ifb xR ?_ ?_ <;> (intro hgb; subst hgb)) | (refine J_ifb xR ?_ ?_ <;> intro _) | fail)) | fail))
      exact J_again 1 (by decide) (by decide) ⟨rfl, rfl, rfl, rfl, trivial⟩ (fun w H => H.sel xZ)
    · (repeat' (first | ((with_reducible apply gL); (first | refine yL0 ?_ | ((with_reducible apply gL_index); (first | (refine JL_p rfl xR xR (pe_indexR (m := 2) (sz := 15) (j := 1) (v := .agg (trC t1).toArray) xR xR xC rfl (by omega) rfl) ?_) | fail)) | refine yL ?_ | (refine yM ?_; intro _) | ((with_reducible apply gL_gd); (first | (refine JL_guard xR xR ?_ ?_ <;> intro _ <;> (try (exfalso; first | contradiction | omega))) | (refine JL_guardb xR xR ?_ ?_ <;> (intro hgb; subst hgb)) | (refine JL_guardb xR xR ?_ ?_ <;> (intro hgb; fail_if_success (have : type_of% hgb := rfl))) | fail)) | fail)) | refine yJ ?_ | ((with_reducible apply gJ_if); (first | (refine J_if xR ?_ ?_ <;> intro _ <;> (try (exfalso; first | contradiction | omega))) | (refine J_ifb xR ?_ ?_ <;> (intro hgb; subst hgb)) | (refine J_ifb xR ?_ ?_ <;> intro _) | fail)) | fail))
      exact J_again 2 (by decide) (by decide) ⟨rfl, rfl, rfl, rfl, trivial⟩ (fun w H => H.sel xZ)
    · rw [show nK t0 t1 2 = max (max 2 t0.st) t1.st from rfl]
      generalize max (max 2 t0.st) t1.st = M
      (repeat' (first | ((with_reducible apply gL); (first | refine yL0 ?_ | refine yL ?_ | (refine yM ?_; intro _) | ((with_reducible apply gL_gd); (first | (refine JL_guard xR xR ?_ ?_ <;> intro _ <;> (try (exfalso; first | contradiction | omega))) | (refine JL_guardb xR xR ?_ ?_ <;> (intro hgb; subst hgb)) | (refine JL_guardb xR xR ?_ ?_ <;> (intro hgb; fail_if_success (have : type_of% hgb := rfl))) | fail)) | fail)) | refine yJ ?_ | ((with_reducible apply gJ_if); (first | (refine J_if xR ?_ ?_ <;> intro _ <;> (try (exfalso; first | contradiction | omega))) | (refine J_ifb xR ?_ ?_ <;> (intro hgb; subst hgb)) | (refine J_ifb xR ?_ ?_ <;> intro _) | fail)) | fail))
      all_goals (first | (exfalso; omega) | skip)
      all_goals (first
        | exact J_ret1 rfl (by rfl) fun w H => ⟨_, ⟨(by first | (rw [if_pos (by first | (omega; done) | fail)]; done) | fail), rfl⟩, H.sel xZ⟩
        | exact J_ret1 rfl (by rfl) fun w H => ⟨_, ⟨(by first | (rw [if_neg (by first | (omega; done) | fail)]; done) | fail), rfl⟩, H.sel xZ⟩
        | fail)
  · unfold stV
    rw [if_neg ho]
    obtain ⟨on, nw, ag, t0, t1⟩ := s
    have ho : on = false := by simpa using ho
    subst ho
    dsimp only [seC]
    (repeat' (first | ((with_reducible apply gL); (first | refine yL0 ?_ | refine yL ?_ | (refine yM ?_; intro _) | ((with_reducible apply gL_gd); (first | (refine JL_guard xR xR ?_ ?_ <;> intro _ <;> (try (exfalso; first | contradiction | omega))) | (refine JL_guardb xR xR ?_ ?_ <;> (intro hgb; subst hgb)) | (refine JL_guardb xR xR ?_ ?_ <;> (intro hgb; fail_if_success (have : type_of% hgb := rfl))) | fail)) | fail)) | refine yJ ?_ | ((with_reducible apply gJ_if); (first | (refine J_if xR ?_ ?_ <;> intro _ <;> (try (exfalso; first | contradiction | omega))) | (refine J_ifb xR ?_ ?_ <;> (intro hgb; subst hgb)) | (refine J_ifb xR ?_ ?_ <;> intro _) | fail)) | fail))
    exact J_ret1 rfl (by rfl) fun w H => ⟨_, ⟨rfl, rfl⟩, H.sel xZ⟩
def stopL (st k : Int) : List (Int × Int × Int) := if 3 ≤ st then failL st k else if st = 1 then [(2, k, 0)] else []
def stopT (t : Qtr) : Qtr := if 3 ≤ t.st ∨ t.st = 1 then tr0 else t
theorem stopT_p {t : Qtr} (h : 3 ≤ t.st ∨ t.st = 1) : tr0 = stopT t := (if_pos h).symm
theorem stopT_n {t : Qtr} (h : ¬ (3 ≤ t.st ∨ t.st = 1)) : t = stopT t := (if_neg h).symm
theorem stopL_f {st k : Int} (h : 3 ≤ st) : stopL st k = failL st k := if_pos h
theorem stopL_g {st k : Int} (h : st = 1) : stopL st k = [(2, k, 0)] := by unfold stopL; rw [if_neg (by omega), if_pos h]
theorem stopL_n {st k : Int} (h : ¬ (3 ≤ st ∨ st = 1)) : stopL st k = [] := by unfold stopL; rw [if_neg (by omega), if_neg (by omega)]
def RStop (s s' : Qse) (ys : List (Int × Int × Int)) : Prop := s'.on = false ∧ s'.again = -1 ∧ s'.t0 = stopT s.t0 ∧ s'.t1 = stopT s.t1 ∧ ys = stopL s.t0.st 0 ++ stopL s.t1.st 1
structure Qlp where
  k : Nat
  s : Qse
  a : Option Addr
  n : Nat
  c : Nat
  zs : List Ac
theorem stopL_len (st k : Int) : (stopL st k).length ≤ 3 := by
  unfold stopL failL dnL
  split
  · split <;> simp
  · split <;> simp
set_option maxRecDepth 4000 in
theorem Stop_s (b : Nat) (q : Bool) (s : Qse) (hs : SeOk s) (now sub : Int) : Pact Try.prog 21 #[.pointer (some ⟨b, 0, none⟩), .int .i64 now, .int .i64 sub] (fun _ => True) [pts b (seC q s (.slice none 0 0)) 52] (Did b q (RStop s)) := by
  refine pact Try.func21 rfl Try.ntmps21 rfl ?_
  intro W K _
  refine J_heap (fun w H => iniA H) ?_
  have h1 := atS_ok hs now
  obtain ⟨nw, hnw⟩ : ∃ nw, max s.now (min now 1099511627776) = nw := ⟨_, rfl⟩
  have ka := at_s b q s (.slice none 0 0) now
  simp only [atS, hnw] at ka h1
  clear hnw
  obtain ⟨on, nw0, ag, t0, t1⟩ := s
  dsimp only at ka h1
  (repeat' (first | ((with_reducible apply gL); (first | refine yL0 ?_ | refine yL ?_ | ((with_reducible apply gL_go); (first | (refine JL_goq (ka) (hφ := xF) (h := ?_); rintro _ _ ⟨rfl, rfl⟩; try simp only [List.cons_append, List.nil_append]; dsimp only [seC]) | fail)) | (refine yM ?_; intro _) | fail)) | refine yJ ?_ | ((with_reducible apply gJ_if); (first | (refine J_if xR ?_ ?_ <;> intro _ <;> (try (exfalso; first | contradiction | omega))) | (refine J_ifb xR ?_ ?_ <;> (intro hgb; subst hgb)) | (refine J_ifb xR ?_ ?_ <;> intro _) | fail)) | fail))
  refine J_loop (α := Qlp) ⟨0, ⟨on, nw, ag, t0, t1⟩, none, 0, 0, []⟩ (fun x => 2 - x.k) (fun x => SeOk x.s ∧ x.s.on = on ∧ (x.k = 0 ∧ x.s.t0 = t0 ∧ x.s.t1 = t1 ∧ x.zs = [] ∨ x.k = 1 ∧ x.s.t0 = stopT t0 ∧ x.s.t1 = t1 ∧ Are x.zs (stopL t0.st 0) ∨ x.k = 2 ∧ x.s.t0 = stopT t0 ∧ x.s.t1 = stopT t1 ∧ Are x.zs (stopL t0.st 0 ++ stopL t1.st 1))) (fun x => [(0, .pointer (some ⟨b, 0, none⟩)), (2, .int .i64 sub), (16, arr30 t0 t1), (17, .int .i64 x.k)]) (fun x => [pts b (seC q x.s (.slice x.a x.n x.c)) 52, Ar 42 14 acC (.slice x.a x.n x.c) x.zs, hasA x.zs]) ⟨h1, rfl, .inl ⟨rfl, rfl, rfl, rfl⟩⟩ ⟨rfl, rfl, rfl, rfl, trivial⟩ (fun w H => H.sel xZ) ?_
  rintro ⟨k, ⟨on', nw', ag', u0, u1⟩, a, n, c, zs⟩ hi
  dsimp only at hi
  obtain ⟨hso, rfl, hi⟩ := hi
  dsimp only [arr30, seC]
  rcases hi with ⟨rfl, rfl, rfl, rfl⟩ | ⟨rfl, rfl, rfl, hz⟩ | ⟨rfl, rfl, rfl, hz⟩
  · have kf := fail0_s b q ⟨on', nw', ag', u0, u1⟩ hso a n c [] (by decide) 6 sub none 0 0 [] rfl (by decide)
    have kg := forget0_s b q ⟨on', nw', ag', u0, u1⟩ a n c [] (by decide)
    (repeat' (first | ((with_reducible apply gL); (first | refine yL0 ?_ | ((with_reducible apply gL_index); (first | (refine JL_p rfl xR xR (pe_indexR (m := 2) (sz := 15) (j := 0) (v := .agg (trC u0).toArray) xR xR xC rfl (by omega) rfl) ?_) | fail)) | refine yL ?_ | ((with_reducible apply gL_go); (first | (refine JL_goq (kf) (hφ := (by (try simp only [List.cons_append, List.nil_append]); exact fun w hr => Vw.nil w 1)) (h := ?_); rintro _ _ ⟨a3, n3, c3, ag3, z3, hag, h3, rfl, rfl⟩; try simp only [List.cons_append, List.nil_append]; dsimp only [seC, List.nil_append]) | (refine JL_goq (kg) (hφ := xF) (h := ?_); rintro _ _ ⟨a3, n3, c3, z3, h3, rfl, rfl⟩; try simp only [List.cons_append, List.nil_append]; dsimp only [seC, List.nil_append]) | fail)) | (refine yM ?_; intro _) | fail)) | refine yJ ?_ | ((with_reducible apply gJ_if); (first | (refine J_if xR ?_ ?_ <;> intro _ <;> (try (exfalso; first | contradiction | omega))) | (refine J_ifb xR ?_ ?_ <;> (intro hgb; subst hgb)) | (refine J_ifb xR ?_ ?_ <;> intro _) | fail)) | fail))
    all_goals (first | (exfalso; omega) | skip)
    · exact J_again ⟨1, ⟨on', nw', ag3, tr0, u1⟩, a3, n3, c3, z3⟩ (by dsimp only; omega) ⟨⟨hso.now, tr0_ok, hso.t1⟩, rfl, .inr (.inl ⟨rfl, stopT_p (.inl (by omega)), rfl, by rw [stopL_f (by omega)]; exact h3⟩)⟩ ⟨rfl, rfl, rfl, rfl, trivial⟩ (fun w H => H.sel xZ)
    · exact J_again ⟨1, ⟨on', nw', ag', tr0, u1⟩, a3, n3, c3, [z3]⟩ (by dsimp only; omega) ⟨⟨hso.now, tr0_ok, hso.t1⟩, rfl, .inr (.inl ⟨rfl, stopT_p (.inr (by omega)), rfl, by rw [stopL_g (by omega)]; exact h3⟩)⟩ ⟨rfl, rfl, rfl, rfl, trivial⟩ (fun w H => H.sel xZ)
    · exact J_again ⟨1, ⟨on', nw', ag', u0, u1⟩, a, n, c, []⟩ (by dsimp only; omega) ⟨hso, rfl, .inr (.inl ⟨rfl, stopT_n (t := u0) (by omega), rfl, by rw [stopL_n (st := u0.st) (by omega)]; trivial⟩)⟩ ⟨rfl, rfl, rfl, rfl, trivial⟩ (fun w H => H.sel xZ)
  · have hl := hz.len
    have hl2 := stopL_len t0.st 0
    generalize hT0 : stopT t0 = u0 at *
    have kf := fail1_s b q ⟨on', nw', ag', u0, u1⟩ hso a n c zs (by omega) 6 sub none 0 0 [] rfl (by decide)
    have kg := forget1_s b q ⟨on', nw', ag', u0, u1⟩ a n c zs (by omega)
    (repeat' (first | ((with_reducible apply gL); (first | refine yL0 ?_ | ((with_reducible apply gL_index); (first | (refine JL_p rfl xR xR (pe_indexR (m := 2) (sz := 15) (j := 1) (v := .agg (trC u1).toArray) xR xR xC rfl (by omega) rfl) ?_) | fail)) | refine yL ?_ | ((with_reducible apply gL_go); (first | (refine JL_goq (kf) (hφ := (by (try simp only [List.cons_append, List.nil_append]); exact fun w hr => Vw.nil w 1)) (h := ?_); rintro _ _ ⟨a3, n3, c3, ag3, z3, hag, h3, rfl, rfl⟩; try simp only [List.cons_append, List.nil_append]; dsimp only [seC]) | (refine JL_goq (kg) (hφ := xF) (h := ?_); rintro _ _ ⟨a3, n3, c3, z3, h3, rfl, rfl⟩; try simp only [List.cons_append, List.nil_append]; dsimp only [seC]) | fail)) | (refine yM ?_; intro _) | fail)) | refine yJ ?_ | ((with_reducible apply gJ_if); (first | (refine J_if xR ?_ ?_ <;> intro _ <;> (try (exfalso; first | contradiction | omega))) | (refine J_ifb xR ?_ ?_ <;> (intro hgb; subst hgb)) | (refine J_ifb xR ?_ ?_ <;> intro _) | fail)) | fail))
    all_goals (first | (exfalso; omega) | skip)
    · exact J_again ⟨2, ⟨on', nw', ag3, u0, tr0⟩, a3, n3, c3, zs ++ z3⟩ (by dsimp only; omega) ⟨⟨hso.now, hso.t0, tr0_ok⟩, rfl, .inr (.inr ⟨rfl, rfl, stopT_p (.inl (by omega)), hz.app (by rw [stopL_f (by omega)]; exact h3)⟩)⟩ ⟨rfl, rfl, rfl, rfl, trivial⟩ (fun w H => H.sel xZ)
    · exact J_again ⟨2, ⟨on', nw', ag', u0, tr0⟩, a3, n3, c3, zs ++ [z3]⟩ (by dsimp only; omega) ⟨⟨hso.now, hso.t0, tr0_ok⟩, rfl, .inr (.inr ⟨rfl, rfl, stopT_p (.inr (by omega)), hz.app (by rw [stopL_g (by omega)]; exact h3)⟩)⟩ ⟨rfl, rfl, rfl, rfl, trivial⟩ (fun w H => H.sel xZ)
    · exact J_again ⟨2, ⟨on', nw', ag', u0, u1⟩, a, n, c, zs⟩ (by dsimp only; omega) ⟨hso, rfl, .inr (.inr ⟨rfl, rfl, stopT_n (t := u1) (by omega), by rw [stopL_n (st := u1.st) (by omega), List.append_nil]; exact hz⟩)⟩ ⟨rfl, rfl, rfl, rfl, trivial⟩ (fun w H => H.sel xZ)
  · generalize hT0 : stopT t0 = u0 at *
    generalize hT1 : stopT t1 = u1 at *
    (repeat' (first | ((with_reducible apply gL); (first | refine yL0 ?_ | refine yL ?_ | ((with_reducible apply gL_go); (first | (refine JL_goq (done_s b q ⟨false, nw', -1, u0, u1⟩ a n c) (hφ := xF) (h := ?_); rintro _ _ ⟨rfl, rfl⟩; try simp only [List.cons_append, List.nil_append]) | fail)) | (refine yM ?_; intro _) | fail)) | refine yJ ?_ | ((with_reducible apply gJ_if); (first | (refine J_if xR ?_ ?_ <;> intro _ <;> (try (exfalso; first | contradiction | omega))) | (refine J_ifb xR ?_ ?_ <;> (intro hgb; subst hgb)) | (refine J_ifb xR ?_ ?_ <;> intro _) | fail)) | fail))
    all_goals (first | (exfalso; omega) | skip)
    exact J_ret1 rfl (by rfl) fun w H => ⟨_, ⟨a, n, c, ⟨false, nw', -1, u0, u1⟩, _, zs, ⟨hso.now, hso.t0, hso.t1⟩, ⟨rfl, rfl, hT0.symm, hT1.symm, rfl⟩, hz, rfl, rfl⟩, H.sel xZ⟩
end Go.Proofs.Ytfonbpmdbpdncaa
namespace Go.Proofs.Ytfonbpmdbpdncaa
set_option linter.unusedSimpArgs false
set_option linter.unusedVariables false
set_option maxRecDepth 20000
set_option maxHeartbeats 4000000
open Go.RowKit Go.Pm

def isD (at' now : Int) : Bool := decide (at' ≠ -1 ∧ at' ≤ now)
theorem isD_ne {z now : Int} (h : isD z now = true) : z ≠ -1 := (of_decide_eq_true h).1
theorem tick1_s (sp b : Nat) (q : Bool) (s : Qse) (v : Value) (z : Int) : Pact Try.prog 50 #[.int .i64 z, .pointer (some ⟨sp, 0, none⟩)] (fun _ => True) [pts sp [.pointer (some ⟨b, 0, none⟩)] 24, pts b (seC q s v) 52] (fun u L' => u = .bool (isD z s.now) ∧ L' = [pts sp [.pointer (some ⟨b, 0, none⟩)] 24, pts b (seC q s v) 52]) := by
  refine pact Try.func50 rfl Try.ntmps50 rfl ?_
  intro W K _
  unfold isD
  by_cases hz : z = -1
  · rw [decide_eq_false (by omega)]
    (repeat' (first | ((with_reducible apply gL); (first | refine yL0 ?_ | refine yL ?_ | ((with_reducible apply gL_gd); (first | (refine JL_guard xR xR ?_ ?_ <;> intro _ <;> (try (exfalso; first | contradiction | omega))) | (refine JL_guardb xR xR ?_ ?_ <;> (intro hgb; subst hgb)) | (refine JL_guardb xR xR ?_ ?_ <;> (intro hgb; fail_if_success (have : type_of% hgb := rfl))) | fail)) | fail)) | refine yJ ?_ | fail))
    all_goals (first | (exfalso; omega) | skip)
    exact J_ret1 rfl (by rfl) fun w H => ⟨_, ⟨rfl, rfl⟩, H.sel xZ⟩
  · have e : decide (z ≠ -1 ∧ z ≤ s.now) = decide (z ≤ s.now) := by rw [Bool.eq_iff_iff]; simp only [decide_eq_true_eq]; omega
    rw [e]
    (repeat' (first | ((with_reducible apply gL); (first | refine yL0 ?_ | refine yL ?_ | ((with_reducible apply gL_gd); (first | (refine JL_guard xR xR ?_ ?_ <;> intro _ <;> (try (exfalso; first | contradiction | omega))) | (refine JL_guardb xR xR ?_ ?_ <;> (intro hgb; subst hgb)) | (refine JL_guardb xR xR ?_ ?_ <;> (intro hgb; fail_if_success (have : type_of% hgb := rfl))) | fail)) | fail)) | refine yJ ?_ | fail))
    all_goals (first | (exfalso; omega) | skip)
    exact J_ret1 rfl (by rfl) fun w H => ⟨_, ⟨rfl, rfl⟩, H.sel xZ⟩
def RT0 (s s' : Qse) (ys : List (Int × Int × Int)) : Prop := Same s s' ∧ ys = [] ∨ 3 ≤ s.t0.st ∧ s'.on = s.on ∧ (s'.again = s.again ∨ s.t1.st = 0) ∧ s'.t0 = tr0 ∧ s'.t1 = s.t1 ∧ ys = failL s.t0.st 0 ∨ 3 ≤ s.t0.st ∧ s'.on = s.on ∧ s'.again = s.again ∧ s'.t0.st = s.t0.st ∧ s'.t1 = s.t1 ∧ ys = [(3, 0, 4)]
def RT1 (s s' : Qse) (ys : List (Int × Int × Int)) : Prop := Same s s' ∧ ys = [] ∨ 3 ≤ s.t1.st ∧ s'.on = s.on ∧ (s'.again = s.again ∨ s.t0.st = 0) ∧ s'.t1 = tr0 ∧ s'.t0 = s.t0 ∧ ys = failL s.t1.st 1 ∨ 3 ≤ s.t1.st ∧ s'.on = s.on ∧ s'.again = s.again ∧ s'.t1.st = s.t1.st ∧ s'.t0 = s.t0 ∧ ys = [(3, 1, 4)]
def RD (q : Bool) (s s' : Qse) (ys : List (Int × Int × Int)) : Prop := Same s s' ∧ ys = [] ∨ s.on = true ∧ s.again ≠ -1 ∧ s'.on = true ∧ s'.t1 = s.t1 ∧ (q = false ∧ s'.t0.st = 1 ∧ (s.t0.st = 1 ∧ ys = [(2, 0, 0), (1, 0, 0)] ∨ s.t0.st ≠ 1 ∧ ys = [(1, 0, 0)]) ∨ q = true ∧ (s.t0.st = 1 ∧ s'.t0 = tr0 ∧ ys = [(2, 0, 0)] ∨ s.t0.st ≠ 1 ∧ s'.t0 = s.t0 ∧ ys = []))
def RTick (q : Bool) (s s' : Qse) (ys : List (Int × Int × Int)) : Prop := ∃ s1 s2 y0 y1 y2, RT0 s s1 y0 ∧ RT1 s1 s2 y1 ∧ RD q s2 s' y2 ∧ ys = (y0 ++ y1) ++ y2
theorem RT_len {s s' : Qse} {ys : List (Int × Int × Int)} (h : RT0 s s' ys ∨ RT1 s s' ys) : ys.length ≤ 3 := by
  unfold RT0 RT1 at h
  rcases h with (⟨_, rfl⟩ | ⟨_, _, _, _, _, rfl⟩ | ⟨_, _, _, _, _, rfl⟩) | (⟨_, rfl⟩ | ⟨_, _, _, _, _, rfl⟩ | ⟨_, _, _, _, _, rfl⟩) <;> simp [failL, dnL] <;> split <;> simp
set_option maxRecDepth 4000 in
theorem Tick_s (b : Nat) (q : Bool) (s : Qse) (hs : SeOk s) (now : Int) : Pact Try.prog 25 #[.pointer (some ⟨b, 0, none⟩), .int .i64 now] (fun _ => True) [pts b (seC q s (.slice none 0 0)) 52] (Did b q (RTick q s)) := by
  refine pact Try.func25 rfl Try.ntmps25 rfl ?_
  intro W K _
  refine J_heap (fun w H => iniA H) ?_
  have h1 := atS_ok hs now
  obtain ⟨nw, hnw⟩ : ∃ nw, max s.now (min now 1099511627776) = nw := ⟨_, rfl⟩
  have ka := at_s b q s (.slice none 0 0) now
  simp only [atS, hnw] at ka h1
  clear hnw
  obtain ⟨on, nw0, ag, t0, t1⟩ := s
  dsimp only at ka h1
  (repeat' (first | ((with_reducible apply gL); (first | refine yL0 ?_ | refine yL ?_ | ((with_reducible apply gL_go); (first | (refine JL_goq (ka) (hφ := xF) (h := ?_); rintro _ _ ⟨rfl, rfl⟩; try simp only [List.cons_append, List.nil_append]; dsimp only [seC]) | fail)) | (refine yM ?_; intro _) | ((with_reducible apply gL_gd); (first | (refine JL_guard xR xR ?_ ?_ <;> intro _ <;> (try (exfalso; first | contradiction | omega))) | (refine JL_guardb xR xR ?_ ?_ <;> (intro hgb; subst hgb)) | (refine JL_guardb xR xR ?_ ?_ <;> (intro hgb; fail_if_success (have : type_of% hgb := rfl))) | fail)) | fail)) | ((with_reducible apply gD); (first | (refine JD_nil ?_; try simp only [List.cons_append, List.nil_append]) | (refine JD_bar ?_; try simp only [List.cons_append, List.nil_append]) | refine yD ?_ | fail)) | refine yJ ?_ | ((with_reducible apply gJ_if); (first | (refine J_if xR ?_ ?_ <;> intro _ <;> (try (exfalso; first | contradiction | omega))) | (refine J_ifb xR ?_ ?_ <;> (intro hgb; subst hgb)) | (refine J_ifb xR ?_ ?_ <;> intro _) | fail)) | refine J_draw (id := 12) [0, 1, 2, 3, 4, 5, 6, 7, 8, 9] [10, 11, 12] mixed xC xD xD ?_ | fail))
  rename_i sp
  refine J_loop (α := Qlp) ⟨0, ⟨on, nw, ag, t0, t1⟩, none, 0, 0, []⟩ (fun x => 2 - x.k) (fun x => SeOk x.s ∧ (x.k = 0 ∧ x.s = ⟨on, nw, ag, t0, t1⟩ ∧ x.zs = [] ∨ x.k = 1 ∧ (∃ y0, RT0 ⟨on, nw0, ag, t0, t1⟩ x.s y0 ∧ Are x.zs y0) ∨ x.k = 2 ∧ ∃ s1 y0 y1, RT0 ⟨on, nw0, ag, t0, t1⟩ s1 y0 ∧ RT1 s1 x.s y1 ∧ Are x.zs (y0 ++ y1))) (fun x => [(2, .pointer (some ⟨sp, 0, none⟩)), (5, .func (.func 50) #[] #[.pointer (some ⟨sp, 0, none⟩)]), (13, .int .i64 x.k)]) (fun x => [pts sp [.pointer (some ⟨b, 0, none⟩)] 24, pts b (seC q x.s (.slice x.a x.n x.c)) 52, Ar 42 14 acC (.slice x.a x.n x.c) x.zs, hasA x.zs]) ⟨h1, .inl ⟨rfl, rfl, rfl⟩⟩ ⟨rfl, rfl, rfl, trivial⟩ (fun w H => H.sel xZ) ?_
  rintro ⟨k, ⟨on', nw', ag', u0, u1⟩, a, n, c, zs⟩ hi
  dsimp only at hi
  obtain ⟨hso, hi⟩ := hi
  have hnw' := hso.now
  have hk0 := hso.t0.keep
  have hk1 := hso.t1.keep
  dsimp only at hnw' hk0 hk1
  dsimp only [seC]
  rcases hi with ⟨rfl, he, rfl⟩ | ⟨rfl, y0, hR, hz⟩ | ⟨rfl, s1, y0, y1, hR, hR1, hz⟩
  · cases he
    have kf := fail0_s b q ⟨on, nw, ag, t0, t1⟩ hso a n c [] (by decide) 4 0 none 0 0 [] rfl (by decide)
    have k1 := fun v => tick1_s sp b q ⟨on, nw, ag, t0, t1⟩ v t0.heard
    have k2 := fun v => tick1_s sp b q ⟨on, nw, ag, t0, t1⟩ v t0.spoke
    have ks := say_s b q ⟨on, nw, ag, { t0 with spoke := nw + t0.keep }, t1⟩ a n c [] (by decide) 0 4 ⟨4, 19, 19⟩ (.inr (.inr rfl)) rfl none 0 0 [] rfl (by decide) (by decide)
    by_cases h3t : 3 ≤ t0.st
    · (repeat' (first | ((with_reducible apply gL); (first | refine yL0 ?_ | refine yL ?_ | ((with_reducible apply gL_go); (first | (refine JL_goq (k1 _) (hφ := xF) (h := ?_); rintro _ _ ⟨rfl, rfl⟩; try simp only [List.cons_append, List.nil_append]; dsimp only [seC]) | (refine JL_goq (k2 _) (hφ := xF) (h := ?_); rintro _ _ ⟨rfl, rfl⟩; try simp only [List.cons_append, List.nil_append]; dsimp only [seC]) | (refine JL_goq (kf) (hφ := (by (try simp only [List.cons_append, List.nil_append]); exact fun w hr => Vw.nil w 1)) (h := ?_); rintro _ _ ⟨a3, n3, c3, ag3, z3, hag, h3, rfl, rfl⟩; try simp only [List.cons_append, List.nil_append]; dsimp only [seC, List.nil_append]) | (refine JL_goq (ks) (hφ := (by (try simp only [List.cons_append, List.nil_append]); exact fun w hr => Vw.nil w 1)) (h := ?_); rintro _ _ ⟨a3, n3, c3, z3, h3, rfl, rfl⟩; try simp only [List.cons_append, List.nil_append]; dsimp only [seC, List.nil_append]) | fail)) | (refine yM ?_; intro _) | ((with_reducible apply gL_gd); (first | (refine JL_guard xR xR ?_ ?_ <;> intro _ <;> (try (exfalso; first | contradiction | omega))) | (refine JL_guardb xR xR ?_ ?_ <;> (intro hgb; subst hgb)) | (refine JL_guardb xR xR ?_ ?_ <;> (intro hgb; fail_if_success (have : type_of% hgb := rfl))) | fail)) | fail)) | ((with_reducible apply gD); (first | (refine JD_nil ?_; try simp only [List.cons_append, List.nil_append]) | (refine JD_bar ?_; try simp only [List.cons_append, List.nil_append]) | refine yD ?_ | fail)) | refine yJ ?_ | ((with_reducible apply gJ_if); (first | (refine J_if xR ?_ ?_ <;> intro _ <;> (try (exfalso; first | contradiction | omega))) | (refine J_ifb xR ?_ ?_ <;> (intro hgb; subst hgb)) | (refine J_ifb xR ?_ ?_ <;> intro _) | fail)) | refine J_draw (id := 12) [0, 1, 2, 3, 4, 5, 6, 7, 8, 9] [10, 11, 12] mixed xC xD xD ?_ | fail))
      all_goals (first | (exfalso; omega) | skip)
      · exact J_again ⟨1, ⟨on, nw, ag3, tr0, t1⟩, a3, n3, c3, z3⟩ (by dsimp only; omega) ⟨⟨hso.now, tr0_ok, hso.t1⟩, .inr (.inl ⟨rfl, _, .inr (.inl ⟨h3t, rfl, hag, rfl, rfl, rfl⟩), h3⟩)⟩ ⟨rfl, rfl, rfl, trivial⟩ (fun w H => H.sel xZ)
      · exact J_again ⟨1, ⟨on, nw, ag, { t0 with spoke := nw + t0.keep }, t1⟩, a3, n3, c3, [z3]⟩ (by dsimp only; omega) ⟨⟨hso.now, ⟨hso.t0.st, hso.t0.hold, hso.t0.keep⟩, hso.t1⟩, .inr (.inl ⟨rfl, _, .inr (.inr ⟨h3t, rfl, rfl, rfl, rfl, rfl⟩), h3⟩)⟩ ⟨rfl, rfl, rfl, trivial⟩ (fun w H => H.sel xZ)
      · exact J_again ⟨1, ⟨on, nw, ag, t0, t1⟩, a, n, c, []⟩ (by dsimp only; omega) ⟨hso, .inr (.inl ⟨rfl, [], .inl ⟨⟨rfl, rfl, rfl, rfl⟩, rfl⟩, trivial⟩)⟩ ⟨rfl, rfl, rfl, trivial⟩ (fun w H => H.sel xZ)
    · (repeat' (first | ((with_reducible apply gL); (first | refine yL0 ?_ | refine yL ?_ | (refine yM ?_; intro _) | ((with_reducible apply gL_gd); (first | (refine JL_guard xR xR ?_ ?_ <;> intro _ <;> (try (exfalso; first | contradiction | omega))) | (refine JL_guardb xR xR ?_ ?_ <;> (intro hgb; subst hgb)) | (refine JL_guardb xR xR ?_ ?_ <;> (intro hgb; fail_if_success (have : type_of% hgb := rfl))) | fail)) | fail)) | ((with_reducible apply gD); (first | (refine JD_nil ?_; try simp only [List.cons_append, List.nil_append]) | (refine JD_bar ?_; try simp only [List.cons_append, List.nil_append]) | refine yD ?_ | fail)) | refine yJ ?_ | ((with_reducible apply gJ_if); (first | (refine J_if xR ?_ ?_ <;> intro _ <;> (try (exfalso; first | contradiction | omega))) | (refine J_ifb xR ?_ ?_ <;> (intro hgb; subst hgb)) | (refine J_ifb xR ?_ ?_ <;> intro _) | fail)) | refine J_draw (id := 12) [0, 1, 2, 3, 4, 5, 6, 7, 8, 9] [10, 11, 12] mixed xC xD xD ?_ | fail))
      all_goals (first | (exfalso; omega) | skip)
      exact J_again ⟨1, ⟨on, nw, ag, t0, t1⟩, a, n, c, []⟩ (by dsimp only; omega) ⟨hso, .inr (.inl ⟨rfl, [], .inl ⟨⟨rfl, rfl, rfl, rfl⟩, rfl⟩, trivial⟩)⟩ ⟨rfl, rfl, rfl, trivial⟩ (fun w H => H.sel xZ)
  · have hl := hz.len
    have hl2 := RT_len (.inl hR)
    have kf := fail1_s b q ⟨on', nw', ag', u0, u1⟩ hso a n c zs (by omega) 4 0 none 0 0 [] rfl (by decide)
    have k1 := fun v => tick1_s sp b q ⟨on', nw', ag', u0, u1⟩ v u1.heard
    have k2 := fun v => tick1_s sp b q ⟨on', nw', ag', u0, u1⟩ v u1.spoke
    have ks := say_s b q ⟨on', nw', ag', u0, { u1 with spoke := nw' + u1.keep }⟩ a n c zs (by omega) 1 4 ⟨4, 19, 19⟩ (.inr (.inr rfl)) rfl none 0 0 [] rfl (by decide) (by decide)
    by_cases h3t : 3 ≤ u1.st
    · (repeat' (first | ((with_reducible apply gL); (first | refine yL0 ?_ | refine yL ?_ | ((with_reducible apply gL_go); (first | (refine JL_goq (k1 _) (hφ := xF) (h := ?_); rintro _ _ ⟨rfl, rfl⟩; try simp only [List.cons_append, List.nil_append]; dsimp only [seC]) | (refine JL_goq (k2 _) (hφ := xF) (h := ?_); rintro _ _ ⟨rfl, rfl⟩; try simp only [List.cons_append, List.nil_append]; dsimp only [seC]) | (refine JL_goq (kf) (hφ := (by (try simp only [List.cons_append, List.nil_append]); exact fun w hr => Vw.nil w 1)) (h := ?_); rintro _ _ ⟨a3, n3, c3, ag3, z3, hag, h3, rfl, rfl⟩; try simp only [List.cons_append, List.nil_append]; dsimp only [seC]) | (refine JL_goq (ks) (hφ := (by (try simp only [List.cons_append, List.nil_append]); exact fun w hr => Vw.nil w 1)) (h := ?_); rintro _ _ ⟨a3, n3, c3, z3, h3, rfl, rfl⟩; try simp only [List.cons_append, List.nil_append]; dsimp only [seC]) | fail)) | (refine yM ?_; intro _) | ((with_reducible apply gL_gd); (first | (refine JL_guard xR xR ?_ ?_ <;> intro _ <;> (try (exfalso; first | contradiction | omega))) | (refine JL_guardb xR xR ?_ ?_ <;> (intro hgb; subst hgb)) | (refine JL_guardb xR xR ?_ ?_ <;> (intro hgb; fail_if_success (have : type_of% hgb := rfl))) | fail)) | fail)) | ((with_reducible apply gD); (first | (refine JD_nil ?_; try simp only [List.cons_append, List.nil_append]) | (refine JD_bar ?_; try simp only [List.cons_append, List.nil_append]) | refine yD ?_ | fail)) | refine yJ ?_ | ((with_reducible apply gJ_if); (first | (refine J_if xR ?_ ?_ <;> intro _ <;> (try (exfalso; first | contradiction | omega))) | (refine J_ifb xR ?_ ?_ <;> (intro hgb; subst hgb)) | (refine J_ifb xR ?_ ?_ <;> intro _) | fail)) | refine J_draw (id := 12) [0, 1, 2, 3, 4, 5, 6, 7, 8, 9] [10, 11, 12] mixed xC xD xD ?_ | fail))
      all_goals (first | (exfalso; omega) | skip)
      · exact J_again ⟨2, ⟨on', nw', ag3, u0, tr0⟩, a3, n3, c3, zs ++ z3⟩ (by dsimp only; omega) ⟨⟨hso.now, hso.t0, tr0_ok⟩, .inr (.inr ⟨rfl, _, _, _, hR, .inr (.inl ⟨h3t, rfl, hag, rfl, rfl, rfl⟩), hz.app h3⟩)⟩ ⟨rfl, rfl, rfl, trivial⟩ (fun w H => H.sel xZ)
      · exact J_again ⟨2, ⟨on', nw', ag', u0, { u1 with spoke := nw' + u1.keep }⟩, a3, n3, c3, zs ++ [z3]⟩ (by dsimp only; omega) ⟨⟨hso.now, hso.t0, ⟨hso.t1.st, hso.t1.hold, hso.t1.keep⟩⟩, .inr (.inr ⟨rfl, _, _, _, hR, .inr (.inr ⟨h3t, rfl, rfl, rfl, rfl, rfl⟩), hz.app h3⟩)⟩ ⟨rfl, rfl, rfl, trivial⟩ (fun w H => H.sel xZ)
      · exact J_again ⟨2, ⟨on', nw', ag', u0, u1⟩, a, n, c, zs⟩ (by dsimp only; omega) ⟨hso, .inr (.inr ⟨rfl, _, _, [], hR, .inl ⟨⟨rfl, rfl, rfl, rfl⟩, rfl⟩, by rw [List.append_nil]; exact hz⟩)⟩ ⟨rfl, rfl, rfl, trivial⟩ (fun w H => H.sel xZ)
    · (repeat' (first | ((with_reducible apply gL); (first | refine yL0 ?_ | refine yL ?_ | (refine yM ?_; intro _) | ((with_reducible apply gL_gd); (first | (refine JL_guard xR xR ?_ ?_ <;> intro _ <;> (try (exfalso; first | contradiction | omega))) | (refine JL_guardb xR xR ?_ ?_ <;> (intro hgb; subst hgb)) | (refine JL_guardb xR xR ?_ ?_ <;> (intro hgb; fail_if_success (have : type_of% hgb := rfl))) | fail)) | fail)) | ((with_reducible apply gD); (first | (refine JD_nil ?_; try simp only [List.cons_append, List.nil_append]) | (refine JD_bar ?_; try simp only [List.cons_append, List.nil_append]) | refine yD ?_ | fail)) | refine yJ ?_ | ((with_reducible apply gJ_if); (first | (refine J_if xR ?_ ?_ <;> intro _ <;> (try (exfalso; first | contradiction | omega))) | (refine J_ifb xR ?_ ?_ <;> (intro hgb; subst hgb)) | (refine J_ifb xR ?_ ?_ <;> intro _) | fail)) | refine J_draw (id := 12) [0, 1, 2, 3, 4, 5, 6, 7, 8, 9] [10, 11, 12] mixed xC xD xD ?_ | fail))
      all_goals (first | (exfalso; omega) | skip)
      exact J_again ⟨2, ⟨on', nw', ag', u0, u1⟩, a, n, c, zs⟩ (by dsimp only; omega) ⟨hso, .inr (.inr ⟨rfl, _, _, [], hR, .inl ⟨⟨rfl, rfl, rfl, rfl⟩, rfl⟩, by rw [List.append_nil]; exact hz⟩)⟩ ⟨rfl, rfl, rfl, trivial⟩ (fun w H => H.sel xZ)
  · have hl := hz.len
    have hl2 := RT_len (.inl hR)
    have hl3 := RT_len (.inr hR1)
    rw [List.length_append] at hl
    have k1 := fun v => tick1_s sp b q ⟨on', nw', ag', u0, u1⟩ v ag'
    have hD := @isD_ne ag' nw'
    dsimp only at k1
    generalize isD ag' nw' = D at k1 hD
    have kd := fun s a n c => done_s b q s a n c
    have kg := forget0_s b q ⟨on', nw', ag', u0, u1⟩ a n c zs (by omega)
    have sb1 : SeOk ⟨on', nw', ag', tr0, u1⟩ := ⟨hso.now, tr0_ok, hso.t1⟩
    cases on'
    · (repeat' (first | ((with_reducible apply gL); (first | refine yL0 ?_ | refine yL ?_ | ((with_reducible apply gL_go); (first | (refine JL_goq (kd ⟨false, nw', ag', u0, u1⟩ a n c) (hφ := xF) (h := ?_); rintro _ _ ⟨rfl, rfl⟩; try simp only [List.cons_append, List.nil_append]) | fail)) | (refine yM ?_; intro _) | ((with_reducible apply gL_gd); (first | (refine JL_guard xR xR ?_ ?_ <;> intro _ <;> (try (exfalso; first | contradiction | omega))) | (refine JL_guardb xR xR ?_ ?_ <;> (intro hgb; subst hgb)) | (refine JL_guardb xR xR ?_ ?_ <;> (intro hgb; fail_if_success (have : type_of% hgb := rfl))) | fail)) | fail)) | ((with_reducible apply gD); (first | (refine JD_nil ?_; try simp only [List.cons_append, List.nil_append]) | (refine JD_bar ?_; try simp only [List.cons_append, List.nil_append]) | refine yD ?_ | fail)) | refine yJ ?_ | ((with_reducible apply gJ_if); (first | (refine J_if xR ?_ ?_ <;> intro _ <;> (try (exfalso; first | contradiction | omega))) | (refine J_ifb xR ?_ ?_ <;> (intro hgb; subst hgb)) | (refine J_ifb xR ?_ ?_ <;> intro _) | fail)) | refine J_draw (id := 12) [0, 1, 2, 3, 4, 5, 6, 7, 8, 9] [10, 11, 12] mixed xC xD xD ?_ | fail))
      all_goals (first | (exfalso; omega) | skip)
      exact J_ret1 rfl (by rfl) fun w H => ⟨_, ⟨a, n, c, ⟨false, nw', ag', u0, u1⟩, _, zs, hso, ⟨_, _, y0, y1, [], hR, hR1, .inl ⟨⟨rfl, rfl, rfl, rfl⟩, rfl⟩, rfl⟩, by rw [List.append_nil]; exact hz, rfl, rfl⟩, H.sel xZ⟩
    cases D
    · (repeat' (first | ((with_reducible apply gL); (first | refine yL0 ?_ | refine yL ?_ | ((with_reducible apply gL_go); (first | (refine JL_goq (k1 _) (hφ := xF) (h := ?_); rintro _ _ ⟨rfl, rfl⟩; try simp only [List.cons_append, List.nil_append]; dsimp only [seC]) | (refine JL_goq (kd ⟨true, nw', ag', u0, u1⟩ a n c) (hφ := xF) (h := ?_); rintro _ _ ⟨rfl, rfl⟩; try simp only [List.cons_append, List.nil_append]) | fail)) | (refine yM ?_; intro _) | ((with_reducible apply gL_gd); (first | (refine JL_guard xR xR ?_ ?_ <;> intro _ <;> (try (exfalso; first | contradiction | omega))) | (refine JL_guardb xR xR ?_ ?_ <;> (intro hgb; subst hgb)) | (refine JL_guardb xR xR ?_ ?_ <;> (intro hgb; fail_if_success (have : type_of% hgb := rfl))) | fail)) | fail)) | ((with_reducible apply gD); (first | (refine JD_nil ?_; try simp only [List.cons_append, List.nil_append]) | (refine JD_bar ?_; try simp only [List.cons_append, List.nil_append]) | refine yD ?_ | fail)) | refine yJ ?_ | ((with_reducible apply gJ_if); (first | (refine J_if xR ?_ ?_ <;> intro _ <;> (try (exfalso; first | contradiction | omega))) | (refine J_ifb xR ?_ ?_ <;> (intro hgb; subst hgb)) | (refine J_ifb xR ?_ ?_ <;> intro _) | fail)) | refine J_draw (id := 12) [0, 1, 2, 3, 4, 5, 6, 7, 8, 9] [10, 11, 12] mixed xC xD xD ?_ | fail))
      all_goals (first | (exfalso; omega) | skip)
      exact J_ret1 rfl (by rfl) fun w H => ⟨_, ⟨a, n, c, ⟨true, nw', ag', u0, u1⟩, _, zs, hso, ⟨_, _, y0, y1, [], hR, hR1, .inl ⟨⟨rfl, rfl, rfl, rfl⟩, rfl⟩, rfl⟩, by rw [List.append_nil]; exact hz, rfl, rfl⟩, H.sel xZ⟩
    have hne := hD rfl
    cases q
    · by_cases h1t : u0.st = 1
      · (repeat' (first | ((with_reducible apply gL); (first | refine yL0 ?_ | refine yL ?_ | ((with_reducible apply gL_go); (first | (refine JL_goq (k1 _) (hφ := xF) (h := ?_); rintro _ _ ⟨rfl, rfl⟩; try simp only [List.cons_append, List.nil_append]; dsimp only [seC]) | (refine JL_goq (kg) (hφ := xF) (h := ?_); rintro _ _ ⟨a3, n3, c3, z3, h3, rfl, rfl⟩; try simp only [List.cons_append, List.nil_append]; dsimp only [seC]) | (refine JL_goq (try_f b ⟨true, nw', ag', tr0, u1⟩ sb1 a3 n3 c3 (zs ++ [z3]) (by simp only [List.length_append, List.length_singleton]; omega)) (hφ := xF) (h := ?_); rintro _ _ ⟨a4, n4, c4, z4, h4, rfl, rfl⟩; try simp only [List.cons_append, List.nil_append]; dsimp only [seC]) | (refine JL_goq (kd ⟨true, nw', nw' + 50, ⟨1, op0, 0, 0, 0, 0⟩, u1⟩ a4 n4 c4) (hφ := xF) (h := ?_); rintro _ _ ⟨rfl, rfl⟩; try simp only [List.cons_append, List.nil_append]) | fail)) | (refine yM ?_; intro _) | ((with_reducible apply gL_gd); (first | (refine JL_guard xR xR ?_ ?_ <;> intro _ <;> (try (exfalso; first | contradiction | omega))) | (refine JL_guardb xR xR ?_ ?_ <;> (intro hgb; subst hgb)) | (refine JL_guardb xR xR ?_ ?_ <;> (intro hgb; fail_if_success (have : type_of% hgb := rfl))) | fail)) | fail)) | ((with_reducible apply gD); (first | (refine JD_nil ?_; try simp only [List.cons_append, List.nil_append]) | (refine JD_bar ?_; try simp only [List.cons_append, List.nil_append]) | refine yD ?_ | fail)) | refine yJ ?_ | ((with_reducible apply gJ_if); (first | (refine J_if xR ?_ ?_ <;> intro _ <;> (try (exfalso; first | contradiction | omega))) | (refine J_ifb xR ?_ ?_ <;> (intro hgb; subst hgb)) | (refine J_ifb xR ?_ ?_ <;> intro _) | fail)) | refine J_draw (id := 12) [0, 1, 2, 3, 4, 5, 6, 7, 8, 9] [10, 11, 12] mixed xC xD xD ?_ | fail))
        all_goals (first | (exfalso; omega) | skip)
        exact J_ret1 rfl (by rfl) fun w H => ⟨_, ⟨a4, n4, c4, ⟨true, nw', nw' + 50, ⟨1, op0, 0, 0, 0, 0⟩, u1⟩, _, (zs ++ [z3]) ++ [z4], ⟨hso.now, tr1_ok, hso.t1⟩, ⟨_, _, y0, y1, [(2, 0, 0), (1, 0, 0)], hR, hR1, .inr ⟨rfl, hne, rfl, rfl, .inl ⟨rfl, rfl, .inl ⟨h1t, rfl⟩⟩⟩, rfl⟩, by have h9 := hz.app (h3.app h4); rw [← List.append_assoc zs] at h9; exact h9, rfl, rfl⟩, H.sel xZ⟩
      · (repeat' (first | ((with_reducible apply gL); (first | refine yL0 ?_ | refine yL ?_ | ((with_reducible apply gL_go); (first | (refine JL_goq (k1 _) (hφ := xF) (h := ?_); rintro _ _ ⟨rfl, rfl⟩; try simp only [List.cons_append, List.nil_append]; dsimp only [seC]) | (refine JL_goq (try_f b ⟨true, nw', ag', u0, u1⟩ hso a n c zs (by omega)) (hφ := xF) (h := ?_); rintro _ _ ⟨a4, n4, c4, z4, h4, rfl, rfl⟩; try simp only [List.cons_append, List.nil_append]; dsimp only [seC]) | (refine JL_goq (kd ⟨true, nw', nw' + 50, ⟨1, op0, 0, 0, 0, 0⟩, u1⟩ a4 n4 c4) (hφ := xF) (h := ?_); rintro _ _ ⟨rfl, rfl⟩; try simp only [List.cons_append, List.nil_append]) | fail)) | (refine yM ?_; intro _) | ((with_reducible apply gL_gd); (first | (refine JL_guard xR xR ?_ ?_ <;> intro _ <;> (try (exfalso; first | contradiction | omega))) | (refine JL_guardb xR xR ?_ ?_ <;> (intro hgb; subst hgb)) | (refine JL_guardb xR xR ?_ ?_ <;> (intro hgb; fail_if_success (have : type_of% hgb := rfl))) | fail)) | fail)) | ((with_reducible apply gD); (first | (refine JD_nil ?_; try simp only [List.cons_append, List.nil_append]) | (refine JD_bar ?_; try simp only [List.cons_append, List.nil_append]) | refine yD ?_ | fail)) | refine yJ ?_ | ((with_reducible apply gJ_if); (first | (refine J_if xR ?_ ?_ <;> intro _ <;> (try (exfalso; first | contradiction | omega))) | (refine J_ifb xR ?_ ?_ <;> (intro hgb; subst hgb)) | (refine J_ifb xR ?_ ?_ <;> intro _) | fail)) | refine J_draw (id := 12) [0, 1, 2, 3, 4, 5, 6, 7, 8, 9] [10, 11, 12] mixed xC xD xD ?_ | fail))
        all_goals (first | (exfalso; omega) | skip)
        exact J_ret1 rfl (by rfl) fun w H => ⟨_, ⟨a4, n4, c4, ⟨true, nw', nw' + 50, ⟨1, op0, 0, 0, 0, 0⟩, u1⟩, _, _, ⟨hso.now, tr1_ok, hso.t1⟩, ⟨_, _, y0, y1, [(1, 0, 0)], hR, hR1, .inr ⟨rfl, hne, rfl, rfl, .inl ⟨rfl, rfl, .inr ⟨h1t, rfl⟩⟩⟩, rfl⟩, hz.app h4, rfl, rfl⟩, H.sel xZ⟩
    · by_cases h1t : u0.st = 1
      · (repeat' (first | ((with_reducible apply gL); (first | refine yL0 ?_ | refine yL ?_ | ((with_reducible apply gL_go); (first | (refine JL_goq (k1 _) (hφ := xF) (h := ?_); rintro _ _ ⟨rfl, rfl⟩; try simp only [List.cons_append, List.nil_append]; dsimp only [seC]) | (refine JL_goq (kg) (hφ := xF) (h := ?_); rintro _ _ ⟨a3, n3, c3, z3, h3, rfl, rfl⟩; try simp only [List.cons_append, List.nil_append]; dsimp only [seC]) | (refine JL_goq (try_t b ⟨true, nw', ag', tr0, u1⟩ sb1 _) (hφ := xF) (h := ?_); rintro _ _ ⟨rfl, rfl⟩; try simp only [List.cons_append, List.nil_append]; dsimp only [seC]) | (refine JL_goq (kd ⟨true, nw', nw' + 50, tr0, u1⟩ a3 n3 c3) (hφ := xF) (h := ?_); rintro _ _ ⟨rfl, rfl⟩; try simp only [List.cons_append, List.nil_append]) | fail)) | (refine yM ?_; intro _) | ((with_reducible apply gL_gd); (first | (refine JL_guard xR xR ?_ ?_ <;> intro _ <;> (try (exfalso; first | contradiction | omega))) | (refine JL_guardb xR xR ?_ ?_ <;> (intro hgb; subst hgb)) | (refine JL_guardb xR xR ?_ ?_ <;> (intro hgb; fail_if_success (have : type_of% hgb := rfl))) | fail)) | fail)) | ((with_reducible apply gD); (first | (refine JD_nil ?_; try simp only [List.cons_append, List.nil_append]) | (refine JD_bar ?_; try simp only [List.cons_append, List.nil_append]) | refine yD ?_ | fail)) | refine yJ ?_ | ((with_reducible apply gJ_if); (first | (refine J_if xR ?_ ?_ <;> intro _ <;> (try (exfalso; first | contradiction | omega))) | (refine J_ifb xR ?_ ?_ <;> (intro hgb; subst hgb)) | (refine J_ifb xR ?_ ?_ <;> intro _) | fail)) | refine J_draw (id := 12) [0, 1, 2, 3, 4, 5, 6, 7, 8, 9] [10, 11, 12] mixed xC xD xD ?_ | fail))
        all_goals (first | (exfalso; omega) | skip)
        exact J_ret1 rfl (by rfl) fun w H => ⟨_, ⟨a3, n3, c3, ⟨true, nw', nw' + 50, tr0, u1⟩, _, _, ⟨hso.now, tr0_ok, hso.t1⟩, ⟨_, _, y0, y1, [(2, 0, 0)], hR, hR1, .inr ⟨rfl, hne, rfl, rfl, .inr ⟨rfl, .inl ⟨h1t, rfl, rfl⟩⟩⟩, rfl⟩, hz.app h3, rfl, rfl⟩, H.sel xZ⟩
      · (repeat' (first | ((with_reducible apply gL); (first | refine yL0 ?_ | refine yL ?_ | ((with_reducible apply gL_go); (first | (refine JL_goq (k1 _) (hφ := xF) (h := ?_); rintro _ _ ⟨rfl, rfl⟩; try simp only [List.cons_append, List.nil_append]; dsimp only [seC]) | (refine JL_goq (try_t b ⟨true, nw', ag', u0, u1⟩ hso _) (hφ := xF) (h := ?_); rintro _ _ ⟨rfl, rfl⟩; try simp only [List.cons_append, List.nil_append]; dsimp only [seC]) | (refine JL_goq (kd ⟨true, nw', nw' + 50, u0, u1⟩ a n c) (hφ := xF) (h := ?_); rintro _ _ ⟨rfl, rfl⟩; try simp only [List.cons_append, List.nil_append]) | fail)) | (refine yM ?_; intro _) | ((with_reducible apply gL_gd); (first | (refine JL_guard xR xR ?_ ?_ <;> intro _ <;> (try (exfalso; first | contradiction | omega))) | (refine JL_guardb xR xR ?_ ?_ <;> (intro hgb; subst hgb)) | (refine JL_guardb xR xR ?_ ?_ <;> (intro hgb; fail_if_success (have : type_of% hgb := rfl))) | fail)) | fail)) | ((with_reducible apply gD); (first | (refine JD_nil ?_; try simp only [List.cons_append, List.nil_append]) | (refine JD_bar ?_; try simp only [List.cons_append, List.nil_append]) | refine yD ?_ | fail)) | refine yJ ?_ | ((with_reducible apply gJ_if); (first | (refine J_if xR ?_ ?_ <;> intro _ <;> (try (exfalso; first | contradiction | omega))) | (refine J_ifb xR ?_ ?_ <;> (intro hgb; subst hgb)) | (refine J_ifb xR ?_ ?_ <;> intro _) | fail)) | refine J_draw (id := 12) [0, 1, 2, 3, 4, 5, 6, 7, 8, 9] [10, 11, 12] mixed xC xD xD ?_ | fail))
        all_goals (first | (exfalso; omega) | skip)
        exact J_ret1 rfl (by rfl) fun w H => ⟨_, ⟨a, n, c, ⟨true, nw', nw' + 50, u0, u1⟩, _, _, ⟨hso.now, hso.t0, hso.t1⟩, ⟨_, _, y0, y1, [], hR, hR1, .inr ⟨rfl, hne, rfl, rfl, .inr ⟨rfl, .inr ⟨h1t, rfl, rfl⟩⟩⟩, rfl⟩, by rw [List.append_nil]; exact hz, rfl, rfl⟩, H.sel xZ⟩
end Go.Proofs.Ytfonbpmdbpdncaa
