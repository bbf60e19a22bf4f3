/-
  FsmVoid: a session that no call made has and does nothing.
-/
import Derived.Test.YtfonbpmdbpdncaaZFsmVoid18
import Derived.HandedShaped
namespace Go.Proofs.Ytfonbpmdbpdncaa
set_option linter.unusedSimpArgs false
set_option linter.unusedVariables false
set_option maxRecDepth 20000
set_option maxHeartbeats 4000000
open Go.RowKit Go.Pm

theorem Are.get1 {zs : List Ac} {y : Int × Int × Int} (h : Are zs [y]) : ∃ z, zs = [z] ∧ acIs z y := by
  match zs, h with
  | [z], h => exact ⟨z, rfl, h.1⟩
  | _ :: _ :: _, h => exact h.2.elim
theorem message_k (x : Ac) (m k : Int) (h3 : x.kind = 3) (h : acIs x (3, k, m)) : Pact Try.prog 11 #[.agg (acC x).toArray] (fun w => Vw w (.slice x.a x.b.length x.c) 1 x.b.length (flat byC x.b)) [] (fun u L' => (1 ≤ m ∧ m ≠ 2 ∧ m ≤ 4) ∧ ∃ ba bn bc bl, u = .agg #[.int .i64 m, .slice ba bn bc] ∧ L' = [Ar 5 1 byC (.slice ba bn bc) bl]) := by
  obtain ⟨d, body, hd, rfl, hb, h1, h2⟩ := h.2.2 h3
  have hm : 1 ≤ d.k ∧ d.k ≠ 2 ∧ d.k ≤ 4 := by rcases hd with rfl | rfl | rfl <;> decide
  intro W K w hK H
  refine (message_s x d hd body hb h1 h2 W K w hK H).mono fun e w' h3 => ?_
  obtain ⟨u, L', ⟨ba, bc, h4, h5⟩, h6⟩ := h3
  exact ⟨u, L', ⟨hm, ba, _, bc, body, h4, h5⟩, h6⟩
def Did2 (b : Nat) (q : Bool) (R : Qse → List (Int × Int × Int) → Prop) (u : Value) (L' : List HP) : Prop := ∃ a c s' ys zs, SeOk s' ∧ R s' ys ∧ Are zs ys ∧ u = .slice a zs.length c ∧ L' = [pts b (seC q s' (.slice none 0 0)) 52, Ar 42 14 acC (.slice a zs.length c) zs, hasA zs]
theorem did2 {f : FuncId} {args : Array Value} {φ : World → Prop} {L : List HP} {b : Nat} {q : Bool} {R : Qse → List (Int × Int × Int) → Prop} (h : Pact Try.prog f args φ L (Did b q R)) : Pact Try.prog f args φ L (Did2 b q R) := fun W K w hK H =>
  (h W K w hK H).mono fun e w' h3 => by
    obtain ⟨u, L', ⟨a, n, c, s', ys, zs, h4, h5, h6, rfl, rfl⟩, h7, h8⟩ := h3
    have hn := (Ow.arShape (e := 42) (sz := 14) (enc := acC) h8 xA).1
    subst hn
    exact ⟨_, _, ⟨a, c, s', ys, zs, h4, h5, h6, rfl, rfl⟩, h7, h8⟩
theorem Are.first {zs : List Ac} {y : Int × Int × Int} (h : Are zs [y]) : ∃ z, zs[0]? = some z ∧ zs.length = 1 ∧ z ∈ zs ∧ acIs z y := by
  obtain ⟨z, rfl, h2⟩ := h.get1
  exact ⟨z, rfl, rfl, by simp, h2⟩
theorem works1 {s : Qse} {y : List (Int × Int × Int)} (h : RStart false se0 s y) : s.on = true ∧ s.t1 = tr0 ∧ s.t0.st = 1 ∧ y = [(1, 0, 0)] := by
  rcases h with ⟨h, _⟩ | ⟨_, h1, h2, ⟨h, _⟩ | ⟨_, h3, h4⟩⟩
  · cases h
  · cases h
  · exact ⟨h1, h2, h3, h4⟩
theorem works2 {s s' : Qse} {y : List (Int × Int × Int)} (h : RUp0 s s' y) (h1 : s.on = true) (h2 : s.t1 = tr0) (h3 : s.t0.st = 1) : s'.on = true ∧ s'.t1 = tr0 ∧ s'.t0.st = 3 ∧ y = [(3, 0, 1)] := by
  rcases h with ⟨h, _⟩ | ⟨_, h | h | h, _⟩ | ⟨_, _, _, _, h4, _, h5, h6, h7⟩
  · omega
  · rw [h1] at h; cases h
  · exact absurd h3 h.2
  · rw [h2] at h; cases h
  · exact ⟨h4, h6.trans h2, h5, h7⟩
theorem works3 {s s' : Qse} {y : List (Int × Int × Int)} (h : RTake0 (fun o r => o = opB ∧ r = true) 1 s s' y) (h1 : s.on = true) (h2 : s.t1 = tr0) (h3 : s.t0.st = 3) : s'.on = true ∧ s'.t1 = tr0 ∧ s'.t0.st = 4 ∧ y = [(3, 0, 4)] := by
  rcases h with ⟨h, _⟩ | ⟨_, h, _⟩ | ⟨_, _, s0, ⟨g1, g2, g3, g4⟩, ⟨h, _⟩ | ⟨_, hE | ⟨hn, _⟩⟩⟩
  · omega
  · cases h
  · omega
  · rcases hE with ⟨_, _, _, hO⟩ | ⟨h, _⟩ | ⟨_, _, h, _⟩
    · rcases hO with ⟨⟨o, r, ⟨rfl, rfl⟩, h | h | h⟩, _⟩ | ⟨s1, r, y0, hC, ⟨rfl, _⟩ | ⟨rfl, k1, k2, k3, k4, k5⟩⟩
      · exact absurd rfl h
      · exact absurd rfl h
      · exact absurd h (by decide)
      · rcases hC with ⟨_, h, _⟩ | ⟨h, _⟩
        · cases h
        · rw [g4, h2] at h; rcases h with h | h <;> cases h
      · rcases hC with ⟨_, _, rfl, rfl⟩ | ⟨h, _⟩
        · exact ⟨k1.trans (g1.trans h1), k4.trans (g4.trans h2), k3, k5⟩
        · rw [g4, h2] at h; rcases h with h | h <;> cases h
    · cases h
    · cases h
  · exact absurd ⟨rfl, h3⟩ hn
theorem works4 {P : Op_ → Bool → Prop} {s s' : Qse} {y : List (Int × Int × Int)} (h : RTake0 P 4 s s' y) (h1 : s.on = true) (h2 : s.t1 = tr0) (h3 : s.t0.st = 4) : stV s' = 5 ∧ y = [(4, 0, 0)] := by
  rcases h with ⟨h, _⟩ | ⟨_, h, _⟩ | ⟨_, _, s0, ⟨g1, g2, g3, g4⟩, ⟨h, _⟩ | ⟨_, hE | ⟨_, hn, _⟩⟩⟩
  · omega
  · cases h
  · omega
  · rcases hE with ⟨h, _⟩ | ⟨_, _, _, k1, k2, k3, k4, k5⟩ | ⟨_, _, h, _⟩
    · cases h
    · rw [g4, h2] at k3 k5
      have e1 : s'.t1.st = 0 := by rw [k3]; rfl
      refine ⟨?_, k5⟩
      unfold stV
      rw [if_pos (k1.trans (g1.trans h1)), e1, k4]
      decide
    · cases h
  · exact absurd ⟨rfl, h3⟩ hn
theorem kwA.get {xs : List Ac} {w : World} (h : kwA xs w) {x : Ac} (hx : x ∈ xs) (h3 : x.kind = 3) : Vw w (.slice x.a x.b.length x.c) 1 x.b.length (flat byC x.b) := h x hx h3
set_option maxRecDepth 4000 in
theorem works_s : Pact Try.prog 6 #[] (fun _ => True) [] (ret0 (.bool true)) := by
  refine pact Try.func6 rfl Try.ntmps6 rfl ?_
  intro W K _
  have k0 := fun b => did2 (Start_s b false se0 se0_ok 0)
  (repeat' (first | ((with_reducible apply gL); (first | (with_reducible apply gL_app) | (with_reducible apply gL_app0) | refine yL0 ?_ | refine yL ?_ | ((with_reducible apply gL_go); (first | (refine JL_goq (one_s false) (hφ := xF) (h := ?_); rintro _ _ ⟨g, rfl, rfl⟩; try simp only [List.cons_append, List.nil_append]) | (refine JL_goq (k0 _) (hφ := xF) (h := ?_); rintro _ _ ⟨a1, c1, s1, y1, z1, hs1, hR1, e1, rfl, rfl⟩; try simp only [List.cons_append, List.nil_append]) | fail)) | ((with_reducible apply gL_gd); (first | (refine JL_guard xR xR ?_ ?_ <;> intro _ <;> (try (exfalso; first | contradiction | omega))) | (refine JL_guardb xR xR ?_ ?_ <;> (intro hgb; subst hgb)) | (refine JL_guardb xR xR ?_ ?_ <;> (intro hgb; fail_if_success (have : type_of% hgb := rfl))) | fail)) | fail)) | refine yJ ?_ | ((with_reducible apply gJ_if); (first | (refine J_if xR ?_ ?_ <;> intro _ <;> (try (exfalso; first | contradiction | omega))) | (refine J_ifb xR ?_ ?_ <;> (intro hgb; subst hgb)) | (refine J_ifb xR ?_ ?_ <;> intro _) | fail)) | fail))
  obtain ⟨p1, p2, p3, rfl⟩ := works1 hR1
  obtain ⟨x1, hx1, hl1, hm1, q1⟩ := e1.first
  have q1k : x1.kind = 1 := q1.1
  have k1 := did2 (Up0_s g false s1 hs1 1)
  (repeat' (first | ((with_reducible apply gL); (first | (with_reducible apply gL_app) | (with_reducible apply gL_app0) | refine yL0 ?_ | refine yL ?_ | ((with_reducible apply gL_go); (first | (refine JL_goq (k1) (hφ := xF) (h := ?_); rintro _ _ ⟨a2, c2, s2, y2, z2, hs2, hR2, e2, rfl, rfl⟩; try simp only [List.cons_append, List.nil_append]) | (refine JL_goq (obuildB_s) (hφ := xF) (h := ?_); rintro _ _ ⟨ba, bc, rfl, rfl⟩; try simp only [List.cons_append, List.nil_append]) | fail)) | ((with_reducible apply gL_gd); (first | (refine JL_guard xR xR ?_ ?_ <;> intro _ <;> (try (exfalso; first | contradiction | omega))) | (refine JL_guardb xR xR ?_ ?_ <;> (intro hgb; subst hgb)) | (refine JL_guardb xR xR ?_ ?_ <;> (intro hgb; fail_if_success (have : type_of% hgb := rfl))) | fail)) | fail)) | refine yJ ?_ | ((with_reducible apply gJ_if); (first | (refine J_if xR ?_ ?_ <;> intro _ <;> (try (exfalso; first | contradiction | omega))) | (refine J_ifb xR ?_ ?_ <;> (intro hgb; subst hgb)) | (refine J_ifb xR ?_ ?_ <;> intro _) | fail)) | fail))
  obtain ⟨p1, p2, p3, rfl⟩ := works2 hR2 p1 p2 p3
  obtain ⟨x2, hx2, hl2, hm2, q2⟩ := e2.first
  have q2k : x2.kind = 3 := q2.1
  have k2 := did2 (Take0_s (fun o r => o = opB ∧ r = true) g false s2 hs2 2 1 ba bc bB4 (by decide) (readB ba bc))
  rw [show bB4.length = 10 from rfl] at k2
  (repeat' (first | ((with_reducible apply gL); (first | (with_reducible apply gL_app) | (with_reducible apply gL_app0) | refine yL0 ?_ | refine yL ?_ | ((with_reducible apply gL_go); (first | (refine JL_goq (k2) (hφ := (by (try simp only [List.cons_append, List.nil_append]); exact fun w hr => srcN xA rfl w hr)) (h := ?_); rintro _ _ ⟨a3, c3, s3, y3, z3, hs3, hR3, e3, rfl, rfl⟩; try simp only [List.cons_append, List.nil_append]) | fail)) | ((with_reducible apply gL_gd); (first | (refine JL_guard xR xR ?_ ?_ <;> intro _ <;> (try (exfalso; first | contradiction | omega))) | (refine JL_guardb xR xR ?_ ?_ <;> (intro hgb; subst hgb)) | (refine JL_guardb xR xR ?_ ?_ <;> (intro hgb; fail_if_success (have : type_of% hgb := rfl))) | fail)) | fail)) | refine yJ ?_ | ((with_reducible apply gJ_if); (first | (refine J_if xR ?_ ?_ <;> intro _ <;> (try (exfalso; first | contradiction | omega))) | (refine J_ifb xR ?_ ?_ <;> (intro hgb; subst hgb)) | (refine J_ifb xR ?_ ?_ <;> intro _) | fail)) | fail))
  obtain ⟨p1, p2, p3, rfl⟩ := works3 hR3 p1 p2 p3
  obtain ⟨x3, hx3, hl3, hm3, q3⟩ := e3.first
  have q3k : x3.kind = 3 := q3.1
  have k3 := did2 (Take0_s (fun _ _ => True) g false s3 hs3 3 4 none 0 [] (by decide) (readAny none 0 [] (by simp [U8s]) (by decide)))
  rw [List.length_nil] at k3
  (repeat' (first | ((with_reducible apply gL); (first | (with_reducible apply gL_app) | (with_reducible apply gL_app0) | refine yL0 ?_ | refine yL ?_ | ((with_reducible apply gL_go); (first | (refine JL_goq (k3) (hφ := (by (try simp only [List.cons_append, List.nil_append]); exact fun w hr => Vw.nil w 1)) (h := ?_); rintro _ _ ⟨a4, c4, s4, y4, z4, hs4, hR4, e4, rfl, rfl⟩; try simp only [List.cons_append, List.nil_append]) | fail)) | ((with_reducible apply gL_gd); (first | (refine JL_guard xR xR ?_ ?_ <;> intro _ <;> (try (exfalso; first | contradiction | omega))) | (refine JL_guardb xR xR ?_ ?_ <;> (intro hgb; subst hgb)) | (refine JL_guardb xR xR ?_ ?_ <;> (intro hgb; fail_if_success (have : type_of% hgb := rfl))) | fail)) | fail)) | refine yJ ?_ | ((with_reducible apply gJ_if); (first | (refine J_if xR ?_ ?_ <;> intro _ <;> (try (exfalso; first | contradiction | omega))) | (refine J_ifb xR ?_ ?_ <;> (intro hgb; subst hgb)) | (refine J_ifb xR ?_ ?_ <;> intro _) | fail)) | fail))
  obtain ⟨p5, rfl⟩ := works4 hR4 p1 p2 p3
  obtain ⟨x4, hx4, hl4, hm4, q4⟩ := e4.first
  have q4k : x4.kind = 4 := q4.1
  have ks := State_s g false s4 (.slice none 0 0)
  rw [p5] at ks
  (repeat' (first | ((with_reducible apply gL); (first | (with_reducible apply gL_app) | (with_reducible apply gL_app0) | refine yL0 ?_ | refine yL ?_ | ((with_reducible apply gL_go); (first | (refine JL_goq (message_k x2 1 0 q2k q2) (hφ := (by (try simp only [List.cons_append, List.nil_append]); exact fun w hr => kwA.get (hr.has (φ := kwA z2) xA) hm2 q2k)) (h := ?_); rintro _ _ ⟨_, ba2, bn2, bc2, bl2, rfl, rfl⟩; try simp only [List.cons_append, List.nil_append]) | (refine JL_goq (message_k x3 4 0 q3k q3) (hφ := (by (try simp only [List.cons_append, List.nil_append]); exact fun w hr => kwA.get (hr.has (φ := kwA z3) xA) hm3 q3k)) (h := ?_); rintro _ _ ⟨_, ba3, bn3, bc3, bl3, rfl, rfl⟩; try simp only [List.cons_append, List.nil_append]) | (refine JL_goq (ks) (hφ := xF) (h := ?_); rintro _ _ ⟨rfl, rfl⟩; try simp only [List.cons_append, List.nil_append]) | fail)) | ((with_reducible apply gL_gd); (first | (refine JL_guard xR xR ?_ ?_ <;> intro _ <;> (try (exfalso; first | contradiction | omega))) | (refine JL_guardb xR xR ?_ ?_ <;> (intro hgb; subst hgb)) | (refine JL_guardb xR xR ?_ ?_ <;> (intro hgb; fail_if_success (have : type_of% hgb := rfl))) | fail)) | fail)) | refine yJ ?_ | ((with_reducible apply gJ_if); (first | (refine J_if xR ?_ ?_ <;> intro _ <;> (try (exfalso; first | contradiction | omega))) | (refine J_ifb xR ?_ ?_ <;> (intro hgb; subst hgb)) | (refine J_ifb xR ?_ ?_ <;> intro _) | fail)) | fail))
  all_goals (first | (exfalso; omega) | skip)
  exact J_ret1 rfl (by rfl) fun w H => ⟨_, ⟨rfl, rfl⟩, H.sel xZ⟩
end Go.Proofs.Ytfonbpmdbpdncaa
namespace Go.Proofs.Ytfonbpmdbpdncaa
set_option linter.unusedSimpArgs false
set_option linter.unusedVariables false
set_option maxRecDepth 20000
set_option maxHeartbeats 4000000
open Go.RowKit Go.Pm

set_option maxRecDepth 4000 in
theorem void23_s (e : Qev) (he : EvOk e) : Pact Try.prog 5 #[.agg (evC e).toArray] (fun w => EvV w e) [] (ret0 (.bool true)) := by
  refine pact Try.func5 rfl Try.ntmps5 rfl ?_
  intro W K hK
  (repeat' (first | ((with_reducible apply gL); (first | (with_reducible apply gL_app) | (with_reducible apply gL_app0) | refine yL0 ?_ | refine yL ?_ | ((with_reducible apply gL_go); (first | (refine JL_goq (works_s) (hφ := xF) (h := ?_); rintro _ _ ⟨rfl, rfl⟩; try simp only [List.cons_append, List.nil_append]) | (refine JL_goq (Due_nil) (hφ := xF) (h := ?_); rintro _ _ ⟨rfl, rfl⟩; try simp only [List.cons_append, List.nil_append]) | (refine JL_goq (Due_zero _) (hφ := xF) (h := ?_); rintro _ _ ⟨rfl, rfl⟩; try simp only [List.cons_append, List.nil_append]) | (refine JL_goq (hear_nil e he) (hφ := (by (try simp only [List.cons_append, List.nil_append]); exact fun w hr => hK w hr.1)) (h := ?_); rintro _ _ ⟨rfl, rfl⟩; try simp only [List.cons_append, List.nil_append]) | (refine JL_goq (hear_zero _ e he) (hφ := (by (try simp only [List.cons_append, List.nil_append]); exact fun w hr => hK w hr.1)) (h := ?_); rintro _ _ ⟨rfl, rfl⟩; try simp only [List.cons_append, List.nil_append]) | (refine JL_goq (State_nil) (hφ := xF) (h := ?_); rintro _ _ ⟨rfl, rfl⟩; try simp only [List.cons_append, List.nil_append]) | (refine JL_goq (State_zero _) (hφ := xF) (h := ?_); rintro _ _ ⟨rfl, rfl⟩; try simp only [List.cons_append, List.nil_append]) | (refine JL_goq (Track_nil) (hφ := xF) (h := ?_); rintro _ _ ⟨rfl, rfl⟩; try simp only [List.cons_append, List.nil_append]) | (refine JL_goq (Track_zero _) (hφ := xF) (h := ?_); rintro _ _ ⟨rfl, rfl⟩; try simp only [List.cons_append, List.nil_append]) | (refine JL_goq (Peer_nil) (hφ := xF) (h := ?_); rintro _ _ ⟨rfl, rfl⟩; try simp only [List.cons_append, List.nil_append]) | (refine JL_goq (Peer_zero _) (hφ := xF) (h := ?_); rintro _ _ ⟨rfl, rfl⟩; try simp only [List.cons_append, List.nil_append]) | fail)) | (refine yM ?_; intro _) | fail)) | ((with_reducible apply gD); (first | (refine JD_nil ?_; try simp only [List.cons_append, List.nil_append]) | (refine JD_bar ?_; try simp only [List.cons_append, List.nil_append]) | (with_reducible apply gD_app) | (with_reducible apply gD_app0) | refine yD0 ?_ | ((with_reducible apply gD_bin_eql); (first | (first | (refine JL_p rfl xR xR (pe_eqOp xR xR) ?_) | (refine JD_p rfl xR rfl (pe_eqOp xR xR) ?_)) | fail)) | refine yD ?_ | ((with_reducible apply gD_go); (first | (refine JD_goq (works_s) (hφ := xF) (h := ?_); rintro _ _ ⟨rfl, rfl⟩; try simp only [List.cons_append, List.nil_append]) | (refine JD_goq (Due_nil) (hφ := xF) (h := ?_); rintro _ _ ⟨rfl, rfl⟩; try simp only [List.cons_append, List.nil_append]) | (refine JD_goq (Due_zero _) (hφ := xF) (h := ?_); rintro _ _ ⟨rfl, rfl⟩; try simp only [List.cons_append, List.nil_append]) | (refine JD_goq (hear_nil e he) (hφ := (by (try simp only [List.cons_append, List.nil_append]); exact fun w hr => hK w hr.1)) (h := ?_); rintro _ _ ⟨rfl, rfl⟩; try simp only [List.cons_append, List.nil_append]) | (refine JD_goq (hear_zero _ e he) (hφ := (by (try simp only [List.cons_append, List.nil_append]); exact fun w hr => hK w hr.1)) (h := ?_); rintro _ _ ⟨rfl, rfl⟩; try simp only [List.cons_append, List.nil_append]) | (refine JD_goq (State_nil) (hφ := xF) (h := ?_); rintro _ _ ⟨rfl, rfl⟩; try simp only [List.cons_append, List.nil_append]) | (refine JD_goq (State_zero _) (hφ := xF) (h := ?_); rintro _ _ ⟨rfl, rfl⟩; try simp only [List.cons_append, List.nil_append]) | (refine JD_goq (Track_nil) (hφ := xF) (h := ?_); rintro _ _ ⟨rfl, rfl⟩; try simp only [List.cons_append, List.nil_append]) | (refine JD_goq (Track_zero _) (hφ := xF) (h := ?_); rintro _ _ ⟨rfl, rfl⟩; try simp only [List.cons_append, List.nil_append]) | (refine JD_goq (Peer_nil) (hφ := xF) (h := ?_); rintro _ _ ⟨rfl, rfl⟩; try simp only [List.cons_append, List.nil_append]) | (refine JD_goq (Peer_zero _) (hφ := xF) (h := ?_); rintro _ _ ⟨rfl, rfl⟩; try simp only [List.cons_append, List.nil_append]) | fail)) | ((with_reducible apply gD_gd); (first | (refine JD_guard xR xR ?_ ?_ <;> intro _ <;> (try (exfalso; first | contradiction | omega))) | (refine JD_guardb xR xR ?_ ?_ <;> (intro hgb; subst hgb)) | (refine JD_guardb xR xR ?_ ?_ <;> (intro hgb; fail_if_success (have : type_of% hgb := rfl))) | fail)) | fail)) | refine yJ ?_ | ((with_reducible apply gJ_if); (first | (refine J_if xR ?_ ?_ <;> intro _ <;> (try (exfalso; first | contradiction | omega))) | (refine J_ifb xR ?_ ?_ <;> (intro hgb; subst hgb)) | (refine J_ifb xR ?_ ?_ <;> intro _) | fail)) | refine J_draw (id := 7) [0, 1, 4, 8, 13, 2, 3, 5, 6, 7, 9, 10, 11, 12, 14, 15, 16, 17, 18, 19, 20, 21, 22, 23, 24, 25, 26, 27, 28, 30, 29, 31, 32, 33, 35, 34] [36, 37, 38] mixed xC xD xD ?_ | fail))
  all_goals (first | (exfalso; omega) | skip)
  exact J_ret1 rfl (by rfl) fun w H => ⟨_, ⟨rfl, rfl⟩, H.sel xZ⟩
end Go.Proofs.Ytfonbpmdbpdncaa
namespace Go.Proofs.Ytfonbpmdbpdncaa
set_option linter.unusedSimpArgs false
set_option linter.unusedVariables false
open Go.RowKit Go.Pm

theorem kn_keep {W : World} {φ : World → Prop} (hk : ∀ {w w' : World}, (∀ b o u, w.cell? ⟨b, o, none⟩ = some u → w'.cell? ⟨b, o, none⟩ = some u) → φ w → φ w') (h : φ W) : Kn (World.all W) φ :=
  Kn.all (fun w ho => hk (fun b o u hu => by
    rw [World.cell?_of_block (w := W) (ho.block b (World.block_lt_of_cell? _ _ hu) (by simp))]
    exact hu) h) fun w w' hh hr => hk (fun b o u hu => by rw [cell?_heap hh]; exact hu) hr
theorem u8_el {w : World} (m : Nat) (d : List Value) (_ : d.length = 1) (h : Rs Try.prog w m 5 d) : ∃ z : Int, d = byC z ∧ (0 ≤ z ∧ z ≤ 255) := by
  have h0 := leaf_of 5 5 [5] m d (by kernel_rfl) h
  obtain ⟨z, r, e, hb, h1⟩ := h0.u8 Try.underlying5
  subst e
  obtain rfl := h1.nil'
  exact ⟨z, rfl, hb⟩
theorem bytes_el {w : World} {n : Nat} {a : Option Addr} {l c : Nat} (h : Rs Try.prog w n 30 [.slice a l c]) : ∃ B : List Int, B.length = l ∧ U8s B ∧ Vw w (.slice a B.length c) 1 B.length (flat byC B) := by
  obtain ⟨es, h0, h1, h2, h3, h4, h5⟩ := h.list (sz := 1) (b := 1) (enc := byC) (ok := fun z => 0 ≤ z ∧ z ≤ 255) Try.underlying30 (by kernel_rfl) (by kernel_rfl) u8_el
  exact ⟨es, h0, h5, h4⟩
theorem ev_el {w : World} (m : Nat) (d : List Value) (_ : d.length = 9) (h : Rs Try.prog w m 36 d) : ∃ e : Qev, d = evC e ∧ EvOk e ∧ EvV w e := by
  have h0 := leaf_of 5 36 [3, 3, 3, 3, 3, 30, 3, 3, 30] m d (by kernel_rfl) h
  obtain ⟨dd, r, e, b0, h1⟩ := h0.i64 Try.underlying3
  subst e
  obtain ⟨now, r, e, b1, h2⟩ := h1.i64 Try.underlying3
  subst e
  obtain ⟨n, r, e, b2, h3⟩ := h2.i64 Try.underlying3
  subst e
  obtain ⟨tr, r, e, b3, h4⟩ := h3.i64 Try.underlying3
  subst e
  obtain ⟨kd, r, e, b4, h5⟩ := h4.i64 Try.underlying3
  subst e
  obtain ⟨ma, ml, mc, r, e, ⟨m1, hm⟩, h6⟩ := h5.sl Try.underlying30
  subst e
  obtain ⟨z, r, e, b6, h7⟩ := h6.i64 Try.underlying3
  subst e
  obtain ⟨sub, r, e, b7, h8⟩ := h7.i64 Try.underlying3
  subst e
  obtain ⟨fa, fl, fc, r, e, ⟨m2, hf⟩, h9⟩ := h8.sl Try.underlying30
  subst e
  obtain rfl := h9.nil'
  obtain ⟨B, rfl, hB, hv⟩ := bytes_el hm
  obtain ⟨C, rfl, hC, hw⟩ := bytes_el hf
  exact ⟨⟨dd, now, n, tr, kd, ma, mc, B, z, sub, fa, fc, C⟩, rfl, ⟨b0, hB, hC⟩, hv, hw⟩
end Go.Proofs.Ytfonbpmdbpdncaa
namespace Go.Proofs.Ytfonbpmdbpdncaa
set_option linter.unusedSimpArgs false
set_option linter.unusedVariables false
open Go.RowKit Go.Pm

namespace fsmVoid
theorem walk {W : World} (n0 : Nat) {cs0 : Array Value} (g0 : Rs Try.prog W n0 36 (Value.agg cs0).cells.toList) :
    Calls Try.prog 5 #[.agg cs0] W fun e w' => e = .returned (.bool true) ∧ Only [] W w' := by
  have hl : cs0.toList.length = 9 := (leaf_of 5 36 [3, 3, 3, 3, 3, 30, 3, 3, 30] n0 cs0.toList (by kernel_rfl) g0).len
  obtain ⟨e, h1, h2, h3⟩ := ev_el n0 cs0.toList hl g0
  have h4 : cs0 = (evC e).toArray := by rw [← h1]
  subst h4
  exact (void23_s e h2).law (kn_keep (fun hc h => ⟨vwKeep hc h.1, vwKeep hc h.2⟩) h3)
end fsmVoid
namespace fsmVoid
open Go.ChangeShapes Go.WideShapes Go.ChangeAt
set_option linter.unusedVariables false

theorem own : ownKnob Try.prog.godebug = none := by kernel_rfl
theorem laidOut : laidOutB Try.prog = true := by kernel_rfl

set_option maxRecDepth 100000 in
theorem lifted (os : Os) (started : os.Started) (H : Type) (enc : TypeId × Value → H) :
    ReturnsInHanded {} Try.checked os 5 .any (Rows.fsmVoidSpec.pre6 enc Try.prog Try.f5 Rows.fsmVoidRow.domain false) (Rows.fsmVoidSpec.post enc Try.prog Try.f5 false true false false) := by
  refine returnsInHanded_of_change_sized (C := Try.checked) own started (by kernel_rfl) Try.func5
    (ChangeSpec.witness6 (enc := enc) (C := Try.checked) false ⟨#[], #[.agg #[.int .i64 0, .int .i64 0, .int .i64 0, .int .i64 0, .int .i64 0, .slice none 0 0, .int .i64 0, .int .i64 0, .slice none 0 0]], []⟩ 8 (by kernel_rfl) (by kernel_rfl) (by kernel_rfl) (by kernel_rfl)) ?_
  intro W base args ds gs before hval0 hW hcnd hsz hreach
  have hval : ∀ (j : Nat) t v, Try.f5.params[j]? = some t → args[j]? = some v → Value.okWide Try.prog W .any base t v := hval0
  have hW' := hW
  obtain ⟨p, q, hA0, hV, rfl, hfz, hnd⟩ := hW
  have hA : DataW.TrodAll enc Try.prog W 0 (fun _ => true) true Try.f5.params.toList args.toList ds p := hA0
  rw [Try.params5] at hA hval
  obtain ⟨v0, vs0, d0, ds0, p0, q0, hargs, rfl, rfl, h0, r0⟩ := trodAll_cons hA
  obtain ⟨rfl, rfl, rfl⟩ := trodAll_nil r0
  obtain rfl : args = #[v0] := by cases args; simp_all
  obtain ⟨rfl, rfl⟩ := trodVars_none hV
  have k0 := h0
  have lt0 : ∀ x ∈ p0, x.block < W.heap.size := by obtain ⟨m, hm⟩ := k0; exact DataW.trod_lt m _ _ _ hm
  obtain ⟨n0, g0⟩ := Rs.of_weights hsz 0 (by first | rfl | (simp [Try.params5])) rfl h0
  obtain ⟨cs0, rfl, hs0⟩ := okWide_struct Try.underlying36 (hval 0 36 v0 rfl rfl)
  refine (walk n0 g0).mono fun e W' ⟨he, hg⟩ => ?_
  subst he
  have bel := hg.belowNil
  exact ⟨_, rfl, _, _, _, [], _, [], hW', trodAll_mk1 (shut_bool Try.underlying4 _), (trodAll_cons_mk (Below.trod laidOut (by kernel_rfl) (of_decide_eq_true (by kernel_rfl)) k0 bel lt0) trodAll_mk0), rfl, bel.frame _, fun h => by cases h⟩

theorem over : Rows.fsmVoidRow.holds Try.pinned (OpenSpec.ofChange Rows.fsmVoidSpec) :=
  OpenClaim.holds_of_wide 5 Try.f5 rfl rfl rfl rfl rfl rfl rfl ⟨rfl, rfl, rfl, rfl, rfl⟩ rfl rfl rfl rfl rfl (by kernel_rfl) Try.func5 (by kernel_rfl)
    (of_decide_eq_true (by kernel_rfl)) (by unfold Func.isWrapper; first | (rw [if_pos (by decide +kernel)]; kernel_rfl) | (rw [if_neg (by decide +kernel)]; exact ⟨rfl, rfl⟩))
    (fun os started H enc _ => lifted os started H enc)

theorem proved : Rows.FsmVoidSaid := over
#print axioms proved
end fsmVoid
end Go.Proofs.Ytfonbpmdbpdncaa
