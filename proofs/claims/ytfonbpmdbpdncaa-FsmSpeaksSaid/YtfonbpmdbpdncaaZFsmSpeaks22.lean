/-
  Fs24, Fs26, Fs25: merged.
-/
import Derived.Test.YtfonbpmdbpdncaaZFsmSpeaks21
namespace Go.Proofs.Ytfonbpmdbpdncaa
set_option linter.unusedSimpArgs false
set_option linter.unusedVariables false
set_option maxRecDepth 20000
set_option maxHeartbeats 4000000
open Go.RowKit Go.Pm

abbrev se0 : Qse := ⟨false, 0, -1, tr0, tr0⟩
theorem se0_ok : SeOk se0 := ⟨by decide, tr0_ok, tr0_ok⟩
theorem cright_s (q : Bool) : Pact Try.prog 48 #[.agg #[.int .u32 65001, .int .u32 1, .int .i64 90, .int .u32 65002, .bool q, .int .i64 5, .int .i64 120]] (fun _ => True) [] (ret0 (.bool true)) := by
  refine pact Try.func48 rfl Try.ntmps48 rfl ?_
  intro W K _
  (repeat' (first | ((with_reducible apply gL); (first | refine yL0 ?_ | refine yL ?_ | (refine yM ?_; intro _) | ((with_reducible apply gL_gd); (first | (refine JL_guard xR xR ?_ ?_ <;> intro _ <;> (try (exfalso; first | contradiction | omega))) | (refine JL_guardb xR xR ?_ ?_ <;> (intro hgb; subst hgb)) | (refine JL_guardb xR xR ?_ ?_ <;> (intro hgb; fail_if_success (have : type_of% hgb := rfl))) | fail)) | fail)) | refine yJ ?_ | ((with_reducible apply gJ_if); (first | (refine J_if xR ?_ ?_ <;> intro _ <;> (try (exfalso; first | contradiction | omega))) | (refine J_ifb xR ?_ ?_ <;> (intro hgb; subst hgb)) | (refine J_ifb xR ?_ ?_ <;> intro _) | fail)) | fail))
  exact J_ret1 rfl (by rfl) fun w H => ⟨_, ⟨rfl, rfl⟩, H.sel xZ⟩
theorem fnew_s (q : Bool) : Pact Try.prog 18 #[.agg #[.int .u32 65001, .int .u32 1, .int .i64 90, .int .u32 65002, .bool q, .int .i64 5, .int .i64 120]] (fun _ => True) [] (fun u L' => ∃ g, u = .tuple #[.pointer (some ⟨g, 0, none⟩), .int .i64 0] ∧ L' = [pts g (seC q se0 (.slice none 0 0)) 52]) := by
  refine pact Try.func18 rfl Try.ntmps18 rfl ?_
  intro W K _
  (repeat' (first | ((with_reducible apply gL); (first | refine yL0 ?_ | refine yL ?_ | ((with_reducible apply gL_go); (first | (refine JL_goq (cright_s q) (hφ := xF) (h := ?_); rintro _ _ ⟨rfl, rfl⟩; try simp only [List.cons_append, List.nil_append]) | fail)) | (refine yM ?_; intro _) | fail)) | refine yJ ?_ | ((with_reducible apply gJ_if); (first | (refine J_if xR ?_ ?_ <;> intro _ <;> (try (exfalso; first | contradiction | omega))) | (refine J_ifb xR ?_ ?_ <;> (intro hgb; subst hgb)) | (refine J_ifb xR ?_ ?_ <;> intro _) | fail)) | fail))
  exact J_ret2 rfl (by rfl) (by rfl) fun w H => ⟨_, ⟨_, rfl, rfl⟩, H.sel xZ⟩
theorem one_s (q : Bool) : Pact Try.prog 7 #[.int .i64 0, .bool q] (fun _ => True) [] (fun u L' => ∃ g, u = .pointer (some ⟨g, 0, none⟩) ∧ L' = [pts g (seC q se0 (.slice none 0 0)) 52]) := by
  refine pact Try.func7 rfl Try.ntmps7 rfl ?_
  intro W K _
  (repeat' (first | ((with_reducible apply gL); (first | refine yL0 ?_ | refine yL ?_ | ((with_reducible apply gL_go); (first | (refine JL_goq (fnew_s q) (hφ := xF) (h := ?_); rintro _ _ ⟨g, rfl, rfl⟩; try simp only [List.cons_append, List.nil_append]) | fail)) | fail)) | refine yJ ?_ | fail))
  exact J_ret1 rfl (by rfl) fun w H => ⟨_, ⟨g, rfl, rfl⟩, H.sel xZ⟩
theorem few23_s (kd : Int) (a : Option Addr) (n c : Nat) (l : List Int) (hn : l.length = n) (hb : U8s l) : Pact Try.prog 26 #[.agg #[.int .i64 kd, .slice a n c]] (fun w => Vw w (.slice a n c) 1 n (flat byC l)) [] (fun u L' => ∃ a' c' B, B.length ≤ 200 ∧ U8s B ∧ u = .agg #[.int .i64 kd, .slice a' B.length c'] ∧ L' = [Ar 5 1 byC (.slice a' B.length c') B]) := by
  refine pact Try.func26 rfl Try.ntmps26 rfl ?_
  intro W K hK
  refine J_fact (φ := n ≤ c ∧ c ≤ maxLen) (fun w H => by obtain ⟨_, _, he, _, h3, h4, _⟩ := hK.of H; cases he; exact ⟨h3, h4⟩) ?_
  rintro ⟨hc, hcm⟩
  obtain ⟨m, hm, hm2⟩ : ∃ m : Nat, m ≤ n ∧ m ≤ 200 ∧ min (n : Int) 200 = (m : Int) := ⟨min n 200, by omega, by omega, by omega⟩
  obtain ⟨hm2, em⟩ := hm2
  have hK2 : Kn K (fun w => Vw w (.slice a m c) 1 m (flat byC (l.take m))) := hK.imp fun w h => Vw_take' h (fun _ => rfl) hn m hm
  have hml : (l.take m).length = m := by rw [List.length_take]; omega
  have kb := bytes_s a c m (l.take m) hml (by omega)
  have hbt := hb.take m
  (repeat' (first | ((with_reducible apply gL); (first | refine yL0 ?_ | refine yL ?_ | (refine yM ?_; intro _) | fail)) | refine yJ ?_ | fail))
  rw [em]
  (repeat' (first | ((with_reducible apply gL); (first | refine yL0 ?_ | refine yL ?_ | ((with_reducible apply gL_go); (first | (refine JL_goq (kb) (hφ := (by (try simp only [List.cons_append, List.nil_append]); exact fun w hr => hK2 w hr.1)) (h := ?_); rintro _ _ ⟨a', c', rfl, rfl⟩; try simp only [List.cons_append, List.nil_append]) | fail)) | (refine yM ?_; intro _) | fail)) | refine yJ ?_ | fail))
  exact J_retC (cs := [.int .i64 kd, .slice a' (l.take m).length c']) rfl (by rfl) xA (by rfl) fun w H => ⟨_, ⟨a', c', l.take m, by omega, hbt, rfl, rfl⟩, H.sel xZ⟩
theorem fault23_s (kd sub : Int) (a : Option Addr) (n c : Nat) (l : List Int) (hn : l.length = n) (hb : U8s l) : Pact Try.prog 24 #[.agg #[.int .i64 kd, .int .i64 sub, .slice a n c]] (fun w => Vw w (.slice a n c) 1 n (flat byC l)) [] (fun u L' => ∃ a' c' B, B.length ≤ 100 ∧ U8s B ∧ u = .agg #[.int .i64 kd, .int .i64 sub, .slice a' B.length c'] ∧ L' = [Ar 5 1 byC (.slice a' B.length c') B]) := by
  refine pact Try.func24 rfl Try.ntmps24 rfl ?_
  intro W K hK
  refine J_fact (φ := n ≤ c ∧ c ≤ maxLen) (fun w H => by obtain ⟨_, _, he, _, h3, h4, _⟩ := hK.of H; cases he; exact ⟨h3, h4⟩) ?_
  rintro ⟨hc, hcm⟩
  obtain ⟨m, hm, hm2⟩ : ∃ m : Nat, m ≤ n ∧ m ≤ 100 ∧ min (n : Int) 100 = (m : Int) := ⟨min n 100, by omega, by omega, by omega⟩
  obtain ⟨hm2, em⟩ := hm2
  have hK2 : Kn K (fun w => Vw w (.slice a m c) 1 m (flat byC (l.take m))) := hK.imp fun w h => Vw_take' h (fun _ => rfl) hn m hm
  have hml : (l.take m).length = m := by rw [List.length_take]; omega
  have kb := bytes_s a c m (l.take m) hml (by omega)
  have hbt := hb.take m
  (repeat' (first | ((with_reducible apply gL); (first | refine yL0 ?_ | refine yL ?_ | (refine yM ?_; intro _) | fail)) | refine yJ ?_ | fail))
  rw [em]
  (repeat' (first | ((with_reducible apply gL); (first | refine yL0 ?_ | refine yL ?_ | ((with_reducible apply gL_go); (first | (refine JL_goq (kb) (hφ := (by (try simp only [List.cons_append, List.nil_append]); exact fun w hr => hK2 w hr.1)) (h := ?_); rintro _ _ ⟨a', c', rfl, rfl⟩; try simp only [List.cons_append, List.nil_append]) | fail)) | (refine yM ?_; intro _) | fail)) | refine yJ ?_ | fail))
  exact J_retC (cs := [.int .i64 kd, .int .i64 sub, .slice a' (l.take m).length c']) rfl (by rfl) xA (by rfl) fun w H => ⟨_, ⟨a', c', l.take m, by omega, hbt, rfl, rfl⟩, H.sel xZ⟩
theorem readAny (a : Option Addr) (c : Nat) (l : List Int) (hb : U8s l) (hl : l.length ≤ 1000) : ReadAs (fun _ _ => True) a l.length c (fun w => Vw w (.slice a l.length c) 1 l.length (flat byC l)) := fun W K w hK H =>
  (oread_s a l.length c l rfl hb hl W K w hK H).mono fun e' w' h3 => by
    obtain ⟨u, L', ⟨o, z, sub, fa, fn, fc, fl, r, h4, h5, h6, h7, h8⟩, h9⟩ := h3
    exact ⟨u, L', ⟨o, z, sub, fa, fn, fc, fl, r, trivial, h4, h5, h6, h7, h8⟩, h9⟩
theorem readB (a : Option Addr) (c : Nat) : ReadAs (fun o r => o = opB ∧ r = true) a 10 c (fun w => Vw w (.slice a 10 c) 1 10 (flat byC bB4)) := fun W K w hK H =>
  (oreadB_s a c W K w hK H).mono fun e' w' h3 => by
    obtain ⟨u, L', ⟨rfl, rfl⟩, h4, h5⟩ := h3
    exact ⟨_, _, ⟨opB, 0, 0, none, 0, 0, [], true, ⟨rfl, rfl⟩, by decide, rfl, by decide, rfl, rfl⟩, h4, Ow.arNil (e := 5) (sz := 1) (enc := byC) h5⟩
def RNone (s s' : Qse) (ys : List (Int × Int × Int)) : Prop := Same s s' ∧ ys = []
theorem UpN_s (b : Nat) (q : Bool) (s : Qse) (hs : SeOk s) (now k : Int) (hk : k < 0 ∨ 2 ≤ k) : Pact Try.prog 15 #[.pointer (some ⟨b, 0, none⟩), .int .i64 now, .int .i64 k] (fun _ => True) [pts b (seC q s (.slice none 0 0)) 52] (Did b q (RNone s)) := by
  refine pact Try.func15 rfl Try.ntmps15 rfl ?_
  intro W K _
  refine J_heap (fun w H => iniA H) ?_
  have h1 := atS_ok hs now
  (repeat' (first | ((with_reducible apply gL); (first | (with_reducible apply gL_app) | (with_reducible apply gL_app0) | refine yL0 ?_ | refine yL ?_ | ((with_reducible apply gL_go); (first | (refine JL_goq (trackN_s (some ⟨b, 0, none⟩) k hk) (hφ := xF) (h := ?_); rintro _ _ ⟨rfl, rfl⟩; try simp only [List.cons_append, List.nil_append]) | (refine JL_goq (at_s b q s (.slice none 0 0) now) (hφ := xF) (h := ?_); rintro _ _ ⟨rfl, rfl⟩; try simp only [List.cons_append, List.nil_append]) | fail)) | ((with_reducible apply gL_gd); (first | (refine JL_guard xR xR ?_ ?_ <;> intro _ <;> (try (exfalso; first | contradiction | omega))) | (refine JL_guardb xR xR ?_ ?_ <;> (intro hgb; subst hgb)) | (refine JL_guardb xR xR ?_ ?_ <;> (intro hgb; fail_if_success (have : type_of% hgb := rfl))) | fail)) | fail)) | ((with_reducible apply gD); (first | (refine JD_nil ?_; try simp only [List.cons_append, List.nil_append]) | (refine JD_bar ?_; try simp only [List.cons_append, List.nil_append]) | (with_reducible apply gD_app) | (with_reducible apply gD_app0) | refine yD ?_ | ((with_reducible apply gD_go); (first | (refine JD_goq (trackN_s (some ⟨b, 0, none⟩) k hk) (hφ := xF) (h := ?_); rintro _ _ ⟨rfl, rfl⟩; try simp only [List.cons_append, List.nil_append]) | (refine JD_goq (at_s b q s (.slice none 0 0) now) (hφ := xF) (h := ?_); rintro _ _ ⟨rfl, rfl⟩; try simp only [List.cons_append, List.nil_append]) | fail)) | fail)) | refine yJ ?_ | ((with_reducible apply gJ_if); (first | (refine J_if xR ?_ ?_ <;> intro _ <;> (try (exfalso; first | contradiction | omega))) | (refine J_ifb xR ?_ ?_ <;> (intro hgb; subst hgb)) | (refine J_ifb xR ?_ ?_ <;> intro _) | fail)) | refine J_draw (id := 7) [0, 1, 2, 3, 4, 5, 6, 7, 8, 9, 10, 11, 12, 13, 14, 15, 16, 17, 18, 19, 20, 21, 22, 23, 24, 25, 26] [27, 28, 29, 30, 31, 32] mixed xC xD xD ?_ | fail))
  all_goals (first | (exfalso; omega) | skip)
  exact J_ret1 rfl (by rfl) fun w H => ⟨_, ⟨none, 0, 0, atS s now, [], [], h1, ⟨⟨rfl, rfl, rfl, rfl⟩, rfl⟩, trivial, rfl, rfl⟩, H.sel xZ⟩
theorem GoneN_s (b : Nat) (q : Bool) (s : Qse) (hs : SeOk s) (now k : Int) (hk : k < 0 ∨ 2 ≤ k) : Pact Try.prog 22 #[.pointer (some ⟨b, 0, none⟩), .int .i64 now, .int .i64 k] (fun _ => True) [pts b (seC q s (.slice none 0 0)) 52] (Did b q (RNone s)) := by
  refine pact Try.func22 rfl Try.ntmps22 rfl ?_
  intro W K _
  refine J_heap (fun w H => iniA H) ?_
  have h1 := atS_ok hs now
  (repeat' (first | ((with_reducible apply gL); (first | refine yL0 ?_ | refine yL ?_ | ((with_reducible apply gL_go); (first | (refine JL_goq (trackN_s (some ⟨b, 0, none⟩) k hk) (hφ := xF) (h := ?_); rintro _ _ ⟨rfl, rfl⟩; try simp only [List.cons_append, List.nil_append]) | (refine JL_goq (at_s b q s (.slice none 0 0) now) (hφ := xF) (h := ?_); rintro _ _ ⟨rfl, rfl⟩; try simp only [List.cons_append, List.nil_append]) | fail)) | ((with_reducible apply gL_gd); (first | (refine JL_guard xR xR ?_ ?_ <;> intro _ <;> (try (exfalso; first | contradiction | omega))) | (refine JL_guardb xR xR ?_ ?_ <;> (intro hgb; subst hgb)) | (refine JL_guardb xR xR ?_ ?_ <;> (intro hgb; fail_if_success (have : type_of% hgb := rfl))) | fail)) | fail)) | refine yJ ?_ | ((with_reducible apply gJ_if); (first | (refine J_if xR ?_ ?_ <;> intro _ <;> (try (exfalso; first | contradiction | omega))) | (refine J_ifb xR ?_ ?_ <;> (intro hgb; subst hgb)) | (refine J_ifb xR ?_ ?_ <;> intro _) | fail)) | fail))
  all_goals (first | (exfalso; omega) | skip)
  exact J_ret1 rfl (by rfl) fun w H => ⟨_, ⟨none, 0, 0, atS s now, [], [], h1, ⟨⟨rfl, rfl, rfl, rfl⟩, rfl⟩, trivial, rfl, rfl⟩, H.sel xZ⟩
theorem FailN_s (b : Nat) (q : Bool) (s : Qse) (hs : SeOk s) (now k : Int) (hk : k < 0 ∨ 2 ≤ k) (z sub : Int) (fa : Option Addr) (fn fc : Nat) : Pact Try.prog 23 #[.pointer (some ⟨b, 0, none⟩), .int .i64 now, .int .i64 k, .agg #[.int .i64 z, .int .i64 sub, .slice fa fn fc]] (fun _ => True) [pts b (seC q s (.slice none 0 0)) 52] (Did b q (RNone s)) := by
  refine pact Try.func23 rfl Try.ntmps23 rfl ?_
  intro W K _
  refine J_heap (fun w H => iniA H) ?_
  have h1 := atS_ok hs now
  (repeat' (first | ((with_reducible apply gL); (first | refine yL0 ?_ | refine yL ?_ | ((with_reducible apply gL_go); (first | (refine JL_goq (trackN_s (some ⟨b, 0, none⟩) k hk) (hφ := xF) (h := ?_); rintro _ _ ⟨rfl, rfl⟩; try simp only [List.cons_append, List.nil_append]) | (refine JL_goq (at_s b q s (.slice none 0 0) now) (hφ := xF) (h := ?_); rintro _ _ ⟨rfl, rfl⟩; try simp only [List.cons_append, List.nil_append]) | fail)) | (refine yM ?_; intro _) | ((with_reducible apply gL_gd); (first | (refine JL_guard xR xR ?_ ?_ <;> intro _ <;> (try (exfalso; first | contradiction | omega))) | (refine JL_guardb xR xR ?_ ?_ <;> (intro hgb; subst hgb)) | (refine JL_guardb xR xR ?_ ?_ <;> (intro hgb; fail_if_success (have : type_of% hgb := rfl))) | fail)) | fail)) | refine yJ ?_ | ((with_reducible apply gJ_if); (first | (refine J_if xR ?_ ?_ <;> intro _ <;> (try (exfalso; first | contradiction | omega))) | (refine J_ifb xR ?_ ?_ <;> (intro hgb; subst hgb)) | (refine J_ifb xR ?_ ?_ <;> intro _) | fail)) | fail))
  all_goals (first | (exfalso; omega) | skip)
  exact J_ret1 rfl (by rfl) fun w H => ⟨_, ⟨none, 0, 0, atS s now, [], [], h1, ⟨⟨rfl, rfl, rfl, rfl⟩, rfl⟩, trivial, rfl, rfl⟩, H.sel xZ⟩
theorem TakeN_s (b : Nat) (q : Bool) (s : Qse) (hs : SeOk s) (now k : Int) (hk : k < 0 ∨ 2 ≤ k) (kd : Int) (ma : Option Addr) (mn mc : Nat) : Pact Try.prog 17 #[.pointer (some ⟨b, 0, none⟩), .int .i64 now, .int .i64 k, .agg #[.int .i64 kd, .slice ma mn mc]] (fun _ => True) [pts b (seC q s (.slice none 0 0)) 52] (Did b q (RNone s)) := by
  refine pact Try.func17 rfl Try.ntmps17 rfl ?_
  intro W K _
  refine J_heap (fun w H => iniA H) ?_
  have h1 := atS_ok hs now
  (repeat' (first | ((with_reducible apply gL); (first | refine yL0 ?_ | refine yL ?_ | ((with_reducible apply gL_go); (first | (refine JL_goq (trackN_s (some ⟨b, 0, none⟩) k hk) (hφ := xF) (h := ?_); rintro _ _ ⟨rfl, rfl⟩; try simp only [List.cons_append, List.nil_append]) | (refine JL_goq (at_s b q s (.slice none 0 0) now) (hφ := xF) (h := ?_); rintro _ _ ⟨rfl, rfl⟩; try simp only [List.cons_append, List.nil_append]) | fail)) | (refine yM ?_; intro _) | ((with_reducible apply gL_gd); (first | (refine JL_guard xR xR ?_ ?_ <;> intro _ <;> (try (exfalso; first | contradiction | omega))) | (refine JL_guardb xR xR ?_ ?_ <;> (intro hgb; subst hgb)) | (refine JL_guardb xR xR ?_ ?_ <;> (intro hgb; fail_if_success (have : type_of% hgb := rfl))) | fail)) | fail)) | refine yJ ?_ | ((with_reducible apply gJ_if); (first | (refine J_if xR ?_ ?_ <;> intro _ <;> (try (exfalso; first | contradiction | omega))) | (refine J_ifb xR ?_ ?_ <;> (intro hgb; subst hgb)) | (refine J_ifb xR ?_ ?_ <;> intro _) | fail)) | fail))
  all_goals (first | (exfalso; omega) | skip)
  exact J_ret1 rfl (by rfl) fun w H => ⟨_, ⟨none, 0, 0, atS s now, [], [], h1, ⟨⟨rfl, rfl, rfl, rfl⟩, rfl⟩, trivial, rfl, rfl⟩, H.sel xZ⟩
end Go.Proofs.Ytfonbpmdbpdncaa
namespace Go.Proofs.Ytfonbpmdbpdncaa
set_option linter.unusedSimpArgs false
set_option linter.unusedVariables false
set_option maxRecDepth 20000
set_option maxHeartbeats 4000000
open Go.RowKit Go.Pm

theorem Are.get1 {zs : List Ac} {y : Int × Int × Int} (h : Are zs [y]) : ∃ z, zs = [z] ∧ acIs z y := by
  match zs, h with
  | [z], h => exact ⟨z, rfl, h.1⟩
  | _ :: _ :: _, h => exact h.2.elim
theorem message_k (x : Ac) (m k : Int) (h3 : x.kind = 3) (h : acIs x (3, k, m)) : Pact Try.prog 11 #[.agg (acC x).toArray] (fun w => Vw w (.slice x.a x.b.length x.c) 1 x.b.length (flat byC x.b)) [] (fun u L' => (1 ≤ m ∧ m ≠ 2 ∧ m ≤ 4) ∧ ∃ ba bn bc bl, u = .agg #[.int .i64 m, .slice ba bn bc] ∧ L' = [Ar 5 1 byC (.slice ba bn bc) bl]) := by
  obtain ⟨d, body, hd, rfl, hb, h1, h2⟩ := h.2.2 h3
  have hm : 1 ≤ d.k ∧ d.k ≠ 2 ∧ d.k ≤ 4 := by rcases hd with rfl | rfl | rfl <;> decide
  intro W K w hK H
  refine (message_s x d hd body hb h1 h2 W K w hK H).mono fun e w' h3 => ?_
  obtain ⟨u, L', ⟨ba, bc, h4, h5⟩, h6⟩ := h3
  exact ⟨u, L', ⟨hm, ba, _, bc, body, h4, h5⟩, h6⟩
def Did2 (b : Nat) (q : Bool) (R : Qse → List (Int × Int × Int) → Prop) (u : Value) (L' : List HP) : Prop := ∃ a c s' ys zs, SeOk s' ∧ R s' ys ∧ Are zs ys ∧ u = .slice a zs.length c ∧ L' = [pts b (seC q s' (.slice none 0 0)) 52, Ar 42 14 acC (.slice a zs.length c) zs, hasA zs]
theorem did2 {f : FuncId} {args : Array Value} {φ : World → Prop} {L : List HP} {b : Nat} {q : Bool} {R : Qse → List (Int × Int × Int) → Prop} (h : Pact Try.prog f args φ L (Did b q R)) : Pact Try.prog f args φ L (Did2 b q R) := fun W K w hK H =>
  (h W K w hK H).mono fun e w' h3 => by
    obtain ⟨u, L', ⟨a, n, c, s', ys, zs, h4, h5, h6, rfl, rfl⟩, h7, h8⟩ := h3
    have hn := (Ow.arShape (e := 42) (sz := 14) (enc := acC) h8 xA).1
    subst hn
    exact ⟨_, _, ⟨a, c, s', ys, zs, h4, h5, h6, rfl, rfl⟩, h7, h8⟩
theorem Are.first {zs : List Ac} {y : Int × Int × Int} (h : Are zs [y]) : ∃ z, zs[0]? = some z ∧ zs.length = 1 ∧ z ∈ zs ∧ acIs z y := by
  obtain ⟨z, rfl, h2⟩ := h.get1
  exact ⟨z, rfl, rfl, by simp, h2⟩
theorem works1 {s : Qse} {y : List (Int × Int × Int)} (h : RStart false se0 s y) : s.on = true ∧ s.t1 = tr0 ∧ s.t0.st = 1 ∧ y = [(1, 0, 0)] := by
  rcases h with ⟨h, _⟩ | ⟨_, h1, h2, ⟨h, _⟩ | ⟨_, h3, h4⟩⟩
  · cases h
  · cases h
  · exact ⟨h1, h2, h3, h4⟩
theorem works2 {s s' : Qse} {y : List (Int × Int × Int)} (h : RUp0 s s' y) (h1 : s.on = true) (h2 : s.t1 = tr0) (h3 : s.t0.st = 1) : s'.on = true ∧ s'.t1 = tr0 ∧ s'.t0.st = 3 ∧ y = [(3, 0, 1)] := by
  rcases h with ⟨h, _⟩ | ⟨_, h | h | h, _⟩ | ⟨_, _, _, _, h4, _, h5, h6, h7⟩
  · omega
  · rw [h1] at h; cases h
  · exact absurd h3 h.2
  · rw [h2] at h; cases h
  · exact ⟨h4, h6.trans h2, h5, h7⟩
theorem works3 {s s' : Qse} {y : List (Int × Int × Int)} (h : RTake0 (fun o r => o = opB ∧ r = true) 1 s s' y) (h1 : s.on = true) (h2 : s.t1 = tr0) (h3 : s.t0.st = 3) : s'.on = true ∧ s'.t1 = tr0 ∧ s'.t0.st = 4 ∧ y = [(3, 0, 4)] := by
  rcases h with ⟨h, _⟩ | ⟨_, h, _⟩ | ⟨_, _, s0, ⟨g1, g2, g3, g4⟩, ⟨h, _⟩ | ⟨_, hE | ⟨hn, _⟩⟩⟩
  · omega
  · cases h
  · omega
  · rcases hE with ⟨_, _, _, hO⟩ | ⟨h, _⟩ | ⟨_, _, h, _⟩
    · rcases hO with ⟨⟨o, r, ⟨rfl, rfl⟩, h | h | h⟩, _⟩ | ⟨s1, r, y0, hC, ⟨rfl, _⟩ | ⟨rfl, k1, k2, k3, k4, k5⟩⟩
      · exact absurd rfl h
      · exact absurd rfl h
      · exact absurd h (by decide)
      · rcases hC with ⟨_, h, _⟩ | ⟨h, _⟩
        · cases h
        · rw [g4, h2] at h; rcases h with h | h <;> cases h
      · rcases hC with ⟨_, _, rfl, rfl⟩ | ⟨h, _⟩
        · exact ⟨k1.trans (g1.trans h1), k4.trans (g4.trans h2), k3, k5⟩
        · rw [g4, h2] at h; rcases h with h | h <;> cases h
    · cases h
    · cases h
  · exact absurd ⟨rfl, h3⟩ hn
theorem works4 {P : Op_ → Bool → Prop} {s s' : Qse} {y : List (Int × Int × Int)} (h : RTake0 P 4 s s' y) (h1 : s.on = true) (h2 : s.t1 = tr0) (h3 : s.t0.st = 4) : stV s' = 5 ∧ y = [(4, 0, 0)] := by
  rcases h with ⟨h, _⟩ | ⟨_, h, _⟩ | ⟨_, _, s0, ⟨g1, g2, g3, g4⟩, ⟨h, _⟩ | ⟨_, hE | ⟨_, hn, _⟩⟩⟩
  · omega
  · cases h
  · omega
  · rcases hE with ⟨h, _⟩ | ⟨_, _, _, k1, k2, k3, k4, k5⟩ | ⟨_, _, h, _⟩
    · cases h
    · rw [g4, h2] at k3 k5
      have e1 : s'.t1.st = 0 := by rw [k3]; rfl
      refine ⟨?_, k5⟩
      unfold stV
      rw [if_pos (k1.trans (g1.trans h1)), e1, k4]
      decide
    · cases h
  · exact absurd ⟨rfl, h3⟩ hn
theorem kwA.get {xs : List Ac} {w : World} (h : kwA xs w) {x : Ac} (hx : x ∈ xs) (h3 : x.kind = 3) : Vw w (.slice x.a x.b.length x.c) 1 x.b.length (flat byC x.b) := h x hx h3
set_option maxRecDepth 4000 in
theorem works_s : Pact Try.prog 6 #[] (fun _ => True) [] (ret0 (.bool true)) := by
  refine pact Try.func6 rfl Try.ntmps6 rfl ?_
  intro W K _
  have k0 := fun b => did2 (Start_s b false se0 se0_ok 0)
  (repeat' (first | ((with_reducible apply gL); (first | (with_reducible apply gL_app) | (with_reducible apply gL_app0) | refine yL0 ?_ | refine yL ?_ | ((with_reducible apply gL_go); (first | (refine JL_goq (one_s false) (hφ := xF) (h := ?_); rintro _ _ ⟨g, rfl, rfl⟩; try simp only [List.cons_append, List.nil_append]) | (refine JL_goq (k0 _) (hφ := xF) (h := ?_); rintro _ _ ⟨a1, c1, s1, y1, z1, hs1, hR1, e1, rfl, rfl⟩; try simp only [List.cons_append, List.nil_append]) | fail)) | ((with_reducible apply gL_gd); (first | (refine JL_guard xR xR ?_ ?_ <;> intro _ <;> (try (exfalso; first | contradiction | omega))) | (refine JL_guardb xR xR ?_ ?_ <;> (intro hgb; subst hgb)) | (refine JL_guardb xR xR ?_ ?_ <;> (intro hgb; fail_if_success (have : type_of% hgb := rfl))) | fail)) | fail)) | refine yJ ?_ | ((with_reducible apply gJ_if); (first | (refine J_if xR ?_ ?_ <;> intro _ <;> (try (exfalso; first | contradiction | omega))) | (refine J_ifb xR ?_ ?_ <;> (intro hgb; subst hgb)) | (refine J_ifb xR ?_ ?_ <;> intro _) | fail)) | fail))
  obtain ⟨p1, p2, p3, rfl⟩ := works1 hR1
  obtain ⟨x1, hx1, hl1, hm1, q1⟩ := e1.first
  have q1k : x1.kind = 1 := q1.1
  have k1 := did2 (Up0_s g false s1 hs1 1)
  (repeat' (first | ((with_reducible apply gL); (first | (with_reducible apply gL_app) | (with_reducible apply gL_app0) | refine yL0 ?_ | refine yL ?_ | ((with_reducible apply gL_go); (first | (refine JL_goq (k1) (hφ := xF) (h := ?_); rintro _ _ ⟨a2, c2, s2, y2, z2, hs2, hR2, e2, rfl, rfl⟩; try simp only [List.cons_append, List.nil_append]) | (refine JL_goq (obuildB_s) (hφ := xF) (h := ?_); rintro _ _ ⟨ba, bc, rfl, rfl⟩; try simp only [List.cons_append, List.nil_append]) | fail)) | ((with_reducible apply gL_gd); (first | (refine JL_guard xR xR ?_ ?_ <;> intro _ <;> (try (exfalso; first | contradiction | omega))) | (refine JL_guardb xR xR ?_ ?_ <;> (intro hgb; subst hgb)) | (refine JL_guardb xR xR ?_ ?_ <;> (intro hgb; fail_if_success (have : type_of% hgb := rfl))) | fail)) | fail)) | refine yJ ?_ | ((with_reducible apply gJ_if); (first | (refine J_if xR ?_ ?_ <;> intro _ <;> (try (exfalso; first | contradiction | omega))) | (refine J_ifb xR ?_ ?_ <;> (intro hgb; subst hgb)) | (refine J_ifb xR ?_ ?_ <;> intro _) | fail)) | fail))
  obtain ⟨p1, p2, p3, rfl⟩ := works2 hR2 p1 p2 p3
  obtain ⟨x2, hx2, hl2, hm2, q2⟩ := e2.first
  have q2k : x2.kind = 3 := q2.1
  have k2 := did2 (Take0_s (fun o r => o = opB ∧ r = true) g false s2 hs2 2 1 ba bc bB4 (by decide) (readB ba bc))
  rw [show bB4.length = 10 from rfl] at k2
  (repeat' (first | ((with_reducible apply gL); (first | (with_reducible apply gL_app) | (with_reducible apply gL_app0) | refine yL0 ?_ | refine yL ?_ | ((with_reducible apply gL_go); (first | (refine JL_goq (k2) (hφ := (by (try simp only [List.cons_append, List.nil_append]); exact fun w hr => srcN xA rfl w hr)) (h := ?_); rintro _ _ ⟨a3, c3, s3, y3, z3, hs3, hR3, e3, rfl, rfl⟩; try simp only [List.cons_append, List.nil_append]) | fail)) | ((with_reducible apply gL_gd); (first | (refine JL_guard xR xR ?_ ?_ <;> intro _ <;> (try (exfalso; first | contradiction | omega))) | (refine JL_guardb xR xR ?_ ?_ <;> (intro hgb; subst hgb)) | (refine JL_guardb xR xR ?_ ?_ <;> (intro hgb; fail_if_success (have : type_of% hgb := rfl))) | fail)) | fail)) | refine yJ ?_ | ((with_reducible apply gJ_if); (first | (refine J_if xR ?_ ?_ <;> intro _ <;> (try (exfalso; first | contradiction | omega))) | (refine J_ifb xR ?_ ?_ <;> (intro hgb; subst hgb)) | (refine J_ifb xR ?_ ?_ <;> intro _) | fail)) | fail))
  obtain ⟨p1, p2, p3, rfl⟩ := works3 hR3 p1 p2 p3
  obtain ⟨x3, hx3, hl3, hm3, q3⟩ := e3.first
  have q3k : x3.kind = 3 := q3.1
  have k3 := did2 (Take0_s (fun _ _ => True) g false s3 hs3 3 4 none 0 [] (by decide) (readAny none 0 [] (by simp [U8s]) (by decide)))
  rw [List.length_nil] at k3
  (repeat' (first | ((with_reducible apply gL); (first | (with_reducible apply gL_app) | (with_reducible apply gL_app0) | refine yL0 ?_ | refine yL ?_ | ((with_reducible apply gL_go); (first | (refine JL_goq (k3) (hφ := (by (try simp only [List.cons_append, List.nil_append]); exact fun w hr => Vw.nil w 1)) (h := ?_); rintro _ _ ⟨a4, c4, s4, y4, z4, hs4, hR4, e4, rfl, rfl⟩; try simp only [List.cons_append, List.nil_append]) | fail)) | ((with_reducible apply gL_gd); (first | (refine JL_guard xR xR ?_ ?_ <;> intro _ <;> (try (exfalso; first | contradiction | omega))) | (refine JL_guardb xR xR ?_ ?_ <;> (intro hgb; subst hgb)) | (refine JL_guardb xR xR ?_ ?_ <;> (intro hgb; fail_if_success (have : type_of% hgb := rfl))) | fail)) | fail)) | refine yJ ?_ | ((with_reducible apply gJ_if); (first | (refine J_if xR ?_ ?_ <;> intro _ <;> (try (exfalso; first | contradiction | omega))) | (refine J_ifb xR ?_ ?_ <;> (intro hgb; subst hgb)) | (refine J_ifb xR ?_ ?_ <;> intro _) | fail)) | fail))
  obtain ⟨p5, rfl⟩ := works4 hR4 p1 p2 p3
  obtain ⟨x4, hx4, hl4, hm4, q4⟩ := e4.first
  have q4k : x4.kind = 4 := q4.1
  have ks := State_s g false s4 (.slice none 0 0)
  rw [p5] at ks
  (repeat' (first | ((with_reducible apply gL); (first | (with_reducible apply gL_app) | (with_reducible apply gL_app0) | refine yL0 ?_ | refine yL ?_ | ((with_reducible apply gL_go); (first | (refine JL_goq (message_k x2 1 0 q2k q2) (hφ := (by (try simp only [List.cons_append, List.nil_append]); exact fun w hr => kwA.get (hr.has (φ := kwA z2) xA) hm2 q2k)) (h := ?_); rintro _ _ ⟨_, ba2, bn2, bc2, bl2, rfl, rfl⟩; try simp only [List.cons_append, List.nil_append]) | (refine JL_goq (message_k x3 4 0 q3k q3) (hφ := (by (try simp only [List.cons_append, List.nil_append]); exact fun w hr => kwA.get (hr.has (φ := kwA z3) xA) hm3 q3k)) (h := ?_); rintro _ _ ⟨_, ba3, bn3, bc3, bl3, rfl, rfl⟩; try simp only [List.cons_append, List.nil_append]) | (refine JL_goq (ks) (hφ := xF) (h := ?_); rintro _ _ ⟨rfl, rfl⟩; try simp only [List.cons_append, List.nil_append]) | fail)) | ((with_reducible apply gL_gd); (first | (refine JL_guard xR xR ?_ ?_ <;> intro _ <;> (try (exfalso; first | contradiction | omega))) | (refine JL_guardb xR xR ?_ ?_ <;> (intro hgb; subst hgb)) | (refine JL_guardb xR xR ?_ ?_ <;> (intro hgb; fail_if_success (have : type_of% hgb := rfl))) | fail)) | fail)) | refine yJ ?_ | ((with_reducible apply gJ_if); (first | (refine J_if xR ?_ ?_ <;> intro _ <;> (try (exfalso; first | contradiction | omega))) | (refine J_ifb xR ?_ ?_ <;> (intro hgb; subst hgb)) | (refine J_ifb xR ?_ ?_ <;> intro _) | fail)) | fail))
  all_goals (first | (exfalso; omega) | skip)
  exact J_ret1 rfl (by rfl) fun w H => ⟨_, ⟨rfl, rfl⟩, H.sel xZ⟩
end Go.Proofs.Ytfonbpmdbpdncaa
namespace Go.Proofs.Ytfonbpmdbpdncaa
set_option linter.unusedSimpArgs false
set_option linter.unusedVariables false
set_option maxRecDepth 20000
set_option maxHeartbeats 4000000
open Go.RowKit Go.Pm

structure Qev where
  d : Int
  now : Int
  n : Int
  tr : Int
  kd : Int
  ma : Option Addr
  mc : Nat
  ml : List Int
  z : Int
  sub : Int
  fa : Option Addr
  fc : Nat
  fl : List Int
abbrev evC (e : Qev) : List Value := [.int .i64 e.d, .int .i64 e.now, .int .i64 e.n, .int .i64 e.tr, .int .i64 e.kd, .slice e.ma e.ml.length e.mc, .int .i64 e.z, .int .i64 e.sub, .slice e.fa e.fl.length e.fc]
def EvV (w : World) (e : Qev) : Prop := Vw w (.slice e.ma e.ml.length e.mc) 1 e.ml.length (flat byC e.ml) ∧ Vw w (.slice e.fa e.fl.length e.fc) 1 e.fl.length (flat byC e.fl)
structure EvOk (e : Qev) : Prop where
  d : I64 e.d
  ml : U8s e.ml
  fl : U8s e.fl
inductive RHear (q : Bool) (s s' : Qse) (ys : List (Int × Int × Int)) : Prop
  | none (h : RNone s s' ys) | start (h : RStart q s s' ys) | stop (h : RStop s s' ys) | tick (h : RTick q s s' ys)
  | up0 (h : RUp0 s s' ys) | up1 (h : RUp1 s s' ys) | gone0 (h : RGone0 s s' ys) | gone1 (h : RGone1 s s' ys) | fail0 (h : RFail0 s s' ys) | fail1 (h : RFail1 s s' ys)
  | take0 {kd : Int} (h : RTake0 (fun _ _ => True) kd s s' ys) | take1 {kd : Int} (h : RTake1 (fun _ _ => True) kd s s' ys)
set_option maxRecDepth 4000 in
theorem hear_s (b : Nat) (q : Bool) (s : Qse) (hs : SeOk s) (e : Qev) (he : EvOk e) : Pact Try.prog 9 #[.pointer (some ⟨b, 0, none⟩), .agg (evC e).toArray] (fun w => EvV w e) [pts b (seC q s (.slice none 0 0)) 52] (Did b q (RHear q s)) := by
  refine pact Try.func9 rfl Try.ntmps9 rfl ?_
  intro W K hK
  have hd := he.d
  have hb := he.ml
  have hf := he.fl
  by_cases h0 : e.tr = 0
  · dsimp only [evC]
    rw [h0]
    (repeat' (first | ((with_reducible apply gL); (first | refine yL0 ?_ | refine yL ?_ | ((with_reducible apply gL_go); (first | (refine JL_goq (among_s e.d 13 (by decide) (by decide) hd) (hφ := xF) (h := ?_); rintro _ _ ⟨j, rfl, hj, rfl⟩; try simp only [List.cons_append, List.nil_append]) | (refine JL_goq (Start_s b q s hs e.now) (hφ := xF) (h := ?_); rintro _ _ ⟨a3, n3, c3, s3, y3, z3, hs3, hR, e3, rfl, rfl⟩; try simp only [List.cons_append, List.nil_append]) | (refine JL_goq (Stop_s b q s hs e.now e.n) (hφ := xF) (h := ?_); rintro _ _ ⟨a3, n3, c3, s3, y3, z3, hs3, hR, e3, rfl, rfl⟩; try simp only [List.cons_append, List.nil_append]) | (refine JL_goq (Tick_s b q s hs e.now) (hφ := xF) (h := ?_); rintro _ _ ⟨a3, n3, c3, s3, y3, z3, hs3, hR, e3, rfl, rfl⟩; try simp only [List.cons_append, List.nil_append]) | (refine JL_goq (Up0_s b q s hs e.now) (hφ := xF) (h := ?_); rintro _ _ ⟨a3, n3, c3, s3, y3, z3, hs3, hR, e3, rfl, rfl⟩; try simp only [List.cons_append, List.nil_append]) | (refine JL_goq (Gone0_s b q s hs e.now) (hφ := xF) (h := ?_); rintro _ _ ⟨a3, n3, c3, s3, y3, z3, hs3, hR, e3, rfl, rfl⟩; try simp only [List.cons_append, List.nil_append]) | (refine JL_goq (Fail0_s b q s hs e.now e.z e.sub a' B.length c' B rfl (by omega)) (hφ := (by (try simp only [List.cons_append, List.nil_append]); exact fun w hr => srcN xA rfl w hr)) (h := ?_); rintro _ _ ⟨a3, n3, c3, s3, y3, z3, hs3, hR, e3, rfl, rfl⟩; try simp only [List.cons_append, List.nil_append]) | (refine JL_goq (Take0_s (fun _ _ => True) b q s hs e.now e.kd a' c' B (by omega) (readAny a' c' B hB (by omega))) (hφ := (by (try simp only [List.cons_append, List.nil_append]); exact fun w hr => srcN xA rfl w hr)) (h := ?_); rintro _ _ ⟨a3, n3, c3, s3, y3, z3, hs3, hR, e3, rfl, rfl⟩; try simp only [List.cons_append, List.nil_append]) | (refine JL_goq (few23_s e.kd e.ma e.ml.length e.mc e.ml rfl hb) (hφ := (by (try simp only [List.cons_append, List.nil_append]); exact fun w hr => (hK w hr.1).1)) (h := ?_); rintro _ _ ⟨a', c', B, hBl, hB, rfl, rfl⟩; try simp only [List.cons_append, List.nil_append]) | (refine JL_goq (fault23_s e.z e.sub e.fa e.fl.length e.fc e.fl rfl hf) (hφ := (by (try simp only [List.cons_append, List.nil_append]); exact fun w hr => (hK w hr.1).2)) (h := ?_); rintro _ _ ⟨a', c', B, hBl, hB, rfl, rfl⟩; try simp only [List.cons_append, List.nil_append]) | fail)) | (refine yM ?_; intro _) | fail)) | ((with_reducible apply gD); (first | (refine JD_nil ?_; try simp only [List.cons_append, List.nil_append]) | (refine JD_bar ?_; try simp only [List.cons_append, List.nil_append]) | refine yD ?_ | ((with_reducible apply gD_go); (first | (refine JD_goq (among_s e.d 13 (by decide) (by decide) hd) (hφ := xF) (h := ?_); rintro _ _ ⟨j, rfl, hj, rfl⟩; try simp only [List.cons_append, List.nil_append]) | (refine JD_goq (Start_s b q s hs e.now) (hφ := xF) (h := ?_); rintro _ _ ⟨a3, n3, c3, s3, y3, z3, hs3, hR, e3, rfl, rfl⟩; try simp only [List.cons_append, List.nil_append]) | (refine JD_goq (Stop_s b q s hs e.now e.n) (hφ := xF) (h := ?_); rintro _ _ ⟨a3, n3, c3, s3, y3, z3, hs3, hR, e3, rfl, rfl⟩; try simp only [List.cons_append, List.nil_append]) | (refine JD_goq (Tick_s b q s hs e.now) (hφ := xF) (h := ?_); rintro _ _ ⟨a3, n3, c3, s3, y3, z3, hs3, hR, e3, rfl, rfl⟩; try simp only [List.cons_append, List.nil_append]) | (refine JD_goq (Up0_s b q s hs e.now) (hφ := xF) (h := ?_); rintro _ _ ⟨a3, n3, c3, s3, y3, z3, hs3, hR, e3, rfl, rfl⟩; try simp only [List.cons_append, List.nil_append]) | (refine JD_goq (Gone0_s b q s hs e.now) (hφ := xF) (h := ?_); rintro _ _ ⟨a3, n3, c3, s3, y3, z3, hs3, hR, e3, rfl, rfl⟩; try simp only [List.cons_append, List.nil_append]) | (refine JD_goq (Fail0_s b q s hs e.now e.z e.sub a' B.length c' B rfl (by omega)) (hφ := (by (try simp only [List.cons_append, List.nil_append]); exact fun w hr => srcN xA rfl w hr)) (h := ?_); rintro _ _ ⟨a3, n3, c3, s3, y3, z3, hs3, hR, e3, rfl, rfl⟩; try simp only [List.cons_append, List.nil_append]) | (refine JD_goq (Take0_s (fun _ _ => True) b q s hs e.now e.kd a' c' B (by omega) (readAny a' c' B hB (by omega))) (hφ := (by (try simp only [List.cons_append, List.nil_append]); exact fun w hr => srcN xA rfl w hr)) (h := ?_); rintro _ _ ⟨a3, n3, c3, s3, y3, z3, hs3, hR, e3, rfl, rfl⟩; try simp only [List.cons_append, List.nil_append]) | (refine JD_goq (few23_s e.kd e.ma e.ml.length e.mc e.ml rfl hb) (hφ := (by (try simp only [List.cons_append, List.nil_append]); exact fun w hr => (hK w hr.1).1)) (h := ?_); rintro _ _ ⟨a', c', B, hBl, hB, rfl, rfl⟩; try simp only [List.cons_append, List.nil_append]) | (refine JD_goq (fault23_s e.z e.sub e.fa e.fl.length e.fc e.fl rfl hf) (hφ := (by (try simp only [List.cons_append, List.nil_append]); exact fun w hr => (hK w hr.1).2)) (h := ?_); rintro _ _ ⟨a', c', B, hBl, hB, rfl, rfl⟩; try simp only [List.cons_append, List.nil_append]) | fail)) | fail)) | refine yJ ?_ | ((with_reducible apply gJ_if); (first | (refine J_if xR ?_ ?_ <;> intro _ <;> (try (exfalso; first | contradiction | omega))) | (refine J_ifb xR ?_ ?_ <;> (intro hgb; subst hgb)) | (refine J_ifb xR ?_ ?_ <;> intro _) | fail)) | refine J_draw (id := 12) [0, 1, 2, 3, 4, 5, 6, 7] [8, 9] mixed xC xD xD ?_ | refine J_draw (id := 16) [0, 1, 2, 3, 4, 5, 6, 7] [8, 9] mixed xC xD xD ?_ | fail))
    all_goals (first | (exfalso; omega) | skip)
    all_goals (first
      | exact J_ret1 rfl (by rfl) fun w H => ⟨_, ⟨a3, n3, c3, s3, y3, z3, hs3, .start hR, e3, rfl, rfl⟩, H.sel xZ⟩
      | exact J_ret1 rfl (by rfl) fun w H => ⟨_, ⟨a3, n3, c3, s3, y3, z3, hs3, .stop hR, e3, rfl, rfl⟩, H.sel xZ⟩
      | exact J_ret1 rfl (by rfl) fun w H => ⟨_, ⟨a3, n3, c3, s3, y3, z3, hs3, .tick hR, e3, rfl, rfl⟩, H.sel xZ⟩
      | exact J_ret1 rfl (by rfl) fun w H => ⟨_, ⟨a3, n3, c3, s3, y3, z3, hs3, .up0 hR, e3, rfl, rfl⟩, H.sel xZ⟩
      | exact J_ret1 rfl (by rfl) fun w H => ⟨_, ⟨a3, n3, c3, s3, y3, z3, hs3, .gone0 hR, e3, rfl, rfl⟩, H.sel xZ⟩
      | exact J_ret1 rfl (by rfl) fun w H => ⟨_, ⟨a3, n3, c3, s3, y3, z3, hs3, .fail0 hR, e3, rfl, rfl⟩, H.sel xZ⟩
      | exact J_ret1 rfl (by rfl) fun w H => ⟨_, ⟨a3, n3, c3, s3, y3, z3, hs3, .take0 hR, e3, rfl, rfl⟩, H.sel xZ⟩
      | fail)
  by_cases h1 : e.tr = 1
  · dsimp only [evC]
    rw [h1]
    (repeat' (first | ((with_reducible apply gL); (first | refine yL0 ?_ | refine yL ?_ | ((with_reducible apply gL_go); (first | (refine JL_goq (among_s e.d 13 (by decide) (by decide) hd) (hφ := xF) (h := ?_); rintro _ _ ⟨j, rfl, hj, rfl⟩; try simp only [List.cons_append, List.nil_append]) | (refine JL_goq (Start_s b q s hs e.now) (hφ := xF) (h := ?_); rintro _ _ ⟨a3, n3, c3, s3, y3, z3, hs3, hR, e3, rfl, rfl⟩; try simp only [List.cons_append, List.nil_append]) | (refine JL_goq (Stop_s b q s hs e.now e.n) (hφ := xF) (h := ?_); rintro _ _ ⟨a3, n3, c3, s3, y3, z3, hs3, hR, e3, rfl, rfl⟩; try simp only [List.cons_append, List.nil_append]) | (refine JL_goq (Tick_s b q s hs e.now) (hφ := xF) (h := ?_); rintro _ _ ⟨a3, n3, c3, s3, y3, z3, hs3, hR, e3, rfl, rfl⟩; try simp only [List.cons_append, List.nil_append]) | (refine JL_goq (Up1_s b q s hs e.now) (hφ := xF) (h := ?_); rintro _ _ ⟨a3, n3, c3, s3, y3, z3, hs3, hR, e3, rfl, rfl⟩; try simp only [List.cons_append, List.nil_append]) | (refine JL_goq (Gone1_s b q s hs e.now) (hφ := xF) (h := ?_); rintro _ _ ⟨a3, n3, c3, s3, y3, z3, hs3, hR, e3, rfl, rfl⟩; try simp only [List.cons_append, List.nil_append]) | (refine JL_goq (Fail1_s b q s hs e.now e.z e.sub a' B.length c' B rfl (by omega)) (hφ := (by (try simp only [List.cons_append, List.nil_append]); exact fun w hr => srcN xA rfl w hr)) (h := ?_); rintro _ _ ⟨a3, n3, c3, s3, y3, z3, hs3, hR, e3, rfl, rfl⟩; try simp only [List.cons_append, List.nil_append]) | (refine JL_goq (Take1_s (fun _ _ => True) b q s hs e.now e.kd a' c' B (by omega) (readAny a' c' B hB (by omega))) (hφ := (by (try simp only [List.cons_append, List.nil_append]); exact fun w hr => srcN xA rfl w hr)) (h := ?_); rintro _ _ ⟨a3, n3, c3, s3, y3, z3, hs3, hR, e3, rfl, rfl⟩; try simp only [List.cons_append, List.nil_append]) | (refine JL_goq (few23_s e.kd e.ma e.ml.length e.mc e.ml rfl hb) (hφ := (by (try simp only [List.cons_append, List.nil_append]); exact fun w hr => (hK w hr.1).1)) (h := ?_); rintro _ _ ⟨a', c', B, hBl, hB, rfl, rfl⟩; try simp only [List.cons_append, List.nil_append]) | (refine JL_goq (fault23_s e.z e.sub e.fa e.fl.length e.fc e.fl rfl hf) (hφ := (by (try simp only [List.cons_append, List.nil_append]); exact fun w hr => (hK w hr.1).2)) (h := ?_); rintro _ _ ⟨a', c', B, hBl, hB, rfl, rfl⟩; try simp only [List.cons_append, List.nil_append]) | fail)) | (refine yM ?_; intro _) | fail)) | ((with_reducible apply gD); (first | (refine JD_nil ?_; try simp only [List.cons_append, List.nil_append]) | (refine JD_bar ?_; try simp only [List.cons_append, List.nil_append]) | refine yD ?_ | ((with_reducible apply gD_go); (first | (refine JD_goq (among_s e.d 13 (by decide) (by decide) hd) (hφ := xF) (h := ?_); rintro _ _ ⟨j, rfl, hj, rfl⟩; try simp only [List.cons_append, List.nil_append]) | (refine JD_goq (Start_s b q s hs e.now) (hφ := xF) (h := ?_); rintro _ _ ⟨a3, n3, c3, s3, y3, z3, hs3, hR, e3, rfl, rfl⟩; try simp only [List.cons_append, List.nil_append]) | (refine JD_goq (Stop_s b q s hs e.now e.n) (hφ := xF) (h := ?_); rintro _ _ ⟨a3, n3, c3, s3, y3, z3, hs3, hR, e3, rfl, rfl⟩; try simp only [List.cons_append, List.nil_append]) | (refine JD_goq (Tick_s b q s hs e.now) (hφ := xF) (h := ?_); rintro _ _ ⟨a3, n3, c3, s3, y3, z3, hs3, hR, e3, rfl, rfl⟩; try simp only [List.cons_append, List.nil_append]) | (refine JD_goq (Up1_s b q s hs e.now) (hφ := xF) (h := ?_); rintro _ _ ⟨a3, n3, c3, s3, y3, z3, hs3, hR, e3, rfl, rfl⟩; try simp only [List.cons_append, List.nil_append]) | (refine JD_goq (Gone1_s b q s hs e.now) (hφ := xF) (h := ?_); rintro _ _ ⟨a3, n3, c3, s3, y3, z3, hs3, hR, e3, rfl, rfl⟩; try simp only [List.cons_append, List.nil_append]) | (refine JD_goq (Fail1_s b q s hs e.now e.z e.sub a' B.length c' B rfl (by omega)) (hφ := (by (try simp only [List.cons_append, List.nil_append]); exact fun w hr => srcN xA rfl w hr)) (h := ?_); rintro _ _ ⟨a3, n3, c3, s3, y3, z3, hs3, hR, e3, rfl, rfl⟩; try simp only [List.cons_append, List.nil_append]) | (refine JD_goq (Take1_s (fun _ _ => True) b q s hs e.now e.kd a' c' B (by omega) (readAny a' c' B hB (by omega))) (hφ := (by (try simp only [List.cons_append, List.nil_append]); exact fun w hr => srcN xA rfl w hr)) (h := ?_); rintro _ _ ⟨a3, n3, c3, s3, y3, z3, hs3, hR, e3, rfl, rfl⟩; try simp only [List.cons_append, List.nil_append]) | (refine JD_goq (few23_s e.kd e.ma e.ml.length e.mc e.ml rfl hb) (hφ := (by (try simp only [List.cons_append, List.nil_append]); exact fun w hr => (hK w hr.1).1)) (h := ?_); rintro _ _ ⟨a', c', B, hBl, hB, rfl, rfl⟩; try simp only [List.cons_append, List.nil_append]) | (refine JD_goq (fault23_s e.z e.sub e.fa e.fl.length e.fc e.fl rfl hf) (hφ := (by (try simp only [List.cons_append, List.nil_append]); exact fun w hr => (hK w hr.1).2)) (h := ?_); rintro _ _ ⟨a', c', B, hBl, hB, rfl, rfl⟩; try simp only [List.cons_append, List.nil_append]) | fail)) | fail)) | refine yJ ?_ | ((with_reducible apply gJ_if); (first | (refine J_if xR ?_ ?_ <;> intro _ <;> (try (exfalso; first | contradiction | omega))) | (refine J_ifb xR ?_ ?_ <;> (intro hgb; subst hgb)) | (refine J_ifb xR ?_ ?_ <;> intro _) | fail)) | refine J_draw (id := 12) [0, 1, 2, 3, 4, 5, 6, 7] [8, 9] mixed xC xD xD ?_ | refine J_draw (id := 16) [0, 1, 2, 3, 4, 5, 6, 7] [8, 9] mixed xC xD xD ?_ | fail))
    all_goals (first | (exfalso; omega) | skip)
    all_goals (first
      | exact J_ret1 rfl (by rfl) fun w H => ⟨_, ⟨a3, n3, c3, s3, y3, z3, hs3, .start hR, e3, rfl, rfl⟩, H.sel xZ⟩
      | exact J_ret1 rfl (by rfl) fun w H => ⟨_, ⟨a3, n3, c3, s3, y3, z3, hs3, .stop hR, e3, rfl, rfl⟩, H.sel xZ⟩
      | exact J_ret1 rfl (by rfl) fun w H => ⟨_, ⟨a3, n3, c3, s3, y3, z3, hs3, .tick hR, e3, rfl, rfl⟩, H.sel xZ⟩
      | exact J_ret1 rfl (by rfl) fun w H => ⟨_, ⟨a3, n3, c3, s3, y3, z3, hs3, .up1 hR, e3, rfl, rfl⟩, H.sel xZ⟩
      | exact J_ret1 rfl (by rfl) fun w H => ⟨_, ⟨a3, n3, c3, s3, y3, z3, hs3, .gone1 hR, e3, rfl, rfl⟩, H.sel xZ⟩
      | exact J_ret1 rfl (by rfl) fun w H => ⟨_, ⟨a3, n3, c3, s3, y3, z3, hs3, .fail1 hR, e3, rfl, rfl⟩, H.sel xZ⟩
      | exact J_ret1 rfl (by rfl) fun w H => ⟨_, ⟨a3, n3, c3, s3, y3, z3, hs3, .take1 hR, e3, rfl, rfl⟩, H.sel xZ⟩
      | fail)
  have hk : e.tr < 0 ∨ 2 ≤ e.tr := by omega
  · (repeat' (first | ((with_reducible apply gL); (first | refine yL0 ?_ | refine yL ?_ | ((with_reducible apply gL_go); (first | (refine JL_goq (among_s e.d 13 (by decide) (by decide) hd) (hφ := xF) (h := ?_); rintro _ _ ⟨j, rfl, hj, rfl⟩; try simp only [List.cons_append, List.nil_append]) | (refine JL_goq (Start_s b q s hs e.now) (hφ := xF) (h := ?_); rintro _ _ ⟨a3, n3, c3, s3, y3, z3, hs3, hR, e3, rfl, rfl⟩; try simp only [List.cons_append, List.nil_append]) | (refine JL_goq (Stop_s b q s hs e.now e.n) (hφ := xF) (h := ?_); rintro _ _ ⟨a3, n3, c3, s3, y3, z3, hs3, hR, e3, rfl, rfl⟩; try simp only [List.cons_append, List.nil_append]) | (refine JL_goq (Tick_s b q s hs e.now) (hφ := xF) (h := ?_); rintro _ _ ⟨a3, n3, c3, s3, y3, z3, hs3, hR, e3, rfl, rfl⟩; try simp only [List.cons_append, List.nil_append]) | (refine JL_goq (UpN_s b q s hs e.now e.tr hk) (hφ := xF) (h := ?_); rintro _ _ ⟨a3, n3, c3, s3, y3, z3, hs3, hR, e3, rfl, rfl⟩; try simp only [List.cons_append, List.nil_append]) | (refine JL_goq (GoneN_s b q s hs e.now e.tr hk) (hφ := xF) (h := ?_); rintro _ _ ⟨a3, n3, c3, s3, y3, z3, hs3, hR, e3, rfl, rfl⟩; try simp only [List.cons_append, List.nil_append]) | (refine JL_goq (FailN_s b q s hs e.now e.tr hk e.z e.sub a' B.length c') (hφ := xF) (h := ?_); rintro _ _ ⟨a3, n3, c3, s3, y3, z3, hs3, hR, e3, rfl, rfl⟩; try simp only [List.cons_append, List.nil_append]) | (refine JL_goq (TakeN_s b q s hs e.now e.tr hk e.kd a' B.length c') (hφ := xF) (h := ?_); rintro _ _ ⟨a3, n3, c3, s3, y3, z3, hs3, hR, e3, rfl, rfl⟩; try simp only [List.cons_append, List.nil_append]) | (refine JL_goq (few23_s e.kd e.ma e.ml.length e.mc e.ml rfl hb) (hφ := (by (try simp only [List.cons_append, List.nil_append]); exact fun w hr => (hK w hr.1).1)) (h := ?_); rintro _ _ ⟨a', c', B, hBl, hB, rfl, rfl⟩; try simp only [List.cons_append, List.nil_append]) | (refine JL_goq (fault23_s e.z e.sub e.fa e.fl.length e.fc e.fl rfl hf) (hφ := (by (try simp only [List.cons_append, List.nil_append]); exact fun w hr => (hK w hr.1).2)) (h := ?_); rintro _ _ ⟨a', c', B, hBl, hB, rfl, rfl⟩; try simp only [List.cons_append, List.nil_append]) | fail)) | (refine yM ?_; intro _) | fail)) | ((with_reducible apply gD); (first | (refine JD_nil ?_; try simp only [List.cons_append, List.nil_append]) | (refine JD_bar ?_; try simp only [List.cons_append, List.nil_append]) | refine yD ?_ | ((with_reducible apply gD_go); (first | (refine JD_goq (among_s e.d 13 (by decide) (by decide) hd) (hφ := xF) (h := ?_); rintro _ _ ⟨j, rfl, hj, rfl⟩; try simp only [List.cons_append, List.nil_append]) | (refine JD_goq (Start_s b q s hs e.now) (hφ := xF) (h := ?_); rintro _ _ ⟨a3, n3, c3, s3, y3, z3, hs3, hR, e3, rfl, rfl⟩; try simp only [List.cons_append, List.nil_append]) | (refine JD_goq (Stop_s b q s hs e.now e.n) (hφ := xF) (h := ?_); rintro _ _ ⟨a3, n3, c3, s3, y3, z3, hs3, hR, e3, rfl, rfl⟩; try simp only [List.cons_append, List.nil_append]) | (refine JD_goq (Tick_s b q s hs e.now) (hφ := xF) (h := ?_); rintro _ _ ⟨a3, n3, c3, s3, y3, z3, hs3, hR, e3, rfl, rfl⟩; try simp only [List.cons_append, List.nil_append]) | (refine JD_goq (UpN_s b q s hs e.now e.tr hk) (hφ := xF) (h := ?_); rintro _ _ ⟨a3, n3, c3, s3, y3, z3, hs3, hR, e3, rfl, rfl⟩; try simp only [List.cons_append, List.nil_append]) | (refine JD_goq (GoneN_s b q s hs e.now e.tr hk) (hφ := xF) (h := ?_); rintro _ _ ⟨a3, n3, c3, s3, y3, z3, hs3, hR, e3, rfl, rfl⟩; try simp only [List.cons_append, List.nil_append]) | (refine JD_goq (FailN_s b q s hs e.now e.tr hk e.z e.sub a' B.length c') (hφ := xF) (h := ?_); rintro _ _ ⟨a3, n3, c3, s3, y3, z3, hs3, hR, e3, rfl, rfl⟩; try simp only [List.cons_append, List.nil_append]) | (refine JD_goq (TakeN_s b q s hs e.now e.tr hk e.kd a' B.length c') (hφ := xF) (h := ?_); rintro _ _ ⟨a3, n3, c3, s3, y3, z3, hs3, hR, e3, rfl, rfl⟩; try simp only [List.cons_append, List.nil_append]) | (refine JD_goq (few23_s e.kd e.ma e.ml.length e.mc e.ml rfl hb) (hφ := (by (try simp only [List.cons_append, List.nil_append]); exact fun w hr => (hK w hr.1).1)) (h := ?_); rintro _ _ ⟨a', c', B, hBl, hB, rfl, rfl⟩; try simp only [List.cons_append, List.nil_append]) | (refine JD_goq (fault23_s e.z e.sub e.fa e.fl.length e.fc e.fl rfl hf) (hφ := (by (try simp only [List.cons_append, List.nil_append]); exact fun w hr => (hK w hr.1).2)) (h := ?_); rintro _ _ ⟨a', c', B, hBl, hB, rfl, rfl⟩; try simp only [List.cons_append, List.nil_append]) | fail)) | fail)) | refine yJ ?_ | ((with_reducible apply gJ_if); (first | (refine J_if xR ?_ ?_ <;> intro _ <;> (try (exfalso; first | contradiction | omega))) | (refine J_ifb xR ?_ ?_ <;> (intro hgb; subst hgb)) | (refine J_ifb xR ?_ ?_ <;> intro _) | fail)) | refine J_draw (id := 12) [0, 1, 2, 3, 4, 5, 6, 7] [8, 9] mixed xC xD xD ?_ | refine J_draw (id := 16) [0, 1, 2, 3, 4, 5, 6, 7] [8, 9] mixed xC xD xD ?_ | fail))
    all_goals (first | (exfalso; omega) | skip)
    all_goals (first
      | exact J_ret1 rfl (by rfl) fun w H => ⟨_, ⟨a3, n3, c3, s3, y3, z3, hs3, .start hR, e3, rfl, rfl⟩, H.sel xZ⟩
      | exact J_ret1 rfl (by rfl) fun w H => ⟨_, ⟨a3, n3, c3, s3, y3, z3, hs3, .stop hR, e3, rfl, rfl⟩, H.sel xZ⟩
      | exact J_ret1 rfl (by rfl) fun w H => ⟨_, ⟨a3, n3, c3, s3, y3, z3, hs3, .tick hR, e3, rfl, rfl⟩, H.sel xZ⟩
      | exact J_ret1 rfl (by rfl) fun w H => ⟨_, ⟨a3, n3, c3, s3, y3, z3, hs3, .none hR, e3, rfl, rfl⟩, H.sel xZ⟩
      | fail)
end Go.Proofs.Ytfonbpmdbpdncaa
