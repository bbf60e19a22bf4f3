/-
  FsmTable: whatever comes, an update is handed on just of an established track, at most one is established, and it is established, and down, in turn.
-/
import Derived.Test.YtfonbpmdbpdncaaZFsmTable23
import Derived.HandedShaped
namespace Go.Proofs.Ytfonbpmdbpdncaa
set_option linter.unusedSimpArgs false
set_option linter.unusedVariables false
set_option maxRecDepth 20000
set_option maxHeartbeats 4000000
open Go.RowKit Go.Pm

def Did3 (b : Nat) (q : Bool) (R : Qse → List (Int × Int × Int) → Prop) (u : Value) (L' : List HP) : Prop := ∃ a c s' ys zs, SeOk s' ∧ R s' ys ∧ Are zs ys ∧ (zs.length ≤ c ∧ c ≤ maxLen) ∧ u = .slice a zs.length c ∧ L' = [pts b (seC q s' (.slice none 0 0)) 52, Ar 42 14 acC (.slice a zs.length c) zs, hasA zs]
theorem did3 {f : FuncId} {args : Array Value} {φ : World → Prop} {L : List HP} {b : Nat} {q : Bool} {R : Qse → List (Int × Int × Int) → Prop} (h : Pact Try.prog f args φ L (Did b q R)) : Pact Try.prog f args φ L (Did3 b q R) := fun W K w hK H =>
  (h W K w hK H).mono fun e w' h3 => by
    obtain ⟨u, L', ⟨a, n, c, s', ys, zs, h4, h5, h6, rfl, rfl⟩, h7, h8⟩ := h3
    obtain ⟨hn, hc⟩ := Ow.arShape (e := 42) (sz := 14) (enc := acC) h8 xA
    subst hn
    exact ⟨_, _, ⟨a, c, s', ys, zs, h4, h5, h6, hc, rfl, rfl⟩, h7, h8⟩
theorem Are.at : ∀ {zs : List Ac} {ys : List (Int × Int × Int)} {j : Nat}, Are zs ys → j < zs.length → ∃ z y, zs[j]? = some z ∧ ys.drop j = y :: ys.drop (j + 1) ∧ acIs z y ∧ z ∈ zs
  | z :: zs, y :: ys, 0, h, _ => ⟨z, y, rfl, rfl, h.1, by simp⟩
  | z :: zs, y :: ys, j + 1, h, hj => by
    obtain ⟨z', y', h1, h2, h3, h4⟩ := Are.at h.2 (by simpa using hj)
    exact ⟨z', y', by simpa using h1, by simpa using h2, h3, by simp [h4]⟩
  | [], [], _, _, hj => absurd hj (by simp)
  | [], _ :: _, _, h, _ => h.elim
  | _ :: _, [], _, h, _ => h.elim
theorem stV_up {s : Qse} {u : Int} (hs : SeOk s) (hi : SInv s) (h : UpIs s.t0.st s.t1.st u) : stV s = 5 ↔ 0 ≤ u := by
  have h0 := hs.t0.st
  have h1 := hs.t1.st
  unfold UpIs at h
  unfold stV
  by_cases ho : s.on = true
  · rw [if_pos ho]
    split <;> omega
  · rw [if_neg ho]
    have := hi.off (by simpa using ho)
    omega
structure Qtl where
  i : Nat
  s : Qse
  up : Int
structure Qti where
  j : Nat
  up : Int
theorem se0_inv : SInv se0 := ⟨fun _ => ⟨rfl, rfl⟩, fun h => absurd rfl h, ⟨.inl rfl, .inl rfl⟩⟩
set_option maxRecDepth 4000 in
theorem table_s (q : Bool) (a : Option Addr) (n c : Nat) (es : List Qev) (hn : es.length = n) (hok : ∀ e ∈ es, EvOk e) : Pact Try.prog 3 #[.bool q, .slice a n c] (fun w => Vw w (.slice a n c) 9 n (flat evC es) ∧ ∀ e ∈ es, EvV w e) [] (ret0 (.bool true)) := by
  refine pact Try.func3 rfl Try.ntmps3 rfl ?_
  intro W K hK
  have hv := hK.left
  (repeat' (first | ((with_reducible apply gL); (first | refine yL0 ?_ | refine yL ?_ | ((with_reducible apply gL_go); (first | (refine JL_goq (works_s) (hφ := xF) (h := ?_); rintro _ _ ⟨rfl, rfl⟩; try simp only [List.cons_append, List.nil_append]) | (refine JL_goq (one_s q) (hφ := xF) (h := ?_); rintro _ _ ⟨g, rfl, rfl⟩; try simp only [List.cons_append, List.nil_append]) | fail)) | (refine yM ?_; intro _) | ((with_reducible apply gL_gd); (first | (refine JL_guard xR xR ?_ ?_ <;> intro _ <;> (try (exfalso; first | contradiction | omega))) | (refine JL_guardb xR xR ?_ ?_ <;> (intro hgb; subst hgb)) | (refine JL_guardb xR xR ?_ ?_ <;> (intro hgb; fail_if_success (have : type_of% hgb := rfl))) | fail)) | fail)) | refine yJ ?_ | ((with_reducible apply gJ_if); (first | (refine J_if xR ?_ ?_ <;> intro _ <;> (try (exfalso; first | contradiction | omega))) | (refine J_ifb xR ?_ ?_ <;> (intro hgb; subst hgb)) | (refine J_ifb xR ?_ ?_ <;> intro _) | fail)) | fail))
  refine J_loop (α := Qtl) ⟨0, se0, -1⟩ (fun x => n - x.i) (fun x => x.i ≤ n ∧ SeOk x.s ∧ SInv x.s ∧ UpIs x.s.t0.st x.s.t1.st x.up) (fun x => [(1, .slice a n c), (5, .pointer (some ⟨g, 0, none⟩)), (6, .int .i64 x.up), (7, .int .i64 x.i)]) (fun x => [pts g (seC q x.s (.slice none 0 0)) 52]) ⟨Nat.zero_le _, se0_ok, se0_inv, by unfold UpIs; decide⟩ ⟨rfl, rfl, rfl, rfl, trivial⟩ (fun w H => H.sel xZ) ?_
  rintro ⟨i, s, up⟩ hi
  dsimp only at hi ⊢
  obtain ⟨hin, hs, hI, hU⟩ := hi
  by_cases hlt : i < n ∧ i < 60
  · obtain ⟨hl1, hl2⟩ := hlt
    obtain ⟨e, he⟩ : ∃ e, es[i]? = some e := ⟨_, List.getElem?_eq_getElem (by omega)⟩
    have hem := List.mem_of_getElem? he
    have kh := did3 (hear_s g q s hs e (hok e hem))
    have kt0 := Track0_s g q s (.slice none 0 0)
    have kt1 := Track1_s g q s (.slice none 0 0)
    (repeat' (first | ((with_reducible apply gL); (first | refine yL0 ?_ | refine yL ?_ | ((with_reducible apply gL_go); (first | (refine JL_goq (kt0) (hφ := xF) (h := ?_); rintro _ _ ⟨rfl, rfl⟩; try simp only [List.cons_append, List.nil_append]) | (refine JL_goq (kt1) (hφ := xF) (h := ?_); rintro _ _ ⟨rfl, rfl⟩; try simp only [List.cons_append, List.nil_append]) | (refine JL_goq (kh) (hφ := (by (try simp only [List.cons_append, List.nil_append]); exact fun w hr => (hK w hr.1).2 e hem)) (h := ?_); rintro _ _ ⟨a1, c1, s1, ys, zs, hs1, hR, hA, hzc, rfl, rfl⟩; try simp only [List.cons_append, List.nil_append]) | fail)) | (refine yM ?_; intro _) | ((with_reducible apply gL_gd); (first | (refine JL_guard xR xR ?_ ?_ <;> intro _ <;> (try (exfalso; first | contradiction | omega))) | (refine JL_guardb xR xR ?_ ?_ <;> (intro hgb; subst hgb)) | (refine JL_guardb xR xR ?_ ?_ <;> (intro hgb; fail_if_success (have : type_of% hgb := rfl))) | fail)) | fail)) | refine yJ ?_ | ((with_reducible apply gJ_if); (first | (refine J_if xR ?_ ?_ <;> intro _ <;> (try (exfalso; first | contradiction | omega))) | (refine J_ifb xR ?_ ?_ <;> (intro hgb; subst hgb)) | (refine J_ifb xR ?_ ?_ <;> intro _) | fail)) | fail))
    all_goals (first | (exfalso; omega) | skip)
    rename_i bb
    obtain ⟨hE, hI1⟩ := RHear_ok hI hR
    obtain ⟨u, hT0, hU1⟩ := tab_evt hE hU
    have hs5 := stV_up hs1 hI1 hU1
    have hz9 : zs.length ≤ 12 := by rw [hA.len]; exact RHear_len hR
    have hz0 := hs1.t0.st
    have hz1 := hs1.t1.st
    refine J_loop (α := Qti) ⟨0, up⟩ (fun x => zs.length - x.j) (fun x => x.j ≤ zs.length ∧ TabOk s.t0.st s.t1.st x.up (ys.drop x.j) u) (fun x => [(1, .slice a n c), (5, .pointer (some ⟨g, 0, none⟩)), (6, .int .i64 x.up), (7, .int .i64 i), (8, .pointer (some ⟨bb, 0, none⟩)), (9, .slice a1 zs.length c1), (10, .int .i64 x.j)]) (fun x => [pts g (seC q s1 (.slice none 0 0)) 52, Ar 42 14 acC (.slice a1 zs.length c1) zs, hasA zs, pts bb [.int .i64 s.t0.st, .int .i64 s.t1.st] 27]) ⟨Nat.zero_le _, hT0⟩ ⟨rfl, rfl, rfl, rfl, rfl, rfl, rfl, trivial⟩ (fun w H => H.sel xZ) ?_
    rintro ⟨j, up1⟩ hj
    dsimp only at hj ⊢
    obtain ⟨hjl, hT⟩ := hj
    by_cases hjt : j < zs.length
    · obtain ⟨z, y, hz, hd, hzy, hzm⟩ := hA.at hjt
      rw [hd] at hT
      obtain ⟨m, ⟨ht, hT⟩, hT2⟩ := hT
      obtain ⟨yk, yt, ym⟩ := y
      obtain ⟨e1, e2, _⟩ := hzy
      dsimp only at e1 e2 ht hT hT2
      rcases ht with ht | ht
      · subst ht
        rcases hT with ⟨rfl, rfl, hb, hb1, rfl⟩ | ⟨rfl, rfl, rfl⟩ | ⟨h67, rfl, hb, hb1, rfl⟩ | ⟨h13, rfl⟩
        · have hb := hb rfl
          (repeat' (first | ((with_reducible apply gL); (first | refine yL0 ?_ | ((with_reducible apply gL_bin_and); (first | (first | (refine JL_p rfl xR xR (pe_and (c := 0) xR xR (by rw [e2]; decide)) ?_) | (refine JL_p rfl xR xR (pe_and (c := 1) xR xR (by rw [e2]; decide)) ?_)) | fail)) | refine yL ?_ | (refine yM ?_; intro _) | ((with_reducible apply gL_gd); (first | (refine JL_guard xR xR ?_ ?_ <;> intro _ <;> (try (exfalso; first | contradiction | omega))) | (refine JL_guardb xR xR ?_ ?_ <;> (intro hgb; subst hgb)) | (refine JL_guardb xR xR ?_ ?_ <;> (intro hgb; fail_if_success (have : type_of% hgb := rfl))) | fail)) | fail)) | refine yJ ?_ | ((with_reducible apply gJ_if); (first | (refine J_if xR ?_ ?_ <;> intro _ <;> (try (exfalso; first | contradiction | omega))) | (refine J_ifb xR ?_ ?_ <;> (intro hgb; subst hgb)) | (refine J_ifb xR ?_ ?_ <;> intro _) | fail)) | fail))
          all_goals (first | (exfalso; omega) | skip)
          exact J_again ⟨j + 1, z.track⟩ (by dsimp only; omega) ⟨by dsimp only; omega, by rw [e2]; exact hT2⟩ ⟨rfl, rfl, rfl, rfl, rfl, rfl, rfl, trivial⟩ (fun w H => H.sel xZ)
        · (repeat' (first | ((with_reducible apply gL); (first | refine yL0 ?_ | ((with_reducible apply gL_bin_and); (first | (first | (refine JL_p rfl xR xR (pe_and (c := 0) xR xR (by rw [e2]; decide)) ?_) | (refine JL_p rfl xR xR (pe_and (c := 1) xR xR (by rw [e2]; decide)) ?_)) | fail)) | refine yL ?_ | (refine yM ?_; intro _) | ((with_reducible apply gL_gd); (first | (refine JL_guard xR xR ?_ ?_ <;> intro _ <;> (try (exfalso; first | contradiction | omega))) | (refine JL_guardb xR xR ?_ ?_ <;> (intro hgb; subst hgb)) | (refine JL_guardb xR xR ?_ ?_ <;> (intro hgb; fail_if_success (have : type_of% hgb := rfl))) | fail)) | fail)) | refine yJ ?_ | ((with_reducible apply gJ_if); (first | (refine J_if xR ?_ ?_ <;> intro _ <;> (try (exfalso; first | contradiction | omega))) | (refine J_ifb xR ?_ ?_ <;> (intro hgb; subst hgb)) | (refine J_ifb xR ?_ ?_ <;> intro _) | fail)) | fail))
          all_goals (first | (exfalso; omega) | skip)
          exact J_again ⟨j + 1, -1⟩ (by dsimp only; omega) ⟨by dsimp only; omega, hT2⟩ ⟨rfl, rfl, rfl, rfl, rfl, rfl, rfl, trivial⟩ (fun w H => H.sel xZ)
        · have hb := hb rfl
          rcases h67 with rfl | rfl
          all_goals (
            (repeat' (first | ((with_reducible apply gL); (first | refine yL0 ?_ | ((with_reducible apply gL_bin_and); (first | (first | (refine JL_p rfl xR xR (pe_and (c := 0) xR xR (by rw [e2]; decide)) ?_) | (refine JL_p rfl xR xR (pe_and (c := 1) xR xR (by rw [e2]; decide)) ?_)) | fail)) | refine yL ?_ | (refine yM ?_; intro _) | ((with_reducible apply gL_gd); (first | (refine JL_guard xR xR ?_ ?_ <;> intro _ <;> (try (exfalso; first | contradiction | omega))) | (refine JL_guardb xR xR ?_ ?_ <;> (intro hgb; subst hgb)) | (refine JL_guardb xR xR ?_ ?_ <;> (intro hgb; fail_if_success (have : type_of% hgb := rfl))) | fail)) | fail)) | refine yJ ?_ | ((with_reducible apply gJ_if); (first | (refine J_if xR ?_ ?_ <;> intro _ <;> (try (exfalso; first | contradiction | omega))) | (refine J_ifb xR ?_ ?_ <;> (intro hgb; subst hgb)) | (refine J_ifb xR ?_ ?_ <;> intro _) | fail)) | fail))
            all_goals (first | (exfalso; omega) | skip)
            exact J_again ⟨j + 1, 0⟩ (by dsimp only; omega) ⟨by dsimp only; omega, hT2⟩ ⟨rfl, rfl, rfl, rfl, rfl, rfl, rfl, trivial⟩ (fun w H => H.sel xZ))
        · (repeat' (first | ((with_reducible apply gL); (first | refine yL0 ?_ | ((with_reducible apply gL_bin_and); (first | (first | (refine JL_p rfl xR xR (pe_and (c := 0) xR xR (by rw [e2]; decide)) ?_) | (refine JL_p rfl xR xR (pe_and (c := 1) xR xR (by rw [e2]; decide)) ?_)) | fail)) | refine yL ?_ | (refine yM ?_; intro _) | ((with_reducible apply gL_gd); (first | (refine JL_guard xR xR ?_ ?_ <;> intro _ <;> (try (exfalso; first | contradiction | omega))) | (refine JL_guardb xR xR ?_ ?_ <;> (intro hgb; subst hgb)) | (refine JL_guardb xR xR ?_ ?_ <;> (intro hgb; fail_if_success (have : type_of% hgb := rfl))) | fail)) | fail)) | refine yJ ?_ | ((with_reducible apply gJ_if); (first | (refine J_if xR ?_ ?_ <;> intro _ <;> (try (exfalso; first | contradiction | omega))) | (refine J_ifb xR ?_ ?_ <;> (intro hgb; subst hgb)) | (refine J_ifb xR ?_ ?_ <;> intro _) | fail)) | fail))
          all_goals (first | (exfalso; omega) | skip)
          exact J_again ⟨j + 1, m⟩ (by dsimp only; omega) ⟨by dsimp only; omega, hT2⟩ ⟨rfl, rfl, rfl, rfl, rfl, rfl, rfl, trivial⟩ (fun w H => H.sel xZ)
      · subst ht
        rcases hT with ⟨rfl, rfl, hb, hb1, rfl⟩ | ⟨rfl, rfl, rfl⟩ | ⟨h67, rfl, hb, hb1, rfl⟩ | ⟨h13, rfl⟩
        · have hb := hb1 rfl
          (repeat' (first | ((with_reducible apply gL); (first | refine yL0 ?_ | ((with_reducible apply gL_bin_and); (first | (first | (refine JL_p rfl xR xR (pe_and (c := 0) xR xR (by rw [e2]; decide)) ?_) | (refine JL_p rfl xR xR (pe_and (c := 1) xR xR (by rw [e2]; decide)) ?_)) | fail)) | refine yL ?_ | (refine yM ?_; intro _) | ((with_reducible apply gL_gd); (first | (refine JL_guard xR xR ?_ ?_ <;> intro _ <;> (try (exfalso; first | contradiction | omega))) | (refine JL_guardb xR xR ?_ ?_ <;> (intro hgb; subst hgb)) | (refine JL_guardb xR xR ?_ ?_ <;> (intro hgb; fail_if_success (have : type_of% hgb := rfl))) | fail)) | fail)) | refine yJ ?_ | ((with_reducible apply gJ_if); (first | (refine J_if xR ?_ ?_ <;> intro _ <;> (try (exfalso; first | contradiction | omega))) | (refine J_ifb xR ?_ ?_ <;> (intro hgb; subst hgb)) | (refine J_ifb xR ?_ ?_ <;> intro _) | fail)) | fail))
          all_goals (first | (exfalso; omega) | skip)
          exact J_again ⟨j + 1, z.track⟩ (by dsimp only; omega) ⟨by dsimp only; omega, by rw [e2]; exact hT2⟩ ⟨rfl, rfl, rfl, rfl, rfl, rfl, rfl, trivial⟩ (fun w H => H.sel xZ)
        · (repeat' (first | ((with_reducible apply gL); (first | refine yL0 ?_ | ((with_reducible apply gL_bin_and); (first | (first | (refine JL_p rfl xR xR (pe_and (c := 0) xR xR (by rw [e2]; decide)) ?_) | (refine JL_p rfl xR xR (pe_and (c := 1) xR xR (by rw [e2]; decide)) ?_)) | fail)) | refine yL ?_ | (refine yM ?_; intro _) | ((with_reducible apply gL_gd); (first | (refine JL_guard xR xR ?_ ?_ <;> intro _ <;> (try (exfalso; first | contradiction | omega))) | (refine JL_guardb xR xR ?_ ?_ <;> (intro hgb; subst hgb)) | (refine JL_guardb xR xR ?_ ?_ <;> (intro hgb; fail_if_success (have : type_of% hgb := rfl))) | fail)) | fail)) | refine yJ ?_ | ((with_reducible apply gJ_if); (first | (refine J_if xR ?_ ?_ <;> intro _ <;> (try (exfalso; first | contradiction | omega))) | (refine J_ifb xR ?_ ?_ <;> (intro hgb; subst hgb)) | (refine J_ifb xR ?_ ?_ <;> intro _) | fail)) | fail))
          all_goals (first | (exfalso; omega) | skip)
          exact J_again ⟨j + 1, -1⟩ (by dsimp only; omega) ⟨by dsimp only; omega, hT2⟩ ⟨rfl, rfl, rfl, rfl, rfl, rfl, rfl, trivial⟩ (fun w H => H.sel xZ)
        · have hb := hb1 rfl
          rcases h67 with rfl | rfl
          all_goals (
            (repeat' (first | ((with_reducible apply gL); (first | refine yL0 ?_ | ((with_reducible apply gL_bin_and); (first | (first | (refine JL_p rfl xR xR (pe_and (c := 0) xR xR (by rw [e2]; decide)) ?_) | (refine JL_p rfl xR xR (pe_and (c := 1) xR xR (by rw [e2]; decide)) ?_)) | fail)) | refine yL ?_ | (refine yM ?_; intro _) | ((with_reducible apply gL_gd); (first | (refine JL_guard xR xR ?_ ?_ <;> intro _ <;> (try (exfalso; first | contradiction | omega))) | (refine JL_guardb xR xR ?_ ?_ <;> (intro hgb; subst hgb)) | (refine JL_guardb xR xR ?_ ?_ <;> (intro hgb; fail_if_success (have : type_of% hgb := rfl))) | fail)) | fail)) | refine yJ ?_ | ((with_reducible apply gJ_if); (first | (refine J_if xR ?_ ?_ <;> intro _ <;> (try (exfalso; first | contradiction | omega))) | (refine J_ifb xR ?_ ?_ <;> (intro hgb; subst hgb)) | (refine J_ifb xR ?_ ?_ <;> intro _) | fail)) | fail))
            all_goals (first | (exfalso; omega) | skip)
            exact J_again ⟨j + 1, 1⟩ (by dsimp only; omega) ⟨by dsimp only; omega, hT2⟩ ⟨rfl, rfl, rfl, rfl, rfl, rfl, rfl, trivial⟩ (fun w H => H.sel xZ))
        · (repeat' (first | ((with_reducible apply gL); (first | refine yL0 ?_ | ((with_reducible apply gL_bin_and); (first | (first | (refine JL_p rfl xR xR (pe_and (c := 0) xR xR (by rw [e2]; decide)) ?_) | (refine JL_p rfl xR xR (pe_and (c := 1) xR xR (by rw [e2]; decide)) ?_)) | fail)) | refine yL ?_ | (refine yM ?_; intro _) | ((with_reducible apply gL_gd); (first | (refine JL_guard xR xR ?_ ?_ <;> intro _ <;> (try (exfalso; first | contradiction | omega))) | (refine JL_guardb xR xR ?_ ?_ <;> (intro hgb; subst hgb)) | (refine JL_guardb xR xR ?_ ?_ <;> (intro hgb; fail_if_success (have : type_of% hgb := rfl))) | fail)) | fail)) | refine yJ ?_ | ((with_reducible apply gJ_if); (first | (refine J_if xR ?_ ?_ <;> intro _ <;> (try (exfalso; first | contradiction | omega))) | (refine J_ifb xR ?_ ?_ <;> (intro hgb; subst hgb)) | (refine J_ifb xR ?_ ?_ <;> intro _) | fail)) | fail))
          all_goals (first | (exfalso; omega) | skip)
          exact J_again ⟨j + 1, m⟩ (by dsimp only; omega) ⟨by dsimp only; omega, hT2⟩ ⟨rfl, rfl, rfl, rfl, rfl, rfl, rfl, trivial⟩ (fun w H => H.sel xZ)
    · have hje : j = zs.length := by omega
      rw [List.drop_eq_nil_of_le (by rw [← hA.len]; omega)] at hT
      cases hT
      have kt2 := Track0_s g q s1 (.slice none 0 0)
      have kt3 := Track1_s g q s1 (.slice none 0 0)
      have ks := State_s g q s1 (.slice none 0 0)
      generalize stV s1 = v at ks hs5
      have hU2 := hU1
      unfold UpIs at hU2
      rcases hU2.2.2 with rfl | rfl | rfl
      · have hbq : decide ((0 : Int) ≤ -1) = decide (v = 5) := decide_eq_decide.2 hs5.symm
        (repeat' (first | ((with_reducible apply gL); (first | refine yL0 ?_ | refine yL ?_ | ((with_reducible apply gL_go); (first | (refine JL_goq (kt2) (hφ := xF) (h := ?_); rintro _ _ ⟨rfl, rfl⟩; try simp only [List.cons_append, List.nil_append]) | (refine JL_goq (kt3) (hφ := xF) (h := ?_); rintro _ _ ⟨rfl, rfl⟩; try simp only [List.cons_append, List.nil_append]) | (refine JL_goq (ks) (hφ := xF) (h := ?_); rintro _ _ ⟨rfl, rfl⟩; try simp only [List.cons_append, List.nil_append]) | fail)) | (refine yM ?_; intro _) | ((with_reducible apply gL_gd); (first | (refine JL_guard xR xR ?_ ?_ <;> intro _ <;> (try (exfalso; first | contradiction | omega))) | (refine JL_guardb xR xR ?_ ?_ <;> (intro hgb; subst hgb)) | (refine JL_guardb xR xR ?_ ?_ <;> (intro hgb; fail_if_success (have : type_of% hgb := rfl))) | fail)) | fail)) | refine yJ ?_ | ((with_reducible apply gJ_if); (first | (refine J_if xR ?_ ?_ <;> intro _ <;> (try (exfalso; first | contradiction | omega))) | (refine J_ifb xR ?_ ?_ <;> (intro hgb; subst hgb)) | (refine J_ifb xR ?_ ?_ <;> intro _) | fail)) | fail))
        all_goals (first | (exfalso; omega) | (exfalso; exact absurd hbq (by assumption)) | skip)
        all_goals exact J_again ⟨i + 1, s1, -1⟩ (by dsimp only; omega) ⟨by dsimp only; omega, hs1, hI1, hU1⟩ ⟨rfl, rfl, rfl, rfl, trivial⟩ (fun w H => H.sel xZ)
      · have hbq : decide ((0 : Int) ≤ 0) = decide (v = 5) := decide_eq_decide.2 hs5.symm
        (repeat' (first | ((with_reducible apply gL); (first | refine yL0 ?_ | refine yL ?_ | ((with_reducible apply gL_go); (first | (refine JL_goq (kt2) (hφ := xF) (h := ?_); rintro _ _ ⟨rfl, rfl⟩; try simp only [List.cons_append, List.nil_append]) | (refine JL_goq (kt3) (hφ := xF) (h := ?_); rintro _ _ ⟨rfl, rfl⟩; try simp only [List.cons_append, List.nil_append]) | (refine JL_goq (ks) (hφ := xF) (h := ?_); rintro _ _ ⟨rfl, rfl⟩; try simp only [List.cons_append, List.nil_append]) | fail)) | (refine yM ?_; intro _) | ((with_reducible apply gL_gd); (first | (refine JL_guard xR xR ?_ ?_ <;> intro _ <;> (try (exfalso; first | contradiction | omega))) | (refine JL_guardb xR xR ?_ ?_ <;> (intro hgb; subst hgb)) | (refine JL_guardb xR xR ?_ ?_ <;> (intro hgb; fail_if_success (have : type_of% hgb := rfl))) | fail)) | fail)) | refine yJ ?_ | ((with_reducible apply gJ_if); (first | (refine J_if xR ?_ ?_ <;> intro _ <;> (try (exfalso; first | contradiction | omega))) | (refine J_ifb xR ?_ ?_ <;> (intro hgb; subst hgb)) | (refine J_ifb xR ?_ ?_ <;> intro _) | fail)) | fail))
        all_goals (first | (exfalso; omega) | (exfalso; exact absurd hbq (by assumption)) | skip)
        all_goals exact J_again ⟨i + 1, s1, 0⟩ (by dsimp only; omega) ⟨by dsimp only; omega, hs1, hI1, hU1⟩ ⟨rfl, rfl, rfl, rfl, trivial⟩ (fun w H => H.sel xZ)
      · have hbq : decide ((0 : Int) ≤ 1) = decide (v = 5) := decide_eq_decide.2 hs5.symm
        (repeat' (first | ((with_reducible apply gL); (first | refine yL0 ?_ | refine yL ?_ | ((with_reducible apply gL_go); (first | (refine JL_goq (kt2) (hφ := xF) (h := ?_); rintro _ _ ⟨rfl, rfl⟩; try simp only [List.cons_append, List.nil_append]) | (refine JL_goq (kt3) (hφ := xF) (h := ?_); rintro _ _ ⟨rfl, rfl⟩; try simp only [List.cons_append, List.nil_append]) | (refine JL_goq (ks) (hφ := xF) (h := ?_); rintro _ _ ⟨rfl, rfl⟩; try simp only [List.cons_append, List.nil_append]) | fail)) | (refine yM ?_; intro _) | ((with_reducible apply gL_gd); (first | (refine JL_guard xR xR ?_ ?_ <;> intro _ <;> (try (exfalso; first | contradiction | omega))) | (refine JL_guardb xR xR ?_ ?_ <;> (intro hgb; subst hgb)) | (refine JL_guardb xR xR ?_ ?_ <;> (intro hgb; fail_if_success (have : type_of% hgb := rfl))) | fail)) | fail)) | refine yJ ?_ | ((with_reducible apply gJ_if); (first | (refine J_if xR ?_ ?_ <;> intro _ <;> (try (exfalso; first | contradiction | omega))) | (refine J_ifb xR ?_ ?_ <;> (intro hgb; subst hgb)) | (refine J_ifb xR ?_ ?_ <;> intro _) | fail)) | fail))
        all_goals (first | (exfalso; omega) | (exfalso; exact absurd hbq (by assumption)) | skip)
        all_goals exact J_again ⟨i + 1, s1, 1⟩ (by dsimp only; omega) ⟨by dsimp only; omega, hs1, hI1, hU1⟩ ⟨rfl, rfl, rfl, rfl, trivial⟩ (fun w H => H.sel xZ)
  · (repeat' (first | ((with_reducible apply gL); (first | refine yL0 ?_ | refine yL ?_ | (refine yM ?_; intro _) | ((with_reducible apply gL_gd); (first | (refine JL_guard xR xR ?_ ?_ <;> intro _ <;> (try (exfalso; first | contradiction | omega))) | (refine JL_guardb xR xR ?_ ?_ <;> (intro hgb; subst hgb)) | (refine JL_guardb xR xR ?_ ?_ <;> (intro hgb; fail_if_success (have : type_of% hgb := rfl))) | fail)) | fail)) | refine yJ ?_ | ((with_reducible apply gJ_if); (first | (refine J_if xR ?_ ?_ <;> intro _ <;> (try (exfalso; first | contradiction | omega))) | (refine J_ifb xR ?_ ?_ <;> (intro hgb; subst hgb)) | (refine J_ifb xR ?_ ?_ <;> intro _) | fail)) | fail))
    all_goals (first | (exfalso; omega) | skip)
    all_goals exact J_ret1 rfl (by rfl) fun w H => ⟨_, ⟨rfl, rfl⟩, H.sel .nil⟩
end Go.Proofs.Ytfonbpmdbpdncaa
namespace Go.Proofs.Ytfonbpmdbpdncaa
set_option linter.unusedSimpArgs false
set_option linter.unusedVariables false
open Go.RowKit Go.Pm

theorem kn_keep {W : World} {φ : World → Prop} (hk : ∀ {w w' : World}, (∀ b o u, w.cell? ⟨b, o, none⟩ = some u → w'.cell? ⟨b, o, none⟩ = some u) → φ w → φ w') (h : φ W) : Kn (World.all W) φ :=
  Kn.all (fun w ho => hk (fun b o u hu => by
    rw [World.cell?_of_block (w := W) (ho.block b (World.block_lt_of_cell? _ _ hu) (by simp))]
    exact hu) h) fun w w' hh hr => hk (fun b o u hu => by rw [cell?_heap hh]; exact hu) hr
theorem u8_el {w : World} (m : Nat) (d : List Value) (_ : d.length = 1) (h : Rs Try.prog w m 5 d) : ∃ z : Int, d = byC z ∧ (0 ≤ z ∧ z ≤ 255) := by
  have h0 := leaf_of 5 5 [5] m d (by kernel_rfl) h
  obtain ⟨z, r, e, hb, h1⟩ := h0.u8 Try.underlying5
  subst e
  obtain rfl := h1.nil'
  exact ⟨z, rfl, hb⟩
theorem bytes_el {w : World} {n : Nat} {a : Option Addr} {l c : Nat} (h : Rs Try.prog w n 30 [.slice a l c]) : ∃ B : List Int, B.length = l ∧ U8s B ∧ Vw w (.slice a B.length c) 1 B.length (flat byC B) := by
  obtain ⟨es, h0, h1, h2, h3, h4, h5⟩ := h.list (sz := 1) (b := 1) (enc := byC) (ok := fun z => 0 ≤ z ∧ z ≤ 255) Try.underlying30 (by kernel_rfl) (by kernel_rfl) u8_el
  exact ⟨es, h0, h5, h4⟩
theorem ev_el {w : World} (m : Nat) (d : List Value) (_ : d.length = 9) (h : Rs Try.prog w m 36 d) : ∃ e : Qev, d = evC e ∧ EvOk e ∧ EvV w e := by
  have h0 := leaf_of 5 36 [3, 3, 3, 3, 3, 30, 3, 3, 30] m d (by kernel_rfl) h
  obtain ⟨dd, r, e, b0, h1⟩ := h0.i64 Try.underlying3
  subst e
  obtain ⟨now, r, e, b1, h2⟩ := h1.i64 Try.underlying3
  subst e
  obtain ⟨n, r, e, b2, h3⟩ := h2.i64 Try.underlying3
  subst e
  obtain ⟨tr, r, e, b3, h4⟩ := h3.i64 Try.underlying3
  subst e
  obtain ⟨kd, r, e, b4, h5⟩ := h4.i64 Try.underlying3
  subst e
  obtain ⟨ma, ml, mc, r, e, ⟨m1, hm⟩, h6⟩ := h5.sl Try.underlying30
  subst e
  obtain ⟨z, r, e, b6, h7⟩ := h6.i64 Try.underlying3
  subst e
  obtain ⟨sub, r, e, b7, h8⟩ := h7.i64 Try.underlying3
  subst e
  obtain ⟨fa, fl, fc, r, e, ⟨m2, hf⟩, h9⟩ := h8.sl Try.underlying30
  subst e
  obtain rfl := h9.nil'
  obtain ⟨B, rfl, hB, hv⟩ := bytes_el hm
  obtain ⟨C, rfl, hC, hw⟩ := bytes_el hf
  exact ⟨⟨dd, now, n, tr, kd, ma, mc, B, z, sub, fa, fc, C⟩, rfl, ⟨b0, hB, hC⟩, hv, hw⟩
theorem events_arg {W : World} {n : Nat} {a : Option Addr} {l c : Nat} (h : Rs Try.prog W n 22 [.slice a l c]) : ∃ es : List Qev, es.length = l ∧ (∀ e ∈ es, EvOk e) ∧ Kn (World.all W) (fun w => Vw w (.slice a l c) 9 l (flat evC es) ∧ ∀ e ∈ es, EvV w e) := by
  obtain ⟨es, h0, h1, h2, h3, h4, h5⟩ := h.list (sz := 9) (b := 104) (enc := evC) (ok := fun e => EvOk e ∧ EvV W e) Try.underlying22 (by kernel_rfl) (by kernel_rfl) ev_el
  rw [h0] at h4
  exact ⟨es, h0, fun x hx => (h5 x hx).1, kn_keep (fun hc h => ⟨vwKeep hc h.1, fun x hx => ⟨vwKeep hc (h.2 x hx).1, vwKeep hc (h.2 x hx).2⟩⟩) ⟨h4, fun x hx => (h5 x hx).2⟩⟩
end Go.Proofs.Ytfonbpmdbpdncaa
namespace Go.Proofs.Ytfonbpmdbpdncaa
set_option linter.unusedSimpArgs false
set_option linter.unusedVariables false
open Go.RowKit Go.Pm

namespace fsmTable
theorem walk {W : World} (n0 : Nat) {a0 : Bool} (g0 : Rs Try.prog W n0 4 (Value.bool a0).cells.toList) (n1 : Nat) {a1 : Option Addr} {l1 c1 : Nat} (g1 : Rs Try.prog W n1 22 (Value.slice a1 l1 c1).cells.toList) :
    Calls Try.prog 3 #[.bool a0, .slice a1 l1 c1] W fun e w' => e = .returned (.bool true) ∧ Only [] W w' := by
  obtain ⟨es, h0, h1, h2⟩ := events_arg g1
  exact (table_s a0 a1 l1 c1 es h0 h1).law h2
end fsmTable
namespace fsmTable
open Go.ChangeShapes Go.WideShapes Go.ChangeAt
set_option linter.unusedVariables false

theorem own : ownKnob Try.prog.godebug = none := by kernel_rfl
theorem laidOut : laidOutB Try.prog = true := by kernel_rfl

set_option maxRecDepth 100000 in
theorem lifted (os : Os) (started : os.Started) (H : Type) (enc : TypeId × Value → H) :
    ReturnsInHanded {} Try.checked os 3 .any (Rows.fsmTableSpec.pre6 enc Try.prog Try.f3 Rows.fsmTableRow.domain false) (Rows.fsmTableSpec.post enc Try.prog Try.f3 false true false false) := by
  refine returnsInHanded_of_change_sized (C := Try.checked) own started (by kernel_rfl) Try.func3
    (ChangeSpec.witness6 (enc := enc) (C := Try.checked) false ⟨#[], #[.bool false, .slice none 0 0], []⟩ 8 (by kernel_rfl) (by kernel_rfl) (by kernel_rfl) (by kernel_rfl)) ?_
  intro W base args ds gs before hval0 hW hcnd hsz hreach
  have hval : ∀ (j : Nat) t v, Try.f3.params[j]? = some t → args[j]? = some v → Value.okWide Try.prog W .any base t v := hval0
  have hW' := hW
  obtain ⟨p, q, hA0, hV, rfl, hfz, hnd⟩ := hW
  have hA : DataW.TrodAll enc Try.prog W 0 (fun _ => true) true Try.f3.params.toList args.toList ds p := hA0
  rw [Try.params3] at hA hval
  obtain ⟨v0, vs0, d0, ds0, p0, q0, hargs, rfl, rfl, h0, r0⟩ := trodAll_cons hA
  obtain ⟨v1, vs1, d1, ds1, p1, q1, rfl, rfl, rfl, h1, r1⟩ := trodAll_cons r0
  obtain ⟨rfl, rfl, rfl⟩ := trodAll_nil r1
  obtain rfl : args = #[v0, v1] := by cases args; simp_all
  obtain ⟨rfl, rfl⟩ := trodVars_none hV
  have k0 := h0
  have lt0 : ∀ x ∈ p0, x.block < W.heap.size := by obtain ⟨m, hm⟩ := k0; exact DataW.trod_lt m _ _ _ hm
  obtain ⟨n0, g0⟩ := Rs.of_weights hsz 0 (by first | rfl | (simp [Try.params3])) rfl h0
  obtain ⟨a0, rfl⟩ := okWide_bool Try.underlying4 (hval 0 4 v0 rfl rfl)
  have k1 := h1
  have lt1 : ∀ x ∈ p1, x.block < W.heap.size := by obtain ⟨m, hm⟩ := k1; exact DataW.trod_lt m _ _ _ hm
  obtain ⟨n1, g1⟩ := Rs.of_weights hsz 1 (by first | rfl | (simp [Try.params3])) rfl h1
  obtain ⟨a1, l1, c1, rfl⟩ := okWide_slice Try.underlying22 (hval 1 22 v1 rfl rfl)
  refine (walk n0 g0 n1 g1).mono fun e W' ⟨he, hg⟩ => ?_
  subst he
  have bel := hg.belowNil
  exact ⟨_, rfl, _, _, _, [], _, [], hW', trodAll_mk1 (shut_bool Try.underlying4 _), (trodAll_cons_mk (Below.trod laidOut (by kernel_rfl) (of_decide_eq_true (by kernel_rfl)) k0 bel lt0) (trodAll_cons_mk (Below.trod laidOut (by kernel_rfl) (of_decide_eq_true (by kernel_rfl)) k1 bel lt1) trodAll_mk0)), rfl, bel.frame _, fun h => by cases h⟩

theorem over : Rows.fsmTableRow.holds Try.pinned (OpenSpec.ofChange Rows.fsmTableSpec) :=
  OpenClaim.holds_of_wide 3 Try.f3 rfl rfl rfl rfl rfl rfl rfl ⟨rfl, rfl, rfl, rfl, rfl⟩ rfl rfl rfl rfl rfl (by kernel_rfl) Try.func3 (by kernel_rfl)
    (of_decide_eq_true (by kernel_rfl)) (by unfold Func.isWrapper; first | (rw [if_pos (by decide +kernel)]; kernel_rfl) | (rw [if_neg (by decide +kernel)]; exact ⟨rfl, rfl⟩))
    (fun os started H enc _ => lifted os started H enc)

theorem proved : Rows.FsmTableSaid := over
#print axioms proved
end fsmTable
end Go.Proofs.Ytfonbpmdbpdncaa
