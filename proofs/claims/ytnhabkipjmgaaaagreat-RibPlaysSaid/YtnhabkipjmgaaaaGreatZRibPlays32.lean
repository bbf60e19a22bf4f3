/-
  Rb30, Rb31, Rb20: merged.
-/
import Derived.Test.YtnhabkipjmgaaaaGreatZRibPlays31
namespace Go.Proofs.YtnhabkipjmgaaaaGreat
set_option linter.unusedSimpArgs false
set_option linter.unusedVariables false
set_option maxRecDepth 20000
set_option maxHeartbeats 4000000
open Go.RowKit Go.Pm

open T (Pf PfN Rt Ah Wi pfC pw)
def enP (p : Pf) : List Value := [.int .u32 p.1, .int .i64 p.2, .int .i64 0]
abbrev RfT (rb : Nat) (a : Option Addr) (c : Nat) (l : List Pf) : List HP := [pts rb [.slice a l.length c] 167, Ar 193 3 enP (.slice a l.length c) l]
def putP : List Pf → Pf → List Pf
  | [], p => [p]
  | x :: l, p => if Ah x p then x :: putP l p else if x = p then x :: l else p :: x :: l
theorem putP_in : ∀ {l : List Pf} {p : Pf} {k : Nat}, (∀ x ∈ l.take k, Ah x p) → l[k]? = some p → putP l p = l
  | [], _, _, _, h => by simp at h
  | x :: l, p, 0, _, h => by
    simp at h
    subst h
    unfold putP
    rw [if_neg T.Ah.irrefl, if_pos rfl]
  | x :: l, p, k + 1, hn, h => by
    unfold putP
    rw [if_pos (hn x (by simp)), putP_in (k := k) (fun y hy => hn y (by simp [hy])) (by simpa using h)]
theorem putP_at : ∀ {l : List Pf} {p : Pf} {k : Nat}, (∀ x ∈ l.take k, Ah x p) → k ≤ l.length → (∀ e, l[k]? = some e → ¬ Ah e p ∧ e ≠ p) → putP l p = l.take k ++ [p] ++ l.drop k
  | [], p, k, _, _, _ => by simp [putP]
  | x :: l, p, 0, _, _, h => by
    obtain ⟨h1, h2⟩ := h x (by simp)
    unfold putP
    rw [if_neg h1, if_neg h2]
    rfl
  | x :: l, p, k + 1, hn, hk, h => by
    unfold putP
    rw [if_pos (hn x (by simp)), putP_at (k := k) (fun y hy => hn y (by simp [hy])) (by simpa using hk) (fun e he => h e (by simpa using he))]
    rfl
theorem mem_putP : ∀ {l : List Pf} {p q : Pf}, q ∈ putP l p ↔ q = p ∨ q ∈ l
  | [], p, q => by simp [putP]
  | x :: l, p, q => by
    unfold putP
    split
    · rw [List.mem_cons, mem_putP, List.mem_cons]
      constructor
      · rintro (h | h | h) <;> simp [h]
      · rintro (h | h | h) <;> simp [h]
    · split
      · rename_i h
        subst h
        simp
      · simp
theorem putP_len : ∀ (l : List Pf) (p : Pf), (putP l p).length ≤ l.length + 1
  | [], p => by simp [putP]
  | x :: l, p => by
    have := putP_len l p
    unfold putP
    split
    · simp only [List.length_cons]
      omega
    · split <;> simp only [List.length_cons] <;> omega
theorem putP_srt : ∀ {l : List Pf} {p : Pf}, (l.Pairwise fun x y => Ah x y) → (putP l p).Pairwise fun x y => Ah x y
  | [], p, _ => by simp [putP]
  | x :: l, p, h => by
    obtain ⟨h1, h2⟩ := List.pairwise_cons.1 h
    unfold putP
    by_cases hA : Ah x p
    · rw [if_pos hA]
      refine List.pairwise_cons.2 ⟨fun y hy => ?_, putP_srt h2⟩
      rcases mem_putP.1 hy with rfl | hy
      · exact hA
      · exact h1 y hy
    · rw [if_neg hA]
      by_cases hx : x = p
      · rw [if_pos hx]
        exact h
      · rw [if_neg hx]
        have hr := T.Ah.total hA hx
        refine List.pairwise_cons.2 ⟨fun y hy => ?_, h⟩
        rcases List.mem_cons.1 hy with rfl | hy
        · exact hr
        · exact hr.trans (h1 y hy)
theorem tright_b (p : Pf) (hp : PfN p) (b : Bool) (hb : decide (Rt p) = b) : Pact Tryz.prog 85 #[.agg (pfC p).toArray] (fun _ => True) [] (ret0 (.bool b)) := hb ▸ T.rright_s p hp
theorem twithin_b (p q : Pf) (hp : PfN p) (hq : PfN q) (b : Bool) (hb : decide (Wi p q) = b) : Pact Tryz.prog 133 #[.agg (pfC p).toArray, .agg (pfC q).toArray] (fun _ => True) [] (ret0 (.bool b)) := hb ▸ T.rwithin_s p q hp hq
section
variable (rb : Nat) (a : Option Addr) (c : Nat) (l : List Pf) (p : Pf)
theorem take_ah {l : List Pf} {p : Pf} {k : Nat} {x : Pf} (hx : l[k]? = some x) (hn : ∀ y ∈ l.take k, Ah y p) (h : Ah x p) : ∀ y ∈ l.take (k + 1), Ah y p := by
  rw [List.take_add_one, hx]
  intro y hy
  rcases List.mem_append.1 hy with hy | hy
  · exact hn y hy
  · obtain rfl := List.mem_singleton.1 hy
    exact h
theorem tput_s (hl : l.length < 4096) (hp : PfN p) (hr : Rt p) : Pact Tryz.prog 111 #[.pointer (some ⟨rb, 0, none⟩), .agg (pfC p).toArray, .int .i64 0] (fun _ => True) (RfT rb a c l) (fun u L' => ∃ (a' : Option Addr) (c' : Nat), u = .int .i64 0 ∧ L' = RfT rb a' c' (putP l p)) := by
  refine pact Tryz.func111 rfl Tryz.ntmps111 rfl ?_
  intro W K _
  refine J_fact (φ := l.length ≤ c ∧ c ≤ maxLen) (fun w H => (H.arShape xA).2) ?_
  rintro ⟨hnc, hcm⟩
  unfold maxLen at hcm
  (repeat' (first | ((with_reducible apply gL); (first | refine yL0 ?_ | refine yL ?_ | ((with_reducible apply gL_go); (first | (refine JL_goq (tright_b p hp true (decide_eq_true hr)) (hφ := xF) (h := ?_); rintro _ _ ⟨rfl, rfl⟩; try simp only [List.cons_append, List.nil_append]) | fail)) | (refine yM ?_; intro _) | (refine yA ?_; intro _ _ _ _) | fail)) | ((with_reducible apply gD); (first | (refine JD_nil ?_; try simp only [List.cons_append, List.nil_append]) | (refine JD_bar ?_; try simp only [List.cons_append, List.nil_append]) | refine yD0 ?_ | refine yD ?_ | ((with_reducible apply gD_go); (first | (refine JD_goq (tright_b p hp true (decide_eq_true hr)) (hφ := xF) (h := ?_); rintro _ _ ⟨rfl, rfl⟩; try simp only [List.cons_append, List.nil_append]) | fail)) | (refine yE ?_; intro _) | (refine yB ?_; intro _ _ _ _) | ((with_reducible apply gD_gd); (first | (refine JD_guard xR xR ?_ ?_ <;> intro _ <;> (try (exfalso; first | contradiction | omega))) | (refine JD_guardb xR xR ?_ ?_ <;> (intro hgb; subst hgb)) | (refine JD_guardb xR xR ?_ ?_ <;> (intro hgb; fail_if_success (have : type_of% hgb := rfl))) | fail)) | fail)) | refine yJ ?_ | ((with_reducible apply gJ_if); (first | (refine J_if xR ?_ ?_ <;> intro _ <;> (try (exfalso; first | contradiction | omega))) | (refine J_ifb xR ?_ ?_ <;> (intro hgb; subst hgb)) | (refine J_ifb xR ?_ ?_ <;> intro _) | fail)) | refine J_draw (id := 4) [0, 1, 2, 3, 4, 5, 6, 7, 8, 9, 10, 11, 12, 13, 14, 15, 16] [17, 18] mixed xC xD xD ?_ | refine J_draw (id := 6) [0, 1, 2, 3, 4, 5, 6, 7, 8, 9, 10, 11, 12, 13, 14, 15, 16] [17, 18] mixed xC xD xD ?_ | refine J_draw (id := 13) [0, 2, 3, 4, 5, 6, 7, 9, 10, 11, 14, 15, 16, 17, 18, 19, 1, 8, 12, 13, 20] [21, 22, 23] mixed xC xD xD ?_ | fail))
  rename_i g
  refine J_loop (α := Nat) 0 (fun k => l.length - k) (fun k => k ≤ l.length ∧ ∀ x ∈ l.take k, Ah x p) (fun k => [(0, .pointer (some ⟨rb, 0, none⟩)), (2, .int .i64 0), (4, .pointer (some ⟨g, 0, none⟩)), (7, .int .i64 k)]) (fun _ => [pts rb [.slice a l.length c] 167, Ar 193 3 enP (.slice a l.length c) l, pts g (pfC p) 41]) ⟨Nat.zero_le _, by simp⟩ ⟨rfl, rfl, rfl, rfl, trivial⟩ (fun w H => H.sel xZ) ?_
  rintro k ⟨hk, hn⟩
  by_cases hlt : k < l.length
  · obtain ⟨x, hsx⟩ : ∃ x, l[k]? = some x := ⟨_, List.getElem?_eq_getElem hlt⟩
    by_cases hA : Ah x p
    · (repeat' (first | ((with_reducible apply gL); (first | refine yL0 ?_ | refine yL ?_ | ((with_reducible apply gL_go); (first | (refine JL_goq (rahead_b x p true (decide_eq_true hA)) (hφ := xF) (h := ?_); rintro _ _ ⟨rfl, rfl⟩; try simp only [List.cons_append, List.nil_append]) | fail)) | (refine yM ?_; intro _) | (refine yA ?_; intro _ _ _ _) | fail)) | ((with_reducible apply gD); (first | (refine JD_nil ?_; try simp only [List.cons_append, List.nil_append]) | (refine JD_bar ?_; try simp only [List.cons_append, List.nil_append]) | refine yD0 ?_ | refine yD ?_ | ((with_reducible apply gD_go); (first | (refine JD_goq (rahead_b x p true (decide_eq_true hA)) (hφ := xF) (h := ?_); rintro _ _ ⟨rfl, rfl⟩; try simp only [List.cons_append, List.nil_append]) | fail)) | (refine yE ?_; intro _) | (refine yB ?_; intro _ _ _ _) | ((with_reducible apply gD_gd); (first | (refine JD_guard xR xR ?_ ?_ <;> intro _ <;> (try (exfalso; first | contradiction | omega))) | (refine JD_guardb xR xR ?_ ?_ <;> (intro hgb; subst hgb)) | (refine JD_guardb xR xR ?_ ?_ <;> (intro hgb; fail_if_success (have : type_of% hgb := rfl))) | fail)) | fail)) | refine yJ ?_ | ((with_reducible apply gJ_if); (first | (refine J_if xR ?_ ?_ <;> intro _ <;> (try (exfalso; first | contradiction | omega))) | (refine J_ifb xR ?_ ?_ <;> (intro hgb; subst hgb)) | (refine J_ifb xR ?_ ?_ <;> intro _) | fail)) | refine J_draw (id := 4) [0, 1, 2, 3, 4, 5, 6, 7, 8, 9, 10, 11, 12, 13, 14, 15, 16] [17, 18] mixed xC xD xD ?_ | refine J_draw (id := 6) [0, 1, 2, 3, 4, 5, 6, 7, 8, 9, 10, 11, 12, 13, 14, 15, 16] [17, 18] mixed xC xD xD ?_ | refine J_draw (id := 13) [0, 2, 3, 4, 5, 6, 7, 9, 10, 11, 14, 15, 16, 17, 18, 19, 1, 8, 12, 13, 20] [21, 22, 23] mixed xC xD xD ?_ | fail))
      exact J_again (k + 1) (by omega) ⟨hlt, take_ah hsx hn hA⟩ ⟨rfl, rfl, rfl, rfl, trivial⟩ (fun w H => H.sel xZ)
    · by_cases hx : x.1 = p.1 ∧ x.2 = p.2
      · have hxp : x = p := Prod.ext hx.1 hx.2
        have hE := putP_in hn (by rw [hsx, hxp])
        have hset : l.set k x = l := by
          rw [← (List.getElem?_eq_some_iff.1 hsx).2]
          exact List.set_getElem_self hlt
        (repeat' (first | ((with_reducible apply gL); (first | refine yL0 ?_ | ((with_reducible apply gL_c_append); (first | (refine JL_appL enP (fs := l) (tabE etab_ok xR) xR xR xA (Src.ar xA) xC xL xU (by omega) xR xR ?_; intro ad1 c1 _ _) | fail)) | ((with_reducible apply gL_store); (first | (refine JL_stEf (z' := x) (by rfl) (by rfl) xA hsx (by rfl) (by intro _; rfl) (by rfl) (by rfl) (by (first | ((repeat (first | exact Put.e | apply Put.t | apply Put.s)); done) | fail)) (by rfl) (by rfl) (by rfl) ?_) | fail)) | refine yL ?_ | ((with_reducible apply gL_go); (first | (refine JL_goq (rahead_b x p false (decide_eq_false hA)) (hφ := xF) (h := ?_); rintro _ _ ⟨rfl, rfl⟩; try simp only [List.cons_append, List.nil_append]) | fail)) | (refine yM ?_; intro _) | (refine yA ?_; intro _ _ _ _) | fail)) | ((with_reducible apply gD); (first | (refine JD_nil ?_; try simp only [List.cons_append, List.nil_append]) | (refine JD_bar ?_; try simp only [List.cons_append, List.nil_append]) | refine yD0 ?_ | ((with_reducible apply gD_c_append); (first | (refine JL_appL enP (fs := l) (tabE etab_ok xR) xR xR xA (Src.ar xA) xC xL xU (by omega) xR xR ?_; intro ad1 c1 _ _) | fail)) | ((with_reducible apply gD_store); (first | (refine JL_stEf (z' := x) (by rfl) (by rfl) xA hsx (by rfl) (by intro _; rfl) (by rfl) (by rfl) (by (first | ((repeat (first | exact Put.e | apply Put.t | apply Put.s)); done) | fail)) (by rfl) (by rfl) (by rfl) ?_) | fail)) | refine yD ?_ | ((with_reducible apply gD_go); (first | (refine JD_goq (rahead_b x p false (decide_eq_false hA)) (hφ := xF) (h := ?_); rintro _ _ ⟨rfl, rfl⟩; try simp only [List.cons_append, List.nil_append]) | fail)) | (refine yE ?_; intro _) | (refine yB ?_; intro _ _ _ _) | ((with_reducible apply gD_gd); (first | (refine JD_guard xR xR ?_ ?_ <;> intro _ <;> (try (exfalso; first | contradiction | omega))) | (refine JD_guardb xR xR ?_ ?_ <;> (intro hgb; subst hgb)) | (refine JD_guardb xR xR ?_ ?_ <;> (intro hgb; fail_if_success (have : type_of% hgb := rfl))) | fail)) | fail)) | refine yJ ?_ | ((with_reducible apply gJ_if); (first | (refine J_if xR ?_ ?_ <;> intro _ <;> (try (exfalso; first | contradiction | omega))) | (refine J_ifb xR ?_ ?_ <;> (intro hgb; subst hgb)) | (refine J_ifb xR ?_ ?_ <;> intro _) | fail)) | refine J_draw (id := 4) [0, 1, 2, 3, 4, 5, 6, 7, 8, 9, 10, 11, 12, 13, 14, 15, 16] [17, 18] mixed xC xD xD ?_ | refine J_draw (id := 6) [0, 1, 2, 3, 4, 5, 6, 7, 8, 9, 10, 11, 12, 13, 14, 15, 16] [17, 18] mixed xC xD xD ?_ | refine J_draw (id := 13) [0, 2, 3, 4, 5, 6, 7, 9, 10, 11, 14, 15, 16, 17, 18, 19, 1, 8, 12, 13, 20] [21, 22, 23] mixed xC xD xD ?_ | fail))
        rw [hE]
        refine J_ret1 rfl (by rfl) fun w H => ⟨_, ⟨ad1, c1, rfl, rfl⟩, ?_⟩
        rw [hset] at H
        exact H.sel xZ
      · have hne : x ≠ p := fun e => hx ⟨by rw [e], by rw [e]⟩
        have hE := putP_at hn hk fun e he => by rw [hsx] at he; cases he; exact ⟨hA, hne⟩
        have hlen : (l.take k ++ [p] ++ l.drop k).length = (l.take k ++ [p]).length + (l.length - k) := by rw [List.length_append, List.length_drop]
        (repeat' (first | ((with_reducible apply gL); (first | refine yL0 ?_ | ((with_reducible apply gL_c_append); (first | (first | (refine JD_appL enP (fs := l.take k) (tabE etab_ok xR) xR xR xA (Src.take (a := a) (c := c) (enc := enP) (es := l) (Src.ar xA) (fun _ => rfl) rfl k (by omega)) xC xL xU (by omega) xR ?_; intro ad1 c1 _ _) | (refine JD_ap1 (z := p) (tabE etab_ok xR) xR xR xA xA xC xR xL xR (by simp only [List.length_take]; omega) xR ?_; intro ad2 c2 _ _) | (refine JD_app (fs := l.drop k) (tabE etab_ok xR) xR xR xA (Src.drop (a := a) (c := c) (enc := enP) (es := l) (Src.ar xA) (fun _ => rfl) rfl k _ (by omega) rfl) xC xL xU (by simp only [List.length_append, List.length_take, List.length_cons, List.length_nil]; omega) xR ?_; intro ad3 c3 _ _)) | fail)) | refine yL ?_ | ((with_reducible apply gL_go); (first | (refine JL_goq (rahead_b x p false (decide_eq_false hA)) (hφ := xF) (h := ?_); rintro _ _ ⟨rfl, rfl⟩; try simp only [List.cons_append, List.nil_append]) | fail)) | (refine yM ?_; intro _) | (refine yA ?_; intro _ _ _ _) | fail)) | ((with_reducible apply gD); (first | (refine JD_nil ?_; try simp only [List.cons_append, List.nil_append]) | (refine JD_bar ?_; try simp only [List.cons_append, List.nil_append]) | refine yD0 ?_ | ((with_reducible apply gD_c_append); (first | (first | (refine JD_appL enP (fs := l.take k) (tabE etab_ok xR) xR xR xA (Src.take (a := a) (c := c) (enc := enP) (es := l) (Src.ar xA) (fun _ => rfl) rfl k (by omega)) xC xL xU (by omega) xR ?_; intro ad1 c1 _ _) | (refine JD_ap1 (z := p) (tabE etab_ok xR) xR xR xA xA xC xR xL xR (by simp only [List.length_take]; omega) xR ?_; intro ad2 c2 _ _) | (refine JD_app (fs := l.drop k) (tabE etab_ok xR) xR xR xA (Src.drop (a := a) (c := c) (enc := enP) (es := l) (Src.ar xA) (fun _ => rfl) rfl k _ (by omega) rfl) xC xL xU (by simp only [List.length_append, List.length_take, List.length_cons, List.length_nil]; omega) xR ?_; intro ad3 c3 _ _)) | fail)) | refine yD ?_ | ((with_reducible apply gD_go); (first | (refine JD_goq (rahead_b x p false (decide_eq_false hA)) (hφ := xF) (h := ?_); rintro _ _ ⟨rfl, rfl⟩; try simp only [List.cons_append, List.nil_append]) | fail)) | (refine yE ?_; intro _) | (refine yB ?_; intro _ _ _ _) | ((with_reducible apply gD_gd); (first | (refine JD_guard xR xR ?_ ?_ <;> intro _ <;> (try (exfalso; first | contradiction | omega))) | (refine JD_guardb xR xR ?_ ?_ <;> (intro hgb; subst hgb)) | (refine JD_guardb xR xR ?_ ?_ <;> (intro hgb; fail_if_success (have : type_of% hgb := rfl))) | fail)) | fail)) | refine yJ ?_ | ((with_reducible apply gJ_if); (first | (refine J_if xR ?_ ?_ <;> intro _ <;> (try (exfalso; first | contradiction | omega))) | (refine J_ifb xR ?_ ?_ <;> (intro hgb; subst hgb)) | (refine J_ifb xR ?_ ?_ <;> intro _) | fail)) | refine J_draw (id := 4) [0, 1, 2, 3, 4, 5, 6, 7, 8, 9, 10, 11, 12, 13, 14, 15, 16] [17, 18] mixed xC xD xD ?_ | refine J_draw (id := 6) [0, 1, 2, 3, 4, 5, 6, 7, 8, 9, 10, 11, 12, 13, 14, 15, 16] [17, 18] mixed xC xD xD ?_ | refine J_draw (id := 13) [0, 2, 3, 4, 5, 6, 7, 9, 10, 11, 14, 15, 16, 17, 18, 19, 1, 8, 12, 13, 20] [21, 22, 23] mixed xC xD xD ?_ | fail))
        rw [hE]
        refine J_ret1 rfl (by rfl) fun w H => ⟨_, ⟨ad3, c3, rfl, rfl⟩, ?_⟩
        unfold RfT
        rw [hlen]
        exact H.sel xZ
  · obtain rfl : k = l.length := by omega
    have hE := putP_at hn hk fun e he => by simp at he
    have hlen : (l.take l.length ++ [p] ++ l.drop l.length).length = (l.take l.length ++ [p]).length + (l.length - l.length) := by rw [List.length_append, List.length_drop]
    (repeat' (first | ((with_reducible apply gL); (first | refine yL0 ?_ | ((with_reducible apply gL_c_append); (first | (first | (refine JD_appL enP (fs := l.take l.length) (tabE etab_ok xR) xR xR xA (Src.take (a := a) (c := c) (enc := enP) (es := l) (Src.ar xA) (fun _ => rfl) rfl l.length (by omega)) xC xL xU (by omega) xR ?_; intro ad1 c1 _ _) | (refine JD_ap1 (z := p) (tabE etab_ok xR) xR xR xA xA xC xR xL xR (by simp only [List.length_take]; omega) xR ?_; intro ad2 c2 _ _) | (refine JD_app (fs := l.drop l.length) (tabE etab_ok xR) xR xR xA (Src.drop (a := a) (c := c) (enc := enP) (es := l) (Src.ar xA) (fun _ => rfl) rfl l.length _ (by omega) rfl) xC xL xU (by simp only [List.length_append, List.length_take, List.length_cons, List.length_nil]; omega) xR ?_; intro ad3 c3 _ _)) | fail)) | refine yL ?_ | (refine yM ?_; intro _) | (refine yA ?_; intro _ _ _ _) | fail)) | ((with_reducible apply gD); (first | (refine JD_nil ?_; try simp only [List.cons_append, List.nil_append]) | (refine JD_bar ?_; try simp only [List.cons_append, List.nil_append]) | refine yD0 ?_ | ((with_reducible apply gD_c_append); (first | (first | (refine JD_appL enP (fs := l.take l.length) (tabE etab_ok xR) xR xR xA (Src.take (a := a) (c := c) (enc := enP) (es := l) (Src.ar xA) (fun _ => rfl) rfl l.length (by omega)) xC xL xU (by omega) xR ?_; intro ad1 c1 _ _) | (refine JD_ap1 (z := p) (tabE etab_ok xR) xR xR xA xA xC xR xL xR (by simp only [List.length_take]; omega) xR ?_; intro ad2 c2 _ _) | (refine JD_app (fs := l.drop l.length) (tabE etab_ok xR) xR xR xA (Src.drop (a := a) (c := c) (enc := enP) (es := l) (Src.ar xA) (fun _ => rfl) rfl l.length _ (by omega) rfl) xC xL xU (by simp only [List.length_append, List.length_take, List.length_cons, List.length_nil]; omega) xR ?_; intro ad3 c3 _ _)) | fail)) | refine yD ?_ | (refine yE ?_; intro _) | (refine yB ?_; intro _ _ _ _) | ((with_reducible apply gD_gd); (first | (refine JD_guard xR xR ?_ ?_ <;> intro _ <;> (try (exfalso; first | contradiction | omega))) | (refine JD_guardb xR xR ?_ ?_ <;> (intro hgb; subst hgb)) | (refine JD_guardb xR xR ?_ ?_ <;> (intro hgb; fail_if_success (have : type_of% hgb := rfl))) | fail)) | fail)) | refine yJ ?_ | ((with_reducible apply gJ_if); (first | (refine J_if xR ?_ ?_ <;> intro _ <;> (try (exfalso; first | contradiction | omega))) | (refine J_ifb xR ?_ ?_ <;> (intro hgb; subst hgb)) | (refine J_ifb xR ?_ ?_ <;> intro _) | fail)) | refine J_draw (id := 4) [0, 1, 2, 3, 4, 5, 6, 7, 8, 9, 10, 11, 12, 13, 14, 15, 16] [17, 18] mixed xC xD xD ?_ | refine J_draw (id := 6) [0, 1, 2, 3, 4, 5, 6, 7, 8, 9, 10, 11, 12, 13, 14, 15, 16] [17, 18] mixed xC xD xD ?_ | refine J_draw (id := 13) [0, 2, 3, 4, 5, 6, 7, 9, 10, 11, 14, 15, 16, 17, 18, 19, 1, 8, 12, 13, 20] [21, 22, 23] mixed xC xD xD ?_ | fail))
    rw [hE]
    refine J_ret1 rfl (by rfl) fun w H => ⟨_, ⟨ad3, c3, rfl, rfl⟩, ?_⟩
    unfold RfT
    rw [hlen]
    exact H.sel xZ
theorem wi_all {q : Pf} (hq : PfN q) (hr : Rt q) : Wi (0, 0) q := by
  refine ⟨⟨by decide, by decide, by decide⟩, hr, hr.1, ?_⟩
  obtain ⟨a0, a1⟩ := hq.1
  have h2 : pw ((0 : Int), (0 : Int)).2 = 4294967296 := by decide
  rw [h2]
  show q.1 / 4294967296 = (0 : Int) / 4294967296
  omega
theorem tund_s (hl : l.length ≤ 1000000) (he : ∀ e ∈ l, PfN e ∧ Rt e) : Pact Tryz.prog 112 #[.pointer (some ⟨rb, 0, none⟩), .agg #[.int .u32 0, .int .i64 0]] (fun _ => True) (RfT rb a c l) (fun u L' => ∃ (a' : Option Addr) (c' : Nat), u = .slice a' l.length c' ∧ L' = [Ar 41 2 pfC (.slice a' l.length c') l]) := by
  refine pact Tryz.func112 rfl Tryz.ntmps112 rfl ?_
  intro W K _
  (repeat' (first | ((with_reducible apply gL); (first | refine yL0 ?_ | refine yL ?_ | (refine yM ?_; intro _) | (refine yA ?_; intro _ _ _ _) | fail)) | ((with_reducible apply gD); (first | (refine JD_nil ?_; try simp only [List.cons_append, List.nil_append]) | (refine JD_bar ?_; try simp only [List.cons_append, List.nil_append]) | refine yD ?_ | fail)) | refine yJ ?_ | ((with_reducible apply gJ_if); (first | (refine J_if xR ?_ ?_ <;> intro _ <;> (try (exfalso; first | contradiction | omega))) | (refine J_ifb xR ?_ ?_ <;> (intro hgb; subst hgb)) | (refine J_ifb xR ?_ ?_ <;> intro _) | fail)) | refine J_draw (id := 5) [0, 1, 2, 3, 4, 5, 6, 7, 8] [9] mixed xC xD xD ?_ | fail))
  rename_i g g0
  refine J_loop (α := Lr) ⟨0, some ⟨g0, 0, none⟩, 0⟩ (fun x => l.length - x.k) (fun x => x.k ≤ l.length) (fun x => [(0, .pointer (some ⟨rb, 0, none⟩)), (3, .pointer (some ⟨g, 0, none⟩)), (6, .int .i64 x.k), (5, .slice x.ad (l.take x.k).length x.cc)]) (fun x => [pts rb [.slice a l.length c] 167, Ar 193 3 enP (.slice a l.length c) l, pts g (pfC (0, 0)) 41, Ar 41 2 pfC (.slice x.ad (l.take x.k).length x.cc) (l.take x.k)]) (Nat.zero_le _) ⟨rfl, rfl, rfl, rfl, trivial⟩ (fun w H => (H.arLit0 xA).sel xZ) ?_
  rintro ⟨k, ad, cc⟩ hk
  dsimp only at hk ⊢
  have hb : (l.take k).length = k := by rw [List.length_take]; omega
  by_cases hlt : k < l.length
  · obtain ⟨x, hs⟩ : ∃ x, l[k]? = some x := ⟨_, List.getElem?_eq_getElem hlt⟩
    have hx := he x (List.mem_of_getElem? hs)
    have hsn : l.take (k + 1) = l.take k ++ [x] := by rw [List.take_add_one, hs]; rfl
    have h0 : PfN (0, 0) := ⟨⟨by decide, by decide⟩, ⟨by decide, by decide⟩⟩
    (repeat' (first | ((with_reducible apply gL); (first | refine yL0 ?_ | ((with_reducible apply gL_c_append); (first | (refine JL_ap1 (z := x) (tabE etab_ok xR) xR xR xA xA xC xR xL xR (by omega) xR xR ?_; intro ad2 c2 _ _) | fail)) | refine yL ?_ | (refine yM ?_; intro _) | (refine yA ?_; intro _ _ _ _) | fail)) | ((with_reducible apply gD); (first | (refine JD_nil ?_; try simp only [List.cons_append, List.nil_append]) | (refine JD_bar ?_; try simp only [List.cons_append, List.nil_append]) | refine yD ?_ | ((with_reducible apply gD_go); (first | (refine JD_goq (twithin_b (0, 0) x h0 hx.1 true (decide_eq_true (wi_all hx.1 hx.2))) (hφ := xF) (h := ?_); rintro _ _ ⟨rfl, rfl⟩; try simp only [List.cons_append, List.nil_append]) | fail)) | fail)) | refine yJ ?_ | ((with_reducible apply gJ_if); (first | (refine J_if xR ?_ ?_ <;> intro _ <;> (try (exfalso; first | contradiction | omega))) | (refine J_ifb xR ?_ ?_ <;> (intro hgb; subst hgb)) | (refine J_ifb xR ?_ ?_ <;> intro _) | fail)) | refine J_draw (id := 5) [0, 1, 2, 3, 4, 5, 6, 7, 8] [9] mixed xC xD xD ?_ | fail))
    refine J_again ⟨k + 1, ad2, c2⟩ (by dsimp only; omega) (by dsimp only; omega) ⟨rfl, rfl, rfl, ?_, trivial⟩ (fun w H => ?_)
    · show some _ = some _
      rw [hsn]
      simp
    · dsimp only
      rw [hsn]
      rw [List.length_append]
      exact H.sel xZ
  · obtain rfl : k = l.length := by omega
    rw [List.take_length]
    (repeat' (first | ((with_reducible apply gL); (first | refine yL0 ?_ | refine yL ?_ | (refine yM ?_; intro _) | (refine yA ?_; intro _ _ _ _) | fail)) | ((with_reducible apply gD); (first | (refine JD_nil ?_; try simp only [List.cons_append, List.nil_append]) | (refine JD_bar ?_; try simp only [List.cons_append, List.nil_append]) | refine yD ?_ | fail)) | refine yJ ?_ | ((with_reducible apply gJ_if); (first | (refine J_if xR ?_ ?_ <;> intro _ <;> (try (exfalso; first | contradiction | omega))) | (refine J_ifb xR ?_ ?_ <;> (intro hgb; subst hgb)) | (refine J_ifb xR ?_ ?_ <;> intro _) | fail)) | refine J_draw (id := 5) [0, 1, 2, 3, 4, 5, 6, 7, 8] [9] mixed xC xD xD ?_ | fail))
    exact J_ret1 rfl (by rfl) fun w H => ⟨_, ⟨ad, cc, rfl, rfl⟩, H.sel xZ⟩
end
end Go.Proofs.YtnhabkipjmgaaaaGreat
namespace Go.Proofs.YtnhabkipjmgaaaaGreat
set_option linter.unusedSimpArgs false
set_option linter.unusedVariables false
set_option maxRecDepth 20000
set_option maxHeartbeats 4000000
open Go.RowKit Go.Pm

open T (Pf PfN Rt Ah pfC)
structure RoN (r : Ro) : Prop where
  p : PfN r.p
  t : Rt r.p
  d : AtF r.d
structure QxC where
  k : Nat
  ad : Option Addr
  cc : Nat
  l : List Pf
structure ChA (A B : List Ro) (x : QxC) : Prop where
  kl : x.k ≤ A.length
  s : x.l.Pairwise fun p q => Ah p q
  n : x.l.length ≤ x.k
  m : ∀ q ∈ x.l, PfN q ∧ Rt q
  i : ∀ q, q ∈ x.l ↔ ∃ r ∈ A.take x.k, r.p = q ∧ Df (vL A) (vL B) q
structure ChB (A B : List Ro) (x : QxC) : Prop where
  kl : x.k ≤ B.length
  s : x.l.Pairwise fun p q => Ah p q
  n : x.l.length ≤ A.length + x.k
  m : ∀ q ∈ x.l, PfN q ∧ Rt q
  i : ∀ q, q ∈ x.l ↔ (gv (vL A) q ≠ none ∧ Df (vL A) (vL B) q) ∨ ∃ r ∈ B.take x.k, r.p = q ∧ gv (vL A) q = none
theorem mem_nx {L : List Ro} {k : Nat} {x r : Ro} (h : L[k]? = some x) : r ∈ L.take (k + 1) ↔ r ∈ L.take k ∨ r = x := by
  rw [List.take_add_one, h]
  simp
theorem ChA.keep {A B : List Ro} {k : Nat} {ad ad2 : Option Addr} {cc cc2 : Nat} {l : List Pf} {x : Ro} (h : ChA A B ⟨k, ad, cc, l⟩) (hx : A[k]? = some x) (hd : ¬ Df (vL A) (vL B) x.p) : ChA A B ⟨k + 1, ad2, cc2, l⟩ := by
  refine ⟨(List.getElem?_eq_some_iff.1 hx).1, h.s, Nat.le_succ_of_le h.n, h.m, fun q => (h.i q).trans ⟨fun ⟨r, h1, h2⟩ => ⟨r, (mem_nx hx).2 (.inl h1), h2⟩, fun ⟨r, h1, h2, h3⟩ => ?_⟩⟩
  rcases (mem_nx hx).1 h1 with h4 | rfl
  · exact ⟨r, h4, h2, h3⟩
  · exact absurd (h2 ▸ h3) hd
theorem ChA.put {A B : List Ro} {k : Nat} {ad ad2 : Option Addr} {cc cc2 : Nat} {l : List Pf} {x : Ro} (h : ChA A B ⟨k, ad, cc, l⟩) (hx : A[k]? = some x) (hn : RoN x) (hd : Df (vL A) (vL B) x.p) : ChA A B ⟨k + 1, ad2, cc2, putP l x.p⟩ := by
  have hl := putP_len l x.p
  have hn2 := h.n
  dsimp only at hn2
  refine ⟨(List.getElem?_eq_some_iff.1 hx).1, putP_srt h.s, by dsimp only; omega, fun q hq => ?_, fun q => ?_⟩
  · rcases mem_putP.1 hq with rfl | hq
    · exact ⟨hn.p, hn.t⟩
    · exact h.m q hq
  · dsimp only
    rw [mem_putP, h.i q]
    constructor
    · rintro (rfl | ⟨r, h1, h2⟩)
      · exact ⟨x, (mem_nx hx).2 (.inr rfl), rfl, hd⟩
      · exact ⟨r, (mem_nx hx).2 (.inl h1), h2⟩
    · rintro ⟨r, h1, h2, h3⟩
      rcases (mem_nx hx).1 h1 with h4 | rfl
      · exact .inr ⟨r, h4, h2, h3⟩
      · exact .inl h2.symm
theorem ChB.keep {A B : List Ro} {k : Nat} {ad ad2 : Option Addr} {cc cc2 : Nat} {l : List Pf} {x : Ro} (h : ChB A B ⟨k, ad, cc, l⟩) (hx : B[k]? = some x) (hd : gv (vL A) x.p ≠ none) : ChB A B ⟨k + 1, ad2, cc2, l⟩ := by
  refine ⟨(List.getElem?_eq_some_iff.1 hx).1, h.s, Nat.le_succ_of_le h.n, h.m, fun q => (h.i q).trans (or_congr Iff.rfl ⟨fun ⟨r, h1, h2⟩ => ⟨r, (mem_nx hx).2 (.inl h1), h2⟩, fun ⟨r, h1, h2, h3⟩ => ?_⟩)⟩
  rcases (mem_nx hx).1 h1 with h4 | rfl
  · exact ⟨r, h4, h2, h3⟩
  · exact absurd (h2 ▸ h3) hd
theorem ChB.put {A B : List Ro} {k : Nat} {ad ad2 : Option Addr} {cc cc2 : Nat} {l : List Pf} {x : Ro} (h : ChB A B ⟨k, ad, cc, l⟩) (hx : B[k]? = some x) (hn : RoN x) (hd : gv (vL A) x.p = none) : ChB A B ⟨k + 1, ad2, cc2, putP l x.p⟩ := by
  have hl := putP_len l x.p
  have hn2 := h.n
  dsimp only at hn2
  refine ⟨(List.getElem?_eq_some_iff.1 hx).1, putP_srt h.s, by dsimp only; omega, fun q hq => ?_, fun q => ?_⟩
  · rcases mem_putP.1 hq with rfl | hq
    · exact ⟨hn.p, hn.t⟩
    · exact h.m q hq
  · dsimp only
    rw [mem_putP, h.i q]
    constructor
    · rintro (rfl | h0 | ⟨r, h1, h2⟩)
      · exact .inr ⟨x, (mem_nx hx).2 (.inr rfl), rfl, hd⟩
      · exact .inl h0
      · exact .inr ⟨r, (mem_nx hx).2 (.inl h1), h2⟩
    · rintro (h0 | ⟨r, h1, h2, h3⟩)
      · exact .inr (.inl h0)
      · rcases (mem_nx hx).1 h1 with h4 | rfl
        · exact .inr (.inr ⟨r, h4, h2, h3⟩)
        · exact .inl h2.symm
theorem gv_vL_in {L : List Ro} {q : Pf} : gv (vL L) q ≠ none ↔ ∃ r ∈ L, r.p = q := by
  rw [Ne, gv_none]
  unfold vL
  constructor
  · intro h
    refine Classical.byContradiction fun k => h fun r hr e => ?_
    obtain ⟨x, hx, rfl⟩ := List.mem_map.1 hr
    exact k ⟨x, hx, e⟩
  · rintro ⟨r, hr, e⟩ h
    exact h r.v (List.mem_map_of_mem hr) e
theorem chg_s (a b : Option Addr) (c d n m : Nat) (A B : List Ro) (hn : A.length = n) (hm : B.length = m) (hA : ∀ r ∈ A, RoN r) (hB : ∀ r ∈ B, RoN r) (hs : SrV (vL A)) (hl : n + m ≤ 4000) : Pact Tryz.prog 83 #[.slice a n c, .slice b m d] (fun w => (Vw w (.slice a n c) 16 n (flat roC A) ∧ Vw w (.slice b m d) 16 m (flat roC B)) ∧ (∀ r ∈ A, AtV w r.d) ∧ ∀ r ∈ B, AtV w r.d) [] (fun u L' => ∃ (a' : Option Addr) (c' : Nat) (l : List Pf), (l.Pairwise (fun p q => Ah p q) ∧ ∀ q, q ∈ l ↔ Df (vL A) (vL B) q) ∧ u = .slice a' l.length c' ∧ L' = [Ar 41 2 pfC (.slice a' l.length c') l]) := by
  subst hn
  subst hm
  refine pact Tryz.func83 rfl Tryz.ntmps83 rfl ?_
  intro W K hK
  have hv := hK.left.left
  have hv2 := hK.left.right
  (repeat' (first | ((with_reducible apply gL); (first | refine yL0 ?_ | refine yL ?_ | (refine yM ?_; intro _) | fail)) | ((with_reducible apply gD); (first | (refine JD_nil ?_; try simp only [List.cons_append, List.nil_append]) | (refine JD_bar ?_; try simp only [List.cons_append, List.nil_append]) | refine yD0 ?_ | refine yD ?_ | ((with_reducible apply gD_gd); (first | (refine JD_guard xR xR ?_ ?_ <;> intro _ <;> (try (exfalso; first | contradiction | omega))) | (refine JD_guardb xR xR ?_ ?_ <;> (intro hgb; subst hgb)) | (refine JD_guardb xR xR ?_ ?_ <;> (intro hgb; fail_if_success (have : type_of% hgb := rfl))) | fail)) | fail)) | refine yJ ?_ | ((with_reducible apply gJ_if); (first | (refine J_if xR ?_ ?_ <;> intro _ <;> (try (exfalso; first | contradiction | omega))) | (refine J_ifb xR ?_ ?_ <;> (intro hgb; subst hgb)) | (refine J_ifb xR ?_ ?_ <;> intro _) | fail)) | refine J_draw (id := 6) [0, 1, 2, 3, 4, 5, 6, 7, 8, 9, 10, 11, 12] [13, 14, 15] mixed xC xD xD ?_ | fail))
  rename_i xb
  refine J_loop (α := QxC) ⟨0, none, 0, []⟩ (fun x => A.length - x.k) (ChA A B) (fun x => [(0, .slice a A.length c), (1, .slice b B.length d), (5, .pointer (some ⟨xb, 0, none⟩)), (6, .int .i64 x.k)]) (fun x => RfT xb x.ad x.cc x.l) ⟨Nat.zero_le _, .nil, Nat.le_refl _, fun _ h => absurd h List.not_mem_nil, fun q => by simp⟩ ⟨rfl, rfl, rfl, rfl, trivial⟩ (fun w H => (Ow.arNil (e := 193) (sz := 3) (enc := enP) H).sel xZ) ?_
  rintro ⟨k, ad, cc, l⟩ hI
  have hk := hI.kl
  have hln := hI.n
  dsimp only at hk hln ⊢
  by_cases hlt : k < A.length
  · obtain ⟨x, hx⟩ : ∃ x, A[k]? = some x := ⟨_, List.getElem?_eq_getElem hlt⟩
    have hxm := List.mem_of_getElem? hx
    have hxn := hA x hxm
    have kt := tput_s xb ad cc l x.p (by omega) hxn.p hxn.t
    have ka := rat_s b d B.length B rfl x.p (by omega)
    have hga : gv (vL A) x.p = some (x.d.nf, x.st) := (gv_mem hs).2 (List.mem_map.2 ⟨x, hxm, rfl⟩)
    rcases hat : atO B x.p with _ | j
    · have hdf : Df (vL A) (vL B) x.p := by
        unfold Df
        rw [hga, atO_none hat]
        exact fun k => by cases k
      rw [hat] at ka
      dsimp only [oI] at ka
      (repeat' (first | ((with_reducible apply gL); (first | refine yL0 ?_ | refine yL ?_ | ((with_reducible apply gL_go); (first | (refine JL_goq (ka) (hφ := (by (try simp only [List.cons_append, List.nil_append]); exact fun w hr => (hK w hr.1).1.2)) (h := ?_); rintro _ _ ⟨rfl, rfl⟩; try simp only [List.cons_append, List.nil_append]) | (refine JL_goq (kt) (hφ := xF) (h := ?_); rintro _ _ ⟨ad2, cc2, rfl, rfl⟩; try simp only [List.cons_append, List.nil_append]) | fail)) | (refine yM ?_; intro _) | fail)) | ((with_reducible apply gD); (first | (refine JD_nil ?_; try simp only [List.cons_append, List.nil_append]) | (refine JD_bar ?_; try simp only [List.cons_append, List.nil_append]) | refine yD0 ?_ | refine yD ?_ | ((with_reducible apply gD_go); (first | (refine JD_goq (ka) (hφ := (by (try simp only [List.cons_append, List.nil_append]); exact fun w hr => (hK w hr.1).1.2)) (h := ?_); rintro _ _ ⟨rfl, rfl⟩; try simp only [List.cons_append, List.nil_append]) | (refine JD_goq (kt) (hφ := xF) (h := ?_); rintro _ _ ⟨ad2, cc2, rfl, rfl⟩; try simp only [List.cons_append, List.nil_append]) | fail)) | ((with_reducible apply gD_gd); (first | (refine JD_guard xR xR ?_ ?_ <;> intro _ <;> (try (exfalso; first | contradiction | omega))) | (refine JD_guardb xR xR ?_ ?_ <;> (intro hgb; subst hgb)) | (refine JD_guardb xR xR ?_ ?_ <;> (intro hgb; fail_if_success (have : type_of% hgb := rfl))) | fail)) | fail)) | refine yJ ?_ | ((with_reducible apply gJ_if); (first | (refine J_if xR ?_ ?_ <;> intro _ <;> (try (exfalso; first | contradiction | omega))) | (refine J_ifb xR ?_ ?_ <;> (intro hgb; subst hgb)) | (refine J_ifb xR ?_ ?_ <;> intro _) | fail)) | refine J_draw (id := 6) [0, 1, 2, 3, 4, 5, 6, 7, 8, 9, 10, 11, 12] [13, 14, 15] mixed xC xD xD ?_ | fail))
      exact J_again ⟨k + 1, ad2, cc2, putP l x.p⟩ (by dsimp only; omega) (hI.put hx hxn hdf) ⟨rfl, rfl, rfl, rfl, trivial⟩ (fun w H => H.sel xZ)
    · obtain ⟨e, he, hep, hgb⟩ := atO_some hat
      have hem := List.mem_of_getElem? he
      rw [hat] at ka
      dsimp only [oI] at ka
      have ks := rsame_s e.d x.d (hB e hem).d hxn.d
      have hj : j < B.length := (List.getElem?_eq_some_iff.1 he).1
      have hdf : Df (vL A) (vL B) x.p ↔ ¬ e.d.nf = x.d.nf := by
        unfold Df
        rw [hga, hgb]
        exact ⟨fun k e2 => k (congrArg some e2.symm), fun k e2 => k (Option.some.inj e2).symm⟩
      rcases hd : decide (e.d.nf = x.d.nf) with _ | _
      · rw [hd] at ks
        (repeat' (first | ((with_reducible apply gL); (first | refine yL0 ?_ | refine yL ?_ | ((with_reducible apply gL_go); (first | (refine JL_goq (ka) (hφ := (by (try simp only [List.cons_append, List.nil_append]); exact fun w hr => (hK w hr.1).1.2)) (h := ?_); rintro _ _ ⟨rfl, rfl⟩; try simp only [List.cons_append, List.nil_append]) | (refine JL_goq (ks) (hφ := (by (try simp only [List.cons_append, List.nil_append]); exact fun w hr => ⟨(hK w hr.1).2.2 e hem, (hK w hr.1).2.1 x hxm⟩)) (h := ?_); rintro _ _ ⟨rfl, rfl⟩; try simp only [List.cons_append, List.nil_append]) | (refine JL_goq (kt) (hφ := xF) (h := ?_); rintro _ _ ⟨ad2, cc2, rfl, rfl⟩; try simp only [List.cons_append, List.nil_append]) | fail)) | (refine yM ?_; intro _) | fail)) | ((with_reducible apply gD); (first | (refine JD_nil ?_; try simp only [List.cons_append, List.nil_append]) | (refine JD_bar ?_; try simp only [List.cons_append, List.nil_append]) | refine yD0 ?_ | refine yD ?_ | ((with_reducible apply gD_go); (first | (refine JD_goq (ka) (hφ := (by (try simp only [List.cons_append, List.nil_append]); exact fun w hr => (hK w hr.1).1.2)) (h := ?_); rintro _ _ ⟨rfl, rfl⟩; try simp only [List.cons_append, List.nil_append]) | (refine JD_goq (ks) (hφ := (by (try simp only [List.cons_append, List.nil_append]); exact fun w hr => ⟨(hK w hr.1).2.2 e hem, (hK w hr.1).2.1 x hxm⟩)) (h := ?_); rintro _ _ ⟨rfl, rfl⟩; try simp only [List.cons_append, List.nil_append]) | (refine JD_goq (kt) (hφ := xF) (h := ?_); rintro _ _ ⟨ad2, cc2, rfl, rfl⟩; try simp only [List.cons_append, List.nil_append]) | fail)) | ((with_reducible apply gD_gd); (first | (refine JD_guard xR xR ?_ ?_ <;> intro _ <;> (try (exfalso; first | contradiction | omega))) | (refine JD_guardb xR xR ?_ ?_ <;> (intro hgb; subst hgb)) | (refine JD_guardb xR xR ?_ ?_ <;> (intro hgb; fail_if_success (have : type_of% hgb := rfl))) | fail)) | fail)) | refine yJ ?_ | ((with_reducible apply gJ_if); (first | (refine J_if xR ?_ ?_ <;> intro _ <;> (try (exfalso; first | contradiction | omega))) | (refine J_ifb xR ?_ ?_ <;> (intro hgb; subst hgb)) | (refine J_ifb xR ?_ ?_ <;> intro _) | fail)) | refine J_draw (id := 6) [0, 1, 2, 3, 4, 5, 6, 7, 8, 9, 10, 11, 12] [13, 14, 15] mixed xC xD xD ?_ | fail))
        exact J_again ⟨k + 1, ad2, cc2, putP l x.p⟩ (by dsimp only; omega) (hI.put hx hxn (hdf.2 (of_decide_eq_false hd))) ⟨rfl, rfl, rfl, rfl, trivial⟩ (fun w H => H.sel xZ)
      · rw [hd] at ks
        (repeat' (first | ((with_reducible apply gL); (first | refine yL0 ?_ | refine yL ?_ | ((with_reducible apply gL_go); (first | (refine JL_goq (ka) (hφ := (by (try simp only [List.cons_append, List.nil_append]); exact fun w hr => (hK w hr.1).1.2)) (h := ?_); rintro _ _ ⟨rfl, rfl⟩; try simp only [List.cons_append, List.nil_append]) | (refine JL_goq (ks) (hφ := (by (try simp only [List.cons_append, List.nil_append]); exact fun w hr => ⟨(hK w hr.1).2.2 e hem, (hK w hr.1).2.1 x hxm⟩)) (h := ?_); rintro _ _ ⟨rfl, rfl⟩; try simp only [List.cons_append, List.nil_append]) | fail)) | (refine yM ?_; intro _) | fail)) | ((with_reducible apply gD); (first | (refine JD_nil ?_; try simp only [List.cons_append, List.nil_append]) | (refine JD_bar ?_; try simp only [List.cons_append, List.nil_append]) | refine yD0 ?_ | refine yD ?_ | ((with_reducible apply gD_go); (first | (refine JD_goq (ka) (hφ := (by (try simp only [List.cons_append, List.nil_append]); exact fun w hr => (hK w hr.1).1.2)) (h := ?_); rintro _ _ ⟨rfl, rfl⟩; try simp only [List.cons_append, List.nil_append]) | (refine JD_goq (ks) (hφ := (by (try simp only [List.cons_append, List.nil_append]); exact fun w hr => ⟨(hK w hr.1).2.2 e hem, (hK w hr.1).2.1 x hxm⟩)) (h := ?_); rintro _ _ ⟨rfl, rfl⟩; try simp only [List.cons_append, List.nil_append]) | fail)) | ((with_reducible apply gD_gd); (first | (refine JD_guard xR xR ?_ ?_ <;> intro _ <;> (try (exfalso; first | contradiction | omega))) | (refine JD_guardb xR xR ?_ ?_ <;> (intro hgb; subst hgb)) | (refine JD_guardb xR xR ?_ ?_ <;> (intro hgb; fail_if_success (have : type_of% hgb := rfl))) | fail)) | fail)) | refine yJ ?_ | ((with_reducible apply gJ_if); (first | (refine J_if xR ?_ ?_ <;> intro _ <;> (try (exfalso; first | contradiction | omega))) | (refine J_ifb xR ?_ ?_ <;> (intro hgb; subst hgb)) | (refine J_ifb xR ?_ ?_ <;> intro _) | fail)) | refine J_draw (id := 6) [0, 1, 2, 3, 4, 5, 6, 7, 8, 9, 10, 11, 12] [13, 14, 15] mixed xC xD xD ?_ | fail))
        exact J_again ⟨k + 1, ad, cc, l⟩ (by dsimp only; omega) (hI.keep hx fun k => hdf.1 k (of_decide_eq_true hd)) ⟨rfl, rfl, rfl, rfl, trivial⟩ (fun w H => H.sel xZ)
  · obtain rfl : k = A.length := by omega
    have hJ : ChB A B ⟨0, ad, cc, l⟩ := ⟨Nat.zero_le _, hI.s, hI.n, hI.m, fun q => by
      have h := hI.i q
      dsimp only at h ⊢
      rw [h, List.take_length]
      constructor
      · rintro ⟨r, h1, h2, h3⟩
        exact .inl ⟨gv_vL_in.2 ⟨r, h1, h2⟩, h3⟩
      · rintro (⟨h1, h2⟩ | ⟨r, h1, _⟩)
        · obtain ⟨r, h3, h4⟩ := gv_vL_in.1 h1
          exact ⟨r, h3, h4, h2⟩
        · simp at h1⟩
    clear hI hlt hk
    (repeat' (first | ((with_reducible apply gL); (first | refine yL0 ?_ | refine yL ?_ | (refine yM ?_; intro _) | fail)) | ((with_reducible apply gD); (first | (refine JD_nil ?_; try simp only [List.cons_append, List.nil_append]) | (refine JD_bar ?_; try simp only [List.cons_append, List.nil_append]) | refine yD0 ?_ | refine yD ?_ | ((with_reducible apply gD_gd); (first | (refine JD_guard xR xR ?_ ?_ <;> intro _ <;> (try (exfalso; first | contradiction | omega))) | (refine JD_guardb xR xR ?_ ?_ <;> (intro hgb; subst hgb)) | (refine JD_guardb xR xR ?_ ?_ <;> (intro hgb; fail_if_success (have : type_of% hgb := rfl))) | fail)) | fail)) | refine yJ ?_ | ((with_reducible apply gJ_if); (first | (refine J_if xR ?_ ?_ <;> intro _ <;> (try (exfalso; first | contradiction | omega))) | (refine J_ifb xR ?_ ?_ <;> (intro hgb; subst hgb)) | (refine J_ifb xR ?_ ?_ <;> intro _) | fail)) | refine J_draw (id := 6) [0, 1, 2, 3, 4, 5, 6, 7, 8, 9, 10, 11, 12] [13, 14, 15] mixed xC xD xD ?_ | fail))
    refine J_loop (α := QxC) ⟨0, ad, cc, l⟩ (fun x => B.length - x.k) (ChB A B) (fun x => [(0, .slice a A.length c), (1, .slice b B.length d), (5, .pointer (some ⟨xb, 0, none⟩)), (8, .int .i64 x.k)]) (fun x => RfT xb x.ad x.cc x.l) hJ ⟨rfl, rfl, rfl, rfl, trivial⟩ (fun w H => H.sel xZ) ?_
    clear hJ hln
    rintro ⟨k, ad, cc, l⟩ hI
    have hk := hI.kl
    have hln := hI.n
    dsimp only at hk hln ⊢
    by_cases hlt : k < B.length
    · obtain ⟨x, hx⟩ : ∃ x, B[k]? = some x := ⟨_, List.getElem?_eq_getElem hlt⟩
      have hxm := List.mem_of_getElem? hx
      have hxn := hB x hxm
      have kt := tput_s xb ad cc l x.p (by omega) hxn.p hxn.t
      have ka := rat_s a c A.length A rfl x.p (by omega)
      rcases hat : atO A x.p with _ | j
      · rw [hat] at ka
        dsimp only [oI] at ka
        (repeat' (first | ((with_reducible apply gL); (first | refine yL0 ?_ | refine yL ?_ | ((with_reducible apply gL_go); (first | (refine JL_goq (ka) (hφ := (by (try simp only [List.cons_append, List.nil_append]); exact fun w hr => (hK w hr.1).1.1)) (h := ?_); rintro _ _ ⟨rfl, rfl⟩; try simp only [List.cons_append, List.nil_append]) | (refine JL_goq (kt) (hφ := xF) (h := ?_); rintro _ _ ⟨ad2, cc2, rfl, rfl⟩; try simp only [List.cons_append, List.nil_append]) | fail)) | (refine yM ?_; intro _) | fail)) | ((with_reducible apply gD); (first | (refine JD_nil ?_; try simp only [List.cons_append, List.nil_append]) | (refine JD_bar ?_; try simp only [List.cons_append, List.nil_append]) | refine yD0 ?_ | refine yD ?_ | ((with_reducible apply gD_go); (first | (refine JD_goq (ka) (hφ := (by (try simp only [List.cons_append, List.nil_append]); exact fun w hr => (hK w hr.1).1.1)) (h := ?_); rintro _ _ ⟨rfl, rfl⟩; try simp only [List.cons_append, List.nil_append]) | (refine JD_goq (kt) (hφ := xF) (h := ?_); rintro _ _ ⟨ad2, cc2, rfl, rfl⟩; try simp only [List.cons_append, List.nil_append]) | fail)) | ((with_reducible apply gD_gd); (first | (refine JD_guard xR xR ?_ ?_ <;> intro _ <;> (try (exfalso; first | contradiction | omega))) | (refine JD_guardb xR xR ?_ ?_ <;> (intro hgb; subst hgb)) | (refine JD_guardb xR xR ?_ ?_ <;> (intro hgb; fail_if_success (have : type_of% hgb := rfl))) | fail)) | fail)) | refine yJ ?_ | ((with_reducible apply gJ_if); (first | (refine J_if xR ?_ ?_ <;> intro _ <;> (try (exfalso; first | contradiction | omega))) | (refine J_ifb xR ?_ ?_ <;> (intro hgb; subst hgb)) | (refine J_ifb xR ?_ ?_ <;> intro _) | fail)) | refine J_draw (id := 6) [0, 1, 2, 3, 4, 5, 6, 7, 8, 9, 10, 11, 12] [13, 14, 15] mixed xC xD xD ?_ | fail))
        exact J_again ⟨k + 1, ad2, cc2, putP l x.p⟩ (by dsimp only; omega) (hI.put hx hxn (atO_none hat)) ⟨rfl, rfl, rfl, rfl, trivial⟩ (fun w H => H.sel xZ)
      · obtain ⟨e, he, hep, hgb⟩ := atO_some hat
        rw [hat] at ka
        dsimp only [oI] at ka
        (repeat' (first | ((with_reducible apply gL); (first | refine yL0 ?_ | refine yL ?_ | ((with_reducible apply gL_go); (first | (refine JL_goq (ka) (hφ := (by (try simp only [List.cons_append, List.nil_append]); exact fun w hr => (hK w hr.1).1.1)) (h := ?_); rintro _ _ ⟨rfl, rfl⟩; try simp only [List.cons_append, List.nil_append]) | fail)) | (refine yM ?_; intro _) | fail)) | ((with_reducible apply gD); (first | (refine JD_nil ?_; try simp only [List.cons_append, List.nil_append]) | (refine JD_bar ?_; try simp only [List.cons_append, List.nil_append]) | refine yD0 ?_ | refine yD ?_ | ((with_reducible apply gD_go); (first | (refine JD_goq (ka) (hφ := (by (try simp only [List.cons_append, List.nil_append]); exact fun w hr => (hK w hr.1).1.1)) (h := ?_); rintro _ _ ⟨rfl, rfl⟩; try simp only [List.cons_append, List.nil_append]) | fail)) | ((with_reducible apply gD_gd); (first | (refine JD_guard xR xR ?_ ?_ <;> intro _ <;> (try (exfalso; first | contradiction | omega))) | (refine JD_guardb xR xR ?_ ?_ <;> (intro hgb; subst hgb)) | (refine JD_guardb xR xR ?_ ?_ <;> (intro hgb; fail_if_success (have : type_of% hgb := rfl))) | fail)) | fail)) | refine yJ ?_ | ((with_reducible apply gJ_if); (first | (refine J_if xR ?_ ?_ <;> intro _ <;> (try (exfalso; first | contradiction | omega))) | (refine J_ifb xR ?_ ?_ <;> (intro hgb; subst hgb)) | (refine J_ifb xR ?_ ?_ <;> intro _) | fail)) | refine J_draw (id := 6) [0, 1, 2, 3, 4, 5, 6, 7, 8, 9, 10, 11, 12] [13, 14, 15] mixed xC xD xD ?_ | fail))
        all_goals (first | (exfalso; omega) | skip)
        exact J_again ⟨k + 1, ad, cc, l⟩ (by dsimp only; omega) (hI.keep hx (by rw [hgb]; exact fun k => by cases k)) ⟨rfl, rfl, rfl, rfl, trivial⟩ (fun w H => H.sel xZ)
    · obtain rfl : k = B.length := by omega
      have ku := tund_s xb ad cc l (by omega) hI.m
      (repeat' (first | ((with_reducible apply gL); (first | refine yL0 ?_ | refine yL ?_ | ((with_reducible apply gL_go); (first | (refine JL_goq (ku) (hφ := xF) (h := ?_); rintro _ _ ⟨a5, c5, rfl, rfl⟩; try simp only [List.cons_append, List.nil_append]) | fail)) | (refine yM ?_; intro _) | fail)) | ((with_reducible apply gD); (first | (refine JD_nil ?_; try simp only [List.cons_append, List.nil_append]) | (refine JD_bar ?_; try simp only [List.cons_append, List.nil_append]) | refine yD0 ?_ | refine yD ?_ | ((with_reducible apply gD_go); (first | (refine JD_goq (ku) (hφ := xF) (h := ?_); rintro _ _ ⟨a5, c5, rfl, rfl⟩; try simp only [List.cons_append, List.nil_append]) | fail)) | ((with_reducible apply gD_gd); (first | (refine JD_guard xR xR ?_ ?_ <;> intro _ <;> (try (exfalso; first | contradiction | omega))) | (refine JD_guardb xR xR ?_ ?_ <;> (intro hgb; subst hgb)) | (refine JD_guardb xR xR ?_ ?_ <;> (intro hgb; fail_if_success (have : type_of% hgb := rfl))) | fail)) | fail)) | refine yJ ?_ | ((with_reducible apply gJ_if); (first | (refine J_if xR ?_ ?_ <;> intro _ <;> (try (exfalso; first | contradiction | omega))) | (refine J_ifb xR ?_ ?_ <;> (intro hgb; subst hgb)) | (refine J_ifb xR ?_ ?_ <;> intro _) | fail)) | refine J_draw (id := 6) [0, 1, 2, 3, 4, 5, 6, 7, 8, 9, 10, 11, 12] [13, 14, 15] mixed xC xD xD ?_ | fail))
      refine J_ret1 rfl (by rfl) fun w H => ⟨_, ⟨a5, c5, l, ⟨hI.s, fun q => ?_⟩, rfl, rfl⟩, H.sel xZ⟩
      rw [hI.i q]
      dsimp only
      rw [List.take_length]
      constructor
      · rintro (⟨_, h2⟩ | ⟨r, h1, h2, h3⟩)
        · exact h2
        · unfold Df
          rw [h3]
          have := gv_vL_in.2 ⟨r, h1, h2⟩
          cases hg : gv (vL B) q with
          | none => exact absurd hg this
          | some v => exact fun k => by cases k
      · intro h
        by_cases h1 : gv (vL A) q = none
        · refine .inr ?_
          have h2 : gv (vL B) q ≠ none := fun k => by
            unfold Df at h
            rw [h1, k] at h
            exact h rfl
          obtain ⟨r, h3, h4⟩ := gv_vL_in.1 h2
          exact ⟨r, h3, h4, h1⟩
        · exact .inl ⟨h1, h⟩
end Go.Proofs.YtnhabkipjmgaaaaGreat
namespace Go.Proofs.YtnhabkipjmgaaaaGreat
set_option linter.unusedSimpArgs false
set_option linter.unusedVariables false
set_option maxRecDepth 20000
set_option maxHeartbeats 4000000
open Go.RowKit Go.Pm

open T (Pf PfN Rt Ah pfC)
structure Zx where
  i : Nat
  σ : Tb
structure Lg where
  i : Nat
  la : Option Addr
  lc : Nat
  ga : Option Addr
  gc : Nat
section
variable {P : Program} {n : Nat} {W : World} {K : Hl} {F : Fp} {k : List It} {tm : TM} {L : List HP}
theorem J_cutB {α : Type} (I : α → Prop) (tmI : α → TM) (LI : α → List HP) {c : Code} {i : Nat} (h1 : J P n W K F (.code c :: .blk i :: .hole (Meet n W K I tmI LI) :: k) tm L) (h2 : ∀ x, I x → J P n W K F k (tmI x) (LI x)) : J P n W K F (.code c :: .blk i :: k) tm L := .mk <| fun a w hf hO => by
  refine wpIn_mono (h1 a w hf hO) ?_
  intro e a' w' he
  have key : ∀ e a' w', runK P F (.hole (Meet n W K I tmI LI) :: k) e a' w' → runK P F k e a' w' := by
    intro e a' w' he
    cases e with
    | normal => obtain ⟨x, h3, h4, h5⟩ := he; exact h2 x h3 a' w' h4 h5
    | _ => exact he
  cases e with
  | normal => exact key _ _ _ he
  | exit j =>
    change Exit.inBlock i (runK P F (.hole (Meet n W K I tmI LI) :: k)) (.exit j) a' w' at he
    show Exit.inBlock i (runK P F k) (.exit j) a' w'
    unfold Exit.inBlock at he ⊢
    dsimp only at he ⊢
    split at he
    · rename_i h; rw [if_pos h]; exact key _ _ _ he
    · rename_i h; rw [if_neg h]; exact key _ _ _ he
  | _ => exact key _ _ _ he
end
theorem markE_ok : ∀ (ps : List Pf) (E : List T.Ent), T.EOk E → (∀ p ∈ ps, PfN p ∧ Rt p) → T.EOk (markE E ps)
  | [], _, h, _ => h
  | p :: ps, E, h, hp => markE_ok ps _ (h.put (hp p (by simp)).2 (hp p (by simp)).1 (oldV_n h p)) (fun q hq => hp q (by simp [hq]))
theorem few_tl {u u' : Up} (hf : Few u u') : u'.td.length ≤ 12 := by rw [hf.td]; simp; omega
end Go.Proofs.YtnhabkipjmgaaaaGreat
