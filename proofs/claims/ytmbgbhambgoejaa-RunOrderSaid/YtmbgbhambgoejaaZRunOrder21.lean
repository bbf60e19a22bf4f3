/-
  Cq22, Cq23, Cq26, Ru2, Ru22, Ru23, Cq24: merged.
-/
import Derived.Test.YtmbgbhambgoejaaZRunOrder20
namespace Go.Proofs.Ytmbgbhambgoejaa.C
set_option linter.unusedSimpArgs false
set_option linter.unusedVariables false
set_option maxRecDepth 20000
set_option maxHeartbeats 4000000
open Go.RowKit Go.Pm

def jumpS (z : Int) : Sp := ⟨21, 0, 0, 0, 0, z, 0⟩
section
variable {g : Nat → List St → List Sp} {gs : List St → Nat} {F1 F2 : Int → List Sp → List Sp} {T T1 T2 T3 T4 T5 T6 : List Sp} {s : St}
theorem br_on (hOn : OnOk F1 (putL 5 T.length s.cd) T.length) (hp : ∀ k X Y, (putL 5 k s.cd X Y).length = tests 5 s.cd) (e1 : T ++ putL 5 T.length s.cd 0 0 = T1) (e2 : F1 (T1.length : Int) T1 = T2) : T2 = T ++ putL 5 T.length s.cd ((T.length : Int) + tests 5 s.cd) 0 := by
  have h := hOn T [] 0 0 (T1.length : Int) rfl
  rw [List.append_nil, List.append_nil, e1, e2, ← e1, List.length_append, hp] at h
  rw [h]
  push_cast
  rfl
theorem br_one (ho : s.op = 1) (he : s.el.length = 0) (hOn : OnOk F1 (putL 5 T.length s.cd) T.length) (hOff : OffOk F2 (putL 5 T.length s.cd) T.length) (hp : ∀ k X Y, (putL 5 k s.cd X Y).length = tests 5 s.cd) (hg : ∀ k, (g k s.th).length = gs s.th)
    (e1 : T ++ putL 5 T.length s.cd 0 0 = T1) (e2 : F1 (T1.length : Int) T1 = T2) (e3 : T2 ++ g T2.length s.th = T3) (e4 : F2 (T3.length : Int) T3 = T4) : T ++ codeS g gs T.length s = T4 := by
  have h2 := br_on hOn hp e1 e2
  have l2 : T2.length = T.length + tests 5 s.cd := by rw [h2, List.length_append, hp]
  have l3 : T3.length = T.length + tests 5 s.cd + gs s.th := by rw [← e3, List.length_append, hg, l2]
  have h4 := hOff T (g T2.length s.th) ((T.length : Int) + tests 5 s.cd) 0 (T3.length : Int) rfl
  rw [← h2, e3, e4] at h4
  refine codeS_one ho he rfl ?_
  rw [List.length_append, hp, ← l2, h4, l3]
  push_cast
  rfl
theorem br_two (ho : s.op = 1) (he : ¬ s.el.length = 0) (hOn : OnOk F1 (putL 5 T.length s.cd) T.length) (hOff : OffOk F2 (putL 5 T.length s.cd) T.length) (hp : ∀ k X Y, (putL 5 k s.cd X Y).length = tests 5 s.cd) (hg : ∀ k, (g k s.th).length = gs s.th) (hg2 : ∀ k, (g k s.el).length = gs s.el)
    (e1 : T ++ putL 5 T.length s.cd 0 0 = T1) (e2 : F1 (T1.length : Int) T1 = T2) (e3 : T2 ++ g T2.length s.th = T3) (e4 : T3 ++ [jumpS 0] = T4) (e5 : F2 (T4.length : Int) T4 = T5) (e6 : T5 ++ g T5.length s.el = T6) : T6[T3.length]? = some (jumpS 0) ∧ T ++ codeS g gs T.length s = T6.set T3.length (jumpS (T6.length : Int)) := by
  have h2 := br_on hOn hp e1 e2
  have l2 : T2.length = T.length + tests 5 s.cd := by rw [h2, List.length_append, hp]
  have l3 : T3.length = T.length + tests 5 s.cd + gs s.th := by rw [← e3, List.length_append, hg, l2]
  have l4 : T4.length = T3.length + 1 := by rw [← e4, List.length_append]; rfl
  have h5 := hOff T (g T2.length s.th ++ [jumpS 0]) ((T.length : Int) + tests 5 s.cd) 0 (T4.length : Int) rfl
  rw [← h2, ← List.append_assoc, e3, e4, e5] at h5
  obtain ⟨Q, hQ⟩ : ∃ Q, T ++ putL 5 T.length s.cd ((T.length : Int) + tests 5 s.cd) (T4.length : Int) ++ g T2.length s.th = Q := ⟨_, rfl⟩
  rw [← List.append_assoc, hQ] at h5
  have lQ : Q.length = T3.length := by rw [← hQ, List.length_append, List.length_append, hp, hg, l3]
  have l5 : T5.length = T4.length := by rw [h5, List.length_append, lQ, l4]; rfl
  have l6 : T6.length = T4.length + gs s.el := by rw [← e6, List.length_append, hg2, l5]
  have h6 : T6 = Q ++ ([jumpS 0] ++ g T5.length s.el) := by rw [← e6, h5, List.append_assoc]
  constructor
  · rw [h6, ← lQ]; simp
  have h7 : T6.set T3.length (jumpS (T6.length : Int)) = Q ++ [jumpS (T6.length : Int)] ++ g T5.length s.el := by
    conv => lhs; rw [h6, ← lQ]
    simp [h6]
  rw [h7]
  refine codeS_two ho he rfl rfl rfl ?_
  have q1 : ((T.length : Int) + tests 5 s.cd + gs s.th + 1) = (T4.length : Int) := by rw [l4, l3]; push_cast; rfl
  rw [q1]
  have q2 : (T ++ putL 5 T.length s.cd ((T.length : Int) + tests 5 s.cd) (T4.length : Int)).length = T2.length := by rw [List.length_append, hp, l2]
  rw [q2, hQ]
  have q3 : (T4.length : Int) + (gs s.el : Int) = (T6.length : Int) := by rw [l6]; push_cast; rfl
  rw [q3]
  have q4 : (Q ++ [(⟨21, 0, 0, 0, 0, (T6.length : Int), 0⟩ : Sp)]).length = T5.length := by rw [List.length_append, lQ, l5, l4]; rfl
  rw [q4]
  rfl
end
def BlockOk (F : FuncId) (v : Value) (φ : World → Prop) (g : Nat → List Sp) : Prop := ∀ (wb : Nat) (a : Option Addr) (c : Nat) (T T9 : List Sp), T9.length ≤ 450000000 → T ++ g T.length = T9 → Pact Try.prog F #[.pointer (some ⟨wb, 0, none⟩), v] φ [pts wb [.slice a T.length c] 60, Ar 63 7 spC (.slice a T.length c) T] (fun _ L' => ∃ a' c', L' = [pts wb [.slice a' T9.length c'] 60, Ar 63 7 spC (.slice a' T9.length c') T9])
theorem branch_core (s : St) (φ : World → Prop) (g : Nat → List St → List Sp) (gs : List St → Nat) (ho : s.op = 1) (hle : s.el.length ≤ 6) (hp : ∀ k X Y, (putL 5 k s.cd X Y).length = tests 5 s.cd) (hg : ∀ k, (g k s.th).length = gs s.th) (hg2 : ∀ k, (g k s.el).length = gs s.el)
    (hC : CondOk 52 s.cd φ (fun k X Y => putL 5 k s.cd X Y)) (hT : BlockOk 17 (.slice s.ta s.th.length s.tc) φ (fun k => g k s.th)) (hE : BlockOk 17 (.slice s.ea s.el.length s.ec) φ (fun k => g k s.el)) : BlockOk 33 (.agg (stC s).toArray) φ (fun k => codeS g gs k s) := by
  intro wb a c T T9 hb h9
  refine pact Try.func33 rfl Try.ntmps33 rfl ?_
  intro W K hK
  dsimp only at h9
  obtain ⟨T1, e1⟩ : ∃ T1, T ++ putL 5 T.length s.cd 0 0 = T1 := ⟨_, rfl⟩
  have l1 : T1.length = T.length + tests 5 s.cd := by rw [← e1, List.length_append, hp]
  have l9 : T.length + tests 5 s.cd ≤ T9.length := by
    rw [← h9, List.length_append, codeS, if_pos ho]
    split
    · simp only [List.length_append, hp]; omega
    · simp only [List.length_append, hp]; omega
  (repeat' (first | ((with_reducible apply gL); (first | refine yL0 ?_ | refine yL ?_ | ((with_reducible apply gL_go); (first | (refine JL_goq (hC wb a c T T1 (by omega) e1) (hφ := (by (try simp only [List.cons_append, List.nil_append]); exact fun w hr => hK w hr.1)) (h := ?_); rintro _ _ ⟨m1, m2, A, a1, c1, F1, F2, rfl, rfl, k1, k2, k3, k4⟩; try simp only [List.cons_append, List.nil_append]) | fail)) | (refine yM ?_; intro _) | (refine yA ?_; intro _ _ _ _) | fail)) | ((with_reducible apply gD); (first | (refine JD_nil ?_; try simp only [List.cons_append, List.nil_append]) | (refine JD_bar ?_; try simp only [List.cons_append, List.nil_append]) | refine yD ?_ | fail)) | refine yJ ?_ | ((with_reducible apply gJ_if); (first | (refine J_if xR ?_ ?_ <;> intro _ <;> (try (exfalso; first | contradiction | omega))) | (refine J_ifb xR ?_ ?_ <;> (intro hgb; subst hgb)) | (refine J_ifb xR ?_ ?_ <;> intro _) | fail)) | refine J_draw (id := 10) [0, 1, 2, 3, 4, 5, 6, 7, 8, 9] [10, 11, 12] mixed xC xD xD ?_ | fail))
  rename_i b3
  have hown1 := k1.1
  have hown2 := k2.1
  obtain ⟨T2, e2⟩ : ∃ T2, F1 (T1.length : Int) T1 = T2 := ⟨_, rfl⟩
  have l2 : T2.length = T1.length := by rw [← e2]; exact k1.2.1 _ _
  obtain ⟨T3, e3⟩ : ∃ T3, T2 ++ g T2.length s.th = T3 := ⟨_, rfl⟩
  have l3 : T3.length = T2.length + gs s.th := by rw [← e3, List.length_append, hg]
  by_cases he : s.el.length = 0
  · obtain ⟨T4, e4⟩ : ∃ T4, F2 (T3.length : Int) T3 = T4 := ⟨_, rfl⟩
    have l4 : T4.length = T3.length := by rw [← e4]; exact k2.2.1 _ _
    have e9 := br_one ho he k3 k4 hp hg e1 e2 e3 e4
    rw [h9] at e9
    subst e9
    (repeat' (first | ((with_reducible apply gL); (first | refine yL0 ?_ | refine yL ?_ | ((with_reducible apply gL_go); (first | (refine JL_goq (k1.2.2 (T1.length : Int) a1 c1 T1 T2 (Nat.le_refl _) (by omega) e2) (hφ := xF) (h := ?_); rintro _ _ rfl; try simp only [List.cons_append, List.nil_append]) | (refine JL_goq (hT wb a1 c1 T2 T3 (by omega) e3) (hφ := (by (try simp only [List.cons_append, List.nil_append]); exact fun w hr => hK w hr.1)) (h := ?_); rintro _ _ ⟨a3, c3, rfl⟩; try simp only [List.cons_append, List.nil_append]) | (refine JL_goq (k2.2.2 (T3.length : Int) a3 c3 T3 T9 (by omega) (by omega) e4) (hφ := xF) (h := ?_); rintro _ _ rfl; try simp only [List.cons_append, List.nil_append]) | fail)) | (refine yM ?_; intro _) | (refine yA ?_; intro _ _ _ _) | fail)) | ((with_reducible apply gD); (first | (refine JD_nil ?_; try simp only [List.cons_append, List.nil_append]) | (refine JD_bar ?_; try simp only [List.cons_append, List.nil_append]) | refine yD ?_ | fail)) | refine yJ ?_ | ((with_reducible apply gJ_if); (first | (refine J_if xR ?_ ?_ <;> intro _ <;> (try (exfalso; first | contradiction | omega))) | (refine J_ifb xR ?_ ?_ <;> (intro hgb; subst hgb)) | (refine J_ifb xR ?_ ?_ <;> intro _) | fail)) | refine J_draw (id := 10) [0, 1, 2, 3, 4, 5, 6, 7, 8, 9] [10, 11, 12] mixed xC xD xD ?_ | fail))
    exact J_ret0 rfl fun w H => ⟨_, ⟨a3, c3, rfl⟩, H.sel xZ⟩
  · obtain ⟨T4, e4⟩ : ∃ T4, T3 ++ [jumpS 0] = T4 := ⟨_, rfl⟩
    have l4 : T4.length = T3.length + 1 := by rw [← e4, List.length_append]; rfl
    obtain ⟨T5, e5⟩ : ∃ T5, F2 (T4.length : Int) T4 = T5 := ⟨_, rfl⟩
    have l5 : T5.length = T4.length := by rw [← e5]; exact k2.2.1 _ _
    obtain ⟨T6, e6⟩ : ∃ T6, T5 ++ g T5.length s.el = T6 := ⟨_, rfl⟩
    have l6 : T6.length = T5.length + gs s.el := by rw [← e6, List.length_append, hg2]
    obtain ⟨hs6, e9⟩ := br_two ho he k3 k4 hp hg hg2 e1 e2 e3 e4 e5 e6
    rw [h9] at e9
    have l96 : T9.length = T6.length := by rw [e9, List.length_set]
    (repeat' (first | ((with_reducible apply gL); (first | refine yL0 ?_ | ((with_reducible apply gL_c_append); (first | (first | (refine JL_ap1 (z := jumpS 0) (tabE etab_ok xR) xR xR xA xA xC xR xL xR (by omega) xR xR ?_; intro ad4 c4 _ _) | (refine JD_ap1 (z := jumpS 0) (tabE etab_ok xR) xR xR xA xA xC xR xL xR (by omega) xR ?_; intro ad4 c4 _ _)) | fail)) | refine yL ?_ | ((with_reducible apply gL_go); (first | (refine JL_goq (k1.2.2 (T1.length : Int) a1 c1 T1 T2 (Nat.le_refl _) (by omega) e2) (hφ := xF) (h := ?_); rintro _ _ rfl; try simp only [List.cons_append, List.nil_append]) | (refine JL_goq (hT wb a1 c1 T2 T3 (by omega) e3) (hφ := (by (try simp only [List.cons_append, List.nil_append]); exact fun w hr => hK w hr.1)) (h := ?_); rintro _ _ ⟨a3, c3, rfl⟩; try simp only [List.cons_append, List.nil_append]) | fail)) | (refine yM ?_; intro _) | (refine yA ?_; intro _ _ _ _) | fail)) | ((with_reducible apply gD); (first | (refine JD_nil ?_; try simp only [List.cons_append, List.nil_append]) | (refine JD_bar ?_; try simp only [List.cons_append, List.nil_append]) | refine yD ?_ | fail)) | refine yJ ?_ | ((with_reducible apply gJ_if); (first | (refine J_if xR ?_ ?_ <;> intro _ <;> (try (exfalso; first | contradiction | omega))) | (refine J_ifb xR ?_ ?_ <;> (intro hgb; subst hgb)) | (refine J_ifb xR ?_ ?_ <;> intro _) | fail)) | refine J_draw (id := 10) [0, 1, 2, 3, 4, 5, 6, 7, 8, 9] [10, 11, 12] mixed xC xD xD ?_ | fail))
    rw [e4, ← l4]
    (iterate 25 (first | ((with_reducible apply gL); (first | refine yL0 ?_ | ((with_reducible apply gL_store); (first | (refine JD_stEf (z' := jumpS (T6.length : Int)) (by rfl) (by rfl) xA hs6 (by rfl) (by intro _; rfl) (by rfl) (by rfl) (by (first | ((repeat (first | exact Put.e | apply Put.t | apply Put.s)); done) | fail)) (by rfl) (by rfl) (by rfl) ?_) | fail)) | refine yL ?_ | ((with_reducible apply gL_go); (first | (refine JL_goq (k2.2.2 (T4.length : Int) ad4 c4 T4 T5 (by omega) (by omega) e5) (hφ := xF) (h := ?_); rintro _ _ rfl; try simp only [List.cons_append, List.nil_append]) | (refine JL_goq (hE wb ad4 c4 T5 T6 (by omega) e6) (hφ := (by (try simp only [List.cons_append, List.nil_append]); exact fun w hr => hK w hr.1)) (h := ?_); rintro _ _ ⟨a6, c6, rfl⟩; try simp only [List.cons_append, List.nil_append]) | fail)) | (refine yM ?_; intro _) | (refine yA ?_; intro _ _ _ _) | fail)) | ((with_reducible apply gD); (first | (refine JD_nil ?_; try simp only [List.cons_append, List.nil_append]) | (refine JD_bar ?_; try simp only [List.cons_append, List.nil_append]) | ((with_reducible apply gD_store); (first | (refine JD_stEf (z' := jumpS (T6.length : Int)) (by rfl) (by rfl) xA hs6 (by rfl) (by intro _; rfl) (by rfl) (by rfl) (by (first | ((repeat (first | exact Put.e | apply Put.t | apply Put.s)); done) | fail)) (by rfl) (by rfl) (by rfl) ?_) | fail)) | refine yD ?_ | fail)) | refine yJ ?_ | ((with_reducible apply gJ_if); (first | (refine J_if xR ?_ ?_ <;> intro _ <;> (try (exfalso; first | contradiction | omega))) | (refine J_ifb xR ?_ ?_ <;> (intro hgb; subst hgb)) | (refine J_ifb xR ?_ ?_ <;> intro _) | fail)) | refine J_draw (id := 10) [0, 1, 2, 3, 4, 5, 6, 7, 8, 9, 10, 11] [12] mixed xC xD xD ?_ | fail))
    refine J_end0 rfl fun w H => ⟨_, ⟨a6, c6, rfl⟩, ?_⟩
    rw [l96, e9]
    exact H.sel xZ
end Go.Proofs.Ytmbgbhambgoejaa.C
namespace Go.Proofs.Ytmbgbhambgoejaa.C
set_option linter.unusedSimpArgs false
set_option linter.unusedVariables false
set_option maxRecDepth 20000
set_option maxHeartbeats 4000000
open Go.RowKit Go.Pm

theorem block_core (la : Option Addr) (lc : Nat) (l : List St) (φ : St → World → Prop) (g : Nat → List St → List Sp) (gs : List St → Nat) (hl : l.length ≤ 6) (hA : ∀ s ∈ l, s.op ≠ 1 → 2 ≤ s.op ∧ s.op ≤ 9)
    (hB : ∀ s ∈ l, s.op = 1 → BlockOk 33 (.agg (stC s).toArray) (φ s) (fun k => codeS g gs k s)) : BlockOk 17 (.slice la l.length lc) (KidS φ la lc l) (fun k => codeG g gs k l) := by
  intro wb a c T0 T9 hb h9
  refine pact Try.func17 rfl Try.ntmps17 rfl ?_
  intro W K hK
  dsimp only at h9
  (repeat' (first | ((with_reducible apply gL); (first | refine yL0 ?_ | refine yL ?_ | (refine yM ?_; intro _) | fail)) | ((with_reducible apply gD); (first | (refine JD_nil ?_; try simp only [List.cons_append, List.nil_append]) | (refine JD_bar ?_; try simp only [List.cons_append, List.nil_append]) | refine yD ?_ | (refine yE ?_; intro _) | (refine yB ?_; intro _ _ _ _) | fail)) | refine yJ ?_ | ((with_reducible apply gJ_if); (first | (refine J_if xR ?_ ?_ <;> intro _ <;> (try (exfalso; first | contradiction | omega))) | (refine J_ifb xR ?_ ?_ <;> (intro hgb; subst hgb)) | (refine J_ifb xR ?_ ?_ <;> intro _) | fail)) | refine J_draw (id := 3) [0, 1, 2, 3, 4, 5, 6, 7, 8, 9, 10, 11, 12, 13, 14] [15] mixed xC xD xD ?_ | refine J_draw (id := 10) [0, 1, 2, 3, 4, 5, 6, 7] [8, 9, 10] mixed xC xD xD ?_ | fail))
  refine J_loop (α := Lp) ⟨0, T0, a, c⟩ (fun z => l.length - z.i) (fun z => z.i ≤ l.length ∧ z.T ++ codeG g gs z.T.length (l.drop z.i) = T9) (fun z => [(0, .pointer (some ⟨wb, 0, none⟩)), (7, .slice la l.length lc), (8, .int .i64 l.length), (9, .int .i64 z.i)]) (fun z => [pts wb [.slice z.a z.T.length z.c] 60, Ar 63 7 spC (.slice z.a z.T.length z.c) z.T]) ⟨Nat.zero_le _, h9⟩ ⟨rfl, rfl, rfl, rfl, trivial⟩ (fun w H => H.sel xZ) ?_
  rintro ⟨i, T, a1, c1⟩ ⟨hi, hT9⟩
  dsimp only at hi hT9 ⊢
  by_cases hlt : i < l.length
  · obtain ⟨s, hs⟩ : ∃ s, l[i]? = some s := ⟨_, List.getElem?_eq_getElem hlt⟩
    have hm := List.mem_of_getElem? hs
    have hkv : Kn K (fun w => Vw w (.slice la l.length lc) 10 l.length (flat stC l)) := hK.imp fun w h => h.1 (List.ne_nil_of_mem hm)
    have hkl : Kn K (φ s) := hK.imp fun w h => h.2 s hm
    rw [drop_cons hs] at hT9
    obtain ⟨T5, h5⟩ : ∃ T5, T ++ codeS g gs T.length s = T5 := ⟨_, rfl⟩
    have h59 := codeG_step (r := l.drop (i + 1)) h5
    rw [hT9] at h59
    have hlen : T5.length ≤ T9.length := by rw [h59, List.length_append]; omega
    have hTl : T.length ≤ T5.length := by rw [← h5, List.length_append]; omega
    by_cases ho : s.op = 1
    · (repeat' (first | ((with_reducible apply gL); (first | refine yL0 ?_ | refine yL ?_ | ((with_reducible apply gL_go); (first | (refine JL_goq (hB s hm ho wb a1 c1 T T5 (by omega) h5) (hφ := (by (try simp only [List.cons_append, List.nil_append]); exact fun w hr => hkl w hr.1)) (h := ?_); rintro _ _ ⟨a2, c2, rfl⟩; try simp only [List.cons_append, List.nil_append]) | fail)) | (refine yM ?_; intro _) | fail)) | ((with_reducible apply gD); (first | (refine JD_nil ?_; try simp only [List.cons_append, List.nil_append]) | (refine JD_bar ?_; try simp only [List.cons_append, List.nil_append]) | refine yD ?_ | (refine yE ?_; intro _) | (refine yB ?_; intro _ _ _ _) | fail)) | refine yJ ?_ | ((with_reducible apply gJ_if); (first | (refine J_if xR ?_ ?_ <;> intro _ <;> (try (exfalso; first | contradiction | omega))) | (refine J_ifb xR ?_ ?_ <;> (intro hgb; subst hgb)) | (refine J_ifb xR ?_ ?_ <;> intro _) | fail)) | refine J_draw (id := 3) [0, 1, 2, 3, 4, 5, 6, 7, 8, 9, 10, 11, 12, 13, 14] [15] mixed xC xD xD ?_ | refine J_draw (id := 10) [0, 1, 2, 3, 4, 5, 6, 7] [8, 9, 10] mixed xC xD xD ?_ | fail))
      exact J_again ⟨i + 1, T5, a2, c2⟩ (by dsimp only; omega) ⟨by dsimp only; omega, h59.symm⟩ ⟨rfl, rfl, rfl, rfl, trivial⟩ (fun w H => H.sel xZ)
    · obtain ⟨hA1, hA2⟩ := hA s hm ho
      have h5l : T5.length = T.length + 1 := by rw [← h5, List.length_append, codeS, if_neg ho]; rfl
      by_cases h3 : 3 < s.op
      · have h5' := h5
        rw [codeS, if_neg ho, if_pos h3, Int.add_comm 20] at h5'
        (repeat' (first | ((with_reducible apply gL); (first | refine yL0 ?_ | refine yL ?_ | (refine yM ?_; intro _) | fail)) | ((with_reducible apply gD); (first | (refine JD_nil ?_; try simp only [List.cons_append, List.nil_append]) | (refine JD_bar ?_; try simp only [List.cons_append, List.nil_append]) | ((with_reducible apply gD_c_append); (first | (first | (refine JL_ap1 (z := (⟨s.op + 20, s.n, s.m, 0, 0, (T.length : Int) + 1, 0⟩ : Sp)) (tabE etab_ok xR) xR xR xA xA xC xR xL xR (by omega) xR xR ?_; intro ad4 c4 _ _) | (refine JD_ap1 (z := (⟨s.op + 20, s.n, s.m, 0, 0, (T.length : Int) + 1, 0⟩ : Sp)) (tabE etab_ok xR) xR xR xA xA xC xR xL xR (by omega) xR ?_; intro ad4 c4 _ _)) | fail)) | refine yD ?_ | (refine yE ?_; intro _) | (refine yB ?_; intro _ _ _ _) | fail)) | refine yJ ?_ | ((with_reducible apply gJ_if); (first | (refine J_if xR ?_ ?_ <;> intro _ <;> (try (exfalso; first | contradiction | omega))) | (refine J_ifb xR ?_ ?_ <;> (intro hgb; subst hgb)) | (refine J_ifb xR ?_ ?_ <;> intro _) | fail)) | refine J_draw (id := 3) [0, 1, 2, 3, 4, 5, 6, 7, 8, 9, 10, 11, 12, 13, 14] [15] mixed xC xD xD ?_ | refine J_draw (id := 10) [0, 1, 2, 3, 4, 5, 6, 7] [8, 9, 10] mixed xC xD xD ?_ | fail))
        rw [h5', ← h5l]
        exact J_again ⟨i + 1, T5, ad4, c4⟩ (by dsimp only; omega) ⟨by dsimp only; omega, h59.symm⟩ ⟨rfl, rfl, rfl, rfl, trivial⟩ (fun w H => H.sel xZ)
      · have h5' := h5
        rw [codeS, if_neg ho, if_neg h3, Int.add_comm 20] at h5'
        (repeat' (first | ((with_reducible apply gL); (first | refine yL0 ?_ | refine yL ?_ | (refine yM ?_; intro _) | fail)) | ((with_reducible apply gD); (first | (refine JD_nil ?_; try simp only [List.cons_append, List.nil_append]) | (refine JD_bar ?_; try simp only [List.cons_append, List.nil_append]) | ((with_reducible apply gD_c_append); (first | (first | (refine JL_ap1 (z := (⟨s.op + 20, s.n, s.m, 0, 0, 0, 0⟩ : Sp)) (tabE etab_ok xR) xR xR xA xA xC xR xL xR (by omega) xR xR ?_; intro ad4 c4 _ _) | (refine JD_ap1 (z := (⟨s.op + 20, s.n, s.m, 0, 0, 0, 0⟩ : Sp)) (tabE etab_ok xR) xR xR xA xA xC xR xL xR (by omega) xR ?_; intro ad4 c4 _ _)) | fail)) | refine yD ?_ | (refine yE ?_; intro _) | (refine yB ?_; intro _ _ _ _) | fail)) | refine yJ ?_ | ((with_reducible apply gJ_if); (first | (refine J_if xR ?_ ?_ <;> intro _ <;> (try (exfalso; first | contradiction | omega))) | (refine J_ifb xR ?_ ?_ <;> (intro hgb; subst hgb)) | (refine J_ifb xR ?_ ?_ <;> intro _) | fail)) | refine J_draw (id := 3) [0, 1, 2, 3, 4, 5, 6, 7, 8, 9, 10, 11, 12, 13, 14] [15] mixed xC xD xD ?_ | refine J_draw (id := 10) [0, 1, 2, 3, 4, 5, 6, 7] [8, 9, 10] mixed xC xD xD ?_ | fail))
        all_goals (
          rw [h5', ← h5l]
          exact J_again ⟨i + 1, T5, ad4, c4⟩ (by dsimp only; omega) ⟨by dsimp only; omega, h59.symm⟩ ⟨rfl, rfl, rfl, rfl, trivial⟩ (fun w H => H.sel xZ))
  · obtain rfl : i = l.length := by omega
    rw [List.drop_length, codeG, List.append_nil] at hT9
    subst hT9
    (iterate 7 (first | ((with_reducible apply gL); (first | refine yL0 ?_ | refine yL ?_ | (refine yM ?_; intro _) | fail)) | ((with_reducible apply gD); (first | (refine JD_nil ?_; try simp only [List.cons_append, List.nil_append]) | (refine JD_bar ?_; try simp only [List.cons_append, List.nil_append]) | refine yD ?_ | (refine yE ?_; intro _) | (refine yB ?_; intro _ _ _ _) | fail)) | refine yJ ?_ | ((with_reducible apply gJ_if); (first | (refine J_if xR ?_ ?_ <;> intro _ <;> (try (exfalso; first | contradiction | omega))) | (refine J_ifb xR ?_ ?_ <;> (intro hgb; subst hgb)) | (refine J_ifb xR ?_ ?_ <;> intro _) | fail)) | refine J_draw (id := 3) [0, 1, 2, 3, 4, 5, 6, 7, 8, 9, 10, 11, 12, 13, 14] [15] mixed xC xD xD ?_ | refine J_draw (id := 10) [0, 1, 2, 3, 4, 5, 6, 7] [8, 9, 10] mixed xC xD xD ?_ | fail))
    exact J_end0 rfl fun w H => ⟨_, ⟨a1, c1, rfl⟩, H.sel xZ⟩
theorem BlockOk.pre {F : FuncId} {v : Value} {φ ψ : World → Prop} {g : Nat → List Sp} (h : BlockOk F v φ g) (hφ : ∀ w, ψ w → φ w) : BlockOk F v ψ g := fun wb a c T T2 h1 h2 => preP (h wb a c T T2 h1 h2) hφ
theorem block_s : ∀ (d : Nat) (la : Option Addr) (lc : Nat) (l : List St), LsF d l → rightB d l = true → BlockOk 17 (.slice la l.length lc) (fun w => LsV w d la lc l) (fun k => codeL d k l) := by
  intro d
  induction d with
  | zero =>
    intro la lc l hl hr
    have hno : ∀ s ∈ l, False := fun s hs => by rw [show l = [] from hl] at hs; cases hs
    have := block_core la lc l (fun s w => SeenS (0 - 1) s w) (codeL (0 - 1)) (sizeL (0 - 1)) hl.len (fun s hs => (hno s hs).elim) (fun s hs => (hno s hs).elim)
    intro wb a c T T2 h1 h2
    exact preP (this wb a c T T2 h1 (by dsimp only at h2 ⊢; rw [← codeL_eq hl]; exact h2)) fun w h => hl.kids h
  | succ d ih =>
    intro la lc l hl hr
    have := block_core la lc l (fun s w => SeenS d s w) (codeL d) (sizeL d) hl.len (fun s hs ho => act_range ((right_st hl hr hs).2 ho).1) (fun s hs ho => ?_)
    · intro wb a c T T2 h1 h2
      exact preP (this wb a c T T2 h1 h2) fun w h => hl.kids h
    · obtain ⟨_, h2, h3, h4⟩ := hl.2 s hs
      obtain ⟨_, r1, r2, r3⟩ := (right_st hl hr hs).1 ho
      exact branch_core s (SeenS d s) (codeL d) (sizeL d) ho h4.len (fun k X Y => putL_len h2 r1 k X Y) (fun k => codeL_len h3 r2 k) (fun k => codeL_len h4 r3 k) ((mcond_s 5 s.cd h2 r1).cong (fun k X Y => rfl) fun w h => h.1) ((ih s.ta s.tc s.th h3 r2).pre fun w h => h.2.1) ((ih s.ea s.ec s.el h4 r3).pre fun w h => h.2.2)
theorem Make_s (nm : ByteArray) (la : Option Addr) (lc : Nat) (l : List St) (hl : LsF 5 l) : Pact Try.prog 8 #[.agg #[.string nm, .slice la l.length lc]] (fun w => LsV w 5 la lc l) [] (fun u L' => ∃ a' c', u = .tuple #[.slice a' (makeT l).length c', .int .i64 (makeE l)] ∧ L' = [Ar 63 7 spC (.slice a' (makeT l).length c') (makeT l)]) := by
  refine pact Try.func8 rfl Try.ntmps8 rfl ?_
  intro W K hK
  refine J_heap (L' := [Ar 63 7 spC (.slice none ([] : List Sp).length 0) []]) (fun w H => (Ow.arNil (e := 63) (sz := 7) (enc := spC) H).sel xZ) ?_
  have hR := pright_s 5 la lc l 1 hl (by omega)
  rcases hr : rightB 5 l with _ | _
  all_goals rw [hr] at hR
  · have e1 : makeT l = [] := by unfold makeT; rw [hr, if_neg (by simp)]
    have e2 : makeE l = 260 := by unfold makeE; rw [hr, if_neg (by simp)]
    rw [e1, e2]
    (repeat' (first | ((with_reducible apply gL); (first | refine yL0 ?_ | refine yL ?_ | ((with_reducible apply gL_go); (first | (refine JL_goq (hR) (hφ := (by (try simp only [List.cons_append, List.nil_append]); exact fun w hr => hK w hr.1)) (h := ?_); rintro _ _ ⟨rfl, rfl⟩; try simp only [List.cons_append, List.nil_append]) | fail)) | (refine yM ?_; intro _) | (refine yA ?_; intro _ _ _ _) | fail)) | refine yJ ?_ | ((with_reducible apply gJ_if); (first | (refine J_if xR ?_ ?_ <;> intro _ <;> (try (exfalso; first | contradiction | omega))) | (refine J_ifb xR ?_ ?_ <;> (intro hgb; subst hgb)) | (refine J_ifb xR ?_ ?_ <;> intro _) | fail)) | fail))
    exact J_ret2 rfl (by rfl) (by rfl) fun w H => ⟨_, ⟨none, 0, rfl, rfl⟩, H.sel xZ⟩
  · have hb := sizeL_le hl
    have hb2 := bnd_le (d := 5) (by omega)
    have hcl := codeL_len hl hr 0
    obtain ⟨T2, h2⟩ : ∃ T2, codeL 5 0 l = T2 := ⟨_, rfl⟩
    rw [h2] at hcl
    obtain ⟨T3, h3⟩ : ∃ T3, T2 ++ [endS] = T3 := ⟨_, rfl⟩
    have h3l : T3.length = T2.length + 1 := by rw [← h3, List.length_append]; rfl
    (repeat' (first | ((with_reducible apply gL); (first | refine yL0 ?_ | refine yL ?_ | ((with_reducible apply gL_go); (first | (refine JL_goq (hR) (hφ := (by (try simp only [List.cons_append, List.nil_append]); exact fun w hr => hK w hr.1)) (h := ?_); rintro _ _ ⟨rfl, rfl⟩; try simp only [List.cons_append, List.nil_append]) | fail)) | (refine yM ?_; intro _) | (refine yA ?_; intro _ _ _ _) | fail)) | refine yJ ?_ | ((with_reducible apply gJ_if); (first | (refine J_if xR ?_ ?_ <;> intro _ <;> (try (exfalso; first | contradiction | omega))) | (refine J_ifb xR ?_ ?_ <;> (intro hgb; subst hgb)) | (refine J_ifb xR ?_ ?_ <;> intro _) | fail)) | fail))
    rename_i wb
    have hB := block_s 5 la lc l hl hr wb none 0 [] T2 (by omega) h2
    refine JL_heap (L' := [pts wb [.slice none ([] : List Sp).length 0] 60, Ar 63 7 spC (.slice none ([] : List Sp).length 0) []]) (fun w H => H.sel (M := [pts wb [.slice none 0 0] 60, Ar 63 7 spC (.slice none ([] : List Sp).length 0) []]) xZ) ?_
    by_cases hs : sizeL 5 l < 4096
    · have e1 : makeT l = T3 := by unfold makeT; rw [if_pos ⟨hr, hs⟩, h2, h3]
      have e2 : makeE l = 0 := by unfold makeE; rw [if_pos hr, if_pos hs]
      rw [e1, e2]
      (repeat' (first | ((with_reducible apply gL); (first | refine yL0 ?_ | ((with_reducible apply gL_c_append); (first | (first | (refine JL_ap1 (z := endS) (tabE etab_ok xR) xR xR xA xA xC xR xL xR (by omega) xR xR ?_; intro ad4 c4 _ _) | (refine JD_ap1 (z := endS) (tabE etab_ok xR) xR xR xA xA xC xR xL xR (by omega) xR ?_; intro ad4 c4 _ _)) | fail)) | refine yL ?_ | ((with_reducible apply gL_go); (first | (refine JL_goq (hB) (hφ := (by (try simp only [List.cons_append, List.nil_append]); exact fun w hr => hK w hr.1)) (h := ?_); rintro _ _ ⟨a2, c2, rfl⟩; try simp only [List.cons_append, List.nil_append]) | fail)) | (refine yM ?_; intro _) | (refine yA ?_; intro _ _ _ _) | fail)) | refine yJ ?_ | ((with_reducible apply gJ_if); (first | (refine J_if xR ?_ ?_ <;> intro _ <;> (try (exfalso; first | contradiction | omega))) | (refine J_ifb xR ?_ ?_ <;> (intro hgb; subst hgb)) | (refine J_ifb xR ?_ ?_ <;> intro _) | fail)) | fail))
      all_goals (first | (exfalso; omega) | skip)
      rw [h3, ← h3l]
      exact J_ret2 rfl (by rfl) (by rfl) fun w H => ⟨_, ⟨ad4, c4, rfl, rfl⟩, H.sel xZ⟩
    · have e1 : makeT l = [] := by unfold makeT; rw [if_neg (by omega)]
      have e2 : makeE l = 3 := by unfold makeE; rw [if_pos hr, if_neg hs]
      rw [e1, e2]
      (repeat' (first | ((with_reducible apply gL); (first | refine yL0 ?_ | ((with_reducible apply gL_c_append); (first | (first | (refine JL_ap1 (z := endS) (tabE etab_ok xR) xR xR xA xA xC xR xL xR (by omega) xR xR ?_; intro ad4 c4 _ _) | (refine JD_ap1 (z := endS) (tabE etab_ok xR) xR xR xA xA xC xR xL xR (by omega) xR ?_; intro ad4 c4 _ _)) | fail)) | refine yL ?_ | ((with_reducible apply gL_go); (first | (refine JL_goq (hB) (hφ := (by (try simp only [List.cons_append, List.nil_append]); exact fun w hr => hK w hr.1)) (h := ?_); rintro _ _ ⟨a2, c2, rfl⟩; try simp only [List.cons_append, List.nil_append]) | fail)) | (refine yM ?_; intro _) | (refine yA ?_; intro _ _ _ _) | fail)) | refine yJ ?_ | ((with_reducible apply gJ_if); (first | (refine J_if xR ?_ ?_ <;> intro _ <;> (try (exfalso; first | contradiction | omega))) | (refine J_ifb xR ?_ ?_ <;> (intro hgb; subst hgb)) | (refine J_ifb xR ?_ ?_ <;> intro _) | fail)) | fail))
      all_goals (first | (exfalso; omega) | skip)
      exact J_ret2 rfl (by rfl) (by rfl) fun w H => ⟨_, ⟨none, 0, rfl, rfl⟩, (Ow.arNil (e := 63) (sz := 7) (enc := spC) H).sel xZ⟩
end Go.Proofs.Ytmbgbhambgoejaa.C
namespace Go.Proofs.Ytmbgbhambgoejaa.C
set_option linter.unusedSimpArgs false
set_option linter.unusedVariables false
open Go.RowKit Go.Pm

def AtP (Q : Nat → Sp → Prop) (p : Nat) (L : List Sp) : Prop := ∀ i s, L[i]? = some s → Q (p + i) s
theorem AtP.nil {Q : Nat → Sp → Prop} {p : Nat} : AtP Q p [] := fun i s h => by simp at h
theorem AtP.one {Q : Nat → Sp → Prop} {p : Nat} {s : Sp} (h : Q p s) : AtP Q p [s] := fun i s' hs => by
  cases i with
  | zero => cases hs; exact h
  | succ i => simp at hs
theorem AtP.app {Q : Nat → Sp → Prop} {p : Nat} {A B : List Sp} (h1 : AtP Q p A) (h2 : AtP Q (p + A.length) B) : AtP Q p (A ++ B) := fun i s hs => by
  by_cases hi : i < A.length
  · rw [List.getElem?_append_left hi] at hs; exact h1 i s hs
  · rw [List.getElem?_append_right (by omega)] at hs
    have := h2 _ s hs
    rwa [show p + A.length + (i - A.length) = p + i by omega] at this
theorem AtP.imp {Q R : Nat → Sp → Prop} {p : Nat} {A : List Sp} (h : AtP Q p A) (hi : ∀ i s, Q i s → R i s) : AtP R p A := fun i s hs => hi _ _ (h i s hs)
theorem i64z' : I64 0 := by unfold I64; decide
def GoodT (n : Nat) (i : Nat) (s : Sp) : Prop := StepOk s i n ∧ SpN s ∧ s.op ≤ 12
def GoodA (n : Nat) (i : Nat) (s : Sp) : Prop := StepOk s i n ∧ SpN s
theorem seqQ_ok {n : Nat} {f : Nat → Cd → Int → Int → List Sp} {t : Cd → Nat} : ∀ {l : List Cd} {k : Nat} {A B : Int}, (∀ y ∈ l, ∀ k A B, (f k y A B).length = t y) → (∀ y ∈ l, ∀ (k : Nat) (A B : Int), (k : Int) + t y ≤ A → A < n → (k : Int) + t y ≤ B → B < n → AtP (GoodT n) k (f k y A B)) → (k : Int) + ((l.map t).sum : Nat) ≤ A → A < n → (k : Int) + ((l.map t).sum : Nat) ≤ B → B < n → AtP (GoodT n) k (seqQ f t A B k l)
  | [], _, _, _, _, _, _, _, _, _ => AtP.nil
  | y :: r, k, A, B, hf, hg, h1, h2, h3, h4 => by
    simp only [List.map_cons, List.sum_cons] at h1 h3
    push_cast at h1 h3
    have hr : 0 ≤ (((r.map t).sum : Nat) : Int) := Int.natCast_nonneg _
    rw [seqQ]
    refine AtP.app ?_ ?_
    · split
      · exact hg y (by simp) k A B (by omega) h2 (by omega) h4
      · exact hg y (by simp) k _ B (Int.le_refl _) (by omega) (by omega) h4
    · rw [hf y (by simp)]
      exact seqQ_ok (fun z hz => hf z (List.mem_cons_of_mem _ hz)) (fun z hz => hg z (List.mem_cons_of_mem _ hz)) (by push_cast; omega) h2 (by push_cast; omega) h4
theorem put_ok {n : Nat} (hn : n ≤ 5000) : ∀ {d : Nat} {x : Cd}, CdF d x → condB d x = true → ∀ (k : Nat) (X Y : Int), (k : Int) + tests d x ≤ X → X < n → (k : Int) + tests d x ≤ Y → Y < n → AtP (GoodT n) k (putL d k x X Y)
  | d, x, h, hc, k, X, Y, h1, h2, h3, h4 => by
    rw [putL_eq h hc, putG]
    by_cases ho : 1 ≤ x.op ∧ x.op ≤ 3
    · cases d with
      | zero => exact absurd ho (cond_zero h hc)
      | succ d =>
        obtain ⟨c1, c2, c3⟩ := cond_head h hc ho
        have hf : ∀ y ∈ x.l, ∀ k X Y, (putL d k y X Y).length = tests d y := fun y hy k X Y => putL_len (h.2.2 y hy) (c3 y hy) k X Y
        have hg : ∀ y ∈ x.l, ∀ (k : Nat) (A B : Int), (k : Int) + tests d y ≤ A → A < n → (k : Int) + tests d y ≤ B → B < n → AtP (GoodT n) k (putL d k y A B) := fun y hy k A B a1 a2 a3 a4 => put_ok hn (h.2.2 y hy) (c3 y hy) k A B a1 a2 a3 a4
        have hne : x.l ≠ [] := fun e => by
          rw [e] at c1 c2
          simp only [List.length_nil] at c1 c2
          omega
        rw [tests_eq h, if_neg hne] at h1 h3
        simp only [Nat.add_sub_cancel] at h1 h3 ⊢
        by_cases o1 : x.op = 1
        · rw [if_pos o1, seqP_false X Y hf]
          exact seqQ_ok hf hg h1 h2 h3 h4
        · rw [if_neg o1]
          by_cases o2 : x.op = 2
          · rw [if_pos o2, seqP_true X Y hf]
            exact seqQ_ok (fun y hy k A B => hf y hy k B A) (fun y hy k A B a1 a2 a3 a4 => hg y hy k B A a3 a4 a1 a2) h3 h4 h1 h2
          · rw [if_neg o2, if_pos (by omega)]
            obtain ⟨y, r, hyr⟩ := List.exists_cons_of_ne_nil hne
            have h5 := c1 (by omega)
            rw [hyr] at h5 hg h1 h3 ⊢
            have hr : r = [] := List.eq_nil_of_length_eq_zero (by simpa using h5)
            subst hr
            simp only [List.map_cons, List.map_nil, List.sum_cons, List.sum_nil, Nat.add_zero] at h1 h3
            exact hg y (by simp) k Y X h3 h4 h1 h2
    · obtain ⟨e1, e2⟩ := cond_leaf h hc ho
      rw [if_neg (by omega), if_neg (by omega), if_neg (by omega)]
      have ht : tests d x = 1 := by rw [tests_eq h, if_pos e1]
      rw [ht] at h1 h3
      have hnn := h.nn
      have e3 : 4 ≤ x.op ∧ x.op ≤ 12 := by unfold TestOk at e2; omega
      refine AtP.one ⟨.inl ⟨e3, e2, rfl, ⟨?_, h2⟩, ⟨?_, h4⟩⟩, ⟨hnn.op, hnn.n, i64z', hnn.pa, hnn.pl, ?_, ?_⟩, e3.2⟩
      · show (k : Int) < X; push_cast at h1; omega
      · show (k : Int) < Y; push_cast at h3; omega
      · show I64 X; unfold I64; omega
      · show I64 Y; unfold I64; omega
termination_by d => d
theorem cnt_app (A B : List Sp) : cnt (A ++ B) = cnt A + cnt B := by unfold cnt; rw [List.countP_append]
theorem cnt_all {n p : Nat} {L : List Sp} (h : AtP (GoodT n) p L) : cnt L = L.length := by
  unfold cnt
  rw [List.countP_eq_length]
  intro s hs
  obtain ⟨i, hi, rfl⟩ := List.mem_iff_getElem.1 hs
  exact decide_eq_true (h i _ (List.getElem?_eq_getElem hi)).2.2
theorem codeS_ok {n k : Nat} (hn : n ≤ 5000) {g : Nat → List St → List Sp} {gs gt : List St → Nat} {s : St} (hs : StN s) (hA : s.op ≠ 1 → ActOk s.op s.n s.m)
    (hf : CdF 5 s.cd) (hc : s.op = 1 → condB 5 s.cd = true)
    (hl : s.op = 1 → ∀ k, (g k s.th).length = gs s.th) (h0 : s.el.length = 0 → gs s.el = 0 ∧ gt s.el = 0)
    (ht : s.op = 1 → ∀ k, k + gs s.th < n → AtP (GoodA n) k (g k s.th) ∧ cnt (g k s.th) = gt s.th)
    (he : s.op = 1 → ∀ k, k + gs s.el < n → AtP (GoodA n) k (g k s.el) ∧ cnt (g k s.el) = gt s.el)
    (hk : k + sizeG gs s < n) : AtP (GoodA n) k (codeS g gs k s) ∧ cnt (codeS g gs k s) = testG gt s := by
  unfold sizeG at hk
  unfold codeS testG
  by_cases ho : s.op = 1
  · rw [if_pos ho] at hk
    rw [if_pos ho, if_pos ho]
    have hc' := hc ho
    by_cases hz : s.el.length = 0
    · obtain ⟨z1, z2⟩ := h0 hz
      rw [if_neg (by omega)] at hk
      rw [if_pos hz]
      have hP := put_ok hn hf hc' k ((k : Int) + tests 5 s.cd) ((k : Int) + tests 5 s.cd + gs s.th) (Int.le_refl _) (by omega) (by omega) (by omega)
      have hpl := putL_len hf hc' k ((k : Int) + tests 5 s.cd) ((k : Int) + tests 5 s.cd + gs s.th)
      obtain ⟨t1, t2⟩ := ht ho (k + tests 5 s.cd) (by omega)
      refine ⟨AtP.app (hP.imp fun i s h => ⟨h.1, h.2.1⟩) (by rw [hpl]; exact t1), ?_⟩
      rw [cnt_app, cnt_all hP, hpl, t2]
      omega
    · rw [if_pos (by omega)] at hk
      rw [if_neg hz]
      have hP := put_ok hn hf hc' k ((k : Int) + tests 5 s.cd) ((k : Int) + tests 5 s.cd + gs s.th + 1) (Int.le_refl _) (by omega) (by omega) (by omega)
      have hpl := putL_len hf hc' k ((k : Int) + tests 5 s.cd) ((k : Int) + tests 5 s.cd + gs s.th + 1)
      obtain ⟨t1, t2⟩ := ht ho (k + tests 5 s.cd) (by omega)
      have hBl : (putL 5 k s.cd ((k : Int) + tests 5 s.cd) ((k : Int) + tests 5 s.cd + gs s.th + 1) ++ g (k + tests 5 s.cd) s.th).length = tests 5 s.cd + gs s.th := by rw [List.length_append, hpl, hl ho]
      obtain ⟨e1, e2⟩ := he ho (k + (tests 5 s.cd + gs s.th) + 1) (by omega)
      simp only [hpl, hBl]
      have hj : GoodA n (k + (tests 5 s.cd + gs s.th)) ⟨21, 0, 0, 0, 0, (k : Int) + tests 5 s.cd + gs s.th + 1 + gs s.el, 0⟩ := by
        refine ⟨.inr (.inl ⟨rfl, rfl, rfl, ⟨rfl, rfl⟩, ⟨?_, ?_⟩, rfl⟩), ⟨by show I64 21; unfold I64; decide, i64z', i64z', by show U32 0; unfold U32; decide, i64z', ?_, i64z'⟩⟩
        · show ((k + (tests 5 s.cd + gs s.th) : Nat) : Int) < (k : Int) + tests 5 s.cd + gs s.th + 1 + gs s.el
          push_cast; omega
        · show (k : Int) + tests 5 s.cd + gs s.th + 1 + gs s.el < n
          omega
        · show I64 ((k : Int) + tests 5 s.cd + gs s.th + 1 + gs s.el)
          unfold I64; omega
      refine ⟨AtP.app (AtP.app (AtP.app (hP.imp fun i s h => ⟨h.1, h.2.1⟩) (by rw [hpl]; exact t1)) (by rw [hBl]; exact AtP.one hj)) ?_, ?_⟩
      · rw [List.length_append, hBl]
        exact e1
      · rw [cnt_app, cnt_app, cnt_app, cnt_all hP, hpl, t2, e2]
        show tests 5 s.cd + gt s.th + 0 + gt s.el = _
        omega
  · rw [if_neg ho] at hk
    rw [if_neg ho, if_neg ho]
    have ha := hA ho
    have hr := act_range ha
    have e20 : 20 + s.op - 20 = s.op := by omega
    refine ⟨AtP.one ?_, ?_⟩
    · by_cases h3 : 3 < s.op
      · rw [if_pos h3]
        refine ⟨.inr (.inr (.inr ⟨⟨?_, ?_⟩, by rw [e20]; exact ha, ⟨rfl, rfl⟩, ⟨?_, ?_⟩, rfl⟩)), ⟨?_, hs.n, hs.m, by show U32 0; unfold U32; decide, i64z', ?_, i64z'⟩⟩
        · show 24 ≤ 20 + s.op; omega
        · show 20 + s.op ≤ 29; omega
        · show (k : Int) < (k : Int) + 1; omega
        · show (k : Int) + 1 < n; omega
        · show I64 (20 + s.op); unfold I64; omega
        · show I64 ((k : Int) + 1); unfold I64; omega
      · rw [if_neg h3]
        refine ⟨.inr (.inr (.inl ⟨?_, by rw [e20]; exact ha, ⟨rfl, rfl⟩, rfl, rfl⟩)), ⟨?_, hs.n, hs.m, by show U32 0; unfold U32; decide, i64z', i64z', i64z'⟩⟩
        · show 20 + s.op = 22 ∨ 20 + s.op = 23; omega
        · show I64 (20 + s.op); unfold I64; omega
    · unfold cnt
      rw [List.countP_cons, List.countP_nil, if_neg]
      simp only [decide_eq_true_eq]
      omega
theorem codeG_ok {n : Nat} {g : Nat → List St → List Sp} {gs gt : List St → Nat} : ∀ {l : List St} {k : Nat}, (∀ s ∈ l, ∀ k, (codeS g gs k s).length = sizeG gs s) → (∀ s ∈ l, ∀ k, k + sizeG gs s < n → AtP (GoodA n) k (codeS g gs k s) ∧ cnt (codeS g gs k s) = testG gt s) → k + (l.map (sizeG gs)).sum < n → AtP (GoodA n) k (codeG g gs k l) ∧ cnt (codeG g gs k l) = (l.map (testG gt)).sum
  | [], _, _, _, _ => ⟨AtP.nil, rfl⟩
  | s :: r, k, hl, h, hk => by
    simp only [List.map_cons, List.sum_cons] at hk ⊢
    obtain ⟨a1, a2⟩ := h s (by simp) k (by omega)
    have hls := hl s (by simp) k
    obtain ⟨b1, b2⟩ := codeG_ok (k := k + (codeS g gs k s).length) (fun z hz => hl z (List.mem_cons_of_mem _ hz)) (fun z hz => h z (List.mem_cons_of_mem _ hz)) (by omega)
    rw [codeG]
    exact ⟨a1.app b1, by rw [cnt_app, a2, b2]⟩
theorem code_ok {n : Nat} (hn : n ≤ 5000) : ∀ {d : Nat} {l : List St}, LsF d l → rightB d l = true → ∀ k, k + sizeL d l < n → AtP (GoodA n) k (codeL d k l) ∧ cnt (codeL d k l) = testL d l
  | 0, _, _, _, _, _ => ⟨AtP.nil, rfl⟩
  | d + 1, l, h, hr, k, hk => by
    refine codeG_ok (fun s hs k => ?_) (fun s hs k hk => ?_) hk
    · obtain ⟨_, h2, h3, h4⟩ := h.2 s hs
      obtain ⟨r1, _⟩ := right_st h hr hs
      exact codeS_len (fun ho k X Y => putL_len h2 (r1 ho).2.1 k X Y) (fun ho k => codeL_len h3 (r1 ho).2.2.1 k) (fun ho k => codeL_len h4 (r1 ho).2.2.2 k) (fun h0 => by rw [List.eq_nil_of_length_eq_zero h0]; cases d <;> rfl) k
    · obtain ⟨h1, h2, h3, h4⟩ := h.2 s hs
      obtain ⟨r1, r2⟩ := right_st h hr hs
      exact codeS_ok hn h1 (fun ho => (r2 ho).1) h2 (fun ho => (r1 ho).2.1) (fun ho k => codeL_len h3 (r1 ho).2.2.1 k) (fun h0 => by rw [List.eq_nil_of_length_eq_zero h0]; cases d <;> exact ⟨rfl, rfl⟩) (fun ho k hk => code_ok hn h3 (r1 ho).2.2.1 k hk) (fun ho k hk => code_ok hn h4 (r1 ho).2.2.2 k hk) hk
theorem make_ok {l : List St} (h : LsF 5 l) (hr : rightB 5 l = true) (hs : sizeL 5 l < 4096) : checkE (makeT l) = 0 ∧ testsN (makeT l) = testL 5 l ∧ ∀ s ∈ makeT l, SpN s := by
  have e1 : makeT l = codeL 5 0 l ++ [endS] := by unfold makeT; rw [if_pos ⟨hr, hs⟩]
  have hcl := codeL_len h hr 0
  have hn : (makeT l).length = sizeL 5 l + 1 := by rw [e1, List.length_append, hcl]; rfl
  obtain ⟨a1, a2⟩ := code_ok (n := (makeT l).length) (by omega) h hr 0 (by omega)
  have hend : GoodA (makeT l).length (0 + (codeL 5 0 l).length) endS := by
    refine ⟨.inr (.inr (.inl ⟨.inr rfl, by decide, ⟨rfl, rfl⟩, rfl, rfl⟩)), ⟨by show I64 23; unfold I64; decide, i64z', i64z', by show U32 0; unfold U32; decide, i64z', i64z', i64z'⟩⟩
  have hall : AtP (GoodA (makeT l).length) 0 (makeT l) := by
    have := a1.app (AtP.one hend)
    rw [← e1] at this
    exact this
  have hc : checkE (makeT l) = 0 := by
    refine checkE_ok (by omega) (fun i hi s hs => ?_) (s := endS) ?_ (.inr rfl)
    · have := (hall i s hs).1
      rwa [Nat.zero_add] at this
    · rw [hn, Nat.add_sub_cancel, e1, ← hcl]; simp
  refine ⟨hc, ?_, fun s hs => ?_⟩
  · unfold testsN
    rw [if_pos hc, e1, cnt_app, a2]
    rfl
  · obtain ⟨i, hi, rfl⟩ := List.mem_iff_getElem.1 hs
    exact (hall i _ (List.getElem?_eq_getElem hi)).2
end Go.Proofs.Ytmbgbhambgoejaa.C
namespace Go.Proofs.Ytmbgbhambgoejaa.C
set_option linter.unusedSimpArgs false
set_option linter.unusedVariables false
open Go.RowKit Go.Pm
def Has (T : List Sp) (k : Nat) (P : List Sp) : Prop := ∀ (i : Nat) (s : Sp), P[i]? = some s → T[k + i]? = some s
theorem Has.left {T A B : List Sp} {k : Nat} (h : Has T k (A ++ B)) : Has T k A := fun i s hs => h i s (by rw [List.getElem?_append_left (List.getElem?_eq_some_iff.1 hs).1]; exact hs)
theorem Has.right {T A B : List Sp} {k : Nat} (h : Has T k (A ++ B)) : Has T (k + A.length) B := fun i s hs => by
  have := h (A.length + i) s (by rw [List.getElem?_append_right (by omega), Nat.add_sub_cancel_left]; exact hs)
  rwa [show k + A.length + i = k + (A.length + i) by omega]
def fin (T : List Sp) (p : Pf) (e : Nat) (r : Nf × Bool × Bool) : Option Nf := if r.2.1 then (if r.2.2 then some r.1 else none) else (playW T p e r.1).1
end Go.Proofs.Ytmbgbhambgoejaa.C
namespace Go.Proofs.Ytmbgbhambgoejaa.C
set_option linter.unusedSimpArgs false
set_option linter.unusedVariables false
set_option maxRecDepth 20000
set_option maxHeartbeats 4000000
open Go.RowKit Go.Pm

end Go.Proofs.Ytmbgbhambgoejaa.C
namespace Go.Proofs.Ytmbgbhambgoejaa.C
set_option linter.unusedSimpArgs false
set_option linter.unusedVariables false
set_option maxRecDepth 20000
set_option maxHeartbeats 4000000
open Go.RowKit Go.Pm

def MeanR (d0 : At) (r : Nf × Bool × Bool) (u : Value) (L' : List HP) : Prop := ∃ d' : At, AtF d' ∧ d'.nf = r.1 ∧ u = .tuple #[.agg (atC d').toArray, .bool r.2.1, .bool r.2.2] ∧ L' = [has (fun w => AtV w d0 → AtV w d')]
def MeanOk (la : Option Addr) (lc n : Nat) (φ : World → Prop) (p : Pf) (g : Nf → Nf × Bool × Bool) : Prop := ∀ d0 : At, AtF d0 → Pact Try.prog 11 #[.slice la n lc, .agg (pfC p).toArray, .agg (atC d0).toArray] (fun w => φ w ∧ AtV w d0) [] (MeanR d0 (g d0.nf))
structure Lmn where
  k : Nat
  d : At
theorem MeanOk.pre {la : Option Addr} {lc n : Nat} {φ ψ : World → Prop} {p : Pf} {g : Nf → Nf × Bool × Bool} (h : MeanOk la lc n φ p g) (hφ : ∀ w, ψ w → φ w) : MeanOk la lc n ψ p g := fun d0 h0 => preP (h d0 h0) fun w h => ⟨hφ w h.1, h.2⟩
end Go.Proofs.Ytmbgbhambgoejaa.C
namespace Go.Proofs.Ytmbgbhambgoejaa.C
set_option linter.unusedSimpArgs false
set_option linter.unusedVariables false
open Go.RowKit Go.Pm

def ex1 : St := ⟨2, 0, 0, ⟨0, 0, 0, 0, none, 0, []⟩, none, 0, [], none, 0, []⟩
def ex0 (b1 : Nat) : St := ⟨1, 0, 0, ⟨6, 1, 0, 0, none, 0, []⟩, some ⟨b1, 0, none⟩, 1, [ex1], none, 0, []⟩
def exT : List Sp := [⟨6, 1, 0, 0, 0, 1, 2⟩, ⟨22, 0, 0, 0, 0, 0, 0⟩, ⟨23, 0, 0, 0, 0, 0, 0⟩]
theorem ex_right (b1 : Nat) : rightB 5 [ex0 b1] = true := by rfl
theorem ex_size (b1 : Nat) : sizeL 5 [ex0 b1] = 2 := by rfl
theorem ex_make (b1 : Nat) : makeT [ex0 b1] = exT := by
  unfold makeT
  rw [if_pos ⟨ex_right b1, by rw [ex_size]; decide⟩]
  rfl
theorem ex_err (b1 : Nat) : makeE [ex0 b1] = 0 := by
  unfold makeE
  rw [if_pos (ex_right b1), if_pos (by rw [ex_size]; decide)]
theorem ex_check : checkE exT = 0 := by decide +kernel
theorem i64z : I64 0 := by unfold I64; decide
theorem ex_fits (b1 : Nat) : LsF 5 [ex0 b1] := by
  have z1 : ∀ d, CdF d ⟨0, 0, 0, 0, none, 0, []⟩ := fun d => by
    have h : CdN ⟨0, 0, 0, 0, none, 0, []⟩ := ⟨i64z, i64z, by unfold U32; decide, i64z⟩
    cases d with
    | zero => exact ⟨h, rfl⟩
    | succ d => exact ⟨h, by simp, fun y hy => absurd hy List.not_mem_nil⟩
  refine ⟨by simp, fun s hs => ?_⟩
  obtain rfl := List.mem_singleton.1 hs
  refine ⟨⟨by show I64 1; unfold I64; decide, i64z, i64z, ⟨by show I64 6; unfold I64; decide, by show I64 1; unfold I64; decide, by show U32 0; unfold U32; decide, i64z⟩⟩, ⟨⟨by show I64 6; unfold I64; decide, by show I64 1; unfold I64; decide, by show U32 0; unfold U32; decide, i64z⟩, by simp [ex0], fun y hy => absurd hy List.not_mem_nil⟩, ⟨by simp [ex0], fun s hs => ?_⟩, ⟨by simp [ex0], fun s hs => absurd hs List.not_mem_nil⟩⟩
  obtain rfl := List.mem_singleton.1 hs
  exact ⟨⟨by show I64 2; unfold I64; decide, i64z, i64z, ⟨i64z, i64z, by show U32 0; unfold U32; decide, i64z⟩⟩, z1 5, ⟨by simp [ex1], fun s hs => absurd hs List.not_mem_nil⟩, ⟨by simp [ex1], fun s hs => absurd hs List.not_mem_nil⟩⟩
theorem ex_spn : ∀ s ∈ exT, SpN s := by
  intro s hs
  simp only [exT, List.mem_cons, List.not_mem_nil, or_false] at hs
  rcases hs with rfl | rfl | rfl <;> (constructor <;> (first | (show I64 _; unfold I64; decide) | (show U32 _; unfold U32; decide)))
theorem ex_seen (b1 b2 : Nat) (w : World) (h2 : Vw w (.slice (some ⟨b2, 0, none⟩) 1 1) 10 1 (flat stC [ex0 b1])) (h1 : Vw w (.slice (some ⟨b1, 0, none⟩) 1 1) 10 1 (flat stC [ex1])) : LsV w 5 (some ⟨b2, 0, none⟩) 1 [ex0 b1] := by
  have no : ∀ {y : Cd} {p : Prop}, y ∈ ([] : List Cd) → p := fun h => absurd h List.not_mem_nil
  have no2 : ∀ {y : St} {p : Prop}, y ∈ ([] : List St) → p := fun h => absurd h List.not_mem_nil
  refine ⟨h2, fun s hs => ?_⟩
  obtain rfl := List.mem_singleton.1 hs
  refine ⟨⟨Vw.nil w 5, fun y hy => no hy⟩, ⟨h1, fun s hs => ?_⟩, ⟨Vw.nil w 10, fun y hy => no2 hy⟩⟩
  obtain rfl := List.mem_singleton.1 hs
  exact ⟨⟨Vw.nil w 5, fun y hy => no hy⟩, ⟨Vw.nil w 10, fun y hy => no2 hy⟩, ⟨Vw.nil w 10, fun y hy => no2 hy⟩⟩
end Go.Proofs.Ytmbgbhambgoejaa.C
