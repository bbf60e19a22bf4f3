/-
  What is made is right, and has as many tests.
-/
import Derived.Test.YteekbpohocfmpaaCd20
import Derived.Test.YteekbpohocfmpaaCd17
import Derived.Test.YteekbpohocfmpaaCd4
namespace Go.Proofs.Yteekbpohocfmpaa
set_option linter.unusedSimpArgs false
set_option linter.unusedVariables false
open Go.RowKit Go.Pm

def At (Q : Nat → Sp → Prop) (p : Nat) (L : List Sp) : Prop := ∀ i s, L[i]? = some s → Q (p + i) s
theorem At.nil {Q : Nat → Sp → Prop} {p : Nat} : At Q p [] := fun i s h => by simp at h
theorem At.one {Q : Nat → Sp → Prop} {p : Nat} {s : Sp} (h : Q p s) : At Q p [s] := fun i s' hs => by
  cases i with
  | zero => cases hs; exact h
  | succ i => simp at hs
theorem At.app {Q : Nat → Sp → Prop} {p : Nat} {A B : List Sp} (h1 : At Q p A) (h2 : At Q (p + A.length) B) : At Q p (A ++ B) := fun i s hs => by
  by_cases hi : i < A.length
  · rw [List.getElem?_append_left hi] at hs; exact h1 i s hs
  · rw [List.getElem?_append_right (by omega)] at hs
    have := h2 _ s hs
    rwa [show p + A.length + (i - A.length) = p + i by omega] at this
theorem At.imp {Q R : Nat → Sp → Prop} {p : Nat} {A : List Sp} (h : At Q p A) (hi : ∀ i s, Q i s → R i s) : At R p A := fun i s hs => hi _ _ (h i s hs)
theorem i64z' : I64 0 := by unfold I64; decide
def GoodT (n : Nat) (i : Nat) (s : Sp) : Prop := StepOk s i n ∧ SpN s ∧ s.op ≤ 12
def GoodA (n : Nat) (i : Nat) (s : Sp) : Prop := StepOk s i n ∧ SpN s
theorem seqQ_ok {n : Nat} {f : Nat → Cd → Int → Int → List Sp} {t : Cd → Nat} : ∀ {l : List Cd} {k : Nat} {A B : Int}, (∀ y ∈ l, ∀ k A B, (f k y A B).length = t y) → (∀ y ∈ l, ∀ (k : Nat) (A B : Int), (k : Int) + t y ≤ A → A < n → (k : Int) + t y ≤ B → B < n → At (GoodT n) k (f k y A B)) → (k : Int) + ((l.map t).sum : Nat) ≤ A → A < n → (k : Int) + ((l.map t).sum : Nat) ≤ B → B < n → At (GoodT n) k (seqQ f t A B k l)
  | [], _, _, _, _, _, _, _, _, _ => At.nil
  | y :: r, k, A, B, hf, hg, h1, h2, h3, h4 => by
    simp only [List.map_cons, List.sum_cons] at h1 h3
    push_cast at h1 h3
    have hr : 0 ≤ (((r.map t).sum : Nat) : Int) := Int.natCast_nonneg _
    rw [seqQ]
    refine At.app ?_ ?_
    · split
      · exact hg y (by simp) k A B (by omega) h2 (by omega) h4
      · exact hg y (by simp) k _ B (Int.le_refl _) (by omega) (by omega) h4
    · rw [hf y (by simp)]
      exact seqQ_ok (fun z hz => hf z (List.mem_cons_of_mem _ hz)) (fun z hz => hg z (List.mem_cons_of_mem _ hz)) (by push_cast; omega) h2 (by push_cast; omega) h4
theorem put_ok {n : Nat} (hn : n ≤ 5000) : ∀ {d : Nat} {x : Cd}, CdF d x → condB d x = true → ∀ (k : Nat) (X Y : Int), (k : Int) + tests d x ≤ X → X < n → (k : Int) + tests d x ≤ Y → Y < n → At (GoodT n) k (putL d k x X Y)
  | d, x, h, hc, k, X, Y, h1, h2, h3, h4 => by
    rw [putL_eq h hc, putG]
    by_cases ho : 1 ≤ x.op ∧ x.op ≤ 3
    · cases d with
      | zero => exact absurd ho (cond_zero h hc)
      | succ d =>
        obtain ⟨c1, c2, c3⟩ := cond_head h hc ho
        have hf : ∀ y ∈ x.l, ∀ k X Y, (putL d k y X Y).length = tests d y := fun y hy k X Y => putL_len (h.2.2 y hy) (c3 y hy) k X Y
        have hg : ∀ y ∈ x.l, ∀ (k : Nat) (A B : Int), (k : Int) + tests d y ≤ A → A < n → (k : Int) + tests d y ≤ B → B < n → At (GoodT n) k (putL d k y A B) := fun y hy k A B a1 a2 a3 a4 => put_ok hn (h.2.2 y hy) (c3 y hy) k A B a1 a2 a3 a4
        have hne : x.l ≠ [] := fun e => by
          rw [e] at c1 c2
          simp only [List.length_nil] at c1 c2
          omega
        rw [tests_eq h, if_neg hne] at h1 h3
        simp only [Nat.add_sub_cancel] at h1 h3 ⊢
        by_cases o1 : x.op = 1
        · rw [if_pos o1, seqP_false X Y hf]
          exact seqQ_ok hf hg h1 h2 h3 h4
        · rw [if_neg o1]
          by_cases o2 : x.op = 2
          · rw [if_pos o2, seqP_true X Y hf]
            exact seqQ_ok (fun y hy k A B => hf y hy k B A) (fun y hy k A B a1 a2 a3 a4 => hg y hy k B A a3 a4 a1 a2) h3 h4 h1 h2
          · rw [if_neg o2, if_pos (by omega)]
            obtain ⟨y, r, hyr⟩ := List.exists_cons_of_ne_nil hne
            have h5 := c1 (by omega)
            rw [hyr] at h5 hg h1 h3 ⊢
            have hr : r = [] := List.eq_nil_of_length_eq_zero (by simpa using h5)
            subst hr
            simp only [List.map_cons, List.map_nil, List.sum_cons, List.sum_nil, Nat.add_zero] at h1 h3
            exact hg y (by simp) k Y X h3 h4 h1 h2
    · obtain ⟨e1, e2⟩ := cond_leaf h hc ho
      rw [if_neg (by omega), if_neg (by omega), if_neg (by omega)]
      have ht : tests d x = 1 := by rw [tests_eq h, if_pos e1]
      rw [ht] at h1 h3
      have hnn := h.nn
      have e3 : 4 ≤ x.op ∧ x.op ≤ 12 := by unfold TestOk at e2; omega
      refine At.one ⟨.inl ⟨e3, e2, rfl, ⟨?_, h2⟩, ⟨?_, h4⟩⟩, ⟨hnn.op, hnn.n, i64z', hnn.pa, hnn.pl, ?_, ?_⟩, e3.2⟩
      · show (k : Int) < X; push_cast at h1; omega
      · show (k : Int) < Y; push_cast at h3; omega
      · show I64 X; unfold I64; omega
      · show I64 Y; unfold I64; omega
termination_by d => d
theorem cnt_app (A B : List Sp) : cnt (A ++ B) = cnt A + cnt B := by unfold cnt; rw [List.countP_append]
theorem cnt_all {n p : Nat} {L : List Sp} (h : At (GoodT n) p L) : cnt L = L.length := by
  unfold cnt
  rw [List.countP_eq_length]
  intro s hs
  obtain ⟨i, hi, rfl⟩ := List.mem_iff_getElem.1 hs
  exact decide_eq_true (h i _ (List.getElem?_eq_getElem hi)).2.2
theorem codeS_ok {n k : Nat} (hn : n ≤ 5000) {g : Nat → List St → List Sp} {gs gt : List St → Nat} {s : St} (hs : StN s) (hA : s.op ≠ 1 → ActOk s.op s.n s.m)
    (hf : CdF 5 s.cd) (hc : s.op = 1 → condB 5 s.cd = true)
    (hl : s.op = 1 → ∀ k, (g k s.th).length = gs s.th) (h0 : s.el.length = 0 → gs s.el = 0 ∧ gt s.el = 0)
    (ht : s.op = 1 → ∀ k, k + gs s.th < n → At (GoodA n) k (g k s.th) ∧ cnt (g k s.th) = gt s.th)
    (he : s.op = 1 → ∀ k, k + gs s.el < n → At (GoodA n) k (g k s.el) ∧ cnt (g k s.el) = gt s.el)
    (hk : k + sizeG gs s < n) : At (GoodA n) k (codeS g gs k s) ∧ cnt (codeS g gs k s) = testG gt s := by
  unfold sizeG at hk
  unfold codeS testG
  by_cases ho : s.op = 1
  · rw [if_pos ho] at hk
    rw [if_pos ho, if_pos ho]
    have hc' := hc ho
    by_cases hz : s.el.length = 0
    · obtain ⟨z1, z2⟩ := h0 hz
      rw [if_neg (by omega)] at hk
      rw [if_pos hz]
      have hP := put_ok hn hf hc' k ((k : Int) + tests 5 s.cd) ((k : Int) + tests 5 s.cd + gs s.th) (Int.le_refl _) (by omega) (by omega) (by omega)
      have hpl := putL_len hf hc' k ((k : Int) + tests 5 s.cd) ((k : Int) + tests 5 s.cd + gs s.th)
      obtain ⟨t1, t2⟩ := ht ho (k + tests 5 s.cd) (by omega)
      refine ⟨At.app (hP.imp fun i s h => ⟨h.1, h.2.1⟩) (by rw [hpl]; exact t1), ?_⟩
      rw [cnt_app, cnt_all hP, hpl, t2]
      omega
    · rw [if_pos (by omega)] at hk
      rw [if_neg hz]
      have hP := put_ok hn hf hc' k ((k : Int) + tests 5 s.cd) ((k : Int) + tests 5 s.cd + gs s.th + 1) (Int.le_refl _) (by omega) (by omega) (by omega)
      have hpl := putL_len hf hc' k ((k : Int) + tests 5 s.cd) ((k : Int) + tests 5 s.cd + gs s.th + 1)
      obtain ⟨t1, t2⟩ := ht ho (k + tests 5 s.cd) (by omega)
      have hBl : (putL 5 k s.cd ((k : Int) + tests 5 s.cd) ((k : Int) + tests 5 s.cd + gs s.th + 1) ++ g (k + tests 5 s.cd) s.th).length = tests 5 s.cd + gs s.th := by rw [List.length_append, hpl, hl ho]
      obtain ⟨e1, e2⟩ := he ho (k + (tests 5 s.cd + gs s.th) + 1) (by omega)
      simp only [hpl, hBl]
      have hj : GoodA n (k + (tests 5 s.cd + gs s.th)) ⟨21, 0, 0, 0, 0, (k : Int) + tests 5 s.cd + gs s.th + 1 + gs s.el, 0⟩ := by
        refine ⟨.inr (.inl ⟨rfl, rfl, rfl, ⟨rfl, rfl⟩, ⟨?_, ?_⟩, rfl⟩), ⟨by show I64 21; unfold I64; decide, i64z', i64z', by show U32 0; unfold U32; decide, i64z', ?_, i64z'⟩⟩
        · show ((k + (tests 5 s.cd + gs s.th) : Nat) : Int) < (k : Int) + tests 5 s.cd + gs s.th + 1 + gs s.el
          push_cast; omega
        · show (k : Int) + tests 5 s.cd + gs s.th + 1 + gs s.el < n
          omega
        · show I64 ((k : Int) + tests 5 s.cd + gs s.th + 1 + gs s.el)
          unfold I64; omega
      refine ⟨At.app (At.app (At.app (hP.imp fun i s h => ⟨h.1, h.2.1⟩) (by rw [hpl]; exact t1)) (by rw [hBl]; exact At.one hj)) ?_, ?_⟩
      · rw [List.length_append, hBl]
        exact e1
      · rw [cnt_app, cnt_app, cnt_app, cnt_all hP, hpl, t2, e2]
        show tests 5 s.cd + gt s.th + 0 + gt s.el = _
        omega
  · rw [if_neg ho] at hk
    rw [if_neg ho, if_neg ho]
    have ha := hA ho
    have hr := act_range ha
    have e20 : 20 + s.op - 20 = s.op := by omega
    refine ⟨At.one ?_, ?_⟩
    · by_cases h3 : 3 < s.op
      · rw [if_pos h3]
        refine ⟨.inr (.inr (.inr ⟨⟨?_, ?_⟩, by rw [e20]; exact ha, ⟨rfl, rfl⟩, ⟨?_, ?_⟩, rfl⟩)), ⟨?_, hs.n, hs.m, by show U32 0; unfold U32; decide, i64z', ?_, i64z'⟩⟩
        · show 24 ≤ 20 + s.op; omega
        · show 20 + s.op ≤ 29; omega
        · show (k : Int) < (k : Int) + 1; omega
        · show (k : Int) + 1 < n; omega
        · show I64 (20 + s.op); unfold I64; omega
        · show I64 ((k : Int) + 1); unfold I64; omega
      · rw [if_neg h3]
        refine ⟨.inr (.inr (.inl ⟨?_, by rw [e20]; exact ha, ⟨rfl, rfl⟩, rfl, rfl⟩)), ⟨?_, hs.n, hs.m, by show U32 0; unfold U32; decide, i64z', i64z', i64z'⟩⟩
        · show 20 + s.op = 22 ∨ 20 + s.op = 23; omega
        · show I64 (20 + s.op); unfold I64; omega
    · unfold cnt
      rw [List.countP_cons, List.countP_nil, if_neg]
      simp only [decide_eq_true_eq]
      omega
theorem codeG_ok {n : Nat} {g : Nat → List St → List Sp} {gs gt : List St → Nat} : ∀ {l : List St} {k : Nat}, (∀ s ∈ l, ∀ k, (codeS g gs k s).length = sizeG gs s) → (∀ s ∈ l, ∀ k, k + sizeG gs s < n → At (GoodA n) k (codeS g gs k s) ∧ cnt (codeS g gs k s) = testG gt s) → k + (l.map (sizeG gs)).sum < n → At (GoodA n) k (codeG g gs k l) ∧ cnt (codeG g gs k l) = (l.map (testG gt)).sum
  | [], _, _, _, _ => ⟨At.nil, rfl⟩
  | s :: r, k, hl, h, hk => by
    simp only [List.map_cons, List.sum_cons] at hk ⊢
    obtain ⟨a1, a2⟩ := h s (by simp) k (by omega)
    have hls := hl s (by simp) k
    obtain ⟨b1, b2⟩ := codeG_ok (k := k + (codeS g gs k s).length) (fun z hz => hl z (List.mem_cons_of_mem _ hz)) (fun z hz => h z (List.mem_cons_of_mem _ hz)) (by omega)
    rw [codeG]
    exact ⟨a1.app b1, by rw [cnt_app, a2, b2]⟩
theorem code_ok {n : Nat} (hn : n ≤ 5000) : ∀ {d : Nat} {l : List St}, LsF d l → rightB d l = true → ∀ k, k + sizeL d l < n → At (GoodA n) k (codeL d k l) ∧ cnt (codeL d k l) = testL d l
  | 0, _, _, _, _, _ => ⟨At.nil, rfl⟩
  | d + 1, l, h, hr, k, hk => by
    refine codeG_ok (fun s hs k => ?_) (fun s hs k hk => ?_) hk
    · obtain ⟨_, h2, h3, h4⟩ := h.2 s hs
      obtain ⟨r1, _⟩ := right_st h hr hs
      exact codeS_len (fun ho k X Y => putL_len h2 (r1 ho).2.1 k X Y) (fun ho k => codeL_len h3 (r1 ho).2.2.1 k) (fun ho k => codeL_len h4 (r1 ho).2.2.2 k) (fun h0 => by rw [List.eq_nil_of_length_eq_zero h0]; cases d <;> rfl) k
    · obtain ⟨h1, h2, h3, h4⟩ := h.2 s hs
      obtain ⟨r1, r2⟩ := right_st h hr hs
      exact codeS_ok hn h1 (fun ho => (r2 ho).1) h2 (fun ho => (r1 ho).2.1) (fun ho k => codeL_len h3 (r1 ho).2.2.1 k) (fun h0 => by rw [List.eq_nil_of_length_eq_zero h0]; cases d <;> exact ⟨rfl, rfl⟩) (fun ho k hk => code_ok hn h3 (r1 ho).2.2.1 k hk) (fun ho k hk => code_ok hn h4 (r1 ho).2.2.2 k hk) hk
theorem make_ok {l : List St} (h : LsF 5 l) (hr : rightB 5 l = true) (hs : sizeL 5 l < 4096) : checkE (makeT l) = 0 ∧ testsN (makeT l) = testL 5 l ∧ ∀ s ∈ makeT l, SpN s := by
  have e1 : makeT l = codeL 5 0 l ++ [endS] := by unfold makeT; rw [if_pos ⟨hr, hs⟩]
  have hcl := codeL_len h hr 0
  have hn : (makeT l).length = sizeL 5 l + 1 := by rw [e1, List.length_append, hcl]; rfl
  obtain ⟨a1, a2⟩ := code_ok (n := (makeT l).length) (by omega) h hr 0 (by omega)
  have hend : GoodA (makeT l).length (0 + (codeL 5 0 l).length) endS := by
    refine ⟨.inr (.inr (.inl ⟨.inr rfl, by decide, ⟨rfl, rfl⟩, rfl, rfl⟩)), ⟨by show I64 23; unfold I64; decide, i64z', i64z', by show U32 0; unfold U32; decide, i64z', i64z', i64z'⟩⟩
  have hall : At (GoodA (makeT l).length) 0 (makeT l) := by
    have := a1.app (At.one hend)
    rw [← e1] at this
    exact this
  have hc : checkE (makeT l) = 0 := by
    refine checkE_ok (by omega) (fun i hi s hs => ?_) (s := endS) ?_ (.inr rfl)
    · have := (hall i s hs).1
      rwa [Nat.zero_add] at this
    · rw [hn, Nat.add_sub_cancel, e1, ← hcl]; simp
  refine ⟨hc, ?_, fun s hs => ?_⟩
  · unfold testsN
    rw [if_pos hc, e1, cnt_app, a2]
    rfl
  · obtain ⟨i, hi, rfl⟩ := List.mem_iff_getElem.1 hs
    exact (hall i _ (List.getElem?_eq_getElem hi)).2
end Go.Proofs.Yteekbpohocfmpaa
