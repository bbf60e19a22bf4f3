/-
  Ru2, Ru22, Ru23: merged.
-/
import Derived.Test.YtmbgbhambgoejaaZRunMeans24
namespace Go.Proofs.Ytmbgbhambgoejaa.C
set_option linter.unusedSimpArgs false
set_option linter.unusedVariables false
open Go.RowKit Go.Pm
def Has (T : List Sp) (k : Nat) (P : List Sp) : Prop := ∀ (i : Nat) (s : Sp), P[i]? = some s → T[k + i]? = some s
theorem Has.left {T A B : List Sp} {k : Nat} (h : Has T k (A ++ B)) : Has T k A := fun i s hs => h i s (by rw [List.getElem?_append_left (List.getElem?_eq_some_iff.1 hs).1]; exact hs)
theorem Has.right {T A B : List Sp} {k : Nat} (h : Has T k (A ++ B)) : Has T (k + A.length) B := fun i s hs => by
  have := h (A.length + i) s (by rw [List.getElem?_append_right (by omega), Nat.add_sub_cancel_left]; exact hs)
  rwa [show k + A.length + i = k + (A.length + i) by omega]
theorem leaf_play {T : List Sp} (hT : RightT T) {p : Pf} {x : Nf} {c : Cd} {k : Nat} {X Y : Int} (ho : c.op ≤ 12) (h : T[k]? = some (leafS c X Y)) : (playW T p k x).1 = (playW T p (if testN c.op c.n (c.pa, c.pl) p x then X else Y).toNat x).1 := by
  have hn : nextN (leafS c X Y) p x = some ((if testN c.op c.n (c.pa, c.pl) p x then X else Y), x) := by
    unfold nextN
    rw [if_pos (by exact ho)]
    rfl
  rw [playW_step h (hT k _ h) (by show c.op ≠ 22; omega) (by show c.op ≠ 23; omega) hn]
theorem seq_all {T : List Sp} {p : Pf} {x : Nf} {f : Nat → Cd → Int → Int → List Sp} {t : Cd → Nat} {g : Cd → Bool} {X Y : Int} : ∀ {l : List Cd} {k : Nat}, l ≠ [] → (∀ y ∈ l, ∀ k X Y, (f k y X Y).length = t y) → (∀ y ∈ l, ∀ k X Y, Has T k (f k y X Y) → (playW T p k x).1 = (playW T p (if g y then X else Y).toNat x).1) → Has T k (seqP f t false X Y k l) → (playW T p k x).1 = (playW T p (if l.all g then X else Y).toNat x).1
  | [], _, h, _, _, _ => absurd rfl h
  | y :: r, k, _, hf, hg, hH => by
    simp only [seqP, Bool.false_eq_true, if_false] at hH
    have h1 := hg y (by simp) k _ _ hH.left
    have h2 := hH.right
    rw [hf y (by simp)] at h2
    rw [List.all_cons]
    by_cases hr : r = []
    · subst hr
      rw [h1, if_pos rfl]
      simp
    · rw [if_neg hr] at h1
      have ih := seq_all (X := X) (Y := Y) hr (fun z hz => hf z (List.mem_cons_of_mem _ hz)) (fun z hz => hg z (List.mem_cons_of_mem _ hz)) h2
      cases hy : g y with
      | true =>
        rw [hy, if_pos rfl, show ((k : Int) + t y).toNat = k + t y by omega, ih] at h1
        rw [h1, Bool.true_and]
      | false =>
        rw [hy] at h1
        rw [h1, Bool.false_and]
        rfl
theorem seq_any {T : List Sp} {p : Pf} {x : Nf} {f : Nat → Cd → Int → Int → List Sp} {t : Cd → Nat} {g : Cd → Bool} {X Y : Int} : ∀ {l : List Cd} {k : Nat}, l ≠ [] → (∀ y ∈ l, ∀ k X Y, (f k y X Y).length = t y) → (∀ y ∈ l, ∀ k X Y, Has T k (f k y X Y) → (playW T p k x).1 = (playW T p (if g y then X else Y).toNat x).1) → Has T k (seqP f t true X Y k l) → (playW T p k x).1 = (playW T p (if l.any g then X else Y).toNat x).1
  | [], _, h, _, _, _ => absurd rfl h
  | y :: r, k, _, hf, hg, hH => by
    simp only [seqP, if_true] at hH
    have h1 := hg y (by simp) k _ _ hH.left
    have h2 := hH.right
    rw [hf y (by simp)] at h2
    rw [List.any_cons]
    by_cases hr : r = []
    · subst hr
      rw [h1, if_pos rfl]
      simp
    · rw [if_neg hr] at h1
      have ih := seq_any (X := X) (Y := Y) hr (fun z hz => hf z (List.mem_cons_of_mem _ hz)) (fun z hz => hg z (List.mem_cons_of_mem _ hz)) h2
      cases hy : g y with
      | false =>
        rw [hy, if_neg (by simp), show ((k : Int) + t y).toNat = k + t y by omega, ih] at h1
        rw [h1, Bool.false_or]
      | true =>
        rw [hy] at h1
        rw [h1, Bool.true_or]
        rfl
theorem holdsN_eq {d : Nat} {c : Cd} (h : CdF d c) (p : Pf) (x : Nf) : holdsN p x d c = holdsG (holdsN p x (d - 1)) p x c := by
  cases d with
  | zero => unfold holdsN holdsG; rw [h.2]; simp
  | succ d => rfl
theorem cond_play {T : List Sp} (hT : RightT T) {p : Pf} {x : Nf} : ∀ {d : Nat} {c : Cd}, CdF d c → condB d c = true → ∀ (k : Nat) (X Y : Int), Has T k (putL d k c X Y) → (playW T p k x).1 = (playW T p (if holdsN p x d c then X else Y).toNat x).1
  | d, c, h, hc, k, X, Y, hH => by
    rw [putL_eq h hc, putG] at hH
    rw [holdsN_eq h, holdsG]
    by_cases ho : 1 ≤ c.op ∧ c.op ≤ 3
    · cases d with
      | zero => exact absurd ho (cond_zero h hc)
      | succ d =>
        obtain ⟨c1, c2, c3⟩ := cond_head h hc ho
        simp only [Nat.add_sub_cancel] at hH c3 ⊢
        have hf : ∀ y ∈ c.l, ∀ k X Y, (putL d k y X Y).length = tests d y := fun y hy k X Y => putL_len (h.2.2 y hy) (c3 y hy) k X Y
        have hg : ∀ y ∈ c.l, ∀ k X Y, Has T k (putL d k y X Y) → (playW T p k x).1 = (playW T p (if holdsN p x d y then X else Y).toNat x).1 := fun y hy k X Y hH => cond_play hT (h.2.2 y hy) (c3 y hy) k X Y hH
        have hne : c.l ≠ [] := fun e => by
          rw [e] at c1 c2
          simp only [List.length_nil] at c1 c2
          omega
        by_cases o1 : c.op = 1
        · rw [if_pos o1] at hH ⊢
          exact seq_all hne hf hg hH
        · rw [if_neg o1] at hH ⊢
          by_cases o2 : c.op = 2
          · rw [if_pos o2] at hH ⊢
            exact seq_any hne hf hg hH
          · rw [if_neg o2, if_pos (show c.op = 3 by omega)] at hH ⊢
            obtain ⟨y, r, hyr⟩ := List.exists_cons_of_ne_nil hne
            rw [hyr] at hH hg ⊢
            have h5 := hg y (by simp) k Y X hH
            rw [h5]
            simp only [List.head?_cons, Option.elim_some]
            refine congrArg (fun z : Int => (playW T p z.toNat x).1) ?_
            by_cases hb : holdsN p x d y = true <;> simp [hb]
    · obtain ⟨e1, e2⟩ := cond_leaf h hc ho
      rw [if_neg (show ¬ c.op = 1 by omega), if_neg (show ¬ c.op = 2 by omega), if_neg (show ¬ c.op = 3 by omega)] at hH ⊢
      have e3 : 4 ≤ c.op ∧ c.op ≤ 12 := by unfold TestOk at e2; omega
      exact leaf_play hT e3.2 (hH 0 _ rfl)
termination_by d => d
def fin (T : List Sp) (p : Pf) (e : Nat) (r : Nf × Bool × Bool) : Option Nf := if r.2.1 then (if r.2.2 then some r.1 else none) else (playW T p e r.1).1
theorem stmt_play {T : List Sp} (hT : RightT T) {p : Pf} {g : Nat → List St → List Sp} {gs : List St → Nat} {gm : List St → Nf → Nf × Bool × Bool} {s : St} (hA : s.op ≠ 1 → ActOk s.op s.n s.m) (hf : CdF 5 s.cd) (hc : s.op = 1 → condB 5 s.cd = true)
    (hl : s.op = 1 → ∀ k, (g k s.th).length = gs s.th) (h0 : s.el.length = 0 → gs s.el = 0 ∧ ∀ x, gm s.el x = (x, false, false))
    (ht : s.op = 1 → ∀ k x, Has T k (g k s.th) → (playW T p k x).1 = fin T p (k + gs s.th) (gm s.th x))
    (he : s.op = 1 → ∀ k x, Has T k (g k s.el) → (playW T p k x).1 = fin T p (k + gs s.el) (gm s.el x))
    (k : Nat) (x : Nf) (hH : Has T k (codeS g gs k s)) : (playW T p k x).1 = fin T p (k + sizeG gs s) (stepM p gm s x) := by
  unfold codeS at hH
  unfold sizeG stepM
  by_cases ho : s.op = 1
  · rw [if_pos ho] at hH
    rw [if_neg (show ¬ s.op = 2 by omega), if_neg (show ¬ s.op = 3 by omega), if_pos ho, if_pos ho]
    by_cases hz : s.el.length = 0
    · obtain ⟨z1, z2⟩ := h0 hz
      rw [if_pos hz] at hH
      rw [if_neg (show ¬ 0 < s.el.length by omega), z1]
      have hP := cond_play hT (x := x) (p := p) hf (hc ho) k _ _ hH.left
      have hR := hH.right
      rw [putL_len hf (hc ho)] at hR
      rw [hP]
      cases holdsN p x 5 s.cd with
      | true =>
        rw [if_pos rfl, if_pos rfl, show ((k : Int) + tests 5 s.cd).toNat = k + tests 5 s.cd by omega, ht ho _ _ hR]
        congr 1
        omega
      | false =>
        rw [if_neg (by simp), if_neg (by simp), z2, show ((k : Int) + tests 5 s.cd + gs s.th).toNat = k + (tests 5 s.cd + gs s.th + 0 + 0) by omega]
        rfl
    · rw [if_neg hz] at hH
      rw [if_pos (show 0 < s.el.length by omega)]
      have hP := cond_play hT (x := x) (p := p) hf (hc ho) k _ _ hH.left.left.left
      have hR := hH.left.left.right
      have hJ := hH.left.right
      have hE := hH.right
      simp only [List.length_append, putL_len hf (hc ho), hl ho, List.length_cons, List.length_nil] at hR hJ hE
      rw [hP]
      cases holdsN p x 5 s.cd with
      | true =>
        rw [if_pos rfl, if_pos rfl, show ((k : Int) + tests 5 s.cd).toNat = k + tests 5 s.cd by omega, ht ho _ _ hR]
        unfold fin
        split
        · rfl
        · have hj := hJ 0 _ rfl
          rw [Nat.add_zero] at hj
          rw [show k + tests 5 s.cd + gs s.th = k + (tests 5 s.cd + gs s.th) by omega, playW_step (y := (gm s.th x).1) hj (hT _ _ hj) (by show (21 : Int) ≠ 22; decide) (by show (21 : Int) ≠ 23; decide) (by unfold nextN; rw [if_neg (show ¬ (21 : Int) ≤ 12 by decide), if_pos rfl])]
          dsimp only
          congr 2
          omega
      | false =>
        rw [if_neg (by simp), if_neg (by simp), show ((k : Int) + tests 5 s.cd + gs s.th + 1).toNat = k + (tests 5 s.cd + gs s.th) + 1 by omega, he ho _ _ (by simpa [Nat.add_assoc] using hE)]
        congr 1
        omega
  · rw [if_neg ho] at hH
    have ha := hA ho
    have hr := act_range ha
    have e20 : 20 + s.op - 20 = s.op := by omega
    have hj := hH 0 _ rfl
    rw [Nat.add_zero] at hj
    by_cases h2 : s.op = 2
    · rw [if_pos h2, playW_acc hj (by show 20 + s.op = 22; omega)]
      rfl
    · by_cases h3 : s.op = 3
      · rw [if_neg h2, if_pos h3, playW_rej hj (by show 20 + s.op = 23; omega)]
        rfl
      · rw [if_neg h2, if_neg h3, if_neg ho, if_neg ho]
        rw [if_pos (show 3 < s.op by omega)] at hj
        have hn : ∀ r, doN s.op s.n s.m x = r → nextN ⟨20 + s.op, s.n, s.m, 0, 0, (k : Int) + 1, 0⟩ p x = r.map fun y => ((k : Int) + 1, y) := fun r hr => by
          unfold nextN
          rw [if_neg (show ¬ 20 + s.op ≤ 12 by omega), if_neg (show ¬ 20 + s.op = 21 by omega)]
          dsimp only
          rw [e20, hr]
        cases hd : doN s.op s.n s.m x with
        | none =>
          rw [playW_no hj (by show 20 + s.op ≠ 22; omega) (hn _ hd)]
          rfl
        | some y =>
          rw [playW_step hj (hT _ _ hj) (by show 20 + s.op ≠ 22; omega) (by show 20 + s.op ≠ 23; omega) (hn _ hd)]
          rfl
theorem list_play {T : List Sp} {p : Pf} {g : Nat → List St → List Sp} {gs : List St → Nat} {gm : List St → Nf → Nf × Bool × Bool} : ∀ {l : List St} {k : Nat} {x : Nf}, (∀ s ∈ l, ∀ k, (codeS g gs k s).length = sizeG gs s) → (∀ s ∈ l, ∀ k x, Has T k (codeS g gs k s) → (playW T p k x).1 = fin T p (k + sizeG gs s) (stepM p gm s x)) → Has T k (codeG g gs k l) → (playW T p k x).1 = fin T p (k + (l.map (sizeG gs)).sum) (meanG p gm l x)
  | [], _, _, _, _, _ => rfl
  | s :: r, k, x, hl, h, hH => by
    rw [codeG] at hH
    have hR := hH.right
    rw [hl s (by simp)] at hR
    rw [h s (by simp) k x hH.left, meanG, List.map_cons, List.sum_cons]
    unfold fin
    cases hs : (stepM p gm s x).2.1 with
    | true => simp only [if_true, hs]
    | false =>
      have ih := list_play (x := (stepM p gm s x).1) (fun z hz => hl z (List.mem_cons_of_mem _ hz)) (fun z hz => h z (List.mem_cons_of_mem _ hz)) hR
      simp only [Bool.false_eq_true, if_false]
      rw [ih]
      unfold fin
      rw [Nat.add_assoc]
theorem code_play {T : List Sp} (hT : RightT T) {p : Pf} : ∀ {d : Nat} {l : List St}, LsF d l → rightB d l = true → ∀ k x, Has T k (codeL d k l) → (playW T p k x).1 = fin T p (k + sizeL d l) (meanL p d l x)
  | 0, l, _, _, k, x, _ => rfl
  | d + 1, l, h, hr, k, x, hH => by
    rw [codeL_eq h] at hH
    rw [sizeL_eq h]
    refine list_play (fun s hs k => ?_) (fun s hs k x hk => ?_) hH
    · obtain ⟨_, h2, h3, h4⟩ := h.2 s hs
      obtain ⟨r1, _⟩ := right_st h hr hs
      exact codeS_len (fun ho k X Y => putL_len h2 (r1 ho).2.1 k X Y) (fun ho k => codeL_len h3 (r1 ho).2.2.1 k) (fun ho k => codeL_len h4 (r1 ho).2.2.2 k) (fun h0 => by rw [List.eq_nil_of_length_eq_zero h0]; cases d <;> rfl) k
    · obtain ⟨h1, h2, h3, h4⟩ := h.2 s hs
      obtain ⟨r1, r2⟩ := right_st h hr hs
      exact stmt_play hT (fun ho => (r2 ho).1) h2 (fun ho => (r1 ho).2.1) (fun ho k => codeL_len h3 (r1 ho).2.2.1 k) (fun h0 => by rw [List.eq_nil_of_length_eq_zero h0]; cases d <;> exact ⟨rfl, fun _ => rfl⟩) (fun ho k x hk => code_play hT h3 (r1 ho).2.2.1 k x hk) (fun ho k x hk => code_play hT h4 (r1 ho).2.2.2 k x hk) k x hk
def accM (r : Nf × Bool × Bool) : Option Nf := if r.2.1 && r.2.2 then some r.1 else none
theorem make_play {l : List St} (h : LsF 5 l) (hr : rightB 5 l = true) (hs : sizeL 5 l < 4096) (p : Pf) (x : Nf) : (playW (makeT l) p 0 x).1 = accM (meanL p 5 l x) := by
  have hT := right_of_check (make_ok h hr hs).1
  have e1 : makeT l = codeL 5 0 l ++ [endS] := by unfold makeT; rw [if_pos ⟨hr, hs⟩]
  have hcl := codeL_len h hr 0
  have hH : Has (makeT l) 0 (codeL 5 0 l ++ [endS]) := fun i s hi => by rw [Nat.zero_add, e1]; exact hi
  have hE := hH.right 0 _ rfl
  rw [hcl, Nat.zero_add, Nat.add_zero] at hE
  rw [code_play hT h hr 0 x hH.left, Nat.zero_add]
  unfold fin accM
  obtain ⟨y, b, c⟩ := meanL p 5 l x
  dsimp only
  cases b with
  | true => cases c <;> rfl
  | false => rw [if_neg (by simp), playW_rej hE rfl]; rfl
end Go.Proofs.Ytmbgbhambgoejaa.C
namespace Go.Proofs.Ytmbgbhambgoejaa.C
set_option linter.unusedSimpArgs false
set_option linter.unusedVariables false
set_option maxRecDepth 20000
set_option maxHeartbeats 4000000
open Go.RowKit Go.Pm

theorem holds_core (x : Cd) (p : Pf) (hp : PfN p) (a : At) (ha : AtF a) (φ : Cd → World → Prop) (g : Cd → Bool) (hx : CdN x) (hl : x.l.length ≤ 5) (h3 : x.op = 3 → x.l ≠ []) (ht : ¬ (1 ≤ x.op ∧ x.op ≤ 3) → TestOk x.op x.n (x.pa, x.pl)) (hP : ∀ y ∈ x.l, Pact Try.prog 24 #[.agg (cdC y).toArray, .agg (pfC p).toArray, .agg (atC a).toArray] (fun w => φ y w ∧ AtV w a) [] (ret0 (.bool (g y)))) : Pact Try.prog 24 #[.agg (cdC x).toArray, .agg (pfC p).toArray, .agg (atC a).toArray] (fun w => Kids φ x w ∧ AtV w a) [] (ret0 (.bool (holdsG g p a.nf x))) := by
  refine pact Try.func24 rfl Try.ntmps24 rfl ?_
  intro W K hK
  unfold holdsG
  by_cases o1 : x.op = 1
  · rw [if_pos o1]
    (repeat' (first | ((with_reducible apply gL); (first | refine yL0 ?_ | refine yL ?_ | (refine yM ?_; intro _) | fail)) | ((with_reducible apply gD); (first | (refine JD_nil ?_; try simp only [List.cons_append, List.nil_append]) | (refine JD_bar ?_; try simp only [List.cons_append, List.nil_append]) | refine yD ?_ | fail)) | refine yJ ?_ | ((with_reducible apply gJ_if); (first | (refine J_if xR ?_ ?_ <;> intro _ <;> (try (exfalso; first | contradiction | omega))) | (refine J_ifb xR ?_ ?_ <;> (intro hgb; subst hgb)) | (refine J_ifb xR ?_ ?_ <;> intro _) | fail)) | refine J_draw (id := 7) [0, 1, 2, 3, 4, 5, 6] [7, 8] mixed xC xD xD ?_ | refine J_draw (id := 14) [0, 1, 2, 3, 4, 5, 6] [7] mixed xC xD xD ?_ | refine J_draw (id := 18) [0, 1, 2, 3, 4, 5] [6, 7, 8] mixed xC xD xD ?_ | fail))
    all_goals (first | (exfalso; omega) | skip)
    rename_i b3 b4 b5 _
    refine J_loop (α := Nat) 0 (fun k => x.l.length - k) (fun k => k ≤ x.l.length ∧ (x.l.take k).all g = true) (fun k => [(3, .pointer (some ⟨b3, 0, none⟩)), (4, .pointer (some ⟨b4, 0, none⟩)), (5, .pointer (some ⟨b5, 0, none⟩)), (7, .int .i64 k)]) (fun _ => [pts b3 (cdC x) 50, pts b4 (pfC p) 28, pts b5 (atC a) 33]) ⟨Nat.zero_le _, rfl⟩ ⟨rfl, rfl, rfl, rfl, trivial⟩ (fun w H => H.sel xZ) ?_
    rintro k ⟨hk, hall⟩
    by_cases hlt : k < x.l.length
    · obtain ⟨y, hs⟩ : ∃ y, x.l[k]? = some y := ⟨_, List.getElem?_eq_getElem hlt⟩
      have hm := List.mem_of_getElem? hs
      have hkv : Kn K (fun w => Vw w (.slice x.a x.l.length x.c) 5 x.l.length (flat cdC x.l)) := hK.imp fun w h => h.1.1 (List.ne_nil_of_mem hm)
      have hPy := hP y hm
      rcases hby : g y with _ | _
      all_goals rw [hby] at hPy
      · (repeat' (first | ((with_reducible apply gL); (first | refine yL0 ?_ | refine yL ?_ | ((with_reducible apply gL_go); (first | (refine JL_goq (hPy) (hφ := (by (try simp only [List.cons_append, List.nil_append]); exact fun w hr => ⟨(hK w hr.1).1.2 y hm, (hK w hr.1).2⟩)) (h := ?_); rintro _ _ ⟨rfl, rfl⟩; try simp only [List.cons_append, List.nil_append]) | fail)) | (refine yM ?_; intro _) | fail)) | ((with_reducible apply gD); (first | (refine JD_nil ?_; try simp only [List.cons_append, List.nil_append]) | (refine JD_bar ?_; try simp only [List.cons_append, List.nil_append]) | refine yD ?_ | ((with_reducible apply gD_go); (first | (refine JD_goq (hPy) (hφ := (by (try simp only [List.cons_append, List.nil_append]); exact fun w hr => ⟨(hK w hr.1).1.2 y hm, (hK w hr.1).2⟩)) (h := ?_); rintro _ _ ⟨rfl, rfl⟩; try simp only [List.cons_append, List.nil_append]) | fail)) | fail)) | refine yJ ?_ | ((with_reducible apply gJ_if); (first | (refine J_if xR ?_ ?_ <;> intro _ <;> (try (exfalso; first | contradiction | omega))) | (refine J_ifb xR ?_ ?_ <;> (intro hgb; subst hgb)) | (refine J_ifb xR ?_ ?_ <;> intro _) | fail)) | refine J_draw (id := 7) [0, 1, 2, 3, 4, 5, 6] [7, 8] mixed xC xD xD ?_ | refine J_draw (id := 14) [0, 1, 2, 3, 4, 5, 6] [7] mixed xC xD xD ?_ | refine J_draw (id := 18) [0, 1, 2, 3, 4, 5] [6, 7, 8] mixed xC xD xD ?_ | fail))
        exact J_ret1 rfl (by rfl) fun w H => ⟨_, ⟨by rw [all_no hm hby], rfl⟩, H.sel .nil⟩
      · (repeat' (first | ((with_reducible apply gL); (first | refine yL0 ?_ | refine yL ?_ | ((with_reducible apply gL_go); (first | (refine JL_goq (hPy) (hφ := (by (try simp only [List.cons_append, List.nil_append]); exact fun w hr => ⟨(hK w hr.1).1.2 y hm, (hK w hr.1).2⟩)) (h := ?_); rintro _ _ ⟨rfl, rfl⟩; try simp only [List.cons_append, List.nil_append]) | fail)) | (refine yM ?_; intro _) | fail)) | ((with_reducible apply gD); (first | (refine JD_nil ?_; try simp only [List.cons_append, List.nil_append]) | (refine JD_bar ?_; try simp only [List.cons_append, List.nil_append]) | refine yD ?_ | ((with_reducible apply gD_go); (first | (refine JD_goq (hPy) (hφ := (by (try simp only [List.cons_append, List.nil_append]); exact fun w hr => ⟨(hK w hr.1).1.2 y hm, (hK w hr.1).2⟩)) (h := ?_); rintro _ _ ⟨rfl, rfl⟩; try simp only [List.cons_append, List.nil_append]) | fail)) | fail)) | refine yJ ?_ | ((with_reducible apply gJ_if); (first | (refine J_if xR ?_ ?_ <;> intro _ <;> (try (exfalso; first | contradiction | omega))) | (refine J_ifb xR ?_ ?_ <;> (intro hgb; subst hgb)) | (refine J_ifb xR ?_ ?_ <;> intro _) | fail)) | refine J_draw (id := 7) [0, 1, 2, 3, 4, 5, 6] [7, 8] mixed xC xD xD ?_ | refine J_draw (id := 14) [0, 1, 2, 3, 4, 5, 6] [7] mixed xC xD xD ?_ | refine J_draw (id := 18) [0, 1, 2, 3, 4, 5] [6, 7, 8] mixed xC xD xD ?_ | fail))
        exact J_again (k + 1) (by omega) ⟨by omega, all_take hs hall hby⟩ ⟨rfl, rfl, rfl, rfl, trivial⟩ (fun w H => H.sel xZ)
    · obtain rfl : k = x.l.length := by omega
      rw [List.take_length] at hall
      rw [hall]
      (repeat' (first | ((with_reducible apply gL); (first | refine yL0 ?_ | refine yL ?_ | (refine yM ?_; intro _) | fail)) | ((with_reducible apply gD); (first | (refine JD_nil ?_; try simp only [List.cons_append, List.nil_append]) | (refine JD_bar ?_; try simp only [List.cons_append, List.nil_append]) | refine yD ?_ | fail)) | refine yJ ?_ | ((with_reducible apply gJ_if); (first | (refine J_if xR ?_ ?_ <;> intro _ <;> (try (exfalso; first | contradiction | omega))) | (refine J_ifb xR ?_ ?_ <;> (intro hgb; subst hgb)) | (refine J_ifb xR ?_ ?_ <;> intro _) | fail)) | refine J_draw (id := 7) [0, 1, 2, 3, 4, 5, 6] [7, 8] mixed xC xD xD ?_ | refine J_draw (id := 14) [0, 1, 2, 3, 4, 5, 6] [7] mixed xC xD xD ?_ | refine J_draw (id := 18) [0, 1, 2, 3, 4, 5] [6, 7, 8] mixed xC xD xD ?_ | fail))
      exact J_ret1 rfl (by rfl) fun w H => ⟨_, ⟨rfl, rfl⟩, H.sel .nil⟩
  rw [if_neg o1]
  by_cases o2 : x.op = 2
  · rw [if_pos o2]
    (repeat' (first | ((with_reducible apply gL); (first | refine yL0 ?_ | refine yL ?_ | (refine yM ?_; intro _) | fail)) | ((with_reducible apply gD); (first | (refine JD_nil ?_; try simp only [List.cons_append, List.nil_append]) | (refine JD_bar ?_; try simp only [List.cons_append, List.nil_append]) | refine yD ?_ | fail)) | refine yJ ?_ | ((with_reducible apply gJ_if); (first | (refine J_if xR ?_ ?_ <;> intro _ <;> (try (exfalso; first | contradiction | omega))) | (refine J_ifb xR ?_ ?_ <;> (intro hgb; subst hgb)) | (refine J_ifb xR ?_ ?_ <;> intro _) | fail)) | refine J_draw (id := 7) [0, 1, 2, 3, 4, 5, 6] [7, 8] mixed xC xD xD ?_ | refine J_draw (id := 14) [0, 1, 2, 3, 4, 5, 6] [7] mixed xC xD xD ?_ | refine J_draw (id := 18) [0, 1, 2, 3, 4, 5] [6, 7, 8] mixed xC xD xD ?_ | fail))
    all_goals (first | (exfalso; omega) | skip)
    rename_i b3 b4 b5 _ _
    refine J_loop (α := Nat) 0 (fun k => x.l.length - k) (fun k => k ≤ x.l.length ∧ (x.l.take k).any g = false) (fun k => [(3, .pointer (some ⟨b3, 0, none⟩)), (4, .pointer (some ⟨b4, 0, none⟩)), (5, .pointer (some ⟨b5, 0, none⟩)), (8, .int .i64 k)]) (fun _ => [pts b3 (cdC x) 50, pts b4 (pfC p) 28, pts b5 (atC a) 33]) ⟨Nat.zero_le _, rfl⟩ ⟨rfl, rfl, rfl, rfl, trivial⟩ (fun w H => H.sel xZ) ?_
    rintro k ⟨hk, hall⟩
    by_cases hlt : k < x.l.length
    · obtain ⟨y, hs⟩ : ∃ y, x.l[k]? = some y := ⟨_, List.getElem?_eq_getElem hlt⟩
      have hm := List.mem_of_getElem? hs
      have hkv : Kn K (fun w => Vw w (.slice x.a x.l.length x.c) 5 x.l.length (flat cdC x.l)) := hK.imp fun w h => h.1.1 (List.ne_nil_of_mem hm)
      have hPy := hP y hm
      rcases hby : g y with _ | _
      all_goals rw [hby] at hPy
      · (repeat' (first | ((with_reducible apply gL); (first | refine yL0 ?_ | refine yL ?_ | ((with_reducible apply gL_go); (first | (refine JL_goq (hPy) (hφ := (by (try simp only [List.cons_append, List.nil_append]); exact fun w hr => ⟨(hK w hr.1).1.2 y hm, (hK w hr.1).2⟩)) (h := ?_); rintro _ _ ⟨rfl, rfl⟩; try simp only [List.cons_append, List.nil_append]) | fail)) | (refine yM ?_; intro _) | fail)) | ((with_reducible apply gD); (first | (refine JD_nil ?_; try simp only [List.cons_append, List.nil_append]) | (refine JD_bar ?_; try simp only [List.cons_append, List.nil_append]) | refine yD ?_ | ((with_reducible apply gD_go); (first | (refine JD_goq (hPy) (hφ := (by (try simp only [List.cons_append, List.nil_append]); exact fun w hr => ⟨(hK w hr.1).1.2 y hm, (hK w hr.1).2⟩)) (h := ?_); rintro _ _ ⟨rfl, rfl⟩; try simp only [List.cons_append, List.nil_append]) | fail)) | fail)) | refine yJ ?_ | ((with_reducible apply gJ_if); (first | (refine J_if xR ?_ ?_ <;> intro _ <;> (try (exfalso; first | contradiction | omega))) | (refine J_ifb xR ?_ ?_ <;> (intro hgb; subst hgb)) | (refine J_ifb xR ?_ ?_ <;> intro _) | fail)) | refine J_draw (id := 7) [0, 1, 2, 3, 4, 5, 6] [7, 8] mixed xC xD xD ?_ | refine J_draw (id := 14) [0, 1, 2, 3, 4, 5, 6] [7] mixed xC xD xD ?_ | refine J_draw (id := 18) [0, 1, 2, 3, 4, 5] [6, 7, 8] mixed xC xD xD ?_ | fail))
        exact J_again (k + 1) (by omega) ⟨by omega, any_take hs hall hby⟩ ⟨rfl, rfl, rfl, rfl, trivial⟩ (fun w H => H.sel xZ)
      · (repeat' (first | ((with_reducible apply gL); (first | refine yL0 ?_ | refine yL ?_ | ((with_reducible apply gL_go); (first | (refine JL_goq (hPy) (hφ := (by (try simp only [List.cons_append, List.nil_append]); exact fun w hr => ⟨(hK w hr.1).1.2 y hm, (hK w hr.1).2⟩)) (h := ?_); rintro _ _ ⟨rfl, rfl⟩; try simp only [List.cons_append, List.nil_append]) | fail)) | (refine yM ?_; intro _) | fail)) | ((with_reducible apply gD); (first | (refine JD_nil ?_; try simp only [List.cons_append, List.nil_append]) | (refine JD_bar ?_; try simp only [List.cons_append, List.nil_append]) | refine yD ?_ | ((with_reducible apply gD_go); (first | (refine JD_goq (hPy) (hφ := (by (try simp only [List.cons_append, List.nil_append]); exact fun w hr => ⟨(hK w hr.1).1.2 y hm, (hK w hr.1).2⟩)) (h := ?_); rintro _ _ ⟨rfl, rfl⟩; try simp only [List.cons_append, List.nil_append]) | fail)) | fail)) | refine yJ ?_ | ((with_reducible apply gJ_if); (first | (refine J_if xR ?_ ?_ <;> intro _ <;> (try (exfalso; first | contradiction | omega))) | (refine J_ifb xR ?_ ?_ <;> (intro hgb; subst hgb)) | (refine J_ifb xR ?_ ?_ <;> intro _) | fail)) | refine J_draw (id := 7) [0, 1, 2, 3, 4, 5, 6] [7, 8] mixed xC xD xD ?_ | refine J_draw (id := 14) [0, 1, 2, 3, 4, 5, 6] [7] mixed xC xD xD ?_ | refine J_draw (id := 18) [0, 1, 2, 3, 4, 5] [6, 7, 8] mixed xC xD xD ?_ | fail))
        exact J_ret1 rfl (by rfl) fun w H => ⟨_, ⟨by rw [any_yes hm hby], rfl⟩, H.sel .nil⟩
    · obtain rfl : k = x.l.length := by omega
      rw [List.take_length] at hall
      rw [hall]
      (repeat' (first | ((with_reducible apply gL); (first | refine yL0 ?_ | refine yL ?_ | (refine yM ?_; intro _) | fail)) | ((with_reducible apply gD); (first | (refine JD_nil ?_; try simp only [List.cons_append, List.nil_append]) | (refine JD_bar ?_; try simp only [List.cons_append, List.nil_append]) | refine yD ?_ | fail)) | refine yJ ?_ | ((with_reducible apply gJ_if); (first | (refine J_if xR ?_ ?_ <;> intro _ <;> (try (exfalso; first | contradiction | omega))) | (refine J_ifb xR ?_ ?_ <;> (intro hgb; subst hgb)) | (refine J_ifb xR ?_ ?_ <;> intro _) | fail)) | refine J_draw (id := 7) [0, 1, 2, 3, 4, 5, 6] [7, 8] mixed xC xD xD ?_ | refine J_draw (id := 14) [0, 1, 2, 3, 4, 5, 6] [7] mixed xC xD xD ?_ | refine J_draw (id := 18) [0, 1, 2, 3, 4, 5] [6, 7, 8] mixed xC xD xD ?_ | fail))
      exact J_ret1 rfl (by rfl) fun w H => ⟨_, ⟨rfl, rfl⟩, H.sel .nil⟩
  rw [if_neg o2]
  by_cases o3 : x.op = 3
  · rw [if_pos o3]
    obtain ⟨y, r, hyr⟩ := List.exists_cons_of_ne_nil (h3 o3)
    have hs : x.l[0]? = some y := by rw [hyr]; rfl
    have hm := List.mem_of_getElem? hs
    have hkv : Kn K (fun w => Vw w (.slice x.a x.l.length x.c) 5 x.l.length (flat cdC x.l)) := hK.imp fun w h => h.1.1 (List.ne_nil_of_mem hm)
    have hll : 0 < x.l.length := by rw [hyr]; simp
    have hPy := hP y hm
    have e : x.l.head?.elim false g = g y := by rw [hyr]; rfl
    rw [e]
    rcases hby : g y with _ | _
    all_goals rw [hby] at hPy
    all_goals (
      (repeat' (first | ((with_reducible apply gL); (first | refine yL0 ?_ | refine yL ?_ | ((with_reducible apply gL_go); (first | (refine JL_goq (hPy) (hφ := (by (try simp only [List.cons_append, List.nil_append]); exact fun w hr => ⟨(hK w hr.1).1.2 y hm, (hK w hr.1).2⟩)) (h := ?_); rintro _ _ ⟨rfl, rfl⟩; try simp only [List.cons_append, List.nil_append]) | fail)) | (refine yM ?_; intro _) | fail)) | ((with_reducible apply gD); (first | (refine JD_nil ?_; try simp only [List.cons_append, List.nil_append]) | (refine JD_bar ?_; try simp only [List.cons_append, List.nil_append]) | refine yD ?_ | ((with_reducible apply gD_go); (first | (refine JD_goq (hPy) (hφ := (by (try simp only [List.cons_append, List.nil_append]); exact fun w hr => ⟨(hK w hr.1).1.2 y hm, (hK w hr.1).2⟩)) (h := ?_); rintro _ _ ⟨rfl, rfl⟩; try simp only [List.cons_append, List.nil_append]) | fail)) | fail)) | refine yJ ?_ | ((with_reducible apply gJ_if); (first | (refine J_if xR ?_ ?_ <;> intro _ <;> (try (exfalso; first | contradiction | omega))) | (refine J_ifb xR ?_ ?_ <;> (intro hgb; subst hgb)) | (refine J_ifb xR ?_ ?_ <;> intro _) | fail)) | refine J_draw (id := 7) [0, 1, 2, 3, 4, 5, 6] [7, 8] mixed xC xD xD ?_ | refine J_draw (id := 14) [0, 1, 2, 3, 4, 5, 6] [7] mixed xC xD xD ?_ | refine J_draw (id := 18) [0, 1, 2, 3, 4, 5] [6, 7, 8] mixed xC xD xD ?_ | fail))
      all_goals (first | (exfalso; omega) | skip)
      exact J_ret1 rfl (by rfl) fun w H => ⟨_, ⟨rfl, rfl⟩, H.sel .nil⟩)
  rw [if_neg o3]
  have hto := ht (by omega)
  have h412 : 4 ≤ x.op ∧ x.op ≤ 12 := by unfold TestOk at hto; omega
  (repeat' (first | ((with_reducible apply gL); (first | refine yL0 ?_ | refine yL ?_ | ((with_reducible apply gL_go); (first | (refine JL_goq (qtest_s x.op x.n (x.pa, x.pl) p ⟨hx.pa, hx.pl⟩ hp a ha h412 hto) (hφ := (by (try simp only [List.cons_append, List.nil_append]); exact fun w hr => (hK w hr.1).2)) (h := ?_); rintro _ _ ⟨rfl, rfl⟩; try simp only [List.cons_append, List.nil_append]) | fail)) | (refine yM ?_; intro _) | fail)) | ((with_reducible apply gD); (first | (refine JD_nil ?_; try simp only [List.cons_append, List.nil_append]) | (refine JD_bar ?_; try simp only [List.cons_append, List.nil_append]) | refine yD ?_ | ((with_reducible apply gD_go); (first | (refine JD_goq (qtest_s x.op x.n (x.pa, x.pl) p ⟨hx.pa, hx.pl⟩ hp a ha h412 hto) (hφ := (by (try simp only [List.cons_append, List.nil_append]); exact fun w hr => (hK w hr.1).2)) (h := ?_); rintro _ _ ⟨rfl, rfl⟩; try simp only [List.cons_append, List.nil_append]) | fail)) | fail)) | refine yJ ?_ | ((with_reducible apply gJ_if); (first | (refine J_if xR ?_ ?_ <;> intro _ <;> (try (exfalso; first | contradiction | omega))) | (refine J_ifb xR ?_ ?_ <;> (intro hgb; subst hgb)) | (refine J_ifb xR ?_ ?_ <;> intro _) | fail)) | refine J_draw (id := 7) [0, 1, 2, 3, 4, 5, 6] [7, 8] mixed xC xD xD ?_ | refine J_draw (id := 14) [0, 1, 2, 3, 4, 5, 6] [7] mixed xC xD xD ?_ | refine J_draw (id := 18) [0, 1, 2, 3, 4, 5] [6, 7, 8] mixed xC xD xD ?_ | fail))
  all_goals (first | (exfalso; omega) | skip)
  exact J_ret1 rfl (by rfl) fun w H => ⟨_, ⟨rfl, rfl⟩, H.sel .nil⟩
theorem holds_s (p : Pf) (hp : PfN p) (a : At) (ha : AtF a) : ∀ (d : Nat) (x : Cd), CdF d x → condB d x = true → Pact Try.prog 24 #[.agg (cdC x).toArray, .agg (pfC p).toArray, .agg (atC a).toArray] (fun w => CdV w d x ∧ AtV w a) [] (ret0 (.bool (holdsN p a.nf d x))) := by
  intro d
  induction d with
  | zero =>
    intro x hx hc
    have hno : ∀ s ∈ x.l, False := fun s hs => by rw [hx.2] at hs; cases hs
    have hz := cond_zero hx hc
    rw [holdsN_eq hx]
    refine preP (holds_core x p hp a ha (fun y w => CdV w (0 - 1) y) (holdsN p a.nf (0 - 1)) hx.nn hx.len (fun h => by omega) (fun h => (cond_leaf hx hc h).2) (fun y hy => (hno y hy).elim)) fun w h => ⟨hx.kids h.1, h.2⟩
  | succ d ih =>
    intro x hx hc
    have hk : ∀ y ∈ x.l, condB d y = true := fun y hy => by
      by_cases ho : 1 ≤ x.op ∧ x.op ≤ 3
      · exact (cond_head hx hc ho).2.2 y hy
      · rw [(cond_leaf hx hc ho).1] at hy; cases hy
    have h3 : x.op = 3 → x.l ≠ [] := fun h e => by
      have := (cond_head hx hc (by omega)).1 h
      rw [e] at this
      simp at this
    rw [holdsN_eq hx]
    refine preP (holds_core x p hp a ha (fun y w => CdV w d y) (holdsN p a.nf d) hx.nn hx.len h3 (fun h => (cond_leaf hx hc h).2) (fun y hy => ih y (hx.2.2 y hy) (hk y hy))) fun w h => ⟨hx.kids h.1, h.2⟩
end Go.Proofs.Ytmbgbhambgoejaa.C
namespace Go.Proofs.Ytmbgbhambgoejaa.C
set_option linter.unusedSimpArgs false
set_option linter.unusedVariables false
set_option maxRecDepth 20000
set_option maxHeartbeats 4000000
open Go.RowKit Go.Pm

def MeanR (d0 : At) (r : Nf × Bool × Bool) (u : Value) (L' : List HP) : Prop := ∃ d' : At, AtF d' ∧ d'.nf = r.1 ∧ u = .tuple #[.agg (atC d').toArray, .bool r.2.1, .bool r.2.2] ∧ L' = [has (fun w => AtV w d0 → AtV w d')]
def MeanOk (la : Option Addr) (lc n : Nat) (φ : World → Prop) (p : Pf) (g : Nf → Nf × Bool × Bool) : Prop := ∀ d0 : At, AtF d0 → Pact Try.prog 11 #[.slice la n lc, .agg (pfC p).toArray, .agg (atC d0).toArray] (fun w => φ w ∧ AtV w d0) [] (MeanR d0 (g d0.nf))
theorem at_chain {W : World} {K : Hl} {L R R2 : List HP} {w : World} {a b c : At} (H : Ow W K L w) (h1 : Tk L (has (fun w => AtV w b → AtV w c)) R) (h2 : Tk R (has (fun w => AtV w a → AtV w b)) R2) : Ow W K (has (fun w => AtV w a → AtV w c) :: R2) w :=
  Ow.has (M := [has (fun w => AtV w b → AtV w c), has (fun w => AtV w a → AtV w b)]) H (.cons h1 (.cons h2 .nil)) (fun w hr h => hr.has (φ := fun w => AtV w b → AtV w c) .here (hr.has (φ := fun w => AtV w a → AtV w b) (.there .here) h))
structure Lmn where
  k : Nat
  d : At
theorem mean_core (la : Option Addr) (lc : Nat) (l : List St) (p : Pf) (hp : PfN p) (φ : St → World → Prop) (gm : List St → Nf → Nf × Bool × Bool) (hl : l.length ≤ 5)
    (hA : ∀ s ∈ l, s.op ≠ 1 → ActOk s.op s.n s.m)
    (hH : ∀ s ∈ l, s.op = 1 → ∀ a : At, AtF a → Pact Try.prog 24 #[.agg (cdC s.cd).toArray, .agg (pfC p).toArray, .agg (atC a).toArray] (fun w => φ s w ∧ AtV w a) [] (ret0 (.bool (holdsN p a.nf 5 s.cd))))
    (hT : ∀ s ∈ l, s.op = 1 → MeanOk s.ta s.tc s.th.length (φ s) p (gm s.th)) (hE : ∀ s ∈ l, s.op = 1 → MeanOk s.ea s.ec s.el.length (φ s) p (gm s.el)) : MeanOk la lc l.length (KidS φ la lc l) p (meanG p gm l) := by
  intro d0 hd0
  refine pact Try.func11 rfl Try.ntmps11 rfl ?_
  intro W K hK
  obtain ⟨R, hR⟩ : ∃ R, meanG p gm l d0.nf = R := ⟨_, rfl⟩
  rw [hR]
  (repeat' (first | ((with_reducible apply gL); (first | refine yL0 ?_ | refine yL ?_ | (refine yM ?_; intro _) | fail)) | refine yJ ?_ | ((with_reducible apply gJ_if); (first | (refine J_if xR ?_ ?_ <;> intro _ <;> (try (exfalso; first | contradiction | omega))) | (refine J_ifb xR ?_ ?_ <;> (intro hgb; subst hgb)) | (refine J_ifb xR ?_ ?_ <;> intro _) | fail)) | fail))
  rename_i b4 b5 b6
  refine J_loop (α := Lmn) ⟨0, d0⟩ (fun x => l.length - x.k) (fun x => x.k ≤ l.length ∧ AtF x.d ∧ meanG p gm (l.drop x.k) x.d.nf = R) (fun x => [(0, .slice la l.length lc), (4, .pointer (some ⟨b4, 0, none⟩)), (5, .pointer (some ⟨b5, 0, none⟩)), (6, .pointer (some ⟨b6, 0, none⟩)), (9, .int .i64 x.k)])
    (fun x => [pts b4 (pfC p) 28, pts b5 (atC x.d) 33, pts b6 at0C 33, has (fun w => AtV w d0 → AtV w x.d)]) ⟨Nat.zero_le _, hd0, hR⟩ ⟨rfl, rfl, rfl, rfl, rfl, trivial⟩ (fun w H => (Ow.hasTrue (φ := fun w => AtV w d0 → AtV w d0) H (fun _ h => h)).sel xZ) ?_
  rintro ⟨k, d⟩ ⟨hk, hd, hr⟩
  dsimp only at hk hd hr ⊢
  by_cases hlt : k < l.length
  · obtain ⟨s, hs⟩ : ∃ s, l[k]? = some s := ⟨_, List.getElem?_eq_getElem hlt⟩
    have hm := List.mem_of_getElem? hs
    have hkv : Kn K (fun w => Vw w (.slice la l.length lc) 10 l.length (flat stC l)) := hK.imp fun w h => h.1.1 (List.ne_nil_of_mem hm)
    have hkl : Kn K (φ s) := hK.imp fun w h => h.1.2 s hm
    have hkd : Kn K (fun w => AtV w d0) := hK.imp fun w h => h.2
    rw [drop_cons hs, meanG] at hr
    by_cases h1 : s.op = 1
    · have hst : stepM p gm s d.nf = if holdsN p d.nf 5 s.cd then gm s.th d.nf else gm s.el d.nf := by unfold stepM; rw [if_neg (by omega), if_neg (by omega), if_pos h1]
      have hHs := hH s hm h1 d hd
      have hTs := hT s hm h1 d hd
      have hEs := hE s hm h1 d hd
      rcases hb : holdsN p d.nf 5 s.cd with _ | _
      all_goals rw [hb] at hHs hst
      · rw [if_neg (by simp)] at hst
        rw [hst] at hr
        generalize gm s.el d.nf = g at hr hEs
        obtain ⟨y, e, b⟩ := g
        cases e with
        | true =>
          rw [if_pos rfl] at hr
          subst hr
          (repeat' (first | ((with_reducible apply gL); (first | refine yL0 ?_ | refine yL ?_ | ((with_reducible apply gL_go); (first | (refine JL_goq (hHs) (hφ := (by (try simp only [List.cons_append, List.nil_append]); exact fun w hr => ⟨hkl w hr.1, hr.has (φ := fun w => AtV w d0 → AtV w d) xA (hkd w hr.1)⟩)) (h := ?_); rintro _ _ ⟨rfl, rfl⟩; try simp only [List.cons_append, List.nil_append]) | (refine JL_goq (hEs) (hφ := (by (try simp only [List.cons_append, List.nil_append]); exact fun w hr => ⟨hkl w hr.1, hr.has (φ := fun w => AtV w d0 → AtV w d) xA (hkd w hr.1)⟩)) (h := ?_); rintro _ _ ⟨d', hd', hn', rfl, rfl⟩; try simp only [List.cons_append, List.nil_append]) | fail)) | (refine yM ?_; intro _) | fail)) | refine yJ ?_ | ((with_reducible apply gJ_if); (first | (refine J_if xR ?_ ?_ <;> intro _ <;> (try (exfalso; first | contradiction | omega))) | (refine J_ifb xR ?_ ?_ <;> (intro hgb; subst hgb)) | (refine J_ifb xR ?_ ?_ <;> intro _) | fail)) | fail))
          all_goals (first | (exfalso; omega) | skip)
          exact J_retC2 (cs := atC d') rfl (by rfl) (by rfl) (by rfl) xA (by rfl) fun w H => ⟨_, ⟨d', hd', hn', rfl, rfl⟩, (at_chain H xA xA).sel xZ⟩
        | false =>
          rw [if_neg (by simp)] at hr
          (repeat' (first | ((with_reducible apply gL); (first | refine yL0 ?_ | refine yL ?_ | ((with_reducible apply gL_go); (first | (refine JL_goq (hHs) (hφ := (by (try simp only [List.cons_append, List.nil_append]); exact fun w hr => ⟨hkl w hr.1, hr.has (φ := fun w => AtV w d0 → AtV w d) xA (hkd w hr.1)⟩)) (h := ?_); rintro _ _ ⟨rfl, rfl⟩; try simp only [List.cons_append, List.nil_append]) | (refine JL_goq (hEs) (hφ := (by (try simp only [List.cons_append, List.nil_append]); exact fun w hr => ⟨hkl w hr.1, hr.has (φ := fun w => AtV w d0 → AtV w d) xA (hkd w hr.1)⟩)) (h := ?_); rintro _ _ ⟨d', hd', hn', rfl, rfl⟩; try simp only [List.cons_append, List.nil_append]) | fail)) | (refine yM ?_; intro _) | fail)) | refine yJ ?_ | ((with_reducible apply gJ_if); (first | (refine J_if xR ?_ ?_ <;> intro _ <;> (try (exfalso; first | contradiction | omega))) | (refine J_ifb xR ?_ ?_ <;> (intro hgb; subst hgb)) | (refine J_ifb xR ?_ ?_ <;> intro _) | fail)) | fail))
          all_goals (first | (exfalso; omega) | skip)
          exact J_again ⟨k + 1, d'⟩ (by dsimp only; omega) ⟨by dsimp only; omega, hd', by dsimp only; rw [hn']; exact hr⟩ ⟨rfl, rfl, rfl, rfl, rfl, trivial⟩ (fun w H => (at_chain H xA xA).sel xZ)
      · rw [if_pos rfl] at hst
        rw [hst] at hr
        generalize gm s.th d.nf = g at hr hTs
        obtain ⟨y, e, b⟩ := g
        cases e with
        | true =>
          rw [if_pos rfl] at hr
          subst hr
          (repeat' (first | ((with_reducible apply gL); (first | refine yL0 ?_ | refine yL ?_ | ((with_reducible apply gL_go); (first | (refine JL_goq (hHs) (hφ := (by (try simp only [List.cons_append, List.nil_append]); exact fun w hr => ⟨hkl w hr.1, hr.has (φ := fun w => AtV w d0 → AtV w d) xA (hkd w hr.1)⟩)) (h := ?_); rintro _ _ ⟨rfl, rfl⟩; try simp only [List.cons_append, List.nil_append]) | (refine JL_goq (hTs) (hφ := (by (try simp only [List.cons_append, List.nil_append]); exact fun w hr => ⟨hkl w hr.1, hr.has (φ := fun w => AtV w d0 → AtV w d) xA (hkd w hr.1)⟩)) (h := ?_); rintro _ _ ⟨d', hd', hn', rfl, rfl⟩; try simp only [List.cons_append, List.nil_append]) | fail)) | (refine yM ?_; intro _) | fail)) | refine yJ ?_ | ((with_reducible apply gJ_if); (first | (refine J_if xR ?_ ?_ <;> intro _ <;> (try (exfalso; first | contradiction | omega))) | (refine J_ifb xR ?_ ?_ <;> (intro hgb; subst hgb)) | (refine J_ifb xR ?_ ?_ <;> intro _) | fail)) | fail))
          all_goals (first | (exfalso; omega) | skip)
          exact J_retC2 (cs := atC d') rfl (by rfl) (by rfl) (by rfl) xA (by rfl) fun w H => ⟨_, ⟨d', hd', hn', rfl, rfl⟩, (at_chain H xA xA).sel xZ⟩
        | false =>
          rw [if_neg (by simp)] at hr
          (repeat' (first | ((with_reducible apply gL); (first | refine yL0 ?_ | refine yL ?_ | ((with_reducible apply gL_go); (first | (refine JL_goq (hHs) (hφ := (by (try simp only [List.cons_append, List.nil_append]); exact fun w hr => ⟨hkl w hr.1, hr.has (φ := fun w => AtV w d0 → AtV w d) xA (hkd w hr.1)⟩)) (h := ?_); rintro _ _ ⟨rfl, rfl⟩; try simp only [List.cons_append, List.nil_append]) | (refine JL_goq (hTs) (hφ := (by (try simp only [List.cons_append, List.nil_append]); exact fun w hr => ⟨hkl w hr.1, hr.has (φ := fun w => AtV w d0 → AtV w d) xA (hkd w hr.1)⟩)) (h := ?_); rintro _ _ ⟨d', hd', hn', rfl, rfl⟩; try simp only [List.cons_append, List.nil_append]) | fail)) | (refine yM ?_; intro _) | fail)) | refine yJ ?_ | ((with_reducible apply gJ_if); (first | (refine J_if xR ?_ ?_ <;> intro _ <;> (try (exfalso; first | contradiction | omega))) | (refine J_ifb xR ?_ ?_ <;> (intro hgb; subst hgb)) | (refine J_ifb xR ?_ ?_ <;> intro _) | fail)) | fail))
          all_goals (first | (exfalso; omega) | skip)
          exact J_again ⟨k + 1, d'⟩ (by dsimp only; omega) ⟨by dsimp only; omega, hd', by dsimp only; rw [hn']; exact hr⟩ ⟨rfl, rfl, rfl, rfl, rfl, trivial⟩ (fun w H => (at_chain H xA xA).sel xZ)
    · have ha := hA s hm h1
      by_cases h2 : s.op = 2
      · have hst : stepM p gm s d.nf = (d.nf, true, true) := by unfold stepM; rw [if_pos h2]
        rw [hst, if_pos rfl] at hr
        subst hr
        (repeat' (first | ((with_reducible apply gL); (first | refine yL0 ?_ | refine yL ?_ | (refine yM ?_; intro _) | fail)) | refine yJ ?_ | ((with_reducible apply gJ_if); (first | (refine J_if xR ?_ ?_ <;> intro _ <;> (try (exfalso; first | contradiction | omega))) | (refine J_ifb xR ?_ ?_ <;> (intro hgb; subst hgb)) | (refine J_ifb xR ?_ ?_ <;> intro _) | fail)) | fail))
        all_goals (first | (exfalso; omega) | skip)
        exact J_retC2 (cs := atC d) rfl (by rfl) (by rfl) (by rfl) xA (by rfl) fun w H => ⟨_, ⟨d, hd, rfl, rfl, rfl⟩, H.sel xZ⟩
      by_cases h3 : s.op = 3
      · have hst : stepM p gm s d.nf = (d.nf, true, false) := by unfold stepM; rw [if_neg h2, if_pos h3]
        rw [hst, if_pos rfl] at hr
        subst hr
        (repeat' (first | ((with_reducible apply gL); (first | refine yL0 ?_ | refine yL ?_ | (refine yM ?_; intro _) | fail)) | refine yJ ?_ | ((with_reducible apply gJ_if); (first | (refine J_if xR ?_ ?_ <;> intro _ <;> (try (exfalso; first | contradiction | omega))) | (refine J_ifb xR ?_ ?_ <;> (intro hgb; subst hgb)) | (refine J_ifb xR ?_ ?_ <;> intro _) | fail)) | fail))
        all_goals (first | (exfalso; omega) | skip)
        exact J_retC2 (cs := atC d) rfl (by rfl) (by rfl) (by rfl) xA (by rfl) fun w H => ⟨_, ⟨d, hd, rfl, rfl, rfl⟩, H.sel xZ⟩
      have h4 : 4 ≤ s.op := by have := act_range ha; omega
      have hD := qdo_s s.op s.n s.m ha h4 d hd
      have hst : stepM p gm s d.nf = match doN s.op s.n s.m d.nf with | some y => (y, false, false) | none => (d.nf, true, false) := by unfold stepM; rw [if_neg h2, if_neg h3, if_neg h1]; rfl
      rcases hdo : doN s.op s.n s.m d.nf with _ | y
      all_goals rw [hdo] at hst hD
      · dsimp only at hst
        rw [hst, if_pos rfl] at hr
        subst hr
        (repeat' (first | ((with_reducible apply gL); (first | refine yL0 ?_ | refine yL ?_ | ((with_reducible apply gL_go); (first | (refine JL_goq (hD) (hφ := (by (try simp only [List.cons_append, List.nil_append]); exact fun w hr => hr.has (φ := fun w => AtV w d0 → AtV w d) xA (hkd w hr.1))) (h := ?_); rintro _ _ ⟨d', ok, hd', rfl, hrr, rfl⟩; try simp only [List.cons_append, List.nil_append]) | fail)) | (refine yM ?_; intro _) | fail)) | refine yJ ?_ | ((with_reducible apply gJ_if); (first | (refine J_if xR ?_ ?_ <;> intro _ <;> (try (exfalso; first | contradiction | omega))) | (refine J_ifb xR ?_ ?_ <;> (intro hgb; subst hgb)) | (refine J_ifb xR ?_ ?_ <;> intro _) | fail)) | fail))
        all_goals (first | (exfalso; omega) | skip)
        · exact J_retC2 (cs := atC d) rfl (by rfl) (by rfl) (by rfl) xA (by rfl) fun w H => ⟨_, ⟨d, hd, rfl, rfl, rfl⟩, H.sel xZ⟩
        · exfalso
          obtain rfl : ok = true := by first | assumption | exact Decidable.not_not.1 (by assumption)
          cases hrr
      · dsimp only at hst
        rw [hst, if_neg (by simp)] at hr
        (repeat' (first | ((with_reducible apply gL); (first | refine yL0 ?_ | refine yL ?_ | ((with_reducible apply gL_go); (first | (refine JL_goq (hD) (hφ := (by (try simp only [List.cons_append, List.nil_append]); exact fun w hr => hr.has (φ := fun w => AtV w d0 → AtV w d) xA (hkd w hr.1))) (h := ?_); rintro _ _ ⟨d', ok, hd', rfl, hrr, rfl⟩; try simp only [List.cons_append, List.nil_append]) | fail)) | (refine yM ?_; intro _) | fail)) | refine yJ ?_ | ((with_reducible apply gJ_if); (first | (refine J_if xR ?_ ?_ <;> intro _ <;> (try (exfalso; first | contradiction | omega))) | (refine J_ifb xR ?_ ?_ <;> (intro hgb; subst hgb)) | (refine J_ifb xR ?_ ?_ <;> intro _) | fail)) | fail))
        all_goals (first | (exfalso; omega) | skip)
        · exfalso
          obtain rfl : ok = false := Bool.eq_false_iff.2 (by assumption)
          cases hrr
        · obtain rfl : ok = true := by first | assumption | exact Decidable.not_not.1 (by assumption)
          rw [if_pos rfl] at hrr
          have hy := Option.some.inj hrr
          subst hy
          exact J_again ⟨k + 1, d'⟩ (by dsimp only; omega) ⟨by dsimp only; omega, hd', hr⟩ ⟨rfl, rfl, rfl, rfl, rfl, trivial⟩ (fun w H => (Ow.has (M := [has (fun w => AtV w d')]) (φ := fun w => AtV w d0 → AtV w d') H (.cons xA .nil) (fun w hr _ => hr.has (φ := fun w => AtV w d') .here)).sel xZ)
  · obtain rfl : k = l.length := by omega
    rw [List.drop_length, meanG] at hr
    subst hr
    (repeat' (first | ((with_reducible apply gL); (first | refine yL0 ?_ | refine yL ?_ | (refine yM ?_; intro _) | fail)) | refine yJ ?_ | ((with_reducible apply gJ_if); (first | (refine J_if xR ?_ ?_ <;> intro _ <;> (try (exfalso; first | contradiction | omega))) | (refine J_ifb xR ?_ ?_ <;> (intro hgb; subst hgb)) | (refine J_ifb xR ?_ ?_ <;> intro _) | fail)) | fail))
    refine J_retC2 (cs := atC d) rfl (by rfl) (by rfl) (by rfl) xA (by rfl) fun w H => ⟨_, ⟨d, hd, rfl, rfl, rfl⟩, H.sel xZ⟩
theorem MeanOk.pre {la : Option Addr} {lc n : Nat} {φ ψ : World → Prop} {p : Pf} {g : Nf → Nf × Bool × Bool} (h : MeanOk la lc n φ p g) (hφ : ∀ w, ψ w → φ w) : MeanOk la lc n ψ p g := fun d0 h0 => preP (h d0 h0) fun w h => ⟨hφ w h.1, h.2⟩
theorem meanL_eq {d : Nat} {l : List St} (h : LsF d l) (p : Pf) : meanL p d l = meanG p (meanL p (d - 1)) l := by
  cases d with
  | zero => rw [show l = [] from h]; rfl
  | succ d => rfl
theorem mean_s (p : Pf) (hp : PfN p) : ∀ (d : Nat) (la : Option Addr) (lc : Nat) (l : List St), LsF d l → rightB d l = true → MeanOk la lc l.length (fun w => LsV w d la lc l) p (meanL p d l) := by
  intro d
  induction d with
  | zero =>
    intro la lc l hl hr
    have hno : ∀ s ∈ l, False := fun s hs => by rw [show l = [] from hl] at hs; cases hs
    have := mean_core la lc l p hp (fun s w => SeenS (0 - 1) s w) (meanL p (0 - 1)) hl.len (fun s hs => (hno s hs).elim) (fun s hs => (hno s hs).elim) (fun s hs => (hno s hs).elim) (fun s hs => (hno s hs).elim)
    rw [meanL_eq hl]
    exact this.pre fun w h => hl.kids h
  | succ d ih =>
    intro la lc l hl hr
    have := mean_core la lc l p hp (fun s w => SeenS d s w) (meanL p d) hl.len (fun s hs ho => ((right_st hl hr hs).2 ho).1) (fun s hs ho a ha => preP (holds_s p hp a ha 5 s.cd (hl.2 s hs).2.1 ((right_st hl hr hs).1 ho).2.1) fun w h => ⟨h.1.1, h.2⟩) (fun s hs ho => (ih s.ta s.tc s.th (hl.2 s hs).2.2.1 ((right_st hl hr hs).1 ho).2.2.1).pre fun w h => h.2.1) (fun s hs ho => (ih s.ea s.ec s.el (hl.2 s hs).2.2.2 ((right_st hl hr hs).1 ho).2.2.2).pre fun w h => h.2.2)
    exact this.pre fun w h => hl.kids h
end Go.Proofs.Ytmbgbhambgoejaa.C
