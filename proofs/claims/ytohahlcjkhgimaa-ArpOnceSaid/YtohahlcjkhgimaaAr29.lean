/-
  What waits comes out once: in plain words.
-/
import Derived.Test.YtohahlcjkhgimaaAr28
import Derived.Test.YtohahlcjkhgimaaAr25
namespace Go.Proofs.Ytohahlcjkhgimaa
set_option linter.unusedSimpArgs false
set_option linter.unusedVariables false
set_option maxRecDepth 20000
set_option maxHeartbeats 4000000
open Go.RowKit Go.Pm Go.Sort

theorem waitfull_s (cb : Nat) (C : Ca) (t a : Int) (ba : Option Addr) (bc n : Nat) (l : List Int) (hn : l.length = n) (hl : n ≤ 1500) (hC : CaOk C) (ht : C.now ≤ t ∧ t ≤ 1099511627776) (hw : C.w.length = 8) : Pact Try.prog 24 #[.pointer (some ⟨cb, 0, none⟩), .int .i64 t, .int .u32 a, .slice ba n bc] (fun w => Vw w (.slice ba n bc) 1 n (flat byC l)) [caA cb C] (fun u L' => u = .tuple #[.bool false, .int .i64 4] ∧ L' = [caA cb C]) := by
  subst hn
  refine pact Try.func24 rfl Try.ntmps24 rfl ?_
  intro W K hK
  have hnow := hC.now
  refine J_open (fun w H => caOpen H .here) ?_
  rintro ⟨⟨lb, tb, ad, wc, P⟩, hP⟩
  dsimp only at hP ⊢
  have hPl : P.length = 8 := by rw [← hP, List.length_map] at hw; exact hw
  have hmay : mayE C.now t = 0 := by unfold mayE; rw [if_neg (by omega)]
  have hms := may_s cb lb tb C.keep C.ask C.now t ad P.length wc
  rw [hmay] at hms
  (repeat' (first | ((with_reducible apply gJ); (first | refine J_seq ?_ | refine J_reg ?_ | refine J_skip ?_ | refine J_block ?_ | refine J_blk ?_ | refine J_exit rfl ?_ | refine J_goto rfl ?_ | ((with_reducible apply gJ_if); (first | refine J_ift rfl ?_ | refine J_iff rfl ?_ | (refine J_if xR ?_ ?_ <;> intro _ <;> (try (exfalso; first | contradiction | omega))) | (refine J_ifb xR ?_ ?_ <;> (intro hgb; subst hgb)) | (refine J_ifb xR ?_ ?_ <;> intro _) | fail)) | refine J_label ?_ | refine J_draw (id := 9) [0, 1, 2, 3, 4, 5, 6, 7, 8, 9, 10] [11, 12, 13] mixed xC xD xD ?_ | refine J_draw (id := 12) [0, 1, 2, 3, 4, 5, 6, 7, 8, 9, 10] [11] mixed xC xD xD ?_ | fail)) | ((with_reducible apply gL); (first | refine JL_nil ?_ | refine L_move ?_ | refine L_assign ?_ | refine L_fieldAddr ?_ | refine L_load ?_ | refine L_nilCheck ?_ | refine L_c_len ?_ | refine L_bin_eql ?_ | refine L_bin_neq ?_ | refine L_bin_gtr ?_ | ((with_reducible apply gL_store); (first | refine JL_st xR xR xT xC xR xE xR ?_ | refine JL_stW xR xR xT xW xR xR xR ?_ | refine JL_stS xR xR xT xW xP xR xR ?_ | refine JL_stEl xR xR xT xR xL xR (tabS stab_ok xR) xR xR xO ?_ | fail)) | ((with_reducible apply gL_go); (first | (refine JL_goq (hms) (hφ := xF) (h := ?_); rintro _ _ ⟨rfl, rfl⟩; try simp only [List.cons_append, List.nil_append]) | fail)) | ((with_reducible apply gL_lookup); (first | refine JL_p rfl xR xR (pe_lookup xR xR (tabM mtab_ok xR) xT (by first | apply hlook | apply hlook2 | rfl)) ?_ | refine JL_p rfl xR xR (pe_lookupK xR xR (tabM mtab_ok xR) xH (by first | apply hlook | apply hlook2 | rfl)) ?_ | fail)) | fail)) | ((with_reducible apply gD); (first | (refine JD_nil ?_; try simp only [List.cons_append, List.nil_append]) | (refine JD_bar ?_; try simp only [List.cons_append, List.nil_append]) | refine D_move ?_ | refine D_fieldAddr ?_ | refine D_load ?_ | refine D_nilCheck ?_ | refine D_build ?_ | refine D_bin_add_i64 ?_ | refine D_bin_add_r ?_ | ((with_reducible apply gD_load); (first | refine JD_ldM xR xT xC xR xR ?_ | refine JD_ldWM xR xT xW xR ?_ | refine JD_ldSM xR xT (tabS stab_ok xR) xG xC xR ?_ | fail)) | ((with_reducible apply gD_buildSlice); (first | (refine JD_mc rfl xR rfl (al_bs1 xR (tabE etab_ok xR) xK) ?_; intro _) | (refine JD_mc rfl xR rfl (al_bs xR (tabE etab_ok xR) xN xK) ?_; intro _) | fail)) | ((with_reducible apply gD_store); (first | refine JD_st xR xR xT xC xR xE xR ?_ | refine JD_stW xR xR xT xW xR xR xR ?_ | refine JD_stS xR xR xT xW xP xR xR ?_ | refine JD_stEl xR xR xT xR xL xR (tabS stab_ok xR) xR xR xO ?_ | fail)) | ((with_reducible apply gD_c_append); (first | (refine JD_ap1 (tabE etab_ok xR) xR xR xT xT xC xR xL xR xO xR ?_; intro _ _ _ _) | (refine JD_app (tabE etab_ok xR) xR xR xT xV xC xL xU xO xR ?_; intro _ _ _ _) | fail)) | ((with_reducible apply gD_go); (first | (refine JD_goq (hms) (hφ := xF) (h := ?_); rintro _ _ ⟨rfl, rfl⟩; try simp only [List.cons_append, List.nil_append]) | fail)) | ((with_reducible apply gD_mapUpdate); (first | refine JD_mapSet xR xR xR (tabM mtab_ok xR) xT xR ?_ | fail)) | fail)) | fail))
  all_goals (first | (exfalso; omega) | skip)
  exact J_ret2 rfl (by rfl) (by rfl) fun w H => ⟨_, ⟨rfl, rfl⟩, (caShut hP rfl rfl rfl rfl rfl rfl H (by (first | ((with_reducible (repeat (first | exact Sb.nil | apply Sb.cons | exact Tk.here | apply Tk.there))); done) | (repeat (first | exact Sb.nil | apply Sb.cons | exact Tk.here | apply Tk.there))))).sel (by (first | ((with_reducible (repeat (first | exact Sb.nil | apply Sb.cons | exact Tk.here | apply Tk.there))); done) | (repeat (first | exact Sb.nil | apply Sb.cons | exact Tk.here | apply Tk.there))))⟩
/-- What waits, as the law fills it: a number, and its address' last byte. -/
structure WOk (w : List (Int × List Int)) (nx : Nat) : Prop where
  el : ∀ p ∈ w, ∃ x : Nat, x < nx ∧ p.2 = [(x : Int), p.1 % 256]
  up : w.Pairwise (fun p q => p.2.headD 0 < q.2.headD 0)
theorem WOk.filter {w : List (Int × List Int)} {nx : Nat} (h : WOk w nx) (q : Int × List Int → Bool) : WOk (w.filter q) nx := ⟨fun p hp => h.el p (List.mem_filter.1 hp).1, h.up.sublist List.filter_sublist⟩
theorem WOk.snoc {w : List (Int × List Int)} {nx : Nat} (h : WOk w nx) (a : Int) : WOk (w ++ [(a, [(nx : Int), a % 256])]) (nx + 1) := by
  refine ⟨fun p hp => ?_, List.pairwise_append.2 ⟨h.up, List.pairwise_singleton _ _, fun p hp q hq => ?_⟩⟩
  · rcases List.mem_append.1 hp with hp | hp
    · obtain ⟨x, h1, h2⟩ := h.el p hp
      exact ⟨x, by omega, h2⟩
    · obtain rfl := List.mem_singleton.1 hp
      exact ⟨nx, by omega, rfl⟩
  · obtain rfl := List.mem_singleton.1 hq
    obtain ⟨x, h1, h2⟩ := h.el p hp
    rw [h2]
    show (x : Int) < (nx : Int)
    omega
/-- Two bytes that lie somewhere. -/
structure B2 where
  a : Option Addr
  c : Nat
  x : Int
  y : Int
def b2C (b : B2) : List Value := [.slice b.a 2 b.c]
def B2.bs (b : B2) : Bs := ⟨b.a, b.c, [b.x, b.y]⟩
def b2V (bs : List B2) (w : World) : Prop := ∀ b ∈ bs, Vw w (.slice b.a 2 b.c) 1 2 (flat byC [b.x, b.y])
theorem b2Src {K : Hl} {L R : List HP} {bs : List B2} {b : B2} (t : Tk L (has (b2V bs)) R) (h : b ∈ bs) : Src K L (.slice b.a 2 b.c) 1 2 (flat byC [b.x, b.y]) := fun _ hr => hr.has t b h
theorem b2_of {a : Int} {nx : Nat} : ∀ {os : List Bs} {w : List (Int × List Int)} (_ : os.map Bs.l = w.map (·.2)) (_ : ∀ p ∈ w, ∃ x : Nat, x < nx ∧ p.2 = [(x : Int), p.1 % 256]) (_ : ∀ p ∈ w, p.1 = a), ∃ bs : List B2, os = bs.map B2.bs ∧ (∀ b ∈ bs, (0 ≤ b.x ∧ b.x < (nx : Int)) ∧ b.y = a % 256) ∧ bs.map B2.x = w.map (fun p => p.2.headD 0)
  | [], [], _, _, _ => ⟨[], rfl, by simp, rfl⟩
  | [], _ :: _, h, _, _ => by cases h
  | _ :: _, [], h, _, _ => by cases h
  | s :: os, p :: w, h, he, ha => by
    simp only [List.map_cons, List.cons.injEq] at h
    obtain ⟨bs, h1, h2, h3⟩ := b2_of h.2 (fun q hq => he q (List.mem_cons_of_mem _ hq)) (fun q hq => ha q (List.mem_cons_of_mem _ hq))
    obtain ⟨x, hxn, hx⟩ := he p (List.mem_cons_self ..)
    have hp := ha p (List.mem_cons_self ..)
    rw [hp] at hx
    refine ⟨⟨s.a, s.c, x, a % 256⟩ :: bs, ?_, ?_, ?_⟩
    · rw [List.map_cons, ← h1]
      congr 1
      obtain ⟨sa, sc, sl⟩ := s
      have : sl = [(x : Int), a % 256] := by rw [← hx]; exact h.1
      subst this
      rfl
    · intro b hb
      rcases List.mem_cons.1 hb with rfl | hb
      · exact ⟨⟨by show (0 : Int) ≤ (x : Int); omega, by show (x : Int) < (nx : Int); omega⟩, rfl⟩
      · exact h2 b hb
    · rw [List.map_cons, List.map_cons, h3, hx]
      rfl
theorem sats_in {w : World} {A : HP} : ∀ {L : List HP} {k : Hl}, sats L k → k.inn w → A ∈ L → ∃ h, A h ∧ h.inn w
  | [], _, _, _, hm => by cases hm
  | B :: L, k, ⟨h1, h2, a, s, d, e⟩, i, hm => by
    subst e
    obtain ⟨i1, i2⟩ := (Hl.inn_add d).1 i
    rcases List.mem_cons.1 hm with rfl | hm
    · exact ⟨h1, a, i1⟩
    · exact sats_in s i2 hm
theorem b2_ar (v : Value) (bs : List B2) : Ar 33 1 bsC v (bs.map B2.bs) = Ar 33 1 b2C v bs := by
  unfold Ar
  rw [List.length_map]
  congr 1
  unfold flat
  rw [List.flatMap_map]
  rfl
theorem b2_has {W : World} {K : Hl} {L R : List HP} {w : World} {bs : List B2} (H : Ow W K L w) (t : Tk L (sats ((bs.map B2.bs).map bP)) R) : Ow W K (has (b2V bs) :: R) w :=
  H.has (M := [sats ((bs.map B2.bs).map bP)]) (.cons t .nil) (fun w hr b hb => by
    obtain ⟨k, hk, hi⟩ := hr.tk .here
    obtain ⟨h, hh, i⟩ := sats_in (A := bP b.bs) hk hi (List.mem_map.2 ⟨b.bs, List.mem_map.2 ⟨b, hb, rfl⟩, rfl⟩)
    exact hh w i)
def learnN (C : Ca) (a : Int) : Nat := (C.w.filter (fun p => decide (p.1 = a))).length
theorem learn_two (cb : Nat) (C : Ca) (t a : Int) (m : Mc) (nx : Nat) (hC : CaOk C) (ht : C.now ≤ t ∧ t ≤ 1099511627776) (hw : WOk C.w nx) : Pact Try.prog 13 #[.pointer (some ⟨cb, 0, none⟩), .int .i64 t, .int .u32 a, .agg (mcC m).toArray] (fun _ => True) [caA cb C]
    (fun u L' => ∃ (oa : Option Addr) (oc : Nat) (bs : List B2), bs.length = learnN C a ∧ (∀ b ∈ bs, (0 ≤ b.x ∧ b.x < (nx : Int)) ∧ b.y = a % 256) ∧ bs.Pairwise (fun b c => b.x < c.x) ∧ u = .tuple #[.slice oa bs.length oc, .int .i64 0] ∧ L' = [caA cb (learnC C t a m), Ar 33 1 b2C (.slice oa bs.length oc) bs, has (b2V bs)]) := by
  have h := learn_s cb C t a m hC ht
  intro W K w hK H
  refine (h W K w hK H).mono fun e w' h3 => ?_
  obtain ⟨u, L', ⟨oa, oc, os, ho, h4, h5⟩, he, h6⟩ := h3
  have hf := hw.filter (fun p => decide (p.1 = a))
  obtain ⟨bs, h7, h8, h9⟩ := b2_of (a := a) ho hf.el (fun p hp => by simpa using (List.mem_filter.1 hp).2)
  subst h7
  rw [List.length_map] at h4
  rw [h5, List.length_map, b2_ar] at h6
  refine ⟨u, _, ⟨oa, oc, bs, ?_, h8, ?_, h4, rfl⟩, he, ?_⟩
  · have := congrArg List.length h9
    simpa [learnN] using this
  · have h10 : (bs.map B2.x).Pairwise (· < ·) := by rw [h9]; exact List.pairwise_map.2 hf.up
    exact List.pairwise_map.1 h10
  · exact (b2_has h6 (by (first | ((with_reducible (repeat (first | exact Tk.here | apply Tk.there))); done) | ((simp only [List.cons_append, List.nil_append]); (with_reducible (repeat (first | exact Tk.here | apply Tk.there))); done) | fail))).sel (by (first | ((with_reducible (repeat (first | exact Sb.nil | apply Sb.cons | exact Tk.here | apply Tk.there))); done) | (repeat (first | exact Sb.nil | apply Sb.cons | exact Tk.here | apply Tk.there))))
/-- What was looked at last. -/
def lastOf (bs : List B2) : Nat → Int
  | 0 => -1
  | k + 1 => ((bs[k]?).map B2.x).getD 0
theorem last_lt {bs : List B2} (h0 : ∀ b ∈ bs, 0 ≤ b.x) (hp : bs.Pairwise (fun b c => b.x < c.x)) {k : Nat} {b : B2} (h : bs[k]? = some b) : lastOf bs k < b.x := by
  obtain ⟨h1, h2⟩ := List.getElem?_eq_some_iff.1 h
  rcases k with _ | k
  · have := h0 b (List.mem_of_getElem? h)
    show (-1 : Int) < b.x
    omega
  · show ((bs[k]?).map B2.x).getD 0 < b.x
    rw [List.getElem?_eq_getElem (by omega)]
    have := List.pairwise_iff_getElem.1 hp k (k + 1) (by omega) h1 (by omega)
    rw [h2] at this
    exact this
theorem last_ge (bs : List B2) (h0 : ∀ b ∈ bs, 0 ≤ b.x) (k : Nat) : -1 ≤ lastOf bs k := by
  rcases k with _ | k
  · exact Int.le_refl _
  · show -1 ≤ ((bs[k]?).map B2.x).getD 0
    rcases h : bs[k]? with _ | b
    · show (-1 : Int) ≤ 0; omega
    · have := h0 b (List.mem_of_getElem? h)
      show -1 ≤ b.x
      omega
/-- The state behind some acts. -/
structure OnSt where
  i : Nat
  now : Int
  C : Ca
  nin : Nat
  out : Nat
structure OnOk (x : OnSt) : Prop where
  i80 : x.i ≤ 80
  ok : CaOk x.C
  le : x.C.now ≤ x.now
  lo : 0 ≤ x.now
  hi : x.now ≤ 4 * (x.i : Int)
  cnt : x.C.w.length + x.out = x.nin
  nin : x.nin ≤ x.i
  th : x.C.th.length ≤ x.i
  w : WOk x.C.w x.nin
theorem filter_two {α : Type} (l : List α) (q : α → Bool) : (l.filter (fun p => !q p)).length + (l.filter q).length = l.length := by
  induction l with
  | nil => rfl
  | cons x l ih =>
    rcases h : q x with _ | _ <;> simp [h] <;> omega
theorem putL_len (es : List (Int × Int)) (a v : Int) : (putL es a v).length ≤ es.length + 1 := by
  have := congrArg List.length (put_keys es a v)
  rw [List.length_map] at this
  rw [this]
  split <;> simp
theorem OnOk.learn {i : Nat} {now : Int} {C : Ca} {nin out : Nat} (h : OnOk ⟨i, now, C, nin, out⟩) (hi : i < 80) (g : Nat) (hg : g < 4) (a : Int) (m : Mc) : OnOk ⟨i + 1, now + g, learnC C (now + g) a m, nin, out + learnN C a⟩ where
  i80 := hi
  ok := learn_ok (C := C) h.ok ⟨by have h1 := h.le; dsimp only at h1; omega, by have h1 := h.hi; dsimp only at h1; omega⟩
  le := Int.le_refl _
  lo := by have h1 := h.lo; dsimp only at h1 ⊢; omega
  hi := by have h1 := h.hi; dsimp only at h1 ⊢; omega
  cnt := by
    have h1 := h.cnt
    have h2 := filter_two C.w (fun p => decide (p.1 = a))
    show (C.w.filter (fun p => !decide (p.1 = a))).length + (out + learnN C a) = nin
    unfold learnN
    dsimp only at h1
    omega
  nin := by have h1 := h.nin; dsimp only at h1 ⊢; omega
  th := by
    have h1 := h.th
    have h2 := del_len C.th a
    show (del C.th a).length ≤ i + 1
    dsimp only at h1
    omega
  w := h.w.filter _
def ageN (C : Ca) (t : Int) : Nat := (C.w.filter (fun p => decide (thenOf C.th p.1 ≤ t))).length
theorem OnOk.age {i : Nat} {now : Int} {C : Ca} {nin out : Nat} (h : OnOk ⟨i, now, C, nin, out⟩) (hi : i < 80) (g : Nat) (hg : g < 4) : OnOk ⟨i + 1, now + g, ageC C (now + g), nin, out + ageN C (now + g)⟩ where
  i80 := hi
  ok := age_ok (C := C) h.ok ⟨by have h1 := h.le; dsimp only at h1; omega, by have h1 := h.hi; dsimp only at h1; omega⟩
  le := Int.le_refl _
  lo := by have h1 := h.lo; dsimp only at h1 ⊢; omega
  hi := by have h1 := h.hi; dsimp only at h1 ⊢; omega
  cnt := by
    have h1 := h.cnt
    have h2 := filter_two C.w (fun p => decide (thenOf C.th p.1 ≤ now + g))
    show (C.w.filter (fun p => !decide (thenOf C.th p.1 ≤ now + g))).length + (out + ageN C (now + g)) = nin
    unfold ageN
    dsimp only at h1
    omega
  nin := by have h1 := h.nin; dsimp only at h1 ⊢; omega
  th := by
    have h1 := h.th
    have h2 := List.length_filter_le (fun p : Int × Int => !decide (p.2 ≤ now + g)) C.th
    show (C.th.filter (fun p => !decide (p.2 ≤ now + g))).length ≤ i + 1
    dsimp only at h1
    omega
  w := h.w.filter _
theorem OnOk.wait {i : Nat} {now : Int} {C : Ca} {nin out : Nat} (h : OnOk ⟨i, now, C, nin, out⟩) (hi : i < 80) (g : Nat) (hg : g < 4) (a : Int) (hw : C.w.length < 8) : OnOk ⟨i + 1, now + g, waitC C (now + g) a [(nin : Int), a % 256], nin + 1, out⟩ where
  i80 := hi
  ok := wait_ok (C := C) h.ok ⟨by have h1 := h.le; dsimp only at h1; omega, by have h1 := h.hi; dsimp only at h1; omega⟩ hw
  le := Int.le_refl _
  lo := by have h1 := h.lo; dsimp only at h1 ⊢; omega
  hi := by have h1 := h.hi; dsimp only at h1 ⊢; omega
  cnt := by
    have h1 := h.cnt
    show (C.w ++ [(a, [(nin : Int), a % 256])]).length + out = nin + 1
    rw [List.length_append]
    dsimp only at h1
    simp only [List.length_cons, List.length_nil]
    omega
  nin := by have h1 := h.nin; dsimp only at h1 ⊢; omega
  th := by
    have h1 := h.th
    have h2 := putL_len C.th a (now + g + C.ask)
    show (if now + g < thenOf C.th a then C.th else putL C.th a (now + g + C.ask)).length ≤ i + 1
    dsimp only at h1
    split <;> omega
  w := h.w.snoc a
theorem OnOk.full {i : Nat} {now : Int} {C : Ca} {nin out : Nat} (h : OnOk ⟨i, now, C, nin, out⟩) (hi : i < 80) (g : Nat) (hg : g < 4) : OnOk ⟨i + 1, now + g, C, nin, out⟩ where
  i80 := hi
  ok := h.ok
  le := by have h1 := h.le; dsimp only at h1 ⊢; omega
  lo := by have h1 := h.lo; dsimp only at h1 ⊢; omega
  hi := by have h1 := h.hi; dsimp only at h1 ⊢; omega
  cnt := h.cnt
  nin := by have h1 := h.nin; dsimp only at h1 ⊢; omega
  th := by have h1 := h.th; dsimp only at h1 ⊢; omega
  w := h.w
end Go.Proofs.Ytohahlcjkhgimaa
