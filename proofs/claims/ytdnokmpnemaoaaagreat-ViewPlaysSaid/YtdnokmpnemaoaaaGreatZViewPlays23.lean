/-
  Aq12, Jx, Aq13, Aq14: merged.
-/
import Derived.Test.YtdnokmpnemaoaaaGreatZViewPlays22
namespace Go.Proofs.YtdnokmpnemaoaaaGreat
set_option linter.unusedSimpArgs false
set_option linter.unusedVariables false
open Go.RowKit Go.Pm

structure NfN (x : Nf) : Prop where
  next : U32 x.next
  med : ∀ m, x.med = some m → U32 m
  loc : ∀ m, x.loc = some m → U32 m
  maker : ∀ m, x.maker = some m → U32 m.1 ∧ U32 m.2
  path : ∀ s ∈ x.path, ∀ z ∈ s.2, U32 z
  comms : ∀ z ∈ x.comms, U32 z
  others : ∀ o ∈ x.others, ∀ z ∈ o.2, U8 z
theorem At.nfN {d : At} (h : AtN d) : NfN d.nf := by
  refine ⟨h.next, fun m hm => ?_, fun m hm => ?_, fun m hm => ?_, fun s hs z hz => ?_, h.comms, fun o ho z hz => ?_⟩
  · unfold At.nf at hm; dsimp only at hm; split at hm <;> cases hm; exact h.med
  · unfold At.nf at hm; dsimp only at hm; split at hm <;> cases hm; exact h.loc
  · unfold At.nf at hm; dsimp only at hm; split at hm <;> cases hm; exact ⟨h.makerAS, h.maker⟩
  · obtain ⟨t, ht, rfl⟩ := List.mem_map.1 hs
    exact (h.path t ht).2 z hz
  · obtain ⟨t, ht, rfl⟩ := List.mem_map.1 ho
    exact (h.others t ht).2.2 z hz
theorem num4_inj {n m : Int} (hn : U32 n) (hm : U32 m) (h : num4 n = num4 m) : n = m := by
  obtain ⟨_, _⟩ := hn
  obtain ⟨_, _⟩ := hm
  simp only [num4, List.cons.injEq] at h
  omega
theorem asB_inj : ∀ {l m : List Int}, (∀ z ∈ l, U32 z) → (∀ z ∈ m, U32 z) → asB l = asB m → l = m
  | [], [], _, _, _ => rfl
  | [], y :: m, _, _, h => by
    have := congrArg List.length h
    rw [asB_len, asB_len] at this
    simp at this
  | x :: l, [], _, _, h => by
    have := congrArg List.length h
    rw [asB_len, asB_len] at this
    simp at this
  | x :: l, y :: m, h1, h2, h => by
    have e : num4 x ++ asB l = num4 y ++ asB m := h
    obtain ⟨e1, e2⟩ := List.append_inj e rfl
    rw [num4_inj (h1 x (List.mem_cons_self ..)) (h2 y (List.mem_cons_self ..)) e1, asB_inj (fun z hz => h1 z (List.mem_cons_of_mem _ hz)) (fun z hz => h2 z (List.mem_cons_of_mem _ hz)) e2]
theorem kd_inj {a b : Bool} (h : kd a = kd b) : a = b := by
  cases a <;> cases b <;> first | rfl | (exact absurd h (by decide))
theorem pB_inj : ∀ {p q : List (Bool × List Int)}, (∀ s ∈ p, ∀ z ∈ s.2, U32 z) → (∀ s ∈ q, ∀ z ∈ s.2, U32 z) → pB p = pB q → p = q
  | [], [], _, _, _ => rfl
  | [], t :: q, _, _, h => by
    have := congrArg List.length h
    rw [pB_len, pB_len] at this
    simp only [tot, List.length_cons, List.length_nil] at this
    omega
  | s :: p, [], _, _, h => by
    have := congrArg List.length h
    rw [pB_len, pB_len] at this
    simp [tot] at this
  | s :: p, t :: q, h1, h2, h => by
    have e : kd s.1 :: (s.2.length : Int) :: (asB s.2 ++ pB p) = kd t.1 :: (t.2.length : Int) :: (asB t.2 ++ pB q) := h
    simp only [List.cons.injEq] at e
    obtain ⟨e1, e2, e3⟩ := e
    obtain ⟨e4, e5⟩ := List.append_inj e3 (by rw [asB_len, asB_len]; omega)
    have e6 := asB_inj (h1 s (List.mem_cons_self ..)) (h2 t (List.mem_cons_self ..)) e4
    rw [pB_inj (fun z hz => h1 z (List.mem_cons_of_mem _ hz)) (fun z hz => h2 z (List.mem_cons_of_mem _ hz)) e5]
    congr 1
    exact Prod.ext (kd_inj e1) e6
structure VT (t : Tl) : Prop where
  f : t.1 = 64 ∨ t.1 = 128 ∨ t.1 = 192 ∨ t.1 = 224
  k : 0 ≤ t.2.1 ∧ t.2.1 ≤ 255
  n : t.2.2.length ≤ 65535
  d : ∀ z ∈ t.2.2, U8 z
theorem orF_v : orF 64 = 80 ∧ orF 128 = 144 ∧ orF 192 = 208 ∧ orF 224 = 240 := by decide
theorem VT.or {t : Tl} (h : VT t) : orF t.1 = t.1 + 16 := by
  obtain ⟨h1, h2, h3, h4⟩ := orF_v
  rcases h.f with e | e | e | e <;> rw [e] <;> assumption
theorem tlB_inj {t u : Tl} {r r' : List Int} (ht : VT t) (hu : VT u) (h : tlB t ++ r = tlB u ++ r') : t = u ∧ r = r' := by
  obtain ⟨f, k, d⟩ := t
  obtain ⟨f', k', d'⟩ := u
  have hn := ht.n
  have hn' := hu.n
  have hf := ht.f
  have hf' := hu.f
  have ho := ht.or
  have ho' := hu.or
  dsimp only at hn hn' hf hf' ho ho'
  unfold tlB putB at h
  dsimp only at h
  rw [ho, ho'] at h
  split at h <;> split at h
  · simp only [List.cons_append, List.nil_append, List.cons.injEq] at h
    obtain ⟨e1, e2, e3, e4, e5⟩ := h
    obtain ⟨e6, e7⟩ := List.append_inj e5 (by omega)
    refine ⟨?_, e7⟩
    rw [show f = f' by omega, e2, e6]
  · simp only [List.cons_append, List.nil_append, List.cons.injEq] at h
    omega
  · simp only [List.cons_append, List.nil_append, List.cons.injEq] at h
    omega
  · simp only [List.cons_append, List.nil_append, List.cons.injEq] at h
    obtain ⟨e1, e2, e3, e5⟩ := h
    obtain ⟨e6, e7⟩ := List.append_inj e5 (by omega)
    refine ⟨?_, e7⟩
    rw [e1, e2, e6]
theorem tlB_ne (t : Tl) : 0 < (tlB t).length := by
  unfold tlB putB
  split <;> simp
theorem tls_inj : ∀ {l m : List Tl}, (∀ t ∈ l, VT t) → (∀ t ∈ m, VT t) → tlsB l = tlsB m → l = m
  | [], [], _, _, _ => rfl
  | [], u :: m, _, _, h => by
    have e : [] = tlB u ++ tlsB m := h
    have h1 := congrArg List.length e
    have h2 := tlB_ne u
    rw [List.length_append, List.length_nil] at h1
    omega
  | t :: l, [], _, _, h => by
    have e : tlB t ++ tlsB l = [] := h
    have h1 := congrArg List.length e
    have h2 := tlB_ne t
    rw [List.length_append, List.length_nil] at h1
    omega
  | t :: l, u :: m, h1, h2, h => by
    have e : tlB t ++ tlsB l = tlB u ++ tlsB m := h
    obtain ⟨e1, e2⟩ := tlB_inj (h1 t (List.mem_cons_self ..)) (h2 u (List.mem_cons_self ..)) e
    rw [e1, tls_inj (fun z hz => h1 z (List.mem_cons_of_mem _ hz)) (fun z hz => h2 z (List.mem_cons_of_mem _ hz)) e2]
theorem num4_u8 {n : Int} (h : U32 n) : ∀ z ∈ num4 n, U8 z := by
  obtain ⟨_, _⟩ := h
  intro z hz
  simp only [num4, List.mem_cons, List.not_mem_nil, or_false] at hz
  unfold U8
  omega
theorem asB_u8 {l : List Int} (h : ∀ z ∈ l, U32 z) : ∀ z ∈ asB l, U8 z := by
  intro z hz
  obtain ⟨x, hx, hz⟩ := List.mem_flatMap.1 hz
  exact num4_u8 (h x hx) z hz
theorem pB_u8 {p : List (Bool × List Int)} (hp : ∀ s ∈ p, okS s = true) (h : ∀ s ∈ p, ∀ z ∈ s.2, U32 z) : ∀ z ∈ pB p, U8 z := by
  intro z hz
  obtain ⟨s, hs, hz⟩ := List.mem_flatMap.1 hz
  have h1 := hp s hs
  unfold okS at h1
  have h1 := of_decide_eq_true h1
  unfold segB at hz
  rcases List.mem_cons.1 hz with rfl | hz
  · unfold kd U8
    split <;> omega
  · rcases List.mem_cons.1 hz with rfl | hz
    · unfold U8
      omega
    · exact asB_u8 (h s hs) z hz
open Classical in
theorem okN_of {x : Nf} (h : okN x = true) : OkN x := by
  unfold okN at h
  exact of_decide_eq_true h
theorem midT_f {x : Nf} : ∀ t ∈ medT x ++ atomT x ++ makT x ++ comT x, t.1 = 64 ∨ t.1 = 128 ∨ t.1 = 192 := by
  intro t ht
  simp only [List.mem_append] at ht
  rcases ht with ((ht | ht) | ht) | ht
  · unfold medT at ht; split at ht <;> simp at ht; subst ht; simp
  · unfold atomT at ht; split at ht <;> simp at ht; subst ht; simp
  · unfold makT at ht; split at ht <;> simp at ht; subst ht; simp
  · unfold comT at ht; split at ht <;> simp at ht; subst ht; simp
theorem attrT_vt {x : Nf} (hn : NfN x) (ho : OkN x) : ∀ t ∈ attrT x, VT t := by
  obtain ⟨hos, h64⟩ := (ckP_iff x.path 0 (by omega)).1 ho.path
  intro t ht
  unfold attrT at ht
  rcases List.mem_append.1 ht with ht | ht
  · rcases List.mem_append.1 ht with ht | ht
    · simp only [List.mem_cons, List.not_mem_nil, or_false] at ht
      rcases ht with rfl | rfl | rfl
      · refine ⟨.inl rfl, ⟨by simp, by simp⟩, by simp, ?_⟩
        intro z hz
        obtain rfl := List.mem_singleton.1 hz
        have := ho.origin
        unfold U8
        omega
      · refine ⟨.inl rfl, ⟨by simp, by simp⟩, ?_, pB_u8 hos hn.path⟩
        have h1 := pB_len x.path
        have h2 : x.path.length ≤ tot x.path := by
          have : ∀ (p : List (Bool × List Int)), (∀ s ∈ p, okS s = true) → p.length ≤ tot p := by
            intro p
            induction p with
            | nil => intro _; exact Nat.zero_le _
            | cons s p ih =>
              intro h
              have h3 := ih (fun s hs => h s (List.mem_cons_of_mem _ hs))
              have h4 := h s (List.mem_cons_self ..)
              unfold okS at h4
              have h4 := of_decide_eq_true h4
              simp only [List.length_cons, tot]
              omega
          exact this _ hos
        show (pB x.path).length ≤ 65535
        omega
      · exact ⟨.inl rfl, ⟨by simp, by simp⟩, by simp [num4], num4_u8 hn.next⟩
    · simp only [List.mem_append] at ht
      rcases ht with ((ht | ht) | ht) | ht
      · unfold medT at ht
        split at ht
        · simp at ht
        · rename_i m hm
          obtain rfl := List.mem_singleton.1 ht
          exact ⟨by simp, by simp, by simp [num4], num4_u8 (hn.med m hm)⟩
      · unfold atomT at ht
        split at ht
        · obtain rfl := List.mem_singleton.1 ht
          exact ⟨by simp, by simp, by simp, by simp⟩
        · simp at ht
      · unfold makT at ht
        split at ht
        · simp at ht
        · rename_i m hm
          obtain rfl := List.mem_singleton.1 ht
          refine ⟨by simp, by simp, by simp [num4], fun z hz => ?_⟩
          rcases List.mem_append.1 hz with hz | hz
          · exact num4_u8 (hn.maker m hm).1 z hz
          · exact num4_u8 (hn.maker m hm).2 z hz
      · unfold comT at ht
        split at ht
        · simp at ht
        · obtain rfl := List.mem_singleton.1 ht
          refine ⟨by simp, by simp, ?_, asB_u8 hn.comms⟩
          have := ho.comms
          show (asB x.comms).length ≤ 65535
          rw [asB_len]
          omega
  · obtain ⟨o, ho2, rfl⟩ := List.mem_map.1 ht
    have := ckO_all _ _ ho.others.2 o ho2
    exact ⟨by simp [oT], ⟨by show 0 ≤ o.1; omega, by show o.1 ≤ 255; omega⟩, by show o.2.length ≤ 65535; omega, hn.others o ho2⟩
def isK (k : Int) (t : Tl) : Bool := decide (t.2.1 = k)
theorem mid_k4 (x : Nf) : (medT x ++ atomT x ++ makT x ++ comT x).filter (isK 4) = medT x := by
  unfold medT atomT makT comT isK
  split <;> split <;> split <;> split <;> simp
theorem mid_k6 (x : Nf) : (medT x ++ atomT x ++ makT x ++ comT x).filter (isK 6) = atomT x := by
  unfold medT atomT makT comT isK
  split <;> split <;> split <;> split <;> simp
theorem mid_k7 (x : Nf) : (medT x ++ atomT x ++ makT x ++ comT x).filter (isK 7) = makT x := by
  unfold medT atomT makT comT isK
  split <;> split <;> split <;> split <;> simp
theorem mid_k8 (x : Nf) : (medT x ++ atomT x ++ makT x ++ comT x).filter (isK 8) = comT x := by
  unfold medT atomT makT comT isK
  split <;> split <;> split <;> split <;> simp
theorem app_split {P : Tl → Prop} : ∀ {a b c d : List Tl}, (∀ t ∈ a, P t) → (∀ t ∈ c, P t) → (∀ t ∈ b, ¬ P t) → (∀ t ∈ d, ¬ P t) → a ++ b = c ++ d → a = c ∧ b = d
  | [], b, [], d, _, _, _, _, h => ⟨rfl, h⟩
  | [], b, z :: c, d, _, h2, h3, _, h => by
    have : z ∈ b := by
      have e : b = z :: (c ++ d) := h
      rw [e]; exact List.mem_cons_self ..
    exact absurd (h2 z (List.mem_cons_self ..)) (h3 z this)
  | z :: a, b, [], d, h1, _, _, h4, h => by
    have : z ∈ d := by
      have e : z :: (a ++ b) = d := h
      rw [← e]; exact List.mem_cons_self ..
    exact absurd (h1 z (List.mem_cons_self ..)) (h4 z this)
  | z :: a, b, y :: c, d, h1, h2, h3, h4, h => by
    have e : z :: (a ++ b) = y :: (c ++ d) := h
    simp only [List.cons.injEq] at e
    obtain ⟨e1, e2⟩ := app_split (fun t ht => h1 t (List.mem_cons_of_mem _ ht)) (fun t ht => h2 t (List.mem_cons_of_mem _ ht)) h3 h4 e.2
    rw [e.1, e1, e2]
    exact ⟨rfl, rfl⟩
theorem oT_inj : ∀ {l m : List (Int × List Int)}, l.map oT = m.map oT → l = m
  | [], [], _ => rfl
  | [], _ :: _, h => by simp at h
  | _ :: _, [], h => by simp at h
  | x :: l, y :: m, h => by
    simp only [List.map_cons, List.cons.injEq, oT, Prod.mk.injEq] at h
    rw [oT_inj (l := l) (m := m) h.2]
    congr 1
    exact Prod.ext h.1.2.1 h.1.2.2
theorem attr_inj {x y : Nf} (hx : NfN x) (hy : NfN y) (hl : x.loc = y.loc) (h : attrT x = attrT y) : x = y := by
  have h : ((64 : Int), (1 : Int), [x.origin]) :: (64, 2, pB x.path) :: (64, 3, num4 x.next) :: ((medT x ++ atomT x ++ makT x ++ comT x) ++ x.others.map oT) = (64, 1, [y.origin]) :: (64, 2, pB y.path) :: (64, 3, num4 y.next) :: ((medT y ++ atomT y ++ makT y ++ comT y) ++ y.others.map oT) := h
  simp only [List.cons_append, List.nil_append, List.cons.injEq, Prod.mk.injEq, true_and] at h
  obtain ⟨⟨e1, _⟩, e2, e3, e4⟩ := h
  have e2 := pB_inj hx.path hy.path e2
  have e3 := num4_inj hx.next hy.next e3
  obtain ⟨e5, e6⟩ := app_split (P := fun t => t.1 ≠ 224) (fun t ht => by rcases midT_f t ht with h | h | h <;> rw [h] <;> decide) (fun t ht => by rcases midT_f t ht with h | h | h <;> rw [h] <;> decide) (fun t ht => by obtain ⟨o, _, rfl⟩ := List.mem_map.1 ht; simp [oT]) (fun t ht => by obtain ⟨o, _, rfl⟩ := List.mem_map.1 ht; simp [oT]) e4
  have e6 := oT_inj e6
  have m4 := congrArg (List.filter (isK 4)) e5
  have m6 := congrArg (List.filter (isK 6)) e5
  have m7 := congrArg (List.filter (isK 7)) e5
  have m8 := congrArg (List.filter (isK 8)) e5
  rw [mid_k4, mid_k4] at m4
  rw [mid_k6, mid_k6] at m6
  rw [mid_k7, mid_k7] at m7
  rw [mid_k8, mid_k8] at m8
  have f4 : x.med = y.med := by
    unfold medT at m4
    have h1 := hx.med
    have h2 := hy.med
    rcases a : x.med with _ | a1 <;> rcases b : y.med with _ | b1 <;> rw [a, b] at m4
    · simp at m4
    · simp at m4
    · simp only [List.cons.injEq, Prod.mk.injEq, true_and, and_true] at m4
      rw [num4_inj (h1 _ a) (h2 _ b) m4]
  have f6 : x.atomic = y.atomic := by
    unfold atomT at m6
    rcases a : x.atomic <;> rcases b : y.atomic <;> rw [a, b] at m6 <;> simp at m6 ⊢
  have f7 : x.maker = y.maker := by
    unfold makT at m7
    have h1 := hx.maker
    have h2 := hy.maker
    rcases a : x.maker with _ | a1 <;> rcases b : y.maker with _ | b1 <;> rw [a, b] at m7
    · simp at m7
    · simp at m7
    · simp only [List.cons.injEq, Prod.mk.injEq, true_and, and_true] at m7
      obtain ⟨g1, g2⟩ := List.append_inj m7 rfl
      congr 1
      exact Prod.ext (num4_inj (h1 _ a).1 (h2 _ b).1 g1) (num4_inj (h1 _ a).2 (h2 _ b).2 g2)
  have f8 : x.comms = y.comms := by
    unfold comT at m8
    split at m8 <;> split at m8
    · rw [List.eq_nil_of_length_eq_zero (by assumption : x.comms.length = 0), List.eq_nil_of_length_eq_zero (by assumption : y.comms.length = 0)]
    · simp at m8
    · simp at m8
    · simp only [List.cons.injEq, Prod.mk.injEq, true_and, and_true] at m8
      exact asB_inj hx.comms hy.comms m8
  obtain ⟨a1, a2, a3, a4, a5, a6, a7, a8, a9⟩ := x
  obtain ⟨b1, b2, b3, b4, b5, b6, b7, b8, b9⟩ := y
  simp_all
theorem locB_u8 {x : Nf} (h : NfN x) : ∀ z ∈ locB x, U8 z := by
  intro z hz
  unfold locB at hz
  split at hz
  · obtain rfl := List.mem_singleton.1 hz
    unfold U8; omega
  · rename_i n hn
    rcases List.mem_append.1 hz with hz | hz
    · exact num4_u8 (h.loc n hn) z hz
    · obtain rfl := List.mem_singleton.1 hz
      unfold U8; omega
theorem tlB_u8 {t : Tl} (h : VT t) : ∀ z ∈ tlB t, U8 z := by
  intro z hz
  unfold tlB putB at hz
  have hf := h.f
  have ho := h.or
  have hk := h.k
  have hn := h.n
  rcases List.mem_append.1 hz with hz | hz
  · split at hz
    · simp only [List.mem_cons, List.not_mem_nil, or_false] at hz
      rw [ho] at hz
      unfold U8
      omega
    · simp only [List.mem_cons, List.not_mem_nil, or_false] at hz
      unfold U8
      omega
  · exact h.d z hz
theorem keyB_u8 {x : Nf} (hn : NfN x) (ho : okN x = true) : ∀ z ∈ keyB x, U8 z := by
  intro z hz
  unfold keyB at hz
  rcases List.mem_append.1 hz with hz | hz
  · obtain ⟨t, ht, hz⟩ := List.mem_flatMap.1 hz
    exact tlB_u8 (attrT_vt hn (okN_of ho) t ht) z hz
  · exact locB_u8 hn z hz
theorem key_inj {x y : Nf} (hx : NfN x) (hy : NfN y) (ox : okN x = true) (oy : okN y = true) (h : keyB x = keyB y) : x = y := by
  unfold keyB at h
  have hl : x.loc = y.loc ∧ attrB x = attrB y := by
    have g := congrArg List.getLast? h
    have h1 := hx.loc
    have h2 := hy.loc
    unfold locB at h g
    rcases a : x.loc with _ | a1 <;> rcases b : y.loc with _ | b1 <;> rw [a, b] at h g
    · exact ⟨rfl, (List.append_inj' h rfl).1⟩
    · rw [← List.append_assoc, List.getLast?_concat, List.getLast?_concat] at g
      simp at g
    · rw [← List.append_assoc, List.getLast?_concat, List.getLast?_concat] at g
      simp at g
    · obtain ⟨g1, g2⟩ := List.append_inj' h rfl
      obtain ⟨g3, _⟩ := List.append_inj g2 rfl
      exact ⟨by rw [num4_inj (h1 _ a) (h2 _ b) g3], g1⟩
  exact attr_inj hx hy hl.1 (tls_inj (attrT_vt hx (okN_of ox)) (attrT_vt hy (okN_of oy)) hl.2)
def keyS (x : Nf) : ByteArray := strOfNums (keyB x)
theorem keyS_inj {x y : Nf} (hx : NfN x) (hy : NfN y) (ox : okN x = true) (oy : okN y = true) (h : keyS x = keyS y) : x = y :=
  key_inj hx hy ox oy (strOf_inj (keyB_u8 hx ox) (keyB_u8 hy oy) h)
end Go.Proofs.YtdnokmpnemaoaaaGreat
namespace Go.Pm
set_option linter.unusedSimpArgs false
set_option linter.unusedVariables false
open Go.RowKit
section
variable {P : Program} {n : Nat} {W : World} {K : Hl} {F : Fp} {k : List It} {tm : TM} {L L' R S M C : List HP} {T : TypeId} {pos : String} {af : Array Edge} {gd : Option (Nat × Bool)} {ops : Array Oper} {rest nx : List Oper} {d : Option Tmp}
def isMapT : TypeDesc → Bool
  | .map _ _ => true
  | _ => false
theorem run_eqM {t : TypeId} (ht : tyIs P t isMapT = true) (a : Option Nat) (w : World) : (Op.equal t (.map a) (.map none)).run P w = .ok a.isNone w := by
  obtain ⟨d, hd, hf⟩ := tyIs_spec ht
  cases d <;> simp [isMapT] at hf
  have key : ∀ m, (Op.equalIn (m + 1) t (.map a) (.map none)).run P w = .ok a.isNone w := fun m => by cases a <;> simp [Op.equalIn, Sem.run_bind, run_underlying hd]
  exact key 9999
theorem pe_neM {xt yt : TypeId} {x y : Operand} {a : Option Nat} (hx : evT tm x = some (.map a)) (hy : evT tm y = some (.map none)) (ht : tyIs P xt isMapT = true) : PE P K L ⟨d, .binOp .neq xt x y yt, T, pos, af, gd⟩ (tget tm) (.bool (decide (a ≠ none))) := pe_bin hx hy fun w => by
  cases a <;> simp [eqGuard, binOp, Sem.run_bind, run_eqM ht]
end
section
variable {κ : Type} [DecidableEq κ]
theorem mi_of {P : Program} {t key elem : TypeId} {kv : κ → Value} {zv : Value} (h1 : P.underlying t = some (.map key elem)) (hk : KeyOk P key kv) (h2 : (P.info? elem).bind (·.zero) = some zv) : MI P t kv zv := by
  rcases h : P.info? elem with _ | i
  · rw [h] at h2; cases h2
  · rw [h] at h2; exact ⟨key, elem, i, h1, hk, h, h2⟩
theorem aG_none {A : List (κ × Value)} {z : κ} (h : ∀ p ∈ A, p.1 ≠ z) : aG A z = none := by
  induction A with
  | nil => rfl
  | cons p A ih =>
    obtain ⟨x, v⟩ := p
    unfold aG
    rw [if_neg (h (x, v) (List.mem_cons_self ..))]
    exact ih fun q hq => h q (List.mem_cons_of_mem _ hq)
theorem aG_mid {A B : List (κ × Value)} {z : κ} {v : Value} (h : ∀ p ∈ A, p.1 ≠ z) : aG (A ++ (z, v) :: B) z = some v := by
  induction A with
  | nil => simp [aG]
  | cons p A ih =>
    obtain ⟨x, u⟩ := p
    show (if x = z then some u else aG (A ++ (z, v) :: B) z) = _
    rw [if_neg (h (x, u) (List.mem_cons_self ..))]
    exact ih fun q hq => h q (List.mem_cons_of_mem _ hq)
theorem aD_mid {A B : List (κ × Value)} {z : κ} {v : Value} (h : ∀ p ∈ A, p.1 ≠ z) : aD (A ++ (z, v) :: B) z = A ++ B := by
  induction A with
  | nil => simp [aD]
  | cons p A ih =>
    obtain ⟨x, u⟩ := p
    show (if x = z then A ++ (z, v) :: B else (x, u) :: aD (A ++ (z, v) :: B) z) = _
    rw [if_neg (h (x, u) (List.mem_cons_self ..)), ih fun q hq => h q (List.mem_cons_of_mem _ hq)]
    rfl
theorem aP_new {A : List (κ × Value)} {z : κ} {v : Value} (h : ∀ p ∈ A, p.1 ≠ z) : aP A z v = A ++ [(z, v)] := by
  induction A with
  | nil => rfl
  | cons p A ih =>
    obtain ⟨x, u⟩ := p
    show (if x = z then (x, v) :: A else (x, u) :: aP A z v) = _
    rw [if_neg (h (x, u) (List.mem_cons_self ..)), ih fun q hq => h q (List.mem_cons_of_mem _ hq)]
    rfl
end
theorem Ow.satsMid {α : Type} {f : α → HP} {A B : List α} {m : α} {W : World} {K : Hl} {L R : List HP} {w : World} (H : Ow W K L w) (t : Tk L (sats ((A ++ m :: B).map f)) R) : Ow W K (f m :: sats ((A ++ B).map f) :: R) w := by
  have h1 := H.flat t
  rw [List.map_append, List.map_cons] at h1
  have h2 : Ow W K ((A.map f ++ B.map f) ++ (f m :: R)) w := h1.perm (by
    refine List.Perm.trans (l₂ := f m :: ((A.map f ++ B.map f) ++ R)) ?_ ?_
    · simp
    · exact (List.perm_middle (a := f m) (l₁ := A.map f ++ B.map f) (l₂ := R)).symm)
  have h3 := h2.unflat (As := A.map f ++ B.map f) (Sb.all _ _)
  rw [List.map_append]
  exact h3.perm (.swap ..)
theorem Ow.satsBack {α : Type} {f : α → HP} {A B : List α} {m : α} {W : World} {K : Hl} {L R R' : List HP} {w : World} (H : Ow W K L w) (t1 : Tk L (f m) R) (t2 : Tk R (sats ((A ++ B).map f)) R') : Ow W K (sats ((A ++ m :: B).map f) :: R') w := by
  have h0 := H.perm (t1.perm.trans ((t2.perm.cons _).trans (.swap ..)))
  have h1 := h0.flat .here
  have h2 : Ow W K ((A ++ m :: B).map f ++ R') w := h1.perm (by
    rw [List.map_append, List.map_append, List.map_cons]
    refine List.Perm.trans (List.perm_middle (a := f m) (l₁ := A.map f ++ B.map f) (l₂ := R')) ?_
    have := (List.perm_middle (a := f m) (l₁ := A.map f) (l₂ := B.map f ++ R')).symm
    simpa using this)
  exact h2.unflat (Sb.all _ _)
end Go.Pm
namespace Go.Proofs.YtdnokmpnemaoaaaGreat
set_option linter.unusedSimpArgs false
set_option linter.unusedVariables false
set_option maxRecDepth 20000
set_option maxHeartbeats 4000000
open Go.RowKit Go.Pm

structure En where
  id : Int
  n : Int
  x : Nf
structure Me where
  b : Nat
  d : At
  e : En
abbrev enC (d : At) (k : ByteArray) (n : Int) : List Value := [.int .i64 d.origin, .slice d.pa d.path.length d.pc, .int .u32 d.next, .bool d.hasMed, .int .u32 d.med, .bool d.hasLocal, .int .u32 d.loc, .bool d.atomic, .bool d.hasMaker, .int .u32 d.makerAS, .int .u32 d.maker, .slice d.ca d.comms.length d.cc, .slice d.oa d.others.length d.oc, .string k, .int .i64 n]
def meP (m : Me) : HP := sats [pts m.b (enC m.d (keyS m.e.x) m.e.n) 140, has (fun w => AtV w m.d)]
theorem meOpen {W : World} {K : Hl} {L R : List HP} {w : World} {m : Me} (H : Ow W K L w) (t : Tk L (meP m) R) : Ow W K (pts m.b (enC m.d (keyS m.e.x) m.e.n) 140 :: has (fun w => AtV w m.d) :: R) w := H.flat t
theorem meShut {W : World} {K : Hl} {L R : List HP} {w : World} {m : Me} (H : Ow W K L w) (t : Sb L [pts m.b (enC m.d (keyS m.e.x) m.e.n) 140, has (fun w => AtV w m.d)] R) : Ow W K (meP m :: R) w := H.unflat t
def byL (M : List Me) : List (ByteArray × Value) := M.map fun m => (keyS m.e.x, Value.int .i64 m.e.id)
def idL (M : List Me) : List (Int × Value) := M.map fun m => (m.e.id, Value.pointer (some ⟨m.b, 0, none⟩))
abbrev stC (mb lb : Nat) (c : Int) : List Value := [.map (some mb), .map (some lb), .int .i64 c]
abbrev mqS := mq Value.string
abbrev mqI := mq (Value.int .i64)
structure MOk (M : List Me) (S : List En) : Prop where
  e : M.map (·.e) = S
  d : ∀ m ∈ M, AtF m.d ∧ m.d.nf = m.e.x
def stoA (sp : Nat) (S : List En) (c : Int) : HP := fun h => ∃ (mb lb : Nat) (M : List Me), MOk M S ∧ sats [pts sp (stC mb lb c) 91, mqS mb (byL M), mqI lb (idL M), sats (M.map meP)] h
structure Mx where
  mb : Nat
  lb : Nat
  M : List Me
theorem stoOpen {W : World} {K : Hl} {L R : List HP} {w : World} {sp : Nat} {S : List En} {c : Int} (H : Ow W K L w) (t : Tk L (stoA sp S c) R) : ∃ x : {x : Mx // MOk x.M S}, Ow W K (pts sp (stC x.1.mb x.1.lb c) 91 :: mqS x.1.mb (byL x.1.M) :: mqI x.1.lb (idL x.1.M) :: sats (x.1.M.map meP) :: R) w :=
  H.open t (Bs := fun x : {x : Mx // MOk x.M S} => [pts sp (stC x.1.mb x.1.lb c) 91, mqS x.1.mb (byL x.1.M), mqI x.1.lb (idL x.1.M), sats (x.1.M.map meP)]) (fun k ⟨mb, lb, M, hM, h⟩ => ⟨⟨⟨mb, lb, M⟩, hM⟩, h⟩)
theorem stoShut {W : World} {K : Hl} {L R : List HP} {w : World} {sp mb lb : Nat} {M : List Me} {S : List En} {c : Int} (hM : MOk M S) (H : Ow W K L w) (t : Sb L [pts sp (stC mb lb c) 91, mqS mb (byL M), mqI lb (idL M), sats (M.map meP)] R) : Ow W K (stoA sp S c :: R) w :=
  H.shut t (fun k hk => ⟨mb, lb, M, hM, hk⟩)
theorem mi_s : MI Tryz.prog 88 Value.string (.int .i64 0) := mi_of Tryz.underlying88 (keyOkS Tryz.underlying9) (by kernel_rfl)
theorem mi_i : MI Tryz.prog 89 (Value.int .i64) (.pointer none) := mi_of Tryz.underlying89 (keyOkI Tryz.underlying3) (by kernel_rfl)
theorem is_s (sp : Nat) (lb : Nat) (x : Value) (c : Int) : Pact Tryz.prog 51 #[.pointer (some ⟨sp, 0, none⟩)] (fun _ => True) [pts sp [x, .map (some lb), .int .i64 c] 91] (fun u L' => u = .bool true ∧ L' = [pts sp [x, .map (some lb), .int .i64 c] 91]) := by
  refine pact Tryz.func51 rfl Tryz.ntmps51 rfl ?_
  intro W K _
  (repeat' (first | ((with_reducible apply gL); (first | refine yL0 ?_ | ((with_reducible apply gL_bin_neq); (first | (refine JL_p rfl xR xR (pe_neM xR xR xC) ?_) | fail)) | refine yL ?_ | ((with_reducible apply gL_gd); (first | (refine JL_guard xR xR ?_ ?_ <;> intro _ <;> (try (exfalso; first | contradiction | omega))) | (refine JL_guardb xR xR ?_ ?_ <;> (intro hgb; subst hgb)) | (refine JL_guardb xR xR ?_ ?_ <;> (intro hgb; fail_if_success (have : type_of% hgb := rfl))) | fail)) | fail)) | refine yJ ?_ | fail))
  exact J_ret1 rfl (by rfl) fun w H => ⟨_, ⟨rfl, rfl⟩, H.sel xZ⟩
theorem find_hit (sp mb lb : Nat) (c id : Int) (A B : List Me) (m : Me) (hid : m.e.id = id) (hA : ∀ a ∈ A, a.e.id ≠ id) : Pact Tryz.prog 73 #[.pointer (some ⟨sp, 0, none⟩), .int .i64 id] (fun _ => True) [pts sp (stC mb lb c) 91, mqI lb (idL (A ++ m :: B))] (fun u L' => u = .tuple #[.pointer (some ⟨m.b, 0, none⟩), .int .i64 0] ∧ L' = [pts sp (stC mb lb c) 91, mqI lb (idL (A ++ m :: B))]) := by
  refine pact Tryz.func73 rfl Tryz.ntmps73 rfl ?_
  intro W K _
  have hg : lookV (aG (idL (A ++ m :: B)) id) (.pointer none) false = .pointer (some ⟨m.b, 0, none⟩) := by
    unfold idL
    rw [List.map_append, List.map_cons, hid, aG_mid]
    · rfl
    · intro p hp
      obtain ⟨a, ha, rfl⟩ := List.mem_map.1 hp
      exact hA a ha
  (repeat' (first | ((with_reducible apply gL); (first | refine yL0 ?_ | ((with_reducible apply gL_lookup); (first | (refine JL_p rfl xR xR (pe_lookG mi_i xR xR xA hg) ?_) | fail)) | refine yL ?_ | ((with_reducible apply gL_go); (first | (refine JL_goq (is_s sp lb (.map (some mb)) c) (hφ := xF) (h := ?_); rintro _ _ ⟨rfl, rfl⟩; try simp only [List.cons_append, List.nil_append]) | fail)) | ((with_reducible apply gL_lookup); (first | refine JL_p rfl xR xR (pe_lookup xR xR (tabM mtab_ok xR) xT (by first | apply hlook | apply hlook2 | rfl)) ?_ | refine JL_p rfl xR xR (pe_lookupK xR xR (tabM mtab_ok xR) xH (by first | apply hlook | apply hlook2 | rfl)) ?_ | fail)) | fail)) | refine yJ ?_ | ((with_reducible apply gJ_if); (first | (refine J_if xR ?_ ?_ <;> intro _ <;> (try (exfalso; first | contradiction | omega))) | (refine J_ifb xR ?_ ?_ <;> (intro hgb; subst hgb)) | (refine J_ifb xR ?_ ?_ <;> intro _) | fail)) | fail))
  exact J_ret2 rfl (by rfl) (by rfl) fun w H => ⟨_, ⟨rfl, rfl⟩, H.sel xZ⟩
theorem find_miss (sp mb lb : Nat) (c id : Int) (M : List Me) (hA : ∀ a ∈ M, a.e.id ≠ id) : Pact Tryz.prog 73 #[.pointer (some ⟨sp, 0, none⟩), .int .i64 id] (fun _ => True) [pts sp (stC mb lb c) 91, mqI lb (idL M)] (fun u L' => u = .tuple #[.pointer none, .int .i64 5] ∧ L' = [pts sp (stC mb lb c) 91, mqI lb (idL M)]) := by
  refine pact Tryz.func73 rfl Tryz.ntmps73 rfl ?_
  intro W K _
  have hg : lookV (aG (idL M) id) (.pointer none) false = .pointer none := by
    unfold idL
    rw [aG_none]
    · rfl
    · intro p hp
      obtain ⟨a, ha, rfl⟩ := List.mem_map.1 hp
      exact hA a ha
  (repeat' (first | ((with_reducible apply gL); (first | refine yL0 ?_ | ((with_reducible apply gL_lookup); (first | (refine JL_p rfl xR xR (pe_lookG mi_i xR xR xA hg) ?_) | fail)) | refine yL ?_ | ((with_reducible apply gL_go); (first | (refine JL_goq (is_s sp lb (.map (some mb)) c) (hφ := xF) (h := ?_); rintro _ _ ⟨rfl, rfl⟩; try simp only [List.cons_append, List.nil_append]) | fail)) | ((with_reducible apply gL_lookup); (first | refine JL_p rfl xR xR (pe_lookup xR xR (tabM mtab_ok xR) xT (by first | apply hlook | apply hlook2 | rfl)) ?_ | refine JL_p rfl xR xR (pe_lookupK xR xR (tabM mtab_ok xR) xH (by first | apply hlook | apply hlook2 | rfl)) ?_ | fail)) | fail)) | refine yJ ?_ | ((with_reducible apply gJ_if); (first | (refine J_if xR ?_ ?_ <;> intro _ <;> (try (exfalso; first | contradiction | omega))) | (refine J_ifb xR ?_ ?_ <;> (intro hgb; subst hgb)) | (refine J_ifb xR ?_ ?_ <;> intro _) | fail)) | fail))
  exact J_ret2 rfl (by rfl) (by rfl) fun w H => ⟨_, ⟨rfl, rfl⟩, H.sel xZ⟩
theorem new_s : Pact Tryz.prog 14 #[] (fun _ => True) [] (fun u L' => ∃ sp, u = .pointer (some ⟨sp, 0, none⟩) ∧ L' = [stoA sp [] 0]) := by
  refine pact (args := []) Tryz.func14 rfl Tryz.ntmps14 rfl ?_
  intro W K _
  (repeat' (first | ((with_reducible apply gL); (first | refine yL0 ?_ | ((with_reducible apply gL_makeMap); (first | (first | (refine JL_mmG (t := 88) Value.string xR xR ?_; intro mb) | (refine JL_mmG (t := 89) (Value.int .i64) xR xR ?_; intro lb)) | fail)) | refine yL ?_ | (refine yM ?_; intro _) | ((with_reducible apply gL_makeMap); (first | (refine JL_mm (tabM mtab_ok xR) xR xR ?_; intro _) | fail)) | fail)) | refine yJ ?_ | fail))
  rename_i sp
  refine J_ret1 rfl (by rfl) fun w H => ⟨_, ⟨sp, rfl, rfl⟩, ?_⟩
  exact Ow.sel (stoShut (M := []) ⟨rfl, fun _ h => absurd h List.not_mem_nil⟩ (Ow.satsNil H) (mb := mb) (lb := lb) xZ) xZ
end Go.Proofs.YtdnokmpnemaoaaaGreat
namespace Go.Proofs.YtdnokmpnemaoaaaGreat
set_option linter.unusedSimpArgs false
set_option linter.unusedVariables false
set_option maxRecDepth 20000
set_option maxHeartbeats 4000000
open Go.RowKit Go.Pm

structure StOk (B : Int) (S : List En) (c : Int) : Prop where
  cnt : 0 ≤ c ∧ c ≤ B
  ids : ∀ e ∈ S, 1 ≤ e.id ∧ e.id ≤ c
  n : ∀ e ∈ S, 1 ≤ e.n ∧ e.n ≤ B
  ok : ∀ e ∈ S, okN e.x = true ∧ NfN e.x
  idd : S.Pairwise (fun a b => a.id ≠ b.id)
  xd : S.Pairwise (fun a b => a.x ≠ b.x)
  len : S.length ≤ 4096
theorem StOk.mono {B B' : Int} {S : List En} {c : Int} (h : StOk B S c) (hb : B ≤ B') : StOk B' S c :=
  ⟨⟨h.cnt.1, by have := h.cnt.2; omega⟩, h.ids, fun e he => ⟨(h.n e he).1, by have := (h.n e he).2; omega⟩, h.ok, h.idd, h.xd, h.len⟩
theorem stok_nil : StOk 0 [] 0 := ⟨by omega, by simp, by simp, by simp, .nil, .nil, by simp⟩
theorem StOk.mid {B : Int} {A C : List En} {e : En} {c : Int} (h : StOk B (A ++ e :: C) c) : (∀ a ∈ A, a.id ≠ e.id ∧ a.x ≠ e.x) ∧ (∀ a ∈ C, a.id ≠ e.id ∧ a.x ≠ e.x) := by
  have h1 := List.pairwise_append.1 h.idd
  have h2 := List.pairwise_append.1 h.xd
  have h3 := List.pairwise_cons.1 h1.2.1
  have h4 := List.pairwise_cons.1 h2.2.1
  exact ⟨fun a ha => ⟨h1.2.2 a ha e (List.mem_cons_self ..), h2.2.2 a ha e (List.mem_cons_self ..)⟩, fun a ha => ⟨fun q => h3.1 a ha q.symm, fun q => h4.1 a ha q.symm⟩⟩
theorem MOk.split {M : List Me} {A C : List En} {e : En} (h : MOk M (A ++ e :: C)) : ∃ MA m MC, M = MA ++ m :: MC ∧ m.e = e ∧ MOk MA A ∧ MOk MC C ∧ AtF m.d ∧ m.d.nf = e.x := by
  obtain ⟨MA, M2, rfl, h1, h2⟩ := List.map_eq_append_iff.1 h.e
  obtain ⟨m, MC, rfl, h3, h4⟩ := List.map_eq_cons_iff.1 h2
  have hd := h.d m (by simp)
  exact ⟨MA, m, MC, rfl, h3, ⟨h1, fun a ha => h.d a (by simp [ha])⟩, ⟨h4, fun a ha => h.d a (by simp [ha])⟩, hd.1, by rw [hd.2, h3]⟩
theorem MOk.join {MA MC : List Me} {m : Me} {A C : List En} (h1 : MOk MA A) (h2 : MOk MC C) (h3 : AtF m.d) (h4 : m.d.nf = m.e.x) : MOk (MA ++ m :: MC) (A ++ m.e :: C) := by
  refine ⟨by rw [List.map_append, List.map_cons, h1.e, h2.e], fun a ha => ?_⟩
  rcases List.mem_append.1 ha with ha | ha
  · exact h1.d a ha
  · rcases List.mem_cons.1 ha with rfl | ha
    · exact ⟨h3, h4⟩
    · exact h2.d a ha
theorem MOk.two {MA MC : List Me} {A C : List En} (h1 : MOk MA A) (h2 : MOk MC C) : MOk (MA ++ MC) (A ++ C) := by
  refine ⟨by rw [List.map_append, h1.e, h2.e], fun a ha => ?_⟩
  rcases List.mem_append.1 ha with ha | ha
  · exact h1.d a ha
  · exact h2.d a ha
theorem MOk.mem {M : List Me} {S : List En} (h : MOk M S) {a : Me} (ha : a ∈ M) : a.e ∈ S := by rw [← h.e]; exact List.mem_map.2 ⟨a, ha, rfl⟩
theorem keyOk_s (d : At) (hd : AtF d) (hok : okN d.nf = true) : Pact Tryz.prog 109 #[.agg (atC d).toArray] (fun w => AtV w d) [] (ret0 (.tuple #[.string (keyS d.nf), .int .i64 0])) := fun W K w hK H =>
  (keyOf_s d hd W K w hK H).mono fun e w' ⟨v, L', h2, h1, h3⟩ => by
    obtain ⟨k, rfl, hk, rfl⟩ := h2
    exact ⟨_, [], ⟨by rw [hk hok, hok]; rfl, rfl⟩, h1, h3⟩
theorem keep_bad (sp : Nat) (S : List En) (c : Int) (d : At) (hd : AtF d) (hok : okN d.nf = false) : Pact Tryz.prog 69 #[.pointer (some ⟨sp, 0, none⟩), .agg (atC d).toArray] (fun w => AtV w d) [stoA sp S c] (fun u L' => u = .tuple #[.int .i64 0, .int .i64 2] ∧ L' = [stoA sp S c]) := by
  refine pact Tryz.func69 rfl Tryz.ntmps69 rfl ?_
  intro W K hK
  refine J_open (fun w H => stoOpen H .here) ?_
  rintro ⟨⟨mb, lb, M⟩, hM⟩
  dsimp only
  have hk := keyOf_s d hd
  rw [hok] at hk
  (repeat' (first | ((with_reducible apply gL); (first | refine yL0 ?_ | refine yL ?_ | ((with_reducible apply gL_go); (first | (refine JL_goq (is_s sp lb (.map (some mb)) c) (hφ := xF) (h := ?_); rintro _ _ ⟨rfl, rfl⟩; try simp only [List.cons_append, List.nil_append]) | (refine JL_goq (hk) (hφ := (by (try simp only [List.cons_append, List.nil_append]); exact fun w hr => hK w hr.1)) (h := ?_); rintro _ _ ⟨k, rfl, _, rfl⟩; try simp only [List.cons_append, List.nil_append]) | fail)) | (refine yM ?_; intro _) | ((with_reducible apply gL_lookup); (first | refine JL_p rfl xR xR (pe_lookup xR xR (tabM mtab_ok xR) xT (by first | apply hlook | apply hlook2 | rfl)) ?_ | refine JL_p rfl xR xR (pe_lookupK xR xR (tabM mtab_ok xR) xH (by first | apply hlook | apply hlook2 | rfl)) ?_ | fail)) | fail)) | ((with_reducible apply gD); (first | (refine JD_nil ?_; try simp only [List.cons_append, List.nil_append]) | (refine JD_bar ?_; try simp only [List.cons_append, List.nil_append]) | refine yD ?_ | ((with_reducible apply gD_go); (first | (refine JD_goq (is_s sp lb (.map (some mb)) c) (hφ := xF) (h := ?_); rintro _ _ ⟨rfl, rfl⟩; try simp only [List.cons_append, List.nil_append]) | (refine JD_goq (hk) (hφ := (by (try simp only [List.cons_append, List.nil_append]); exact fun w hr => hK w hr.1)) (h := ?_); rintro _ _ ⟨k, rfl, _, rfl⟩; try simp only [List.cons_append, List.nil_append]) | fail)) | (refine yE ?_; intro _) | ((with_reducible apply gD_mapUpdate); (first | refine JD_mapSet xR xR xR (tabM mtab_ok xR) xT xR ?_ | fail)) | fail)) | refine yJ ?_ | ((with_reducible apply gJ_if); (first | (refine J_if xR ?_ ?_ <;> intro _ <;> (try (exfalso; first | contradiction | omega))) | (refine J_ifb xR ?_ ?_ <;> (intro hgb; subst hgb)) | (refine J_ifb xR ?_ ?_ <;> intro _) | fail)) | refine J_draw (id := 13) [0, 1, 2, 3, 4, 5, 6, 7, 8] [9] mixed xC xD xD ?_ | refine J_draw (id := 14) [0, 1, 2, 3, 4, 5, 6, 7, 8, 10, 9, 11, 12] [13] mixed xC xD xD ?_ | fail))
  exact J_ret2 rfl (by rfl) (by rfl) fun w H => ⟨_, ⟨rfl, rfl⟩, Ow.sel (stoShut hM H xZ) xZ⟩
theorem keep_hit (B : Int) (hB : B ≤ 1000000000) (sp : Nat) (A C : List En) (e : En) (c : Int) (d : At) (hd : AtF d) (hok : okN d.nf = true) (hs : StOk B (A ++ e :: C) c) (he : e.x = d.nf) : Pact Tryz.prog 69 #[.pointer (some ⟨sp, 0, none⟩), .agg (atC d).toArray] (fun w => AtV w d) [stoA sp (A ++ e :: C) c] (fun u L' => u = .tuple #[.int .i64 e.id, .int .i64 0] ∧ L' = [stoA sp (A ++ ⟨e.id, e.n + 1, e.x⟩ :: C) c]) := by
  refine pact Tryz.func69 rfl Tryz.ntmps69 rfl ?_
  intro W K hK
  have hmid := hs.mid
  have hnn := hs.n e (by simp)
  have hii := hs.ids e (by simp)
  refine J_open (fun w H => stoOpen H .here) ?_
  rintro ⟨⟨mb, lb, M⟩, hM⟩
  dsimp only at hM ⊢
  obtain ⟨MA, m, MC, rfl, rfl, hMA, hMC, hmd, hmx⟩ := hM.split
  have hkey := keyOk_s d hd hok
  have g1 : lookV (aG (byL (MA ++ m :: MC)) (keyS d.nf)) (.int .i64 0) false = .int .i64 m.e.id := by
    unfold byL
    rw [List.map_append, List.map_cons, ← he, aG_mid]
    · rfl
    · intro p hp
      obtain ⟨a, ha, rfl⟩ := List.mem_map.1 hp
      have h1 := hMA.mem ha
      have h2 := hs.ok a.e (by simp [h1])
      have h3 := hs.ok m.e (by simp)
      exact fun q => (hmid.1 _ h1).2 (keyS_inj h2.2 h3.2 h2.1 h3.1 q)
  have g2 : lookV (aG (idL (MA ++ m :: MC)) m.e.id) (.pointer none) false = .pointer (some ⟨m.b, 0, none⟩) := by
    unfold idL
    rw [List.map_append, List.map_cons, aG_mid]
    · rfl
    · intro p hp
      obtain ⟨a, ha, rfl⟩ := List.mem_map.1 hp
      exact (hmid.1 _ (hMA.mem ha)).1
  refine J_heap (fun w H => meOpen (Ow.satsMid H xA) .here) ?_
  (repeat' (first | ((with_reducible apply gL); (first | refine yL0 ?_ | ((with_reducible apply gL_lookup); (first | (first | (refine JL_p rfl xR xR (pe_lookG mi_s xR xR xA g1) ?_) | (refine JL_p rfl xR xR (pe_lookG mi_i xR xR xA g2) ?_)) | fail)) | refine yL ?_ | ((with_reducible apply gL_go); (first | (refine JL_goq (is_s sp lb (.map (some mb)) c) (hφ := xF) (h := ?_); rintro _ _ ⟨rfl, rfl⟩; try simp only [List.cons_append, List.nil_append]) | (refine JL_goq (hkey) (hφ := (by (try simp only [List.cons_append, List.nil_append]); exact fun w hr => hK w hr.1)) (h := ?_); rintro _ _ ⟨rfl, rfl⟩; try simp only [List.cons_append, List.nil_append]) | fail)) | (refine yM ?_; intro _) | ((with_reducible apply gL_lookup); (first | refine JL_p rfl xR xR (pe_lookup xR xR (tabM mtab_ok xR) xT (by first | apply hlook | apply hlook2 | rfl)) ?_ | refine JL_p rfl xR xR (pe_lookupK xR xR (tabM mtab_ok xR) xH (by first | apply hlook | apply hlook2 | rfl)) ?_ | fail)) | fail)) | ((with_reducible apply gD); (first | (refine JD_nil ?_; try simp only [List.cons_append, List.nil_append]) | (refine JD_bar ?_; try simp only [List.cons_append, List.nil_append]) | refine yD ?_ | ((with_reducible apply gD_go); (first | (refine JD_goq (is_s sp lb (.map (some mb)) c) (hφ := xF) (h := ?_); rintro _ _ ⟨rfl, rfl⟩; try simp only [List.cons_append, List.nil_append]) | (refine JD_goq (hkey) (hφ := (by (try simp only [List.cons_append, List.nil_append]); exact fun w hr => hK w hr.1)) (h := ?_); rintro _ _ ⟨rfl, rfl⟩; try simp only [List.cons_append, List.nil_append]) | fail)) | (refine yE ?_; intro _) | ((with_reducible apply gD_mapUpdate); (first | refine JD_mapSet xR xR xR (tabM mtab_ok xR) xT xR ?_ | fail)) | fail)) | refine yJ ?_ | ((with_reducible apply gJ_if); (first | (refine J_if xR ?_ ?_ <;> intro _ <;> (try (exfalso; first | contradiction | omega))) | (refine J_ifb xR ?_ ?_ <;> (intro hgb; subst hgb)) | (refine J_ifb xR ?_ ?_ <;> intro _) | fail)) | refine J_draw (id := 13) [0, 1, 2, 3, 4, 5, 6, 7, 8] [9] mixed xC xD xD ?_ | refine J_draw (id := 14) [0, 1, 2, 3, 4, 5, 6, 7, 8, 10, 9, 11, 12] [13] mixed xC xD xD ?_ | fail))
  refine J_ret2 rfl (by rfl) (by rfl) fun w H => ⟨_, ⟨rfl, rfl⟩, ?_⟩
  have e1 : byL (MA ++ m :: MC) = byL (MA ++ ⟨m.b, m.d, ⟨m.e.id, m.e.n + 1, m.e.x⟩⟩ :: MC) := by simp [byL]
  have e2 : idL (MA ++ m :: MC) = idL (MA ++ ⟨m.b, m.d, ⟨m.e.id, m.e.n + 1, m.e.x⟩⟩ :: MC) := by simp [idL]
  rw [e1, e2] at H
  have H := meShut (m := ⟨m.b, m.d, ⟨m.e.id, m.e.n + 1, m.e.x⟩⟩) H xZ
  have H := Ow.satsBack (A := MA) (B := MC) (m := ⟨m.b, m.d, ⟨m.e.id, m.e.n + 1, m.e.x⟩⟩) H .here xA
  have hJ := MOk.join (m := ⟨m.b, m.d, ⟨m.e.id, m.e.n + 1, m.e.x⟩⟩) hMA hMC hmd hmx
  exact (stoShut hJ H xZ).sel xZ
theorem ownHas {W : World} {K : Hl} {L R : List HP} {w : World} {d : At} (H : Ow W K L w) (t : Tk L (ownAt d) R) : Ow W K (has (fun w => AtV w d) :: R) w := by
  have H := H.flat t
  have H := Ow.sgsHas (q := d.path) H (.there .here)
  refine Ow.has (M := [has (fun w => ∀ s ∈ d.path, segV w s), Ar 87 2 sgC (.slice d.pa d.path.length d.pc) d.path, Ar 22 1 u32C (.slice d.ca d.comms.length d.cc) d.comms, has (fun w => RawsV w d.oa d.oc d.others)]) H (.cons .here (.cons .here (.cons .here (.cons .here .nil)))) ?_
  intro w hr
  exact ⟨⟨Src.ar (.there .here) w hr, hr.has .here⟩, Src.ar (.there (.there .here)) w hr, hr.has (.there (.there (.there .here)))⟩
theorem MOk.len {M : List Me} {S : List En} (h : MOk M S) : (idL M).length = S.length := by
  unfold idL
  rw [← h.e, List.length_map, List.length_map]
theorem keep_full (B : Int) (hB : B ≤ 1000000000) (sp : Nat) (S : List En) (c : Int) (d : At) (hd : AtF d) (hok : okN d.nf = true) (hs : StOk B S c) (hn : ∀ e ∈ S, e.x ≠ d.nf) (hf : S.length = 4096) : Pact Tryz.prog 69 #[.pointer (some ⟨sp, 0, none⟩), .agg (atC d).toArray] (fun w => AtV w d) [stoA sp S c] (fun u L' => u = .tuple #[.int .i64 0, .int .i64 4] ∧ L' = [stoA sp S c]) := by
  refine pact Tryz.func69 rfl Tryz.ntmps69 rfl ?_
  intro W K hK
  refine J_open (fun w H => stoOpen H .here) ?_
  rintro ⟨⟨mb, lb, M⟩, hM⟩
  dsimp only at hM ⊢
  have hkey := keyOk_s d hd hok
  have hln := hM.len
  have hnf := At.nfN hd.num
  have g1 : lookV (aG (byL M) (keyS d.nf)) (.int .i64 0) false = .int .i64 0 := by
    unfold byL
    rw [aG_none]
    · rfl
    · intro p hp
      obtain ⟨a, ha, rfl⟩ := List.mem_map.1 hp
      have h1 := hM.mem ha
      have h2 := hs.ok a.e h1
      exact fun q => hn _ h1 (keyS_inj h2.2 hnf h2.1 hok q)
  (repeat' (first | ((with_reducible apply gL); (first | refine yL0 ?_ | ((with_reducible apply gL_lookup); (first | (refine JL_p rfl xR xR (pe_lookG mi_s xR xR xA g1) ?_) | fail)) | ((with_reducible apply gL_c_len); (first | (refine JL_p rfl xR xR (pe_lenG mi_i xR xA hln) ?_) | fail)) | refine yL ?_ | ((with_reducible apply gL_go); (first | (refine JL_goq (is_s sp lb (.map (some mb)) c) (hφ := xF) (h := ?_); rintro _ _ ⟨rfl, rfl⟩; try simp only [List.cons_append, List.nil_append]) | (refine JL_goq (hkey) (hφ := (by (try simp only [List.cons_append, List.nil_append]); exact fun w hr => hK w hr.1)) (h := ?_); rintro _ _ ⟨rfl, rfl⟩; try simp only [List.cons_append, List.nil_append]) | fail)) | (refine yM ?_; intro _) | ((with_reducible apply gL_lookup); (first | refine JL_p rfl xR xR (pe_lookup xR xR (tabM mtab_ok xR) xT (by first | apply hlook | apply hlook2 | rfl)) ?_ | refine JL_p rfl xR xR (pe_lookupK xR xR (tabM mtab_ok xR) xH (by first | apply hlook | apply hlook2 | rfl)) ?_ | fail)) | fail)) | ((with_reducible apply gD); (first | (refine JD_nil ?_; try simp only [List.cons_append, List.nil_append]) | (refine JD_bar ?_; try simp only [List.cons_append, List.nil_append]) | refine yD ?_ | ((with_reducible apply gD_go); (first | (refine JD_goq (is_s sp lb (.map (some mb)) c) (hφ := xF) (h := ?_); rintro _ _ ⟨rfl, rfl⟩; try simp only [List.cons_append, List.nil_append]) | (refine JD_goq (hkey) (hφ := (by (try simp only [List.cons_append, List.nil_append]); exact fun w hr => hK w hr.1)) (h := ?_); rintro _ _ ⟨rfl, rfl⟩; try simp only [List.cons_append, List.nil_append]) | fail)) | (refine yE ?_; intro _) | ((with_reducible apply gD_mapUpdate); (first | refine JD_mapSet xR xR xR (tabM mtab_ok xR) xT xR ?_ | fail)) | fail)) | refine yJ ?_ | ((with_reducible apply gJ_if); (first | (refine J_if xR ?_ ?_ <;> intro _ <;> (try (exfalso; first | contradiction | omega))) | (refine J_ifb xR ?_ ?_ <;> (intro hgb; subst hgb)) | (refine J_ifb xR ?_ ?_ <;> intro _) | fail)) | refine J_draw (id := 13) [0, 1, 2, 3, 4, 5, 6, 7, 8] [9] mixed xC xD xD ?_ | refine J_draw (id := 14) [0, 1, 2, 3, 4, 5, 6, 7, 8, 10, 9, 11, 12] [13] mixed xC xD xD ?_ | fail))
  exact J_ret2 rfl (by rfl) (by rfl) fun w H => ⟨_, ⟨rfl, rfl⟩, Ow.sel (stoShut hM H xZ) xZ⟩
theorem keep_new (B : Int) (hB : B ≤ 1000000000) (sp : Nat) (S : List En) (c : Int) (d : At) (hd : AtF d) (hok : okN d.nf = true) (hs : StOk B S c) (hn : ∀ e ∈ S, e.x ≠ d.nf) (hf : S.length ≠ 4096) : Pact Tryz.prog 69 #[.pointer (some ⟨sp, 0, none⟩), .agg (atC d).toArray] (fun w => AtV w d) [stoA sp S c] (fun u L' => u = .tuple #[.int .i64 (c + 1), .int .i64 0] ∧ L' = [stoA sp (S ++ [⟨c + 1, 1, d.nf⟩]) (c + 1)]) := by
  refine pact Tryz.func69 rfl Tryz.ntmps69 rfl ?_
  intro W K hK
  refine J_open (fun w H => stoOpen H .here) ?_
  rintro ⟨⟨mb, lb, M⟩, hM⟩
  dsimp only at hM ⊢
  have hkey := keyOk_s d hd hok
  have hln := hM.len
  have hnf := At.nfN hd.num
  have hcc := hs.cnt
  have hne : ∀ p ∈ byL M, p.1 ≠ keyS d.nf := by
    intro p hp
    obtain ⟨a, ha, rfl⟩ := List.mem_map.1 hp
    have h1 := hM.mem ha
    have h2 := hs.ok a.e h1
    exact fun q => hn _ h1 (keyS_inj h2.2 hnf h2.1 hok q)
  have hni : ∀ p ∈ idL M, p.1 ≠ c + 1 := by
    intro p hp
    obtain ⟨a, ha, rfl⟩ := List.mem_map.1 hp
    have := hs.ids a.e (hM.mem ha)
    dsimp only
    omega
  have g1 : lookV (aG (byL M) (keyS d.nf)) (.int .i64 0) false = .int .i64 0 := by
    rw [aG_none hne]
    rfl
  (repeat' (first | ((with_reducible apply gL); (first | refine yL0 ?_ | ((with_reducible apply gL_lookup); (first | (refine JL_p rfl xR xR (pe_lookG mi_s xR xR xA g1) ?_) | fail)) | ((with_reducible apply gL_c_len); (first | (refine JL_p rfl xR xR (pe_lenG mi_i xR xA hln) ?_) | fail)) | refine yL ?_ | ((with_reducible apply gL_go); (first | (refine JL_goq (is_s sp lb (.map (some mb)) c) (hφ := xF) (h := ?_); rintro _ _ ⟨rfl, rfl⟩; try simp only [List.cons_append, List.nil_append]) | (refine JL_goq (hkey) (hφ := (by (try simp only [List.cons_append, List.nil_append]); exact fun w hr => hK w hr.1)) (h := ?_); rintro _ _ ⟨rfl, rfl⟩; try simp only [List.cons_append, List.nil_append]) | (refine JL_goq (copy_s d hd) (hφ := (by (try simp only [List.cons_append, List.nil_append]); exact fun w hr => hK w hr.1)) (h := ?_); rintro _ _ ⟨d', hd', hx', rfl, rfl⟩; try simp only [List.cons_append, List.nil_append]) | fail)) | (refine yM ?_; intro _) | ((with_reducible apply gL_lookup); (first | refine JL_p rfl xR xR (pe_lookup xR xR (tabM mtab_ok xR) xT (by first | apply hlook | apply hlook2 | rfl)) ?_ | refine JL_p rfl xR xR (pe_lookupK xR xR (tabM mtab_ok xR) xH (by first | apply hlook | apply hlook2 | rfl)) ?_ | fail)) | fail)) | ((with_reducible apply gD); (first | (refine JD_nil ?_; try simp only [List.cons_append, List.nil_append]) | (refine JD_bar ?_; try simp only [List.cons_append, List.nil_append]) | ((with_reducible apply gD_mapUpdate); (first | (first | (refine JD_setG mi_s xR xR xR xA xR ?_) | (refine JD_setG mi_i xR xR xR xA xR ?_)) | fail)) | refine yD ?_ | ((with_reducible apply gD_go); (first | (refine JD_goq (is_s sp lb (.map (some mb)) c) (hφ := xF) (h := ?_); rintro _ _ ⟨rfl, rfl⟩; try simp only [List.cons_append, List.nil_append]) | (refine JD_goq (hkey) (hφ := (by (try simp only [List.cons_append, List.nil_append]); exact fun w hr => hK w hr.1)) (h := ?_); rintro _ _ ⟨rfl, rfl⟩; try simp only [List.cons_append, List.nil_append]) | (refine JD_goq (copy_s d hd) (hφ := (by (try simp only [List.cons_append, List.nil_append]); exact fun w hr => hK w hr.1)) (h := ?_); rintro _ _ ⟨d', hd', hx', rfl, rfl⟩; try simp only [List.cons_append, List.nil_append]) | fail)) | (refine yE ?_; intro _) | ((with_reducible apply gD_mapUpdate); (first | refine JD_mapSet xR xR xR (tabM mtab_ok xR) xT xR ?_ | fail)) | fail)) | refine yJ ?_ | ((with_reducible apply gJ_if); (first | (refine J_if xR ?_ ?_ <;> intro _ <;> (try (exfalso; first | contradiction | omega))) | (refine J_ifb xR ?_ ?_ <;> (intro hgb; subst hgb)) | (refine J_ifb xR ?_ ?_ <;> intro _) | fail)) | refine J_draw (id := 13) [0, 1, 2, 3, 4, 5, 6, 7, 8] [9] mixed xC xD xD ?_ | refine J_draw (id := 14) [0, 1, 2, 3, 4, 5, 6, 7, 8, 10, 9, 11, 12] [13] mixed xC xD xD ?_ | fail))
  rename_i eb
  refine J_ret2 rfl (by rfl) (by rfl) fun w H => ⟨_, ⟨rfl, rfl⟩, ?_⟩
  rw [aP_new hne, aP_new hni] at H
  have e1 : byL M ++ [(keyS d.nf, Value.int .i64 (c + 1))] = byL (M ++ [⟨eb, d', ⟨c + 1, 1, d.nf⟩⟩]) := by simp [byL]
  have e2 : idL M ++ [(c + 1, Value.pointer (some ⟨eb, 0, none⟩))] = idL (M ++ [⟨eb, d', ⟨c + 1, 1, d.nf⟩⟩]) := by simp [idL]
  rw [e1, e2] at H
  have H := ownHas H xA
  have H := meShut (m := ⟨eb, d', ⟨c + 1, 1, d.nf⟩⟩) H xZ
  have H := Ow.satsBack (A := M) (B := []) (m := ⟨eb, d', ⟨c + 1, 1, d.nf⟩⟩) H .here (by rw [List.append_nil]; (first | ((with_reducible (repeat (first | exact Tk.here | apply Tk.there))); done) | ((simp only [List.cons_append, List.nil_append]); (with_reducible (repeat (first | exact Tk.here | apply Tk.there))); done) | fail))
  have hJ := MOk.join (m := ⟨eb, d', ⟨c + 1, 1, d.nf⟩⟩) hM (MC := []) (C := []) ⟨rfl, fun _ h => absurd h List.not_mem_nil⟩ hd' hx'
  exact (stoShut hJ H xZ).sel xZ
end Go.Proofs.YtdnokmpnemaoaaaGreat
