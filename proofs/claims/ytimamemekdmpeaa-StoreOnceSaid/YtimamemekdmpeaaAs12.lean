/-
  Plain: keys tell attributes apart.
-/
import Derived.Test.YtimamemekdmpeaaAs11
namespace Go.Proofs.Ytimamemekdmpeaa
set_option linter.unusedSimpArgs false
set_option linter.unusedVariables false
open Go.RowKit Go.Pm

structure NfN (x : Nf) : Prop where
  next : U32 x.next
  med : ∀ m, x.med = some m → U32 m
  loc : ∀ m, x.loc = some m → U32 m
  maker : ∀ m, x.maker = some m → U32 m.1 ∧ U32 m.2
  path : ∀ s ∈ x.path, ∀ z ∈ s.2, U32 z
  comms : ∀ z ∈ x.comms, U32 z
  others : ∀ o ∈ x.others, ∀ z ∈ o.2, U8 z
theorem At.nfN {d : At} (h : AtN d) : NfN d.nf := by
  refine ⟨h.next, fun m hm => ?_, fun m hm => ?_, fun m hm => ?_, fun s hs z hz => ?_, h.comms, fun o ho z hz => ?_⟩
  · unfold At.nf at hm; dsimp only at hm; split at hm <;> cases hm; exact h.med
  · unfold At.nf at hm; dsimp only at hm; split at hm <;> cases hm; exact h.loc
  · unfold At.nf at hm; dsimp only at hm; split at hm <;> cases hm; exact ⟨h.makerAS, h.maker⟩
  · obtain ⟨t, ht, rfl⟩ := List.mem_map.1 hs
    exact (h.path t ht).2 z hz
  · obtain ⟨t, ht, rfl⟩ := List.mem_map.1 ho
    exact (h.others t ht).2.2 z hz
theorem num4_inj {n m : Int} (hn : U32 n) (hm : U32 m) (h : num4 n = num4 m) : n = m := by
  obtain ⟨_, _⟩ := hn
  obtain ⟨_, _⟩ := hm
  simp only [num4, List.cons.injEq] at h
  omega
theorem asB_inj : ∀ {l m : List Int}, (∀ z ∈ l, U32 z) → (∀ z ∈ m, U32 z) → asB l = asB m → l = m
  | [], [], _, _, _ => rfl
  | [], y :: m, _, _, h => by
    have := congrArg List.length h
    rw [asB_len, asB_len] at this
    simp at this
  | x :: l, [], _, _, h => by
    have := congrArg List.length h
    rw [asB_len, asB_len] at this
    simp at this
  | x :: l, y :: m, h1, h2, h => by
    have e : num4 x ++ asB l = num4 y ++ asB m := h
    obtain ⟨e1, e2⟩ := List.append_inj e rfl
    rw [num4_inj (h1 x (List.mem_cons_self ..)) (h2 y (List.mem_cons_self ..)) e1, asB_inj (fun z hz => h1 z (List.mem_cons_of_mem _ hz)) (fun z hz => h2 z (List.mem_cons_of_mem _ hz)) e2]
theorem kd_inj {a b : Bool} (h : kd a = kd b) : a = b := by
  cases a <;> cases b <;> first | rfl | (exact absurd h (by decide))
theorem pB_inj : ∀ {p q : List (Bool × List Int)}, (∀ s ∈ p, ∀ z ∈ s.2, U32 z) → (∀ s ∈ q, ∀ z ∈ s.2, U32 z) → pB p = pB q → p = q
  | [], [], _, _, _ => rfl
  | [], t :: q, _, _, h => by
    have := congrArg List.length h
    rw [pB_len, pB_len] at this
    simp only [tot, List.length_cons, List.length_nil] at this
    omega
  | s :: p, [], _, _, h => by
    have := congrArg List.length h
    rw [pB_len, pB_len] at this
    simp [tot] at this
  | s :: p, t :: q, h1, h2, h => by
    have e : kd s.1 :: (s.2.length : Int) :: (asB s.2 ++ pB p) = kd t.1 :: (t.2.length : Int) :: (asB t.2 ++ pB q) := h
    simp only [List.cons.injEq] at e
    obtain ⟨e1, e2, e3⟩ := e
    obtain ⟨e4, e5⟩ := List.append_inj e3 (by rw [asB_len, asB_len]; omega)
    have e6 := asB_inj (h1 s (List.mem_cons_self ..)) (h2 t (List.mem_cons_self ..)) e4
    rw [pB_inj (fun z hz => h1 z (List.mem_cons_of_mem _ hz)) (fun z hz => h2 z (List.mem_cons_of_mem _ hz)) e5]
    congr 1
    exact Prod.ext (kd_inj e1) e6
/-- What may be put. -/
structure VT (t : Tl) : Prop where
  f : t.1 = 64 ∨ t.1 = 128 ∨ t.1 = 192 ∨ t.1 = 224
  k : 0 ≤ t.2.1 ∧ t.2.1 ≤ 255
  n : t.2.2.length ≤ 65535
  d : ∀ z ∈ t.2.2, U8 z
theorem orF_v : orF 64 = 80 ∧ orF 128 = 144 ∧ orF 192 = 208 ∧ orF 224 = 240 := by decide
theorem VT.or {t : Tl} (h : VT t) : orF t.1 = t.1 + 16 := by
  obtain ⟨h1, h2, h3, h4⟩ := orF_v
  rcases h.f with e | e | e | e <;> rw [e] <;> assumption
theorem tlB_inj {t u : Tl} {r r' : List Int} (ht : VT t) (hu : VT u) (h : tlB t ++ r = tlB u ++ r') : t = u ∧ r = r' := by
  obtain ⟨f, k, d⟩ := t
  obtain ⟨f', k', d'⟩ := u
  have hn := ht.n
  have hn' := hu.n
  have hf := ht.f
  have hf' := hu.f
  have ho := ht.or
  have ho' := hu.or
  dsimp only at hn hn' hf hf' ho ho'
  unfold tlB putB at h
  dsimp only at h
  rw [ho, ho'] at h
  split at h <;> split at h
  · simp only [List.cons_append, List.nil_append, List.cons.injEq] at h
    obtain ⟨e1, e2, e3, e4, e5⟩ := h
    obtain ⟨e6, e7⟩ := List.append_inj e5 (by omega)
    refine ⟨?_, e7⟩
    rw [show f = f' by omega, e2, e6]
  · simp only [List.cons_append, List.nil_append, List.cons.injEq] at h
    omega
  · simp only [List.cons_append, List.nil_append, List.cons.injEq] at h
    omega
  · simp only [List.cons_append, List.nil_append, List.cons.injEq] at h
    obtain ⟨e1, e2, e3, e5⟩ := h
    obtain ⟨e6, e7⟩ := List.append_inj e5 (by omega)
    refine ⟨?_, e7⟩
    rw [e1, e2, e6]
theorem tlB_ne (t : Tl) : 0 < (tlB t).length := by
  unfold tlB putB
  split <;> simp
theorem tls_inj : ∀ {l m : List Tl}, (∀ t ∈ l, VT t) → (∀ t ∈ m, VT t) → tlsB l = tlsB m → l = m
  | [], [], _, _, _ => rfl
  | [], u :: m, _, _, h => by
    have e : [] = tlB u ++ tlsB m := h
    have h1 := congrArg List.length e
    have h2 := tlB_ne u
    rw [List.length_append, List.length_nil] at h1
    omega
  | t :: l, [], _, _, h => by
    have e : tlB t ++ tlsB l = [] := h
    have h1 := congrArg List.length e
    have h2 := tlB_ne t
    rw [List.length_append, List.length_nil] at h1
    omega
  | t :: l, u :: m, h1, h2, h => by
    have e : tlB t ++ tlsB l = tlB u ++ tlsB m := h
    obtain ⟨e1, e2⟩ := tlB_inj (h1 t (List.mem_cons_self ..)) (h2 u (List.mem_cons_self ..)) e
    rw [e1, tls_inj (fun z hz => h1 z (List.mem_cons_of_mem _ hz)) (fun z hz => h2 z (List.mem_cons_of_mem _ hz)) e2]
theorem num4_u8 {n : Int} (h : U32 n) : ∀ z ∈ num4 n, U8 z := by
  obtain ⟨_, _⟩ := h
  intro z hz
  simp only [num4, List.mem_cons, List.not_mem_nil, or_false] at hz
  unfold U8
  omega
theorem asB_u8 {l : List Int} (h : ∀ z ∈ l, U32 z) : ∀ z ∈ asB l, U8 z := by
  intro z hz
  obtain ⟨x, hx, hz⟩ := List.mem_flatMap.1 hz
  exact num4_u8 (h x hx) z hz
theorem pB_u8 {p : List (Bool × List Int)} (hp : ∀ s ∈ p, okS s = true) (h : ∀ s ∈ p, ∀ z ∈ s.2, U32 z) : ∀ z ∈ pB p, U8 z := by
  intro z hz
  obtain ⟨s, hs, hz⟩ := List.mem_flatMap.1 hz
  have h1 := hp s hs
  unfold okS at h1
  have h1 := of_decide_eq_true h1
  unfold segB at hz
  rcases List.mem_cons.1 hz with rfl | hz
  · unfold kd U8
    split <;> omega
  · rcases List.mem_cons.1 hz with rfl | hz
    · unfold U8
      omega
    · exact asB_u8 (h s hs) z hz
open Classical in
theorem okN_of {x : Nf} (h : okN x = true) : OkN x := by
  unfold okN at h
  exact of_decide_eq_true h
theorem midT_f {x : Nf} : ∀ t ∈ medT x ++ atomT x ++ makT x ++ comT x, t.1 = 64 ∨ t.1 = 128 ∨ t.1 = 192 := by
  intro t ht
  simp only [List.mem_append] at ht
  rcases ht with ((ht | ht) | ht) | ht
  · unfold medT at ht; split at ht <;> simp at ht; subst ht; simp
  · unfold atomT at ht; split at ht <;> simp at ht; subst ht; simp
  · unfold makT at ht; split at ht <;> simp at ht; subst ht; simp
  · unfold comT at ht; split at ht <;> simp at ht; subst ht; simp
theorem attrT_vt {x : Nf} (hn : NfN x) (ho : OkN x) : ∀ t ∈ attrT x, VT t := by
  obtain ⟨hos, h64⟩ := (ckP_iff x.path 0 (by omega)).1 ho.path
  intro t ht
  unfold attrT at ht
  rcases List.mem_append.1 ht with ht | ht
  · rcases List.mem_append.1 ht with ht | ht
    · simp only [List.mem_cons, List.not_mem_nil, or_false] at ht
      rcases ht with rfl | rfl | rfl
      · refine ⟨.inl rfl, ⟨by simp, by simp⟩, by simp, ?_⟩
        intro z hz
        obtain rfl := List.mem_singleton.1 hz
        have := ho.origin
        unfold U8
        omega
      · refine ⟨.inl rfl, ⟨by simp, by simp⟩, ?_, pB_u8 hos hn.path⟩
        have h1 := pB_len x.path
        have h2 : x.path.length ≤ tot x.path := by
          have : ∀ (p : List (Bool × List Int)), (∀ s ∈ p, okS s = true) → p.length ≤ tot p := by
            intro p
            induction p with
            | nil => intro _; exact Nat.zero_le _
            | cons s p ih =>
              intro h
              have h3 := ih (fun s hs => h s (List.mem_cons_of_mem _ hs))
              have h4 := h s (List.mem_cons_self ..)
              unfold okS at h4
              have h4 := of_decide_eq_true h4
              simp only [List.length_cons, tot]
              omega
          exact this _ hos
        show (pB x.path).length ≤ 65535
        omega
      · exact ⟨.inl rfl, ⟨by simp, by simp⟩, by simp [num4], num4_u8 hn.next⟩
    · simp only [List.mem_append] at ht
      rcases ht with ((ht | ht) | ht) | ht
      · unfold medT at ht
        split at ht
        · simp at ht
        · rename_i m hm
          obtain rfl := List.mem_singleton.1 ht
          exact ⟨by simp, by simp, by simp [num4], num4_u8 (hn.med m hm)⟩
      · unfold atomT at ht
        split at ht
        · obtain rfl := List.mem_singleton.1 ht
          exact ⟨by simp, by simp, by simp, by simp⟩
        · simp at ht
      · unfold makT at ht
        split at ht
        · simp at ht
        · rename_i m hm
          obtain rfl := List.mem_singleton.1 ht
          refine ⟨by simp, by simp, by simp [num4], fun z hz => ?_⟩
          rcases List.mem_append.1 hz with hz | hz
          · exact num4_u8 (hn.maker m hm).1 z hz
          · exact num4_u8 (hn.maker m hm).2 z hz
      · unfold comT at ht
        split at ht
        · simp at ht
        · obtain rfl := List.mem_singleton.1 ht
          refine ⟨by simp, by simp, ?_, asB_u8 hn.comms⟩
          have := ho.comms
          show (asB x.comms).length ≤ 65535
          rw [asB_len]
          omega
  · obtain ⟨o, ho2, rfl⟩ := List.mem_map.1 ht
    have := ckO_all _ _ ho.others.2 o ho2
    exact ⟨by simp [oT], ⟨by show 0 ≤ o.1; omega, by show o.1 ≤ 255; omega⟩, by show o.2.length ≤ 65535; omega, hn.others o ho2⟩
def isK (k : Int) (t : Tl) : Bool := decide (t.2.1 = k)
theorem mid_k4 (x : Nf) : (medT x ++ atomT x ++ makT x ++ comT x).filter (isK 4) = medT x := by
  unfold medT atomT makT comT isK
  split <;> split <;> split <;> split <;> simp
theorem mid_k6 (x : Nf) : (medT x ++ atomT x ++ makT x ++ comT x).filter (isK 6) = atomT x := by
  unfold medT atomT makT comT isK
  split <;> split <;> split <;> split <;> simp
theorem mid_k7 (x : Nf) : (medT x ++ atomT x ++ makT x ++ comT x).filter (isK 7) = makT x := by
  unfold medT atomT makT comT isK
  split <;> split <;> split <;> split <;> simp
theorem mid_k8 (x : Nf) : (medT x ++ atomT x ++ makT x ++ comT x).filter (isK 8) = comT x := by
  unfold medT atomT makT comT isK
  split <;> split <;> split <;> split <;> simp
theorem app_split {P : Tl → Prop} : ∀ {a b c d : List Tl}, (∀ t ∈ a, P t) → (∀ t ∈ c, P t) → (∀ t ∈ b, ¬ P t) → (∀ t ∈ d, ¬ P t) → a ++ b = c ++ d → a = c ∧ b = d
  | [], b, [], d, _, _, _, _, h => ⟨rfl, h⟩
  | [], b, z :: c, d, _, h2, h3, _, h => by
    have : z ∈ b := by
      have e : b = z :: (c ++ d) := h
      rw [e]; exact List.mem_cons_self ..
    exact absurd (h2 z (List.mem_cons_self ..)) (h3 z this)
  | z :: a, b, [], d, h1, _, _, h4, h => by
    have : z ∈ d := by
      have e : z :: (a ++ b) = d := h
      rw [← e]; exact List.mem_cons_self ..
    exact absurd (h1 z (List.mem_cons_self ..)) (h4 z this)
  | z :: a, b, y :: c, d, h1, h2, h3, h4, h => by
    have e : z :: (a ++ b) = y :: (c ++ d) := h
    simp only [List.cons.injEq] at e
    obtain ⟨e1, e2⟩ := app_split (fun t ht => h1 t (List.mem_cons_of_mem _ ht)) (fun t ht => h2 t (List.mem_cons_of_mem _ ht)) h3 h4 e.2
    rw [e.1, e1, e2]
    exact ⟨rfl, rfl⟩
theorem oT_inj : ∀ {l m : List (Int × List Int)}, l.map oT = m.map oT → l = m
  | [], [], _ => rfl
  | [], _ :: _, h => by simp at h
  | _ :: _, [], h => by simp at h
  | x :: l, y :: m, h => by
    simp only [List.map_cons, List.cons.injEq, oT, Prod.mk.injEq] at h
    rw [oT_inj (l := l) (m := m) h.2]
    congr 1
    exact Prod.ext h.1.2.1 h.1.2.2
theorem attr_inj {x y : Nf} (hx : NfN x) (hy : NfN y) (hl : x.loc = y.loc) (h : attrT x = attrT y) : x = y := by
  have h : ((64 : Int), (1 : Int), [x.origin]) :: (64, 2, pB x.path) :: (64, 3, num4 x.next) :: ((medT x ++ atomT x ++ makT x ++ comT x) ++ x.others.map oT) = (64, 1, [y.origin]) :: (64, 2, pB y.path) :: (64, 3, num4 y.next) :: ((medT y ++ atomT y ++ makT y ++ comT y) ++ y.others.map oT) := h
  simp only [List.cons_append, List.nil_append, List.cons.injEq, Prod.mk.injEq, true_and] at h
  obtain ⟨⟨e1, _⟩, e2, e3, e4⟩ := h
  have e2 := pB_inj hx.path hy.path e2
  have e3 := num4_inj hx.next hy.next e3
  obtain ⟨e5, e6⟩ := app_split (P := fun t => t.1 ≠ 224) (fun t ht => by rcases midT_f t ht with h | h | h <;> rw [h] <;> decide) (fun t ht => by rcases midT_f t ht with h | h | h <;> rw [h] <;> decide) (fun t ht => by obtain ⟨o, _, rfl⟩ := List.mem_map.1 ht; simp [oT]) (fun t ht => by obtain ⟨o, _, rfl⟩ := List.mem_map.1 ht; simp [oT]) e4
  have e6 := oT_inj e6
  have m4 := congrArg (List.filter (isK 4)) e5
  have m6 := congrArg (List.filter (isK 6)) e5
  have m7 := congrArg (List.filter (isK 7)) e5
  have m8 := congrArg (List.filter (isK 8)) e5
  rw [mid_k4, mid_k4] at m4
  rw [mid_k6, mid_k6] at m6
  rw [mid_k7, mid_k7] at m7
  rw [mid_k8, mid_k8] at m8
  have f4 : x.med = y.med := by
    unfold medT at m4
    have h1 := hx.med
    have h2 := hy.med
    rcases a : x.med with _ | a1 <;> rcases b : y.med with _ | b1 <;> rw [a, b] at m4
    · simp at m4
    · simp at m4
    · simp only [List.cons.injEq, Prod.mk.injEq, true_and, and_true] at m4
      rw [num4_inj (h1 _ a) (h2 _ b) m4]
  have f6 : x.atomic = y.atomic := by
    unfold atomT at m6
    rcases a : x.atomic <;> rcases b : y.atomic <;> rw [a, b] at m6 <;> simp at m6 ⊢
  have f7 : x.maker = y.maker := by
    unfold makT at m7
    have h1 := hx.maker
    have h2 := hy.maker
    rcases a : x.maker with _ | a1 <;> rcases b : y.maker with _ | b1 <;> rw [a, b] at m7
    · simp at m7
    · simp at m7
    · simp only [List.cons.injEq, Prod.mk.injEq, true_and, and_true] at m7
      obtain ⟨g1, g2⟩ := List.append_inj m7 rfl
      congr 1
      exact Prod.ext (num4_inj (h1 _ a).1 (h2 _ b).1 g1) (num4_inj (h1 _ a).2 (h2 _ b).2 g2)
  have f8 : x.comms = y.comms := by
    unfold comT at m8
    split at m8 <;> split at m8
    · rw [List.eq_nil_of_length_eq_zero (by assumption : x.comms.length = 0), List.eq_nil_of_length_eq_zero (by assumption : y.comms.length = 0)]
    · simp at m8
    · simp at m8
    · simp only [List.cons.injEq, Prod.mk.injEq, true_and, and_true] at m8
      exact asB_inj hx.comms hy.comms m8
  obtain ⟨a1, a2, a3, a4, a5, a6, a7, a8, a9⟩ := x
  obtain ⟨b1, b2, b3, b4, b5, b6, b7, b8, b9⟩ := y
  simp_all
theorem locB_u8 {x : Nf} (h : NfN x) : ∀ z ∈ locB x, U8 z := by
  intro z hz
  unfold locB at hz
  split at hz
  · obtain rfl := List.mem_singleton.1 hz
    unfold U8; omega
  · rename_i n hn
    rcases List.mem_append.1 hz with hz | hz
    · exact num4_u8 (h.loc n hn) z hz
    · obtain rfl := List.mem_singleton.1 hz
      unfold U8; omega
theorem tlB_u8 {t : Tl} (h : VT t) : ∀ z ∈ tlB t, U8 z := by
  intro z hz
  unfold tlB putB at hz
  have hf := h.f
  have ho := h.or
  have hk := h.k
  have hn := h.n
  rcases List.mem_append.1 hz with hz | hz
  · split at hz
    · simp only [List.mem_cons, List.not_mem_nil, or_false] at hz
      rw [ho] at hz
      unfold U8
      omega
    · simp only [List.mem_cons, List.not_mem_nil, or_false] at hz
      unfold U8
      omega
  · exact h.d z hz
theorem keyB_u8 {x : Nf} (hn : NfN x) (ho : okN x = true) : ∀ z ∈ keyB x, U8 z := by
  intro z hz
  unfold keyB at hz
  rcases List.mem_append.1 hz with hz | hz
  · obtain ⟨t, ht, hz⟩ := List.mem_flatMap.1 hz
    exact tlB_u8 (attrT_vt hn (okN_of ho) t ht) z hz
  · exact locB_u8 hn z hz
theorem key_inj {x y : Nf} (hx : NfN x) (hy : NfN y) (ox : okN x = true) (oy : okN y = true) (h : keyB x = keyB y) : x = y := by
  unfold keyB at h
  have hl : x.loc = y.loc ∧ attrB x = attrB y := by
    have g := congrArg List.getLast? h
    have h1 := hx.loc
    have h2 := hy.loc
    unfold locB at h g
    rcases a : x.loc with _ | a1 <;> rcases b : y.loc with _ | b1 <;> rw [a, b] at h g
    · exact ⟨rfl, (List.append_inj' h rfl).1⟩
    · rw [← List.append_assoc, List.getLast?_concat, List.getLast?_concat] at g
      simp at g
    · rw [← List.append_assoc, List.getLast?_concat, List.getLast?_concat] at g
      simp at g
    · obtain ⟨g1, g2⟩ := List.append_inj' h rfl
      obtain ⟨g3, _⟩ := List.append_inj g2 rfl
      exact ⟨by rw [num4_inj (h1 _ a) (h2 _ b) g3], g1⟩
  exact attr_inj hx hy hl.1 (tls_inj (attrT_vt hx (okN_of ox)) (attrT_vt hy (okN_of oy)) hl.2)
def keyS (x : Nf) : ByteArray := strOfNums (keyB x)
theorem keyS_inj {x y : Nf} (hx : NfN x) (hy : NfN y) (ox : okN x = true) (oy : okN y = true) (h : keyS x = keyS y) : x = y :=
  key_inj hx hy ox oy (strOf_inj (keyB_u8 hx ox) (keyB_u8 hy oy) h)
end Go.Proofs.Ytimamemekdmpeaa
