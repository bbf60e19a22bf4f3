/-
  Vw4, Vw5: merged.
-/
import Derived.Test.YtdnokmpnemaoaaaGreatZViewPlays25
namespace Go.Proofs.YtdnokmpnemaoaaaGreat
set_option linter.unusedSimpArgs false
set_option linter.unusedVariables false
set_option maxRecDepth 20000
set_option maxHeartbeats 4000000
open Go.RowKit Go.Pm

def thoseL (s : List T.Ent → List T.Ent) (q : T.Vt → Bool) : List T.Pf → List T.Ent → List T.Ent
  | [], pre => pre
  | p :: ks, pre => if q (T.oldV (s pre) p) then thoseL s q ks (pre ++ [(p, T.oldV (s pre) p)]) else thoseL s q ks pre
theorem thoseL_snoc (s : List T.Ent → List T.Ent) (q : T.Vt → Bool) (p : T.Pf) : ∀ (ks : List T.Pf) (pre : List T.Ent), thoseL s q (ks ++ [p]) pre = (if q (T.oldV (s (thoseL s q ks pre)) p) then thoseL s q ks pre ++ [(p, T.oldV (s (thoseL s q ks pre)) p)] else thoseL s q ks pre)
  | [], pre => rfl
  | k :: ks, pre => by
    simp only [List.cons_append, thoseL]
    split
    · exact thoseL_snoc s q p ks _
    · exact thoseL_snoc s q p ks _
def enc2 (e : T.Ent) : List Value := [.agg (T.pfC e.1).toArray, .agg (T.vC e.2).toArray]
abbrev keysOf (s : List T.Ent → List T.Ent) : List T.Pf := T.keysE (s [])
def nextG (s : List T.Ent → List T.Ent) (q : T.Vt → Bool) (pre : List T.Ent) (x : T.Ent) : Prop := ∃ k, pre = thoseL s q ((keysOf s).take k) [] ∧ (keysOf s)[k]? = some x.1 ∧ x.2 = T.oldV (s pre) x.1 ∧ q x.2 = true
theorem those_s (v : Option Addr) (qf : FuncId) : Pact Tryz.prog 47 #[.pointer v, .func (.func qf) #[] #[]] (fun _ => True) [] (fun u L' => ∃ g h, u = .func (.func 81) #[] #[.pointer (some ⟨g, 0, none⟩), .pointer (some ⟨h, 0, none⟩)] ∧ L' = [pts g [.pointer v] 53, pts h [.func (.func qf) #[] #[]] 113]) := by
  refine pact Tryz.func47 rfl Tryz.ntmps47 rfl ?_
  intro W K _
  (repeat' (first | ((with_reducible apply gL); (first | refine yL0 ?_ | refine yL ?_ | (refine yM ?_; intro _) | fail)) | refine yJ ?_ | fail))
  exact J_ret1 rfl (by rfl) fun w H => ⟨_, ⟨_, _, rfl, rfl⟩, H.sel xZ⟩
abbrev QV (vb : Nat) (sp : Option Addr) (tb : Nat) (s : List T.Ent → List T.Ent) (Y : List T.Ent → HP) : Prop := ∃ Y' : List T.Ent → HP, ∀ pre h, Y pre h ↔ sats [pts vb (vwC sp tb (dueI (s pre)) (wntI (s pre))) 98, T.trA tb (s pre), Y' pre] h
theorem those1_it (vb : Nat) (sp : Option Addr) (tb g h : Nat) (s : List T.Ent → List T.Ent) (q : T.Vt → Bool) (qf : FuncId) (ho : ownB Tryz.prog qf = true) (hq : ∀ x, Pact Tryz.prog qf #[.agg (T.vC x).toArray] (fun _ => True) [] (ret0 (.bool (q x)))) (hs : T.EOk (s [])) (hl : (s []).length ≤ 4096) :
    IterQ Tryz.prog 81 (fun l => [yldV l, .pointer (some ⟨g, 0, none⟩), .pointer (some ⟨h, 0, none⟩)]) (fun w => w.cell? ⟨g, 0, none⟩ = some (.pointer (some ⟨vb, 0, none⟩)) ∧ w.cell? ⟨h, 0, none⟩ = some (.func (.func qf) #[] #[])) enc2 (nextG s q) (fun xs => xs = thoseL s q (keysOf s) []) (fun pre => ∃ k, pre = thoseL s q ((keysOf s).take k) []) (QV vb sp tb s) := by
  refine iterQ Tryz.func81 rfl Tryz.ntmps81 (fun _ => rfl) ?_
  intro K0 l Y Yx ⟨Y', hQ⟩ hY W K hK hφ
  have h1 : Kn K (fun w => w.cell? ⟨g, 0, none⟩ = some (.pointer (some ⟨vb, 0, none⟩))) := hφ.left
  have h2 : Kn K (fun w => w.cell? ⟨h, 0, none⟩ = some (.func (.func qf) #[] #[])) := hφ.right
  have opn : ∀ {pre : List T.Ent} {L R : List HP} {w : World}, Ow W K L w → Tk L (Y pre) R → Ow W K (pts vb (vwC sp tb (dueI (s pre)) (wntI (s pre))) 98 :: T.trA tb (s pre) :: Y' pre :: R) w := fun H t => by
    obtain ⟨_, H2⟩ := H.open (α := Unit) t (Bs := fun _ => [pts vb (vwC sp tb (dueI (s _)) (wntI (s _))) 98, T.trA tb (s _), Y' _]) (fun k hk => ⟨(), (hQ _ k).1 hk⟩)
    exact H2
  have sht : ∀ {pre : List T.Ent} {L R : List HP} {w : World}, Ow W K L w → Sb L [pts vb (vwC sp tb (dueI (s pre)) (wntI (s pre))) 98, T.trA tb (s pre), Y' pre] R → Ow W K (Y pre :: R) w := fun H t => H.shut t (fun k hk => (hQ _ k).2 hk)
  have hkl : (keysOf s).length ≤ 4096 := by show (List.map _ _).length ≤ _; rw [List.length_map]; exact hl
  refine J_heap (fun w H => opn H .here) ?_
  obtain ⟨ks, hks⟩ : ∃ ks, keysOf s = ks := ⟨_, rfl⟩
  have hkn : ∀ p ∈ ks, T.PfN p := fun p hp => by
    rw [← hks] at hp
    obtain ⟨e, he, rfl⟩ := List.mem_map.1 hp
    exact (hs.e e he).2.1
  have hall := T.all_a tb (s []) hl
  have ek : T.keysE (s []) = ks := hks
  rw [ek] at hall
  rw [hks] at hkl
  (repeat' (first | ((with_reducible apply gL); (first | refine yL0 ?_ | refine yL ?_ | ((with_reducible apply gL_go); (first | (refine JL_goq (vis_s vb sp tb (dueI (s [])) (wntI (s []))) (hφ := xF) (h := ?_); rintro _ _ ⟨rfl, rfl⟩; try simp only [List.cons_append, List.nil_append]) | (refine JL_goq (hall) (hφ := xF) (h := ?_); rintro _ _ ⟨a, c, rfl, rfl⟩; try simp only [List.cons_append, List.nil_append]) | fail)) | (refine yM ?_; intro _) | ((with_reducible apply gL_gd); (first | (refine JL_guard xR xR ?_ ?_ <;> intro _ <;> (try (exfalso; first | contradiction | omega))) | (refine JL_guardb xR xR ?_ ?_ <;> (intro hgb; subst hgb)) | (refine JL_guardb xR xR ?_ ?_ <;> (intro hgb; fail_if_success (have : type_of% hgb := rfl))) | fail)) | fail)) | ((with_reducible apply gD); (first | (refine JD_nil ?_; try simp only [List.cons_append, List.nil_append]) | (refine JD_bar ?_; try simp only [List.cons_append, List.nil_append]) | refine yD ?_ | ((with_reducible apply gD_go); (first | (refine JD_goq (vis_s vb sp tb (dueI (s [])) (wntI (s []))) (hφ := xF) (h := ?_); rintro _ _ ⟨rfl, rfl⟩; try simp only [List.cons_append, List.nil_append]) | (refine JD_goq (hall) (hφ := xF) (h := ?_); rintro _ _ ⟨a, c, rfl, rfl⟩; try simp only [List.cons_append, List.nil_append]) | fail)) | (refine yE ?_; intro _) | fail)) | refine yJ ?_ | ((with_reducible apply gJ_if); (first | (refine J_if xR ?_ ?_ <;> intro _ <;> (try (exfalso; first | contradiction | omega))) | (refine J_ifb xR ?_ ?_ <;> (intro hgb; subst hgb)) | (refine J_ifb xR ?_ ?_ <;> intro _) | fail)) | refine J_draw (id := 4) [0, 1, 2, 3, 4, 5, 6, 7, 8, 9, 10] [11] mixed xC xD xD ?_ | fail))
  refine J_loop (α := Nat) 0 (fun x => ks.length - x) (fun x => x ≤ ks.length) (fun x => [(0, yldV l), (1, .pointer (some ⟨g, 0, none⟩)), (2, .pointer (some ⟨h, 0, none⟩)), (15, .slice a ks.length c), (16, .int .i64 ks.length), (17, .int .i64 x)])
    (fun x => [Y (thoseL s q (ks.take x) []), Ar 28 2 T.pfC (.slice a ks.length c) ks]) (Nat.zero_le _) ⟨rfl, rfl, rfl, rfl, rfl, rfl, trivial⟩ (fun w H => (sht (pre := []) H xZ).sel xZ) ?_
  intro x hx
  obtain ⟨pre, hpre⟩ : ∃ pre, thoseL s q (ks.take x) [] = pre := ⟨_, rfl⟩
  rw [hpre]
  by_cases hlt : x < ks.length
  · obtain ⟨p, hp⟩ : ∃ p, ks[x]? = some p := ⟨_, List.getElem?_eq_getElem hlt⟩
    have hpn := hkn p (List.mem_of_getElem? hp)
    have hsn : thoseL s q (ks.take (x + 1)) [] = if q (T.oldV (s pre) p) then pre ++ [(p, T.oldV (s pre) p)] else pre := by
      rw [take_snoc hp, thoseL_snoc, hpre]
    obtain ⟨o, hov⟩ : ∃ o, T.oldV (s pre) p = o := ⟨_, rfl⟩
    have kg := T.get_old tb (s pre) p hpn o hov _ rfl
    refine J_heap (fun w H => opn H .here) ?_
    have kq := hq o
    rcases hqo : q o with _ | _
    · rw [hov, hqo] at hsn
      rw [hqo] at kq
      (repeat' (first | ((with_reducible apply gL); (first | refine yL0 ?_ | refine yL ?_ | ((with_reducible apply gL_go); (first | (refine JL_goq (kg) (hφ := xF) (h := ?_); rintro _ _ ⟨rfl, rfl⟩; try simp only [List.cons_append, List.nil_append]) | (refine JL_goq (kq) (hφ := xF) (h := ?_); rintro _ _ ⟨rfl, rfl⟩; try simp only [List.cons_append, List.nil_append]) | fail)) | (refine yM ?_; intro _) | ((with_reducible apply gL_gd); (first | (refine JL_guard xR xR ?_ ?_ <;> intro _ <;> (try (exfalso; first | contradiction | omega))) | (refine JL_guardb xR xR ?_ ?_ <;> (intro hgb; subst hgb)) | (refine JL_guardb xR xR ?_ ?_ <;> (intro hgb; fail_if_success (have : type_of% hgb := rfl))) | fail)) | fail)) | ((with_reducible apply gD); (first | (refine JD_nil ?_; try simp only [List.cons_append, List.nil_append]) | (refine JD_bar ?_; try simp only [List.cons_append, List.nil_append]) | refine yD ?_ | ((with_reducible apply gD_go); (first | (refine JD_goq (kg) (hφ := xF) (h := ?_); rintro _ _ ⟨rfl, rfl⟩; try simp only [List.cons_append, List.nil_append]) | (refine JD_goq (kq) (hφ := xF) (h := ?_); rintro _ _ ⟨rfl, rfl⟩; try simp only [List.cons_append, List.nil_append]) | fail)) | (refine yE ?_; intro _) | fail)) | refine yJ ?_ | ((with_reducible apply gJ_if); (first | (refine J_if xR ?_ ?_ <;> intro _ <;> (try (exfalso; first | contradiction | omega))) | (refine J_ifb xR ?_ ?_ <;> (intro hgb; subst hgb)) | (refine J_ifb xR ?_ ?_ <;> intro _) | fail)) | refine J_draw (id := 4) [0, 1, 2, 3, 4, 5, 6, 7, 8, 9, 10] [11] mixed xC xD xD ?_ | fail))
      refine J_again (x + 1) (by omega) (by omega) ⟨rfl, rfl, rfl, rfl, rfl, rfl, trivial⟩ (fun w H => ?_)
      rw [hsn]
      exact (sht (pre := pre) H xZ).sel xZ
    · rw [hov, hqo] at hsn
      rw [hqo] at kq
      have hG : nextG s q pre (p, o) := ⟨x, by rw [hks]; exact hpre.symm, by rw [hks]; exact hp, hov.symm, hqo⟩
      (repeat' (first | ((with_reducible apply gL); (first | refine yL0 ?_ | refine yL ?_ | ((with_reducible apply gL_go); (first | (refine JL_goq (kg) (hφ := xF) (h := ?_); rintro _ _ ⟨rfl, rfl⟩; try simp only [List.cons_append, List.nil_append]) | (refine JL_goq (kq) (hφ := xF) (h := ?_); rintro _ _ ⟨rfl, rfl⟩; try simp only [List.cons_append, List.nil_append]) | fail)) | (refine yM ?_; intro _) | ((with_reducible apply gL_gd); (first | (refine JL_guard xR xR ?_ ?_ <;> intro _ <;> (try (exfalso; first | contradiction | omega))) | (refine JL_guardb xR xR ?_ ?_ <;> (intro hgb; subst hgb)) | (refine JL_guardb xR xR ?_ ?_ <;> (intro hgb; fail_if_success (have : type_of% hgb := rfl))) | fail)) | fail)) | ((with_reducible apply gD); (first | (refine JD_nil ?_; try simp only [List.cons_append, List.nil_append]) | (refine JD_bar ?_; try simp only [List.cons_append, List.nil_append]) | refine yD ?_ | ((with_reducible apply gD_go); (first | (refine JD_goq (kg) (hφ := xF) (h := ?_); rintro _ _ ⟨rfl, rfl⟩; try simp only [List.cons_append, List.nil_append]) | (refine JD_goq (kq) (hφ := xF) (h := ?_); rintro _ _ ⟨rfl, rfl⟩; try simp only [List.cons_append, List.nil_append]) | fail)) | (refine yE ?_; intro _) | fail)) | refine yJ ?_ | ((with_reducible apply gJ_if); (first | (refine J_if xR ?_ ?_ <;> intro _ <;> (try (exfalso; first | contradiction | omega))) | (refine J_ifb xR ?_ ?_ <;> (intro hgb; subst hgb)) | (refine J_ifb xR ?_ ?_ <;> intro _) | fail)) | refine J_draw (id := 4) [0, 1, 2, 3, 4, 5, 6, 7, 8, 9, 10] [11] mixed xC xD xD ?_ | fail))
      refine JL_heap (fun w H => sht (pre := pre) H xZ) ?_
      refine JL_y (hY pre (p, o) hG) xH xR xR xS xR xR ?_
      rintro _ _ (⟨rfl, rfl⟩ | ⟨rfl, rfl⟩) <;> simp only [List.cons_append, List.nil_append]
      all_goals (repeat' (first | ((with_reducible apply gL); (first | refine yL0 ?_ | refine yL ?_ | (refine yM ?_; intro _) | ((with_reducible apply gL_gd); (first | (refine JL_guard xR xR ?_ ?_ <;> intro _ <;> (try (exfalso; first | contradiction | omega))) | (refine JL_guardb xR xR ?_ ?_ <;> (intro hgb; subst hgb)) | (refine JL_guardb xR xR ?_ ?_ <;> (intro hgb; fail_if_success (have : type_of% hgb := rfl))) | fail)) | fail)) | ((with_reducible apply gD); (first | (refine JD_nil ?_; try simp only [List.cons_append, List.nil_append]) | (refine JD_bar ?_; try simp only [List.cons_append, List.nil_append]) | refine yD ?_ | (refine yE ?_; intro _) | fail)) | refine yJ ?_ | ((with_reducible apply gJ_if); (first | (refine J_if xR ?_ ?_ <;> intro _ <;> (try (exfalso; first | contradiction | omega))) | (refine J_ifb xR ?_ ?_ <;> (intro hgb; subst hgb)) | (refine J_ifb xR ?_ ?_ <;> intro _) | fail)) | refine J_draw (id := 4) [0, 1, 2, 3, 4, 5, 6, 7, 8, 9, 10] [11] mixed xC xD xD ?_ | fail))
      · refine J_again (x + 1) (by omega) (by omega) ⟨rfl, rfl, rfl, rfl, rfl, rfl, trivial⟩ (fun w H => ?_)
        rw [hsn]
        exact H.sel xZ
      · refine J_ret0 rfl fun w H => ⟨[Yx (pre ++ [(p, o)])], .inr ⟨_, ⟨x + 1, ?_⟩, rfl⟩, H.sel xZ⟩
        rw [hks, hsn]
        rfl
  · obtain rfl : x = ks.length := by omega
    rw [List.take_length] at hpre
    (repeat' (first | ((with_reducible apply gL); (first | refine yL0 ?_ | refine yL ?_ | (refine yM ?_; intro _) | ((with_reducible apply gL_gd); (first | (refine JL_guard xR xR ?_ ?_ <;> intro _ <;> (try (exfalso; first | contradiction | omega))) | (refine JL_guardb xR xR ?_ ?_ <;> (intro hgb; subst hgb)) | (refine JL_guardb xR xR ?_ ?_ <;> (intro hgb; fail_if_success (have : type_of% hgb := rfl))) | fail)) | fail)) | ((with_reducible apply gD); (first | (refine JD_nil ?_; try simp only [List.cons_append, List.nil_append]) | (refine JD_bar ?_; try simp only [List.cons_append, List.nil_append]) | refine yD ?_ | (refine yE ?_; intro _) | fail)) | refine yJ ?_ | ((with_reducible apply gJ_if); (first | (refine J_if xR ?_ ?_ <;> intro _ <;> (try (exfalso; first | contradiction | omega))) | (refine J_ifb xR ?_ ?_ <;> (intro hgb; subst hgb)) | (refine J_ifb xR ?_ ?_ <;> intro _) | fail)) | refine J_draw (id := 4) [0, 1, 2, 3, 4, 5, 6, 7, 8, 9, 10] [11] mixed xC xD xD ?_ | fail))
    exact J_end0 rfl fun w H => ⟨[Y pre], .inl ⟨_, by rw [← hpre, hks], rfl⟩, H.sel xZ⟩
end Go.Proofs.YtdnokmpnemaoaaaGreat
namespace Go.Proofs.YtdnokmpnemaoaaaGreat
set_option linter.unusedSimpArgs false
set_option linter.unusedVariables false
set_option maxRecDepth 20000
set_option maxHeartbeats 4000000
open Go.RowKit Go.Pm

theorem sats_one {A : HP} {h : Hl} : sats [A] h ↔ A h := by
  constructor
  · rintro ⟨h1, h2, a, b, _, rfl⟩
    have : h1.add h2 = h1 := by funext x; simp [Hl.add, b x]
    rw [this]; exact a
  · intro a
    exact ⟨h, fun _ => none, a, fun _ => rfl, fun b => .inr rfl, by funext x; simp [Hl.add]⟩
theorem sats_tail {A : HP} {L M : List HP} (e : ∀ h, sats L h ↔ sats M h) (h : Hl) : sats (A :: L) h ↔ sats (A :: M) h := by
  constructor
  · rintro ⟨h1, h2, a, b, d, r⟩; exact ⟨h1, h2, a, (e h2).1 b, d, r⟩
  · rintro ⟨h1, h2, a, b, d, r⟩; exact ⟨h1, h2, a, (e h2).2 b, d, r⟩
theorem sats_group (A B U V : HP) (M : List HP) (h : Hl) : sats (A :: B :: U :: V :: M) h ↔ sats [U, V, sats (A :: B :: M)] h := by
  have p : (A :: B :: U :: V :: M).Perm (U :: V :: A :: B :: M) := by
    refine List.Perm.trans (l₂ := U :: A :: B :: V :: M) ?_ (.cons _ ?_)
    · exact (List.perm_middle (l₁ := [A, B]) (l₂ := V :: M) (a := U))
    · exact (List.perm_middle (l₁ := [A, B]) (l₂ := M) (a := V))
  refine Iff.trans ⟨sats_perm p h, sats_perm p.symm h⟩ (sats_tail (sats_tail fun h => sats_one.symm) h)
theorem qv_of (vb : Nat) (sp : Option Addr) (tb : Nat) (s : List T.Ent → List T.Ent) (M : List T.Ent → List HP) (A B : HP) : QV vb sp tb s (fun pre => sats (A :: B :: pts vb (vwC sp tb (dueI (s pre)) (wntI (s pre))) 98 :: T.trA tb (s pre) :: M pre)) := ⟨fun pre => sats (A :: B :: M pre), fun pre h => sats_group A B _ _ (M pre) h⟩
def sF (f : T.Ent → T.Vt) (E : List T.Ent) (pre : List T.Ent) : List T.Ent := pre.foldl (fun E e => T.setE E e.1 (f e)) E
theorem sF_snoc (f : T.Ent → T.Vt) (E pre : List T.Ent) (x : T.Ent) : sF f E (pre ++ [x]) = T.setE (sF f E pre) x.1 (f x) := by unfold sF; rw [List.foldl_append]; rfl
theorem srt_set {E : List T.Ent} {p : T.Pf} {x : T.Vt} (h : T.Srt E) : T.Srt (T.setE E p x) := by
  unfold T.setE
  split
  · exact T.srt_dropL h
  · exact T.srt_putL h
theorem sF_len (f : T.Ent → T.Vt) : ∀ {pre E : List T.Ent}, T.Srt E → (sF f E pre).length ≤ E.length + pre.length
  | [], E, _ => by simp [sF]
  | x :: pre, E, h => by
    have h1 := sF_len f (pre := pre) (srt_set (p := x.1) (x := f x) h)
    have h2 := T.set_len (p := x.1) (x := f x) h
    show (sF f (T.setE E x.1 (f x)) pre).length ≤ _
    simp only [List.length_cons]
    omega
theorem thoseL_len (s : List T.Ent → List T.Ent) (q : T.Vt → Bool) : ∀ (ks : List T.Pf) (pre : List T.Ent), (thoseL s q ks pre).length ≤ pre.length + ks.length
  | [], pre => by simp [thoseL]
  | k :: ks, pre => by
    simp only [thoseL]
    split
    · have := thoseL_len s q ks (pre ++ [(k, T.oldV (s pre) k)])
      simp only [List.length_append, List.length_cons, List.length_nil] at this ⊢
      omega
    · have := thoseL_len s q ks pre
      simp only [List.length_cons]
      omega
theorem nextG.len {s : List T.Ent → List T.Ent} {q : T.Vt → Bool} {pre : List T.Ent} {x : T.Ent} (h : nextG s q pre x) : pre.length ≤ (s []).length := by
  obtain ⟨k, rfl, _⟩ := h
  have := thoseL_len s q ((keysOf s).take k) []
  have h2 : ((keysOf s).take k).length ≤ (s []).length := by
    rw [List.length_take]
    have : (keysOf s).length = (s []).length := List.length_map _
    omega
  simp only [List.length_nil] at this
  omega
theorem nextG.mem {s : List T.Ent → List T.Ent} {q : T.Vt → Bool} {pre : List T.Ent} {x : T.Ent} (h : nextG s q pre x) : x.1 ∈ keysOf s := by
  obtain ⟨k, _, h, _⟩ := h
  exact List.mem_of_getElem? h
def rsS (S : List En) (pre : List T.Ent) : List En := pre.foldl (fun S e => frF (frF S e.2.1) e.2.2.1) S
theorem rsS_snoc (S : List En) (pre : List T.Ent) (x : T.Ent) : rsS S (pre ++ [x]) = frF (frF (rsS S pre) x.2.1) x.2.2.1 := by unfold rsS; rw [List.foldl_append]; rfl
theorem frF_ok {B : Int} {S : List En} {c id : Int} (h : StOk B S c) : StOk B (frF S id) c := by
  unfold frF
  split
  · exact h
  · exact freeF_ok h
theorem rsS_ok {B c : Int} : ∀ {pre : List T.Ent} {S : List En}, StOk B S c → StOk B (rsS S pre) c
  | [], _, h => h
  | x :: pre, S, h => rsS_ok (pre := pre) (frF_ok (frF_ok h))
theorem key_of {E : List T.Ent} (hE : T.EOk E) {p : T.Pf} (h : p ∈ T.keysE E) : T.Rt p ∧ T.PfN p := by
  obtain ⟨e, he, rfl⟩ := List.mem_map.1 h
  have := hE.e e he
  exact ⟨this.1, this.2.1⟩
theorem zV_n : T.VN T.zV := by unfold T.VN; exact ⟨by unfold T.I64; decide, by unfold T.I64; decide⟩
abbrev rsE (E pre : List T.Ent) : List T.Ent := sF (fun _ => T.zV) E pre
theorem vreset_s (B : Int) (hB : B ≤ 1000000) (vb sp tb : Nat) (E : List T.Ent) (S : List En) (c : Int) (hs : StOk B S c) (hn : E.length ≤ 1000) : Pact Tryz.prog 18 #[.pointer (some ⟨vb, 0, none⟩)] (fun _ => True) (vsL vb sp tb E S c) (fun _ L' => ∃ xs, xs = thoseL (rsE E) (fun _ => true) (T.keysE E) [] ∧ L' = vsL vb sp tb (rsE E xs) (rsS S xs) c) := by
  refine pact Tryz.func18 rfl Tryz.ntmps18 rfl ?_
  intro W K _
  refine J_fact (φ := T.EOk E) (fun w H => T.trOk H xA) ?_
  intro hE
  (repeat' (first | ((with_reducible apply gL); (first | refine yL0 ?_ | refine yL ?_ | ((with_reducible apply gL_go); (first | (refine JL_goq (those_s (some ⟨vb, 0, none⟩) 48) (hφ := xF) (h := ?_); rintro _ _ ⟨g, h, rfl, rfl⟩; try simp only [List.cons_append, List.nil_append]) | fail)) | (refine yM ?_; intro _) | fail)) | refine yJ ?_ | fail))
  rename_i b
  refine J_rangeQ (first := []) (lb := [.pointer (some ⟨g, 0, none⟩), .pointer (some ⟨h, 0, none⟩)]) (those1_it vb (sA sp) tb g h (rsE E) (fun _ => true) 48 (by decide +kernel) whatever_s hE (by show E.length ≤ 4096; omega)) rfl rfl rfl (by decide +kernel) rfl (fun _ => rfl)
    (fun pre => [pts vb (vwC (sA sp) tb (dueI (rsE E pre)) (wntI (rsE E pre))) 98, T.trA tb (rsE E pre), stoA sp (rsS S pre) c, pts b [.pointer (some ⟨vb, 0, none⟩)] 53]) (fun _ _ => [pu False]) (fun A B => qv_of vb (sA sp) tb (rsE E) (fun pre => [stoA sp (rsS S pre) c, pts b [.pointer (some ⟨vb, 0, none⟩)] 53]) A B) xZ (fun w hr => ⟨hr.cell xA rfl, hr.cell xA rfl⟩) ?_ ?_ ?_
  · rintro W3 K3 l3 pre ⟨p, o⟩ hle hG
    have hk := key_of hE hG.mem
    have hlp := hG.len
    have hl : (rsE E pre).length ≤ E.length + pre.length := sF_len (fun _ => T.zV) (pre := pre) hE.s
    have hlp2 : pre.length ≤ E.length := hlp
    simp only [parTM, enc2]
    (repeat' (first | ((with_reducible apply gL); (first | refine yL0 ?_ | refine yL ?_ | (refine yM ?_; intro _) | fail)) | refine yJ ?_ | fail))
    refine J_body ?_
    intro K4 hle4 hrec
    refine J_fact (φ := T.EOk (rsE E pre)) (fun w H => T.trOk H xA) ?_
    intro hE2
    have kf1 := free_w B (by omega) vb sp tb (rsE E pre) (rsS S pre) _ c o.1 (rsS_ok hs) rfl
    have kf2 := free_w B (by omega) vb sp tb (rsE E pre) (frF (rsS S pre) o.1) _ c o.2.1 (frF_ok (rsS_ok hs)) rfl
    have ks := set_s vb (sA sp) tb (rsE E pre) p T.zV hE2 hk.2 hk.1 zV_n (by omega)
    (repeat' (first | ((with_reducible apply gL); (first | refine yL0 ?_ | refine yL ?_ | ((with_reducible apply gL_go); (first | (refine JL_goq (kf1) (hφ := xF) (h := ?_); rintro _ _ rfl; try simp only [List.cons_append, List.nil_append]) | (refine JL_goq (kf2) (hφ := xF) (h := ?_); rintro _ _ rfl; try simp only [List.cons_append, List.nil_append]) | (refine JL_goq (ks) (hφ := xF) (h := ?_); rintro _ _ rfl; try simp only [List.cons_append, List.nil_append]) | fail)) | (refine yM ?_; intro _) | fail)) | refine yJ ?_ | fail))
    refine J_rnd fun w H => ?_
    rw [show rsE E (pre ++ [(p, o)]) = T.setE (rsE E pre) p T.zV from sF_snoc _ _ _ _, rsS_snoc]
    exact H.sel xZ
  · intro D xs hxs
    simp only [List.cons_append, List.nil_append]
    (repeat' (first | ((with_reducible apply gL); (first | refine yL0 ?_ | refine yL ?_ | (refine yM ?_; intro _) | fail)) | refine yJ ?_ | fail))
    exact J_end0M (Ds := [D]) (dec_enc [D]) rfl fun w H => ⟨_, ⟨xs, hxs, rfl⟩, H.sel (M := [dfr D, pts vb (vwC (sA sp) tb (dueI (rsE E xs)) (wntI (rsE E xs))) 98, T.trA tb (rsE E xs), stoA sp (rsS S xs) c]) xZ⟩
  · intro D c pre _
    exact J_fact (φ := False) (fun w H => H.pu (p := False) (by simp only [List.cons_append, List.nil_append]; (first | ((with_reducible (repeat (first | exact Tk.here | apply Tk.there))); done) | ((simp only [List.cons_append, List.nil_append]); (with_reducible (repeat (first | exact Tk.here | apply Tk.there))); done) | fail))) (fun h => h.elim)
def agV (e : T.Ent) : T.Vt := (e.2.1, e.2.2.1, true)
abbrev agE (E pre : List T.Ent) : List T.Ent := sF agV E pre
theorem vagain_s (vb : Nat) (sp : Option Addr) (tb : Nat) (E : List T.Ent) (hn : E.length ≤ 1000) : Pact Tryz.prog 37 #[.pointer (some ⟨vb, 0, none⟩)] (fun _ => True) (vwL vb sp tb E) (fun _ L' => ∃ xs, xs = thoseL (agE E) wantE (T.keysE E) [] ∧ L' = vwL vb sp tb (agE E xs)) := by
  refine pact Tryz.func37 rfl Tryz.ntmps37 rfl ?_
  intro W K _
  refine J_fact (φ := T.EOk E) (fun w H => T.trOk H xA) ?_
  intro hE
  (repeat' (first | ((with_reducible apply gL); (first | refine yL0 ?_ | refine yL ?_ | ((with_reducible apply gL_go); (first | (refine JL_goq (those_s (some ⟨vb, 0, none⟩) 76) (hφ := xF) (h := ?_); rintro _ _ ⟨g, h, rfl, rfl⟩; try simp only [List.cons_append, List.nil_append]) | fail)) | (refine yM ?_; intro _) | fail)) | refine yJ ?_ | fail))
  rename_i b
  refine J_rangeQ (first := []) (lb := [.pointer (some ⟨g, 0, none⟩), .pointer (some ⟨h, 0, none⟩)]) (those1_it vb sp tb g h (agE E) wantE 76 (by decide +kernel) wants_s hE (by show E.length ≤ 4096; omega)) rfl rfl rfl (by decide +kernel) rfl (fun _ => rfl)
    (fun pre => [pts vb (vwC sp tb (dueI (agE E pre)) (wntI (agE E pre))) 98, T.trA tb (agE E pre), pts b [.pointer (some ⟨vb, 0, none⟩)] 53]) (fun _ _ => [pu False]) (fun A B => qv_of vb sp tb (agE E) (fun pre => [pts b [.pointer (some ⟨vb, 0, none⟩)] 53]) A B) xZ (fun w hr => ⟨hr.cell xA rfl, hr.cell xA rfl⟩) ?_ ?_ ?_
  · rintro W3 K3 l3 pre ⟨p, o⟩ hle hG
    have hk := key_of hE hG.mem
    have hlp := hG.len
    have hl : (agE E pre).length ≤ E.length + pre.length := sF_len agV (pre := pre) hE.s
    have hlp2 : pre.length ≤ E.length := hlp
    obtain ⟨_, _, _, hov, _⟩ := hG
    simp only [parTM, enc2]
    (repeat' (first | ((with_reducible apply gL); (first | refine yL0 ?_ | refine yL ?_ | (refine yM ?_; intro _) | fail)) | refine yJ ?_ | fail))
    refine J_body ?_
    intro K4 hle4 hrec
    refine J_fact (φ := T.EOk (agE E pre)) (fun w H => T.trOk H xA) ?_
    intro hE2
    have hvo : T.VN o := by
      have : o = T.oldV (agE E pre) p := hov
      rw [this]
      unfold T.oldV
      cases hg : T.getL (agE E pre) p with
      | none => exact zV_n
      | some x => exact (hE2.e (p, x) ((T.getL_mem hE2.s).1 hg)).2.2
    have ks := set_s vb sp tb (agE E pre) p (o.1, o.2.1, true) hE2 hk.2 hk.1 hvo (by omega)
    (repeat' (first | ((with_reducible apply gL); (first | refine yL0 ?_ | refine yL ?_ | ((with_reducible apply gL_go); (first | (refine JL_goq (ks) (hφ := xF) (h := ?_); rintro _ _ rfl; try simp only [List.cons_append, List.nil_append]) | fail)) | (refine yM ?_; intro _) | fail)) | refine yJ ?_ | fail))
    refine J_rnd fun w H => ?_
    rw [show agE E (pre ++ [(p, o)]) = T.setE (agE E pre) p (o.1, o.2.1, true) from sF_snoc _ _ _ _]
    exact H.sel xZ
  · intro D xs hxs
    simp only [List.cons_append, List.nil_append]
    (repeat' (first | ((with_reducible apply gL); (first | refine yL0 ?_ | refine yL ?_ | (refine yM ?_; intro _) | fail)) | refine yJ ?_ | fail))
    exact J_end0M (Ds := [D]) (dec_enc [D]) rfl fun w H => ⟨_, ⟨xs, hxs, rfl⟩, H.sel (M := [dfr D, pts vb (vwC sp tb (dueI (agE E xs)) (wntI (agE E xs))) 98, T.trA tb (agE E xs)]) xZ⟩
  · intro D c pre _
    exact J_fact (φ := False) (fun w H => H.pu (p := False) (by simp only [List.cons_append, List.nil_append]; (first | ((with_reducible (repeat (first | exact Tk.here | apply Tk.there))); done) | ((simp only [List.cons_append, List.nil_append]); (with_reducible (repeat (first | exact Tk.here | apply Tk.there))); done) | fail))) (fun h => h.elim)
def accK (g : Nat) (xs : List T.Pf) : HP := fun h => ∃ y : Option Addr × Nat, sats [pts g [.slice y.1 xs.length y.2] 103, Ar 28 2 T.pfC (.slice y.1 xs.length y.2) xs] h
theorem vall_s (vb : Nat) (sp : Option Addr) (tb : Nat) (E : List T.Ent) (hn : E.length ≤ 1000) : Pact Tryz.prog 43 #[.pointer (some ⟨vb, 0, none⟩)] (fun _ => True) (vwL vb sp tb E) (fun u L' => ∃ xs a c, xs = (thoseL (fun _ => E) wantE (T.keysE E) []).map (·.1) ∧ u = .slice a xs.length c ∧ L' = [pts vb (vwC sp tb (dueI E) (wntI E)) 98, T.trA tb E, Ar 28 2 T.pfC (.slice a xs.length c) xs]) := by
  refine pact Tryz.func43 rfl Tryz.ntmps43 rfl ?_
  intro W K _
  refine J_fact (φ := T.EOk E) (fun w H => T.trOk H xA) ?_
  intro hE
  (repeat' (first | ((with_reducible apply gL); (first | refine yL0 ?_ | refine yL ?_ | ((with_reducible apply gL_go); (first | (refine JL_goq (those_s (some ⟨vb, 0, none⟩) 76) (hφ := xF) (h := ?_); rintro _ _ ⟨g, h, rfl, rfl⟩; try simp only [List.cons_append, List.nil_append]) | fail)) | (refine yM ?_; intro _) | (refine yA ?_; intro _ _ _ _) | fail)) | refine yJ ?_ | fail))
  rename_i b
  refine J_heap (L' := [pts vb (vwC sp tb (dueI E) (wntI E)) 98, T.trA tb E, accK b [], pts g [.pointer (some ⟨vb, 0, none⟩)] 53, pts h [.func (.func 76) #[] #[]] 113]) (fun w H => ?_) ?_
  · exact (Ow.shut (A := accK b []) (Ow.arNil (e := 28) (sz := 2) (enc := T.pfC) H) (M := [pts b [.slice none 0 0] 103, Ar 28 2 T.pfC (.slice none 0 0) ([] : List T.Pf)]) xZ (fun k hk => ⟨(none, 0), hk⟩)).sel xZ
  refine J_rangeQ (first := []) (lb := [.pointer (some ⟨g, 0, none⟩), .pointer (some ⟨h, 0, none⟩)]) (those1_it vb sp tb g h (fun _ => E) wantE 76 (by decide +kernel) wants_s hE (by show E.length ≤ 4096; omega)) rfl rfl rfl (by decide +kernel) rfl (fun _ => rfl)
    (fun pre => [pts vb (vwC sp tb (dueI E) (wntI E)) 98, T.trA tb E, accK b (pre.map (·.1))]) (fun _ _ => [pu False]) (fun A B => qv_of vb sp tb (fun _ => E) (fun pre => [accK b (pre.map (·.1))]) A B) xZ (fun w hr => ⟨hr.cell xA rfl, hr.cell xA rfl⟩) ?_ ?_ ?_
  · rintro W3 K3 l3 pre ⟨p, o⟩ hle hG
    have hlp : pre.length ≤ E.length := hG.len
    obtain ⟨xs, hxs⟩ : ∃ xs, pre.map (·.1) = xs := ⟨_, rfl⟩
    have hxl : xs.length ≤ 1000 := by rw [← hxs, List.length_map]; omega
    have hm : (pre ++ [(p, o)]).map (·.1) = xs ++ [p] := by rw [List.map_append, hxs]; rfl
    simp only [parTM, enc2]
    rw [hxs]
    refine J_open (fun w H => H.open (A := accK b xs) xA (α := Option Addr × Nat) (Bs := fun y => [pts b [.slice y.1 xs.length y.2] 103, Ar 28 2 T.pfC (.slice y.1 xs.length y.2) xs]) (fun _ h => h)) ?_
    rintro ⟨a, c⟩
    simp only [List.cons_append, List.nil_append]
    (repeat' (first | ((with_reducible apply gL); (first | refine yL0 ?_ | refine yL ?_ | (refine yM ?_; intro _) | (refine yA ?_; intro _ _ _ _) | fail)) | refine yJ ?_ | fail))
    refine J_body ?_
    intro K4 hle4 hrec
    (repeat' (first | ((with_reducible apply gL); (first | refine yL0 ?_ | ((with_reducible apply gL_c_append); (first | (refine JL_ap1 (z := p) (tabE etab_ok xR) xR xR xA xA xC xR xL xR (by omega) xR xR ?_; intro ad c2 _ _) | fail)) | refine yL ?_ | (refine yM ?_; intro _) | (refine yA ?_; intro _ _ _ _) | fail)) | refine yJ ?_ | fail))
    refine J_rnd fun w H => ?_
    rw [hm]
    rw [show xs.length + 1 = (xs ++ [p]).length by simp] at H
    exact (H.shut (M := [pts b [.slice ad (xs ++ [p]).length c2] 103, Ar 28 2 T.pfC (.slice ad (xs ++ [p]).length c2) (xs ++ [p])]) (A := accK b (xs ++ [p])) xZ (fun k hk => ⟨(ad, c2), hk⟩)).sel xZ
  · intro D xs hxs
    simp only [List.cons_append, List.nil_append]
    obtain ⟨ys, hys⟩ : ∃ ys, xs.map (·.1) = ys := ⟨_, rfl⟩
    rw [hys]
    refine J_open (fun w H => H.open (A := accK b ys) xA (α := Option Addr × Nat) (Bs := fun y => [pts b [.slice y.1 ys.length y.2] 103, Ar 28 2 T.pfC (.slice y.1 ys.length y.2) ys]) (fun _ h => h)) ?_
    rintro ⟨a, c⟩
    simp only [List.cons_append, List.nil_append]
    (repeat' (first | ((with_reducible apply gL); (first | refine yL0 ?_ | refine yL ?_ | (refine yM ?_; intro _) | (refine yA ?_; intro _ _ _ _) | fail)) | refine yJ ?_ | fail))
    exact J_ret1M (Ds := [D]) (dec_enc [D]) rfl (by rfl) fun w H => ⟨_, ⟨ys, a, c, by rw [← hys, hxs], rfl, rfl⟩, H.sel (M := [dfr D, pts vb (vwC sp tb (dueI E) (wntI E)) 98, T.trA tb E, Ar 28 2 T.pfC (.slice a ys.length c) ys]) xZ⟩
  · intro D c pre _
    exact J_fact (φ := False) (fun w H => H.pu (p := False) (by simp only [List.cons_append, List.nil_append]; (first | ((with_reducible (repeat (first | exact Tk.here | apply Tk.there))); done) | ((simp only [List.cons_append, List.nil_append]); (with_reducible (repeat (first | exact Tk.here | apply Tk.there))); done) | fail))) (fun h => h.elim)
end Go.Proofs.YtdnokmpnemaoaaaGreat
