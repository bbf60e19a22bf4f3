/-
  Vw4, Vw5, Vw6: merged.
-/
import Derived.Test.YtdnokmpnemaoaaaGreatZViewChooses33
namespace Go.Proofs.YtdnokmpnemaoaaaGreat
set_option linter.unusedSimpArgs false
set_option linter.unusedVariables false
set_option maxRecDepth 20000
set_option maxHeartbeats 4000000
open Go.RowKit Go.Pm
theorem zd81Vw4 {p q : Prop} (k : p) (h : p → q := by intro hk; first | exact J_draw (id := 4) [0, 1, 2, 3, 4, 5, 6, 7, 8, 9, 10] [11] mixed xC xD xD hk | fail) : q := h k

def thoseL (s : List T.Ent → List T.Ent) (q : T.Vt → Bool) : List T.Pf → List T.Ent → List T.Ent
  | [], pre => pre
  | p :: ks, pre => if q (T.oldV (s pre) p) then thoseL s q ks (pre ++ [(p, T.oldV (s pre) p)]) else thoseL s q ks pre
theorem thoseL_snoc (s : List T.Ent → List T.Ent) (q : T.Vt → Bool) (p : T.Pf) : ∀ (ks : List T.Pf) (pre : List T.Ent), thoseL s q (ks ++ [p]) pre = (if q (T.oldV (s (thoseL s q ks pre)) p) then thoseL s q ks pre ++ [(p, T.oldV (s (thoseL s q ks pre)) p)] else thoseL s q ks pre)
  | [], pre => rfl
  | k :: ks, pre => by
    simp only [List.cons_append, thoseL]
    split
    · exact thoseL_snoc s q p ks _
    · exact thoseL_snoc s q p ks _
def enc2 (e : T.Ent) : List Value := [.agg (T.pfC e.1).toArray, .agg (T.vC e.2).toArray]
abbrev keysOf (s : List T.Ent → List T.Ent) : List T.Pf := T.keysE (s [])
def nextG (s : List T.Ent → List T.Ent) (q : T.Vt → Bool) (pre : List T.Ent) (x : T.Ent) : Prop := ∃ k, pre = thoseL s q ((keysOf s).take k) [] ∧ (keysOf s)[k]? = some x.1 ∧ x.2 = T.oldV (s pre) x.1 ∧ q x.2 = true
theorem those_s (v : Option Addr) (qf : FuncId) : Pact Tryz.prog 47 #[.pointer v, .func (.func qf) #[] #[]] (fun _ => True) [] (fun u L' => ∃ g h, u = .func (.func 81) #[] #[.pointer (some ⟨g, 0, none⟩), .pointer (some ⟨h, 0, none⟩)] ∧ L' = [pts g [.pointer v] 53, pts h [.func (.func qf) #[] #[]] 113]) := by
  refine pact Tryz.func47 rfl Tryz.ntmps47 rfl ?_
  intro W K _
  (repeat' (first | (refine gL ?_; first | refine yL0 ?_ | refine yL ?_ | (refine yM ?_; intro _)) | refine yJ ?_ | fail))
  exact J_ret1 rfl (by rfl) fun w H => ⟨_, ⟨_, _, rfl, rfl⟩, H.sel xZ⟩
abbrev QV (vb : Nat) (sp : Option Addr) (tb : Nat) (s : List T.Ent → List T.Ent) (Y : List T.Ent → HP) : Prop := ∃ Y' : List T.Ent → HP, ∀ pre h, Y pre h ↔ sats [pts vb (vwC sp tb (dueI (s pre)) (wntI (s pre))) 98, T.trA tb (s pre), Y' pre] h
theorem those1_it (vb : Nat) (sp : Option Addr) (tb g h : Nat) (s : List T.Ent → List T.Ent) (q : T.Vt → Bool) (qf : FuncId) (ho : ownB Tryz.prog qf = true) (hq : ∀ x, Pact Tryz.prog qf #[.agg (T.vC x).toArray] (fun _ => True) [] (ret0 (.bool (q x)))) (hs : T.EOk (s [])) (hl : (s []).length ≤ 4096) :
    IterQ Tryz.prog 81 (fun l => [yldV l, .pointer (some ⟨g, 0, none⟩), .pointer (some ⟨h, 0, none⟩)]) (fun w => w.cell? ⟨g, 0, none⟩ = some (.pointer (some ⟨vb, 0, none⟩)) ∧ w.cell? ⟨h, 0, none⟩ = some (.func (.func qf) #[] #[])) enc2 (nextG s q) (fun xs => xs = thoseL s q (keysOf s) []) (fun pre => ∃ k, pre = thoseL s q ((keysOf s).take k) []) (QV vb sp tb s) := by
  refine iterQ Tryz.func81 rfl Tryz.ntmps81 (fun _ => rfl) ?_
  intro K0 l Y Yx ⟨Y', hQ⟩ hY W K hK hφ
  have h1 : Kn K (fun w => w.cell? ⟨g, 0, none⟩ = some (.pointer (some ⟨vb, 0, none⟩))) := hφ.left
  have h2 : Kn K (fun w => w.cell? ⟨h, 0, none⟩ = some (.func (.func qf) #[] #[])) := hφ.right
  have opn : ∀ {pre : List T.Ent} {L R : List HP} {w : World}, Ow W K L w → Tk L (Y pre) R → Ow W K (pts vb (vwC sp tb (dueI (s pre)) (wntI (s pre))) 98 :: T.trA tb (s pre) :: Y' pre :: R) w := fun H t => by
    obtain ⟨_, H2⟩ := H.open (α := Unit) t (Bs := fun _ => [pts vb (vwC sp tb (dueI (s _)) (wntI (s _))) 98, T.trA tb (s _), Y' _]) (fun k hk => ⟨(), (hQ _ k).1 hk⟩)
    exact H2
  have sht : ∀ {pre : List T.Ent} {L R : List HP} {w : World}, Ow W K L w → Sb L [pts vb (vwC sp tb (dueI (s pre)) (wntI (s pre))) 98, T.trA tb (s pre), Y' pre] R → Ow W K (Y pre :: R) w := fun H t => H.shut t (fun k hk => (hQ _ k).2 hk)
  have hkl : (keysOf s).length ≤ 4096 := by show (List.map _ _).length ≤ _; rw [List.length_map]; exact hl
  refine J_heap (fun w H => opn H .here) ?_
  obtain ⟨ks, hks⟩ : ∃ ks, keysOf s = ks := ⟨_, rfl⟩
  have hkn : ∀ p ∈ ks, T.PfN p := fun p hp => by
    rw [← hks] at hp
    obtain ⟨e, he, rfl⟩ := List.mem_map.1 hp
    exact (hs.e e he).2.1
  have hall := T.all_a tb (s []) hl
  have ek : T.keysE (s []) = ks := hks
  rw [ek] at hall
  rw [hks] at hkl
  (repeat' (first | (refine gL ?_; first | refine yL0 ?_ | refine yL ?_ | (refine gL_go ?_; first | (refine JL_goq (vis_s vb sp tb (dueI (s [])) (wntI (s []))) (hφ := xF) (h := ?_); rintro _ _ ⟨rfl, rfl⟩; try simp only [cAp, nAp]) | (refine JL_goq (hall) (hφ := xF) (h := ?_); rintro _ _ ⟨a, c, rfl, rfl⟩; try simp only [cAp, nAp])) | (refine yM ?_; intro _)) | (refine gD ?_; first | (refine yN ?_; try simp only [cAp, nAp]) | refine yD ?_ | (refine gD_go ?_; first | (refine JD_goq (vis_s vb sp tb (dueI (s [])) (wntI (s []))) (hφ := xF) (h := ?_); rintro _ _ ⟨rfl, rfl⟩; try simp only [cAp, nAp]) | (refine JD_goq (hall) (hφ := xF) (h := ?_); rintro _ _ ⟨a, c, rfl, rfl⟩; try simp only [cAp, nAp])) | (refine yE ?_; intro _)) | refine yJ ?_ | refine zd81Vw4 ?_ | (refine yI ?_ ?_ <;> intro _ <;> try exact xX) | (refine yK ?_ ?_ <;> intro hgb <;> first | subst hgb | fail_if_success have : type_of% hgb := rfl) | fail))
  refine J_loop (α := Nat) 0 (fun x => ks.length - x) (fun x => x ≤ ks.length) (fun x => [(0, yldV l), (1, .pointer (some ⟨g, 0, none⟩)), (2, .pointer (some ⟨h, 0, none⟩)), (15, .slice a ks.length c), (16, .int .i64 ks.length), (17, .int .i64 x)])
    (fun x => [Y (thoseL s q (ks.take x) []), Ar 28 2 T.pfC (.slice a ks.length c) ks]) (Nat.zero_le _) ⟨rfl, rfl, rfl, rfl, rfl, rfl, trivial⟩ (fun w H => (sht (pre := []) H xZ).sel xZ) ?_
  intro x hx
  obtain ⟨pre, hpre⟩ : ∃ pre, thoseL s q (ks.take x) [] = pre := ⟨_, rfl⟩
  rw [hpre]
  by_cases hlt : x < ks.length
  · obtain ⟨p, hp⟩ : ∃ p, ks[x]? = some p := ⟨_, List.getElem?_eq_getElem hlt⟩
    have hpn := hkn p (List.mem_of_getElem? hp)
    have hsn : thoseL s q (ks.take (x + 1)) [] = if q (T.oldV (s pre) p) then pre ++ [(p, T.oldV (s pre) p)] else pre := by
      rw [take_snoc hp, thoseL_snoc, hpre]
    obtain ⟨o, hov⟩ : ∃ o, T.oldV (s pre) p = o := ⟨_, rfl⟩
    have kg := T.get_old tb (s pre) p hpn o hov _ rfl
    refine J_heap (fun w H => opn H .here) ?_
    have kq := hq o
    rcases hqo : q o with _ | _
    · rw [hov, hqo] at hsn
      rw [hqo] at kq
      (repeat' (first | (refine gL ?_; first | refine yL0 ?_ | refine yL ?_ | (refine gL_go ?_; first | (refine JL_goq (kg) (hφ := xF) (h := ?_); rintro _ _ ⟨rfl, rfl⟩; try simp only [cAp, nAp]) | (refine JL_goq (kq) (hφ := xF) (h := ?_); rintro _ _ ⟨rfl, rfl⟩; try simp only [cAp, nAp])) | (refine yM ?_; intro _)) | (refine gD ?_; first | (refine yN ?_; try simp only [cAp, nAp]) | refine yD ?_ | (refine gD_go ?_; first | (refine JD_goq (kg) (hφ := xF) (h := ?_); rintro _ _ ⟨rfl, rfl⟩; try simp only [cAp, nAp]) | (refine JD_goq (kq) (hφ := xF) (h := ?_); rintro _ _ ⟨rfl, rfl⟩; try simp only [cAp, nAp])) | (refine yE ?_; intro _)) | refine yJ ?_ | refine zd81Vw4 ?_ | (refine yI ?_ ?_ <;> intro _ <;> try exact xX) | (refine yK ?_ ?_ <;> intro hgb <;> first | subst hgb | fail_if_success have : type_of% hgb := rfl) | fail))
      refine J_again (x + 1) (by omega) (by omega) ⟨rfl, rfl, rfl, rfl, rfl, rfl, trivial⟩ (fun w H => ?_)
      rw [hsn]
      exact (sht (pre := pre) H xZ).sel xZ
    · rw [hov, hqo] at hsn
      rw [hqo] at kq
      have hG : nextG s q pre (p, o) := ⟨x, by rw [hks]; exact hpre.symm, by rw [hks]; exact hp, hov.symm, hqo⟩
      (repeat' (first | (refine gL ?_; first | refine yL0 ?_ | refine yL ?_ | (refine gL_go ?_; first | (refine JL_goq (kg) (hφ := xF) (h := ?_); rintro _ _ ⟨rfl, rfl⟩; try simp only [cAp, nAp]) | (refine JL_goq (kq) (hφ := xF) (h := ?_); rintro _ _ ⟨rfl, rfl⟩; try simp only [cAp, nAp])) | (refine yM ?_; intro _)) | (refine gD ?_; first | (refine yN ?_; try simp only [cAp, nAp]) | refine yD ?_ | (refine gD_go ?_; first | (refine JD_goq (kg) (hφ := xF) (h := ?_); rintro _ _ ⟨rfl, rfl⟩; try simp only [cAp, nAp]) | (refine JD_goq (kq) (hφ := xF) (h := ?_); rintro _ _ ⟨rfl, rfl⟩; try simp only [cAp, nAp])) | (refine yE ?_; intro _)) | refine yJ ?_ | refine zd81Vw4 ?_ | (refine yI ?_ ?_ <;> intro _ <;> try exact xX) | (refine yK ?_ ?_ <;> intro hgb <;> first | subst hgb | fail_if_success have : type_of% hgb := rfl) | fail))
      refine JL_heap (fun w H => sht (pre := pre) H xZ) ?_
      refine JL_y (hY pre (p, o) hG) xH xR xR xS xR xR ?_
      rintro _ _ (⟨rfl, rfl⟩ | ⟨rfl, rfl⟩) <;> simp only [List.cons_append, List.nil_append]
      all_goals (repeat' (first | (refine gL ?_; first | refine yL0 ?_ | refine yL ?_ | (refine yM ?_; intro _)) | (refine gD ?_; first | (refine yN ?_; try simp only [cAp, nAp]) | refine yD ?_ | (refine yE ?_; intro _)) | refine yJ ?_ | refine zd81Vw4 ?_ | (refine yI ?_ ?_ <;> intro _ <;> try exact xX) | (refine yK ?_ ?_ <;> intro hgb <;> first | subst hgb | fail_if_success have : type_of% hgb := rfl) | fail))
      · refine J_again (x + 1) (by omega) (by omega) ⟨rfl, rfl, rfl, rfl, rfl, rfl, trivial⟩ (fun w H => ?_)
        rw [hsn]
        exact H.sel xZ
      · refine J_ret0 rfl fun w H => ⟨[Yx (pre ++ [(p, o)])], .inr ⟨_, ⟨x + 1, ?_⟩, rfl⟩, H.sel xZ⟩
        rw [hks, hsn]
        rfl
  · obtain rfl : x = ks.length := by omega
    rw [List.take_length] at hpre
    (repeat' (first | (refine gL ?_; first | refine yL0 ?_ | refine yL ?_ | (refine yM ?_; intro _)) | (refine gD ?_; first | (refine yN ?_; try simp only [cAp, nAp]) | refine yD ?_ | (refine yE ?_; intro _)) | refine yJ ?_ | refine zd81Vw4 ?_ | (refine yI ?_ ?_ <;> intro _ <;> try exact xX) | (refine yK ?_ ?_ <;> intro hgb <;> first | subst hgb | fail_if_success have : type_of% hgb := rfl) | fail))
    exact J_end0 rfl fun w H => ⟨[Y pre], .inl ⟨_, by rw [← hpre, hks], rfl⟩, H.sel xZ⟩

theorem sats_one {A : HP} {h : Hl} : sats [A] h ↔ A h := by
  constructor
  · rintro ⟨h1, h2, a, b, _, rfl⟩
    have : h1.add h2 = h1 := by funext x; simp [Hl.add, b x]
    rw [this]; exact a
  · intro a
    exact ⟨h, fun _ => none, a, fun _ => rfl, fun b => .inr rfl, by funext x; simp [Hl.add]⟩
theorem sats_tail {A : HP} {L M : List HP} (e : ∀ h, sats L h ↔ sats M h) (h : Hl) : sats (A :: L) h ↔ sats (A :: M) h := by
  constructor
  · rintro ⟨h1, h2, a, b, d, r⟩; exact ⟨h1, h2, a, (e h2).1 b, d, r⟩
  · rintro ⟨h1, h2, a, b, d, r⟩; exact ⟨h1, h2, a, (e h2).2 b, d, r⟩
theorem sats_group (A B U V : HP) (M : List HP) (h : Hl) : sats (A :: B :: U :: V :: M) h ↔ sats [U, V, sats (A :: B :: M)] h := by
  have p : (A :: B :: U :: V :: M).Perm (U :: V :: A :: B :: M) := by
    refine List.Perm.trans (l₂ := U :: A :: B :: V :: M) ?_ (.cons _ ?_)
    · exact (List.perm_middle (l₁ := [A, B]) (l₂ := V :: M) (a := U))
    · exact (List.perm_middle (l₁ := [A, B]) (l₂ := M) (a := V))
  refine Iff.trans ⟨sats_perm p h, sats_perm p.symm h⟩ (sats_tail (sats_tail fun h => sats_one.symm) h)
theorem qv_of (vb : Nat) (sp : Option Addr) (tb : Nat) (s : List T.Ent → List T.Ent) (M : List T.Ent → List HP) (A B : HP) : QV vb sp tb s (fun pre => sats (A :: B :: pts vb (vwC sp tb (dueI (s pre)) (wntI (s pre))) 98 :: T.trA tb (s pre) :: M pre)) := ⟨fun pre => sats (A :: B :: M pre), fun pre h => sats_group A B _ _ (M pre) h⟩
theorem srt_set {E : List T.Ent} {p : T.Pf} {x : T.Vt} (h : T.Srt E) : T.Srt (T.setE E p x) := by
  unfold T.setE
  split
  · exact T.srt_dropL h
  · exact T.srt_putL h
theorem thoseL_len (s : List T.Ent → List T.Ent) (q : T.Vt → Bool) : ∀ (ks : List T.Pf) (pre : List T.Ent), (thoseL s q ks pre).length ≤ pre.length + ks.length
  | [], pre => by simp [thoseL]
  | k :: ks, pre => by
    simp only [thoseL]
    split
    · have := thoseL_len s q ks (pre ++ [(k, T.oldV (s pre) k)])
      simp only [List.length_append, List.length_cons, List.length_nil] at this ⊢
      omega
    · have := thoseL_len s q ks pre
      simp only [List.length_cons]
      omega
theorem nextG.len {s : List T.Ent → List T.Ent} {q : T.Vt → Bool} {pre : List T.Ent} {x : T.Ent} (h : nextG s q pre x) : pre.length ≤ (s []).length := by
  obtain ⟨k, rfl, _⟩ := h
  have := thoseL_len s q ((keysOf s).take k) []
  have h2 : ((keysOf s).take k).length ≤ (s []).length := by
    rw [List.length_take]
    have : (keysOf s).length = (s []).length := List.length_map _
    omega
  simp only [List.length_nil] at this
  omega
theorem nextG.mem {s : List T.Ent → List T.Ent} {q : T.Vt → Bool} {pre : List T.Ent} {x : T.Ent} (h : nextG s q pre x) : x.1 ∈ keysOf s := by
  obtain ⟨k, _, h, _⟩ := h
  exact List.mem_of_getElem? h
theorem frF_ok {B : Int} {S : List En} {c id : Int} (h : StOk B S c) : StOk B (frF S id) c := by
  unfold frF
  split
  · exact h
  · exact freeF_ok h
theorem key_of {E : List T.Ent} (hE : T.EOk E) {p : T.Pf} (h : p ∈ T.keysE E) : T.Rt p ∧ T.PfN p := by
  obtain ⟨e, he, rfl⟩ := List.mem_map.1 h
  have := hE.e e he
  exact ⟨this.1, this.2.1⟩
theorem zV_n : T.VN T.zV := by unfold T.VN; exact ⟨by unfold T.I64; decide, by unfold T.I64; decide⟩
theorem zd31Vw6 {p q : Prop} (k : p) (h : p → q := by intro hk; first | exact J_draw (id := 10) [0, 1, 2, 3, 4, 5, 6, 7, 8] [9] mixed xC xD xD hk | fail) : q := h k

structure Vs where
  E : List T.Ent
  S : List En
  c : Int
noncomputable def tkStep (σ : Vs) (e : T.Ent) : Vs :=
  ⟨T.setE σ.E e.1 (e.2.1, (agF (frF σ.S e.2.2.1) σ.c e.2.1).2, false), (agF (frF σ.S e.2.2.1) σ.c e.2.1).1.1, (agF (frF σ.S e.2.2.1) σ.c e.2.1).1.2⟩
noncomputable def tkF (σ : Vs) (pre : List T.Ent) : Vs := pre.foldl tkStep σ
noncomputable def tkE (σ : Vs) (pre : List T.Ent) : List T.Ent := (tkF σ pre).E
theorem tkF_snoc (σ : Vs) (pre : List T.Ent) (x : T.Ent) : tkF σ (pre ++ [x]) = tkStep (tkF σ pre) x := by unfold tkF; rw [List.foldl_append]; rfl
theorem tkF_len : ∀ {pre : List T.Ent} {σ : Vs}, T.Srt σ.E → (tkF σ pre).E.length ≤ σ.E.length + pre.length
  | [], _, _ => by simp [tkF]
  | x :: pre, σ, h => by
    have h1 := tkF_len (pre := pre) (σ := tkStep σ x) (srt_set h)
    have h2 : (tkStep σ x).E.length ≤ σ.E.length + 1 := T.set_len h
    show (tkF (tkStep σ x) pre).E.length ≤ _
    simp only [List.length_cons]
    omega
theorem getX_n {B : Int} {S : List En} {c id : Int} (h : StOk B S c) : NfN (getX S id) := by
  unfold getX
  rcases hf : fnd S id with _ | e
  · exact At.nfN zAt_f.num
  · obtain ⟨A, C, rfl, _, _⟩ := fnd_some hf
    exact (h.ok e (by simp)).2
theorem keepF_id {B : Int} {S : List En} {c : Int} {x : Nf} (h : StOk B S c) : 0 ≤ (keepF S c x).2.1 ∧ (keepF S c x).2.1 ≤ B + 1 := by
  have hc := h.cnt
  unfold keepF
  split
  · dsimp only; omega
  · split
    · rename_i e hf
      obtain ⟨A, C, rfl, _, _⟩ := fndX_some hf
      have := h.ids e (by simp)
      dsimp only; omega
    · split <;> (dsimp only; omega)
theorem agF_ok {B : Int} {S : List En} {c id : Int} (h : StOk B S c) (hB : 0 ≤ B) : StOk (B + 1) (agF S c id).1.1 (agF S c id).1.2 ∧ 0 ≤ (agF S c id).2 ∧ (agF S c id).2 ≤ B + 1 := by
  unfold agF
  split
  · exact ⟨h.mono (by omega), by dsimp only; omega⟩
  · exact ⟨keepF_ok h hB (getX_n h), keepF_id h⟩
theorem tkStep_ok {B : Int} {σ : Vs} {x : T.Ent} (h : StOk B σ.S σ.c) (hB : 0 ≤ B) : StOk (B + 1) (tkStep σ x).S (tkStep σ x).c := (agF_ok (frF_ok h) hB).1
theorem tkF_ok : ∀ {pre : List T.Ent} {B : Int} {σ : Vs}, StOk B σ.S σ.c → 0 ≤ B → StOk (B + pre.length) (tkF σ pre).S (tkF σ pre).c
  | [], B, σ, h, _ => by
    have : B + (([] : List T.Ent).length : Int) = B := by simp
    rw [this]; exact h
  | x :: pre, B, σ, h, hB => by
    have h1 := tkF_ok (pre := pre) (tkStep_ok (x := x) h hB) (by omega)
    have : B + ((x :: pre).length : Int) = B + 1 + (pre.length : Int) := by simp; omega
    rw [this]
    exact h1
structure Ch where
  p : T.Pf
  d : At
  told : Bool
def chC (x : Ch) : List Value := [.int .u32 x.p.1, .int .i64 x.p.2, .int .i64 x.d.origin, .slice x.d.pa x.d.path.length x.d.pc, .int .u32 x.d.next, .bool x.d.hasMed, .int .u32 x.d.med, .bool x.d.hasLocal, .int .u32 x.d.loc, .bool x.d.atomic, .bool x.d.hasMaker, .int .u32 x.d.makerAS, .int .u32 x.d.maker, .slice x.d.ca x.d.comms.length x.d.cc, .slice x.d.oa x.d.others.length x.d.oc, .bool x.told]
def chN (x : Ch) : T.Pf × Nf × Bool := (x.p, x.d.nf, x.told)
noncomputable def chL : Vs → List T.Ent → List (T.Pf × Nf × Bool)
  | _, [] => []
  | σ, e :: r => (e.1, whatX σ.S e.2.1, whatB σ.S e.2.1) :: chL (tkStep σ e) r
theorem chL_snoc (x : T.Ent) : ∀ (pre : List T.Ent) (σ : Vs), chL σ (pre ++ [x]) = chL σ pre ++ [(x.1, whatX (tkF σ pre).S x.2.1, whatB (tkF σ pre).S x.2.1)]
  | [], σ => rfl
  | y :: pre, σ => by
    simp only [List.cons_append, chL]
    rw [chL_snoc x pre]
    rfl
theorem chL_len : ∀ (pre : List T.Ent) (σ : Vs), (chL σ pre).length = pre.length
  | [], _ => rfl
  | y :: pre, σ => by simp only [chL, List.length_cons, chL_len pre]
structure Cx where
  ad : Option Addr
  c : Nat
  l : List Ch
abbrev accCL (g : Nat) (y : Cx) : List HP := [pts g [.slice y.ad y.l.length y.c] 82, Ar 85 16 chC (.slice y.ad y.l.length y.c) y.l, has (fun w => ∀ x ∈ y.l, AtV w x.d)]
def accC (g : Nat) (L : List (T.Pf × Nf × Bool)) : HP := fun h => ∃ y : Cx, (y.l.map chN = L ∧ ∀ x ∈ y.l, AtF x.d) ∧ sats (accCL g y) h
theorem accOpen {W : World} {K : Hl} {L R : List HP} {w : World} {g : Nat} {M : List (T.Pf × Nf × Bool)} (H : Ow W K L w) (t : Tk L (accC g M) R) : ∃ y : {y : Cx // y.l.map chN = M ∧ ∀ x ∈ y.l, AtF x.d}, Ow W K (accCL g y.1 ++ R) w :=
  H.open t (Bs := fun y : {y : Cx // y.l.map chN = M ∧ ∀ x ∈ y.l, AtF x.d} => accCL g y.1) (fun _ ⟨y, h1, h2⟩ => ⟨⟨y, h1⟩, h2⟩)
theorem accShut {W : World} {K : Hl} {L R : List HP} {w : World} {g : Nat} {M : List (T.Pf × Nf × Bool)} {ad : Option Addr} {c n : Nat} {l : List Ch} (hn : l.length = n) (hl : l.map chN = M) (hf : ∀ x ∈ l, AtF x.d) (H : Ow W K L w) (t : Sb L [pts g [.slice ad n c] 82, Ar 85 16 chC (.slice ad n c) l, has (fun w => ∀ x ∈ l, AtV w x.d)] R) : Ow W K (accC g M :: R) w := by
  subst hn
  exact H.shut t (fun k hk => ⟨⟨ad, c, l⟩, ⟨hl, hf⟩, hk⟩)
def TakeOk (σ : Vs) (n : Int) (pre : List T.Ent) : Prop := (pre = thoseL (tkE σ) lateE (T.keysE σ.E) [] ∧ (pre.length : Int) < n) ∨ ((∃ k, pre = thoseL (tkE σ) lateE ((T.keysE σ.E).take k) []) ∧ (pre.length : Int) = n)
def TakeR (vb sp tb : Nat) (σ : Vs) (n : Int) (u : Value) (L' : List HP) : Prop := ∃ pre, TakeOk σ n pre ∧ ∃ (a : Option Addr) (cc : Nat) (l : List Ch), (l.map chN = chL σ pre ∧ ∀ x ∈ l, AtF x.d) ∧ u = .slice a l.length cc ∧ L' = [pts vb (vwC (sA sp) tb (dueI (tkF σ pre).E) (wntI (tkF σ pre).E)) 98, T.trA tb (tkF σ pre).E, stoA sp (tkF σ pre).S (tkF σ pre).c, Ar 85 16 chC (.slice a l.length cc) l, has (fun w => ∀ x ∈ l, AtV w x.d)]
def ixT (vb sp tb : Nat) (σ : Vs) (n : Int) (bl bv bn : Nat) : Code → List T.Ent → List HP
  | .exit 0, pre => [pu ((pre.length : Int) = n), pts vb (vwC (sA sp) tb (dueI (tkE σ pre)) (wntI (tkE σ pre))) 98, T.trA tb (tkE σ pre), stoA sp (tkF σ pre).S (tkF σ pre).c, accC bl (chL σ pre), pts bv [.pointer (some ⟨vb, 0, none⟩)] 53, pts bn [.int .i64 n] 3]
  | _, _ => [pu False]
theorem vtake_s (B : Int) (hB0 : 0 ≤ B) (hB : B ≤ 1000000) (vb sp tb : Nat) (σ : Vs) (n : Int) (hn1 : 1 ≤ n) (hs : StOk B σ.S σ.c) (hn : σ.E.length ≤ 1000) : Pact Tryz.prog 31 #[.pointer (some ⟨vb, 0, none⟩), .int .i64 n] (fun _ => True) (vsL vb sp tb σ.E σ.S σ.c) (TakeR vb sp tb σ n) := by
  refine pact Tryz.func31 rfl Tryz.ntmps31 rfl ?_
  intro W K _
  refine J_fact (φ := T.EOk σ.E) (fun w H => T.trOk H xA) ?_
  intro hE
  (repeat' (first | (refine gL ?_; first | refine yL0 ?_ | refine yL ?_ | (refine gL_go ?_; (refine JL_goq (those_s (some ⟨vb, 0, none⟩) 70) (hφ := xF) (h := ?_); rintro _ _ ⟨g, h, rfl, rfl⟩; try simp only [cAp, nAp])) | (refine yM ?_; intro _) | (refine yA ?_; intro _ _ _ _)) | (refine gD ?_; first | (refine yN ?_; try simp only [cAp, nAp]) | refine yD ?_ | (refine gD_go ?_; (refine JD_goq (those_s (some ⟨vb, 0, none⟩) 70) (hφ := xF) (h := ?_); rintro _ _ ⟨g, h, rfl, rfl⟩; try simp only [cAp, nAp]))) | refine yJ ?_ | refine zd31Vw6 ?_ | (refine yI ?_ ?_ <;> intro _ <;> try exact xX) | (refine yK ?_ ?_ <;> intro hgb <;> first | subst hgb | fail_if_success have : type_of% hgb := rfl) | fail))
  rename_i bv bn bl hnn
  refine J_heap (L' := [pu ((([] : List T.Ent).length : Int) < n), pts vb (vwC (sA sp) tb (dueI (tkE σ [])) (wntI (tkE σ []))) 98, T.trA tb (tkE σ []), stoA sp (tkF σ []).S (tkF σ []).c, accC bl (chL σ []), pts bv [.pointer (some ⟨vb, 0, none⟩)] 53, pts bn [.int .i64 n] 3, pts g [.pointer (some ⟨vb, 0, none⟩)] 53, pts h [.func (.func 70) #[] #[]] 113]) (fun w H => ?_) ?_
  · have H := Ow.hasTrue (φ := fun w => ∀ x ∈ ([] : List Ch), AtV w x.d) (Ow.arNil (e := 85) (sz := 16) (enc := chC) H) (by intro _ _ h; exact absurd h List.not_mem_nil)
    have H := Ow.mkPu (p := ((([] : List T.Ent).length : Int) < n)) (accShut (g := bl) (M := chL σ []) (l := []) rfl rfl (fun _ h => absurd h List.not_mem_nil) H xZ) (by simp; omega)
    exact H.sel xZ
  refine J_rangeQ (first := []) (lb := [.pointer (some ⟨g, 0, none⟩), .pointer (some ⟨h, 0, none⟩)]) (those1_it vb (sA sp) tb g h (tkE σ) lateE 70 (by decide +kernel) late_s hE (by show σ.E.length ≤ 4096; omega)) rfl rfl rfl (by decide +kernel) rfl (fun _ => rfl)
    (fun pre => [pts vb (vwC (sA sp) tb (dueI (tkE σ pre)) (wntI (tkE σ pre))) 98, T.trA tb (tkE σ pre), pu ((pre.length : Int) < n), stoA sp (tkF σ pre).S (tkF σ pre).c, accC bl (chL σ pre), pts bv [.pointer (some ⟨vb, 0, none⟩)] 53, pts bn [.int .i64 n] 3]) (ixT vb sp tb σ n bl bv bn) (fun A B => qv_of vb (sA sp) tb (tkE σ) (fun pre => [pu ((pre.length : Int) < n), stoA sp (tkF σ pre).S (tkF σ pre).c, accC bl (chL σ pre), pts bv [.pointer (some ⟨vb, 0, none⟩)] 53, pts bn [.int .i64 n] 3]) A B) xZ (fun w hr => ⟨hr.cell xA rfl, hr.cell xA rfl⟩) ?_ ?_ ?_
  · rintro W3 K3 l3 pre ⟨p, o⟩ hle hG
    have hk := key_of hE hG.mem
    have hlp : pre.length ≤ σ.E.length := hG.len
    have hl : (tkE σ pre).length ≤ σ.E.length + pre.length := tkF_len hE.s
    have hst : StOk (B + pre.length) (tkF σ pre).S (tkF σ pre).c := tkF_ok hs hB0
    obtain ⟨_, _, _, hov, _⟩ := hG
    have hsn := tkF_snoc σ pre (p, o)
    have hcn := chL_snoc (p, o) pre σ
    have hcl := chL_len pre σ
    obtain ⟨CL, hCL⟩ : ∃ CL, chL σ pre = CL := ⟨_, rfl⟩
    rw [hCL] at hcn hcl
    unfold tkE at hl
    obtain ⟨τ, hτ⟩ : ∃ τ, tkF σ pre = τ := ⟨_, rfl⟩
    rw [hτ] at hst hl hsn hcn
    obtain ⟨E1, S1, c1⟩ := τ
    dsimp only at hst hl hcn
    obtain ⟨S2, hS2⟩ : ∃ S2, frF S1 o.2.1 = S2 := ⟨_, rfl⟩
    have hst2 : StOk (B + pre.length) S2 c1 := by rw [← hS2]; exact frF_ok hst
    have hag := agF_ok (id := o.1) hst2 (by omega)
    obtain ⟨⟨⟨S3, c3⟩, id⟩, ha⟩ : ∃ x, agF S2 c1 o.1 = x := ⟨_, rfl⟩
    rw [ha] at hag
    dsimp only at hag
    have hsn2 : tkF σ (pre ++ [(p, o)]) = ⟨T.setE E1 p (o.1, id, false), S3, c3⟩ := by
      rw [hsn]; unfold tkStep; dsimp only; rw [hS2, ha]
    simp only [parTM, enc2]
    unfold tkE
    simp only [hτ, hCL]
    (repeat' (first | (refine gL ?_; first | refine yL0 ?_ | refine yL ?_ | (refine yM ?_; intro _) | (refine yA ?_; intro _ _ _ _)) | (refine gD ?_; first | (refine yN ?_; try simp only [cAp, nAp]) | refine yD ?_) | refine yJ ?_ | refine zd31Vw6 ?_ | (refine yI ?_ ?_ <;> intro _ <;> try exact xX) | (refine yK ?_ ?_ <;> intro hgb <;> first | subst hgb | fail_if_success have : type_of% hgb := rfl) | fail))
    refine J_body ?_
    intro K4 hle4 hrec
    refine J_fact (φ := T.EOk E1) (fun w H => T.trOk H xA) ?_
    intro hE2
    have hvo : T.VN o := by
      have : o = T.oldV E1 p := by
        have h1 : o = T.oldV (tkE σ pre) p := hov
        unfold tkE at h1
        rw [hτ] at h1
        exact h1
      rw [this]
      unfold T.oldV
      cases hg : T.getL E1 p with
      | none => exact zV_n
      | some x => exact (hE2.e (p, x) ((T.getL_mem hE2.s).1 hg)).2.2
    have hvi : T.VN (o.1, id, false) := ⟨hvo.1, by show T.I64 id; unfold T.I64; omega⟩
    refine J_open (fun w H => accOpen H xA) ?_
    rintro ⟨⟨ad, cc, l⟩, hl1, hl2⟩
    dsimp only at hl1 hl2
    simp only [List.cons_append, List.nil_append]
    have hll : l.length = pre.length := by rw [← hcl, ← hl1, List.length_map]
    have kw := what_v vb sp tb (dueI E1) (wntI E1) S1 c1 o.1
    have kf := free_w (B + pre.length) (by omega) vb sp tb E1 S1 S2 c1 o.2.1 hst hS2
    have ka := again_v (B + pre.length) (by omega) (by omega) vb sp tb (dueI E1) (wntI E1) S2 c1 o.1 hst2
    rw [ha] at ka
    dsimp only at ka
    have ks := set_s vb (sA sp) tb E1 p (o.1, id, false) hE2 hk.2 hk.1 hvi (by omega)
    (repeat' (first | (refine gL ?_; first | refine yL0 ?_ | (refine gL_c_append ?_; (refine JL_ap1 (z := Ch.mk p d' (whatB S1 o.1)) (tabE etab_ok xR) xR xR xA xA xC xR xL xR (by omega) xR xR ?_; intro ad2 c2 _ _)) | refine yL ?_ | (refine gL_go ?_; first | (refine JL_goq (kw) (hφ := xF) (h := ?_); rintro _ _ ⟨d', hd', rfl, rfl⟩; try simp only [cAp, nAp]) | (refine JL_goq (kf) (hφ := xF) (h := ?_); rintro _ _ rfl; try simp only [cAp, nAp]) | (refine JL_goq (ka) (hφ := xF) (h := ?_); rintro _ _ ⟨rfl, rfl⟩; try simp only [cAp, nAp]) | (refine JL_goq (ks) (hφ := xF) (h := ?_); rintro _ _ rfl; try simp only [cAp, nAp])) | (refine yM ?_; intro _) | (refine yA ?_; intro _ _ _ _)) | (refine gD ?_; first | (refine yN ?_; try simp only [cAp, nAp]) | refine yD ?_ | (refine gD_go ?_; first | (refine JD_goq (kw) (hφ := xF) (h := ?_); rintro _ _ ⟨d', hd', rfl, rfl⟩; try simp only [cAp, nAp]) | (refine JD_goq (kf) (hφ := xF) (h := ?_); rintro _ _ rfl; try simp only [cAp, nAp]) | (refine JD_goq (ka) (hφ := xF) (h := ?_); rintro _ _ ⟨rfl, rfl⟩; try simp only [cAp, nAp]) | (refine JD_goq (ks) (hφ := xF) (h := ?_); rintro _ _ rfl; try simp only [cAp, nAp]))) | refine yJ ?_ | refine zd31Vw6 ?_ | (refine yI ?_ ?_ <;> intro _ <;> try exact xX) | (refine yK ?_ ?_ <;> intro hgb <;> first | subst hgb | fail_if_success have : type_of% hgb := rfl) | fail))
    all_goals (
      have hsh : ∀ {L R : List HP} {w : World}, Ow W3 K4 L w → Sb L [pts bl [.slice ad2 (l.length + 1) c2] 82, Ar 85 16 chC (.slice ad2 (l.length + 1) c2) (l ++ [Ch.mk p d' (whatB S1 o.1)]), has (fun w => ∀ x ∈ l, AtV w x.d), has (fun w => AtV w d')] R → Ow W3 K4 (accC bl (chL σ (pre ++ [(p, o)])) :: R) w := fun H t => by
        have H := H.sb t
        have H := Ow.has (M := [has (fun w => ∀ x ∈ l, AtV w x.d), has (fun w => AtV w d')]) (φ := fun w => ∀ x ∈ l ++ [Ch.mk p d' (whatB S1 o.1)], AtV w x.d) H xZ (fun w hr x hx => by
          rcases List.mem_append.1 hx with hx | hx
          · exact hr.has .here x hx
          · obtain rfl := List.mem_singleton.1 hx
            exact hr.has (.there .here))
        refine accShut (n := l.length + 1) (l := l ++ [Ch.mk p d' (whatB S1 o.1)]) (by rw [List.length_append]; rfl) ?_ (fun x hx => ?_) H xZ
        · rw [hcn, List.map_append, hl1]
          show _ ++ [(p, d'.nf, whatB S1 o.1)] = _
          rw [hd'.2]
        · rcases List.mem_append.1 hx with hx | hx
          · exact hl2 x hx
          · obtain rfl := List.mem_singleton.1 hx
            exact hd'.1)
    · rename_i hnq
      refine J_rndExit rfl fun w H => ?_
      have H := Ow.mkPu (p := (((pre ++ [(p, o)]).length : Int) = n)) (hsh H xZ) (by rw [List.length_append]; simp only [List.length_cons, List.length_nil]; omega)
      simp only [ixT, tkE, hsn2]
      exact H.sel xZ
    · rename_i hnq
      refine J_fact (φ := (pre.length : Int) < n) (fun w H => H.pu (p := (pre.length : Int) < n) xA) ?_
      intro hpn
      refine J_rnd fun w H => ?_
      have H := Ow.mkPu (p := (((pre ++ [(p, o)]).length : Int) < n)) (hsh H xZ) (by rw [List.length_append]; simp only [List.length_cons, List.length_nil]; omega)
      rw [hsn2]
      exact H.sel xZ
  · intro D xs hxs
    simp only [List.cons_append, List.nil_append]
    refine J_fact (φ := (xs.length : Int) < n) (fun w H => H.pu (p := (xs.length : Int) < n) xA) ?_
    intro hpn
    refine J_open (fun w H => accOpen H xA) ?_
    rintro ⟨⟨ad, cc, l⟩, hl1, hl2⟩
    dsimp only at hl1 hl2
    simp only [List.cons_append, List.nil_append]
    (repeat' (first | (refine gL ?_; first | refine yL0 ?_ | refine yL ?_ | (refine yM ?_; intro _) | (refine yA ?_; intro _ _ _ _)) | (refine gD ?_; first | (refine yN ?_; try simp only [cAp, nAp]) | refine yD ?_) | refine yJ ?_ | refine zd31Vw6 ?_ | (refine yI ?_ ?_ <;> intro _ <;> try exact xX) | (refine yK ?_ ?_ <;> intro hgb <;> first | subst hgb | fail_if_success have : type_of% hgb := rfl) | fail))
    exact J_ret1M (Ds := [D]) (dec_enc [D]) rfl (by rfl) fun w H => ⟨_, ⟨xs, .inl ⟨hxs, hpn⟩, ad, cc, l, ⟨hl1, hl2⟩, rfl, rfl⟩, H.sel (M := [dfr D, pts vb (vwC (sA sp) tb (dueI (tkF σ xs).E) (wntI (tkF σ xs).E)) 98, T.trA tb (tkF σ xs).E, stoA sp (tkF σ xs).S (tkF σ xs).c, Ar 85 16 chC (.slice ad l.length cc) l, has (fun w => ∀ x ∈ l, AtV w x.d)]) xZ⟩
  · intro D c xs hxs
    have no : ∀ {R R2 : List HP} {k : List It} {tm : TM}, R = [pu False] → J Tryz.prog 50 W K (fpost Tryz.prog Tryz.f31 W K (TakeR vb sp tb σ n)) k tm (dfr D :: (R ++ R2)) := fun e => by
      subst e
      exact J_fact (φ := False) (fun w H => H.pu (p := False) (by simp only [List.cons_append, List.nil_append]; (first | ((with_reducible (repeat (first | exact Tk.here | apply Tk.there))); done) | ((simp only [List.cons_append, List.nil_append]); (with_reducible (repeat (first | exact Tk.here | apply Tk.there))); done) | fail))) (fun h => h.elim)
    cases c with
    | exit id =>
      by_cases hid : id = 0
      · subst hid
        simp only [ixT, List.cons_append, List.nil_append]
        refine J_fact (φ := (xs.length : Int) = n) (fun w H => H.pu (p := (xs.length : Int) = n) xA) ?_
        intro hpn
        refine J_open (fun w H => accOpen H xA) ?_
        rintro ⟨⟨ad, cc, l⟩, hl1, hl2⟩
        dsimp only at hl1 hl2
        simp only [List.cons_append, List.nil_append]
        (repeat' (first | (refine gL ?_; first | refine yL0 ?_ | refine yL ?_ | (refine yM ?_; intro _) | (refine yA ?_; intro _ _ _ _)) | (refine gD ?_; first | (refine yN ?_; try simp only [cAp, nAp]) | refine yD ?_) | refine yJ ?_ | refine zd31Vw6 ?_ | (refine yI ?_ ?_ <;> intro _ <;> try exact xX) | (refine yK ?_ ?_ <;> intro hgb <;> first | subst hgb | fail_if_success have : type_of% hgb := rfl) | fail))
        exact J_ret1M (Ds := [D]) (dec_enc [D]) rfl (by rfl) fun w H => ⟨_, ⟨xs, .inr ⟨hxs, hpn⟩, ad, cc, l, ⟨hl1, hl2⟩, rfl, rfl⟩, H.sel (M := [dfr D, pts vb (vwC (sA sp) tb (dueI (tkF σ xs).E) (wntI (tkF σ xs).E)) 98, T.trA tb (tkF σ xs).E, stoA sp (tkF σ xs).S (tkF σ xs).c, Ar 85 16 chC (.slice ad l.length cc) l, has (fun w => ∀ x ∈ l, AtV w x.d)]) xZ⟩
      · exact no (by unfold ixT; split <;> first | rfl | (rename_i e; cases e; exact absurd rfl hid))
    | _ => exact no rfl
end Go.Proofs.YtdnokmpnemaoaaaGreat
