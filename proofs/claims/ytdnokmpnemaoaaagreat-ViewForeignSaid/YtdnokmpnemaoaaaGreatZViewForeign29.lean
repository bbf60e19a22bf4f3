/-
  Vw6, Sized, Law: merged.
-/
import Derived.Test.YtdnokmpnemaoaaaGreatZViewForeign28
import Derived.HandedShaped
import Derived.SizedLaws
namespace Go.Proofs.YtdnokmpnemaoaaaGreat
set_option linter.unusedSimpArgs false
set_option linter.unusedVariables false
set_option maxRecDepth 20000
set_option maxHeartbeats 4000000
open Go.RowKit Go.Pm

structure Vs where
  E : List T.Ent
  S : List En
  c : Int
noncomputable def tkStep (σ : Vs) (e : T.Ent) : Vs :=
  ⟨T.setE σ.E e.1 (e.2.1, (agF (frF σ.S e.2.2.1) σ.c e.2.1).2, false), (agF (frF σ.S e.2.2.1) σ.c e.2.1).1.1, (agF (frF σ.S e.2.2.1) σ.c e.2.1).1.2⟩
noncomputable def tkF (σ : Vs) (pre : List T.Ent) : Vs := pre.foldl tkStep σ
noncomputable def tkE (σ : Vs) (pre : List T.Ent) : List T.Ent := (tkF σ pre).E
theorem tkF_snoc (σ : Vs) (pre : List T.Ent) (x : T.Ent) : tkF σ (pre ++ [x]) = tkStep (tkF σ pre) x := by unfold tkF; rw [List.foldl_append]; rfl
theorem tkF_len : ∀ {pre : List T.Ent} {σ : Vs}, T.Srt σ.E → (tkF σ pre).E.length ≤ σ.E.length + pre.length
  | [], _, _ => by simp [tkF]
  | x :: pre, σ, h => by
    have h1 := tkF_len (pre := pre) (σ := tkStep σ x) (srt_set h)
    have h2 : (tkStep σ x).E.length ≤ σ.E.length + 1 := T.set_len h
    show (tkF (tkStep σ x) pre).E.length ≤ _
    simp only [List.length_cons]
    omega
theorem getX_n {B : Int} {S : List En} {c id : Int} (h : StOk B S c) : NfN (getX S id) := by
  unfold getX
  rcases hf : fnd S id with _ | e
  · exact At.nfN zAt_f.num
  · obtain ⟨A, C, rfl, _, _⟩ := fnd_some hf
    exact (h.ok e (by simp)).2
theorem keepF_id {B : Int} {S : List En} {c : Int} {x : Nf} (h : StOk B S c) : 0 ≤ (keepF S c x).2.1 ∧ (keepF S c x).2.1 ≤ B + 1 := by
  have hc := h.cnt
  unfold keepF
  split
  · dsimp only; omega
  · split
    · rename_i e hf
      obtain ⟨A, C, rfl, _, _⟩ := fndX_some hf
      have := h.ids e (by simp)
      dsimp only; omega
    · split <;> (dsimp only; omega)
theorem agF_ok {B : Int} {S : List En} {c id : Int} (h : StOk B S c) (hB : 0 ≤ B) : StOk (B + 1) (agF S c id).1.1 (agF S c id).1.2 ∧ 0 ≤ (agF S c id).2 ∧ (agF S c id).2 ≤ B + 1 := by
  unfold agF
  split
  · exact ⟨h.mono (by omega), by dsimp only; omega⟩
  · exact ⟨keepF_ok h hB (getX_n h), keepF_id h⟩
theorem tkStep_ok {B : Int} {σ : Vs} {x : T.Ent} (h : StOk B σ.S σ.c) (hB : 0 ≤ B) : StOk (B + 1) (tkStep σ x).S (tkStep σ x).c := (agF_ok (frF_ok h) hB).1
theorem tkF_ok : ∀ {pre : List T.Ent} {B : Int} {σ : Vs}, StOk B σ.S σ.c → 0 ≤ B → StOk (B + pre.length) (tkF σ pre).S (tkF σ pre).c
  | [], B, σ, h, _ => by
    have : B + (([] : List T.Ent).length : Int) = B := by simp
    rw [this]; exact h
  | x :: pre, B, σ, h, hB => by
    have h1 := tkF_ok (pre := pre) (tkStep_ok (x := x) h hB) (by omega)
    have : B + ((x :: pre).length : Int) = B + 1 + (pre.length : Int) := by simp; omega
    rw [this]
    exact h1
structure Ch where
  p : T.Pf
  d : At
  told : Bool
def chC (x : Ch) : List Value := [.int .u32 x.p.1, .int .i64 x.p.2, .int .i64 x.d.origin, .slice x.d.pa x.d.path.length x.d.pc, .int .u32 x.d.next, .bool x.d.hasMed, .int .u32 x.d.med, .bool x.d.hasLocal, .int .u32 x.d.loc, .bool x.d.atomic, .bool x.d.hasMaker, .int .u32 x.d.makerAS, .int .u32 x.d.maker, .slice x.d.ca x.d.comms.length x.d.cc, .slice x.d.oa x.d.others.length x.d.oc, .bool x.told]
def chN (x : Ch) : T.Pf × Nf × Bool := (x.p, x.d.nf, x.told)
noncomputable def chL : Vs → List T.Ent → List (T.Pf × Nf × Bool)
  | _, [] => []
  | σ, e :: r => (e.1, whatX σ.S e.2.1, whatB σ.S e.2.1) :: chL (tkStep σ e) r
theorem chL_snoc (x : T.Ent) : ∀ (pre : List T.Ent) (σ : Vs), chL σ (pre ++ [x]) = chL σ pre ++ [(x.1, whatX (tkF σ pre).S x.2.1, whatB (tkF σ pre).S x.2.1)]
  | [], σ => rfl
  | y :: pre, σ => by
    simp only [List.cons_append, chL]
    rw [chL_snoc x pre]
    rfl
theorem chL_len : ∀ (pre : List T.Ent) (σ : Vs), (chL σ pre).length = pre.length
  | [], _ => rfl
  | y :: pre, σ => by simp only [chL, List.length_cons, chL_len pre]
structure Cx where
  ad : Option Addr
  c : Nat
  l : List Ch
abbrev accCL (g : Nat) (y : Cx) : List HP := [pts g [.slice y.ad y.l.length y.c] 82, Ar 85 16 chC (.slice y.ad y.l.length y.c) y.l, has (fun w => ∀ x ∈ y.l, AtV w x.d)]
def accC (g : Nat) (L : List (T.Pf × Nf × Bool)) : HP := fun h => ∃ y : Cx, (y.l.map chN = L ∧ ∀ x ∈ y.l, AtF x.d) ∧ sats (accCL g y) h
theorem accOpen {W : World} {K : Hl} {L R : List HP} {w : World} {g : Nat} {M : List (T.Pf × Nf × Bool)} (H : Ow W K L w) (t : Tk L (accC g M) R) : ∃ y : {y : Cx // y.l.map chN = M ∧ ∀ x ∈ y.l, AtF x.d}, Ow W K (accCL g y.1 ++ R) w :=
  H.open t (Bs := fun y : {y : Cx // y.l.map chN = M ∧ ∀ x ∈ y.l, AtF x.d} => accCL g y.1) (fun _ ⟨y, h1, h2⟩ => ⟨⟨y, h1⟩, h2⟩)
theorem accShut {W : World} {K : Hl} {L R : List HP} {w : World} {g : Nat} {M : List (T.Pf × Nf × Bool)} {ad : Option Addr} {c n : Nat} {l : List Ch} (hn : l.length = n) (hl : l.map chN = M) (hf : ∀ x ∈ l, AtF x.d) (H : Ow W K L w) (t : Sb L [pts g [.slice ad n c] 82, Ar 85 16 chC (.slice ad n c) l, has (fun w => ∀ x ∈ l, AtV w x.d)] R) : Ow W K (accC g M :: R) w := by
  subst hn
  exact H.shut t (fun k hk => ⟨⟨ad, c, l⟩, ⟨hl, hf⟩, hk⟩)
def TakeOk (σ : Vs) (n : Int) (pre : List T.Ent) : Prop := (pre = thoseL (tkE σ) lateE (T.keysE σ.E) [] ∧ (pre.length : Int) < n) ∨ ((∃ k, pre = thoseL (tkE σ) lateE ((T.keysE σ.E).take k) []) ∧ (pre.length : Int) = n)
def TakeR (vb sp tb : Nat) (σ : Vs) (n : Int) (u : Value) (L' : List HP) : Prop := ∃ pre, TakeOk σ n pre ∧ ∃ (a : Option Addr) (cc : Nat) (l : List Ch), (l.map chN = chL σ pre ∧ ∀ x ∈ l, AtF x.d) ∧ u = .slice a l.length cc ∧ L' = [pts vb (vwC (sA sp) tb (dueI (tkF σ pre).E) (wntI (tkF σ pre).E)) 98, T.trA tb (tkF σ pre).E, stoA sp (tkF σ pre).S (tkF σ pre).c, Ar 85 16 chC (.slice a l.length cc) l, has (fun w => ∀ x ∈ l, AtV w x.d)]
def ixT (vb sp tb : Nat) (σ : Vs) (n : Int) (bl bv bn : Nat) : Code → List T.Ent → List HP
  | .exit 0, pre => [pu ((pre.length : Int) = n), pts vb (vwC (sA sp) tb (dueI (tkE σ pre)) (wntI (tkE σ pre))) 98, T.trA tb (tkE σ pre), stoA sp (tkF σ pre).S (tkF σ pre).c, accC bl (chL σ pre), pts bv [.pointer (some ⟨vb, 0, none⟩)] 53, pts bn [.int .i64 n] 3]
  | _, _ => [pu False]
theorem vtake_s (B : Int) (hB0 : 0 ≤ B) (hB : B ≤ 1000000) (vb sp tb : Nat) (σ : Vs) (n : Int) (hn1 : 1 ≤ n) (hs : StOk B σ.S σ.c) (hn : σ.E.length ≤ 1000) : Pact Tryz.prog 31 #[.pointer (some ⟨vb, 0, none⟩), .int .i64 n] (fun _ => True) (vsL vb sp tb σ.E σ.S σ.c) (TakeR vb sp tb σ n) := by
  refine pact Tryz.func31 rfl Tryz.ntmps31 rfl ?_
  intro W K _
  refine J_fact (φ := T.EOk σ.E) (fun w H => T.trOk H xA) ?_
  intro hE
  (repeat' (first | ((with_reducible apply gL); (first | refine yL0 ?_ | refine yL ?_ | ((with_reducible apply gL_go); (first | (refine JL_goq (those_s (some ⟨vb, 0, none⟩) 70) (hφ := xF) (h := ?_); rintro _ _ ⟨g, h, rfl, rfl⟩; try simp only [List.cons_append, List.nil_append]) | fail)) | (refine yM ?_; intro _) | (refine yA ?_; intro _ _ _ _) | fail)) | ((with_reducible apply gD); (first | (refine JD_nil ?_; try simp only [List.cons_append, List.nil_append]) | (refine JD_bar ?_; try simp only [List.cons_append, List.nil_append]) | refine yD ?_ | ((with_reducible apply gD_go); (first | (refine JD_goq (those_s (some ⟨vb, 0, none⟩) 70) (hφ := xF) (h := ?_); rintro _ _ ⟨g, h, rfl, rfl⟩; try simp only [List.cons_append, List.nil_append]) | fail)) | fail)) | refine yJ ?_ | ((with_reducible apply gJ_if); (first | (refine J_if xR ?_ ?_ <;> intro _ <;> (try (exfalso; first | contradiction | omega))) | (refine J_ifb xR ?_ ?_ <;> (intro hgb; subst hgb)) | (refine J_ifb xR ?_ ?_ <;> intro _) | fail)) | refine J_draw (id := 10) [0, 1, 2, 3, 4, 5, 6, 7, 8] [9] mixed xC xD xD ?_ | fail))
  rename_i bv bn bl hnn
  refine J_heap (L' := [pu ((([] : List T.Ent).length : Int) < n), pts vb (vwC (sA sp) tb (dueI (tkE σ [])) (wntI (tkE σ []))) 98, T.trA tb (tkE σ []), stoA sp (tkF σ []).S (tkF σ []).c, accC bl (chL σ []), pts bv [.pointer (some ⟨vb, 0, none⟩)] 53, pts bn [.int .i64 n] 3, pts g [.pointer (some ⟨vb, 0, none⟩)] 53, pts h [.func (.func 70) #[] #[]] 113]) (fun w H => ?_) ?_
  · have H := Ow.hasTrue (φ := fun w => ∀ x ∈ ([] : List Ch), AtV w x.d) (Ow.arNil (e := 85) (sz := 16) (enc := chC) H) (by intro _ _ h; exact absurd h List.not_mem_nil)
    have H := Ow.mkPu (p := ((([] : List T.Ent).length : Int) < n)) (accShut (g := bl) (M := chL σ []) (l := []) rfl rfl (fun _ h => absurd h List.not_mem_nil) H xZ) (by simp; omega)
    exact H.sel xZ
  refine J_rangeQ (first := []) (lb := [.pointer (some ⟨g, 0, none⟩), .pointer (some ⟨h, 0, none⟩)]) (those1_it vb (sA sp) tb g h (tkE σ) lateE 70 (by decide +kernel) late_s hE (by show σ.E.length ≤ 4096; omega)) rfl rfl rfl (by decide +kernel) rfl (fun _ => rfl)
    (fun pre => [pts vb (vwC (sA sp) tb (dueI (tkE σ pre)) (wntI (tkE σ pre))) 98, T.trA tb (tkE σ pre), pu ((pre.length : Int) < n), stoA sp (tkF σ pre).S (tkF σ pre).c, accC bl (chL σ pre), pts bv [.pointer (some ⟨vb, 0, none⟩)] 53, pts bn [.int .i64 n] 3]) (ixT vb sp tb σ n bl bv bn) (fun A B => qv_of vb (sA sp) tb (tkE σ) (fun pre => [pu ((pre.length : Int) < n), stoA sp (tkF σ pre).S (tkF σ pre).c, accC bl (chL σ pre), pts bv [.pointer (some ⟨vb, 0, none⟩)] 53, pts bn [.int .i64 n] 3]) A B) xZ (fun w hr => ⟨hr.cell xA rfl, hr.cell xA rfl⟩) ?_ ?_ ?_
  · rintro W3 K3 l3 pre ⟨p, o⟩ hle hG
    have hk := key_of hE hG.mem
    have hlp : pre.length ≤ σ.E.length := hG.len
    have hl : (tkE σ pre).length ≤ σ.E.length + pre.length := tkF_len hE.s
    have hst : StOk (B + pre.length) (tkF σ pre).S (tkF σ pre).c := tkF_ok hs hB0
    obtain ⟨_, _, _, hov, _⟩ := hG
    have hsn := tkF_snoc σ pre (p, o)
    have hcn := chL_snoc (p, o) pre σ
    have hcl := chL_len pre σ
    obtain ⟨CL, hCL⟩ : ∃ CL, chL σ pre = CL := ⟨_, rfl⟩
    rw [hCL] at hcn hcl
    unfold tkE at hl
    obtain ⟨τ, hτ⟩ : ∃ τ, tkF σ pre = τ := ⟨_, rfl⟩
    rw [hτ] at hst hl hsn hcn
    obtain ⟨E1, S1, c1⟩ := τ
    dsimp only at hst hl hcn
    obtain ⟨S2, hS2⟩ : ∃ S2, frF S1 o.2.1 = S2 := ⟨_, rfl⟩
    have hst2 : StOk (B + pre.length) S2 c1 := by rw [← hS2]; exact frF_ok hst
    have hag := agF_ok (id := o.1) hst2 (by omega)
    obtain ⟨⟨⟨S3, c3⟩, id⟩, ha⟩ : ∃ x, agF S2 c1 o.1 = x := ⟨_, rfl⟩
    rw [ha] at hag
    dsimp only at hag
    have hsn2 : tkF σ (pre ++ [(p, o)]) = ⟨T.setE E1 p (o.1, id, false), S3, c3⟩ := by
      rw [hsn]; unfold tkStep; dsimp only; rw [hS2, ha]
    simp only [parTM, enc2]
    unfold tkE
    simp only [hτ, hCL]
    (repeat' (first | ((with_reducible apply gL); (first | refine yL0 ?_ | refine yL ?_ | (refine yM ?_; intro _) | (refine yA ?_; intro _ _ _ _) | fail)) | ((with_reducible apply gD); (first | (refine JD_nil ?_; try simp only [List.cons_append, List.nil_append]) | (refine JD_bar ?_; try simp only [List.cons_append, List.nil_append]) | refine yD ?_ | fail)) | refine yJ ?_ | ((with_reducible apply gJ_if); (first | (refine J_if xR ?_ ?_ <;> intro _ <;> (try (exfalso; first | contradiction | omega))) | (refine J_ifb xR ?_ ?_ <;> (intro hgb; subst hgb)) | (refine J_ifb xR ?_ ?_ <;> intro _) | fail)) | refine J_draw (id := 10) [0, 1, 2, 3, 4, 5, 6, 7, 8] [9] mixed xC xD xD ?_ | fail))
    refine J_body ?_
    intro K4 hle4 hrec
    refine J_fact (φ := T.EOk E1) (fun w H => T.trOk H xA) ?_
    intro hE2
    have hvo : T.VN o := by
      have : o = T.oldV E1 p := by
        have h1 : o = T.oldV (tkE σ pre) p := hov
        unfold tkE at h1
        rw [hτ] at h1
        exact h1
      rw [this]
      unfold T.oldV
      cases hg : T.getL E1 p with
      | none => exact zV_n
      | some x => exact (hE2.e (p, x) ((T.getL_mem hE2.s).1 hg)).2.2
    have hvi : T.VN (o.1, id, false) := ⟨hvo.1, by show T.I64 id; unfold T.I64; omega⟩
    refine J_open (fun w H => accOpen H xA) ?_
    rintro ⟨⟨ad, cc, l⟩, hl1, hl2⟩
    dsimp only at hl1 hl2
    simp only [List.cons_append, List.nil_append]
    have hll : l.length = pre.length := by rw [← hcl, ← hl1, List.length_map]
    have kw := what_v vb sp tb (dueI E1) (wntI E1) S1 c1 o.1
    have kf := free_w (B + pre.length) (by omega) vb sp tb E1 S1 S2 c1 o.2.1 hst hS2
    have ka := again_v (B + pre.length) (by omega) (by omega) vb sp tb (dueI E1) (wntI E1) S2 c1 o.1 hst2
    rw [ha] at ka
    dsimp only at ka
    have ks := set_s vb (sA sp) tb E1 p (o.1, id, false) hE2 hk.2 hk.1 hvi (by omega)
    (repeat' (first | ((with_reducible apply gL); (first | refine yL0 ?_ | ((with_reducible apply gL_c_append); (first | (refine JL_ap1 (z := Ch.mk p d' (whatB S1 o.1)) (tabE etab_ok xR) xR xR xA xA xC xR xL xR (by omega) xR xR ?_; intro ad2 c2 _ _) | fail)) | refine yL ?_ | ((with_reducible apply gL_go); (first | (refine JL_goq (kw) (hφ := xF) (h := ?_); rintro _ _ ⟨d', hd', rfl, rfl⟩; try simp only [List.cons_append, List.nil_append]) | (refine JL_goq (kf) (hφ := xF) (h := ?_); rintro _ _ rfl; try simp only [List.cons_append, List.nil_append]) | (refine JL_goq (ka) (hφ := xF) (h := ?_); rintro _ _ ⟨rfl, rfl⟩; try simp only [List.cons_append, List.nil_append]) | (refine JL_goq (ks) (hφ := xF) (h := ?_); rintro _ _ rfl; try simp only [List.cons_append, List.nil_append]) | fail)) | (refine yM ?_; intro _) | (refine yA ?_; intro _ _ _ _) | fail)) | ((with_reducible apply gD); (first | (refine JD_nil ?_; try simp only [List.cons_append, List.nil_append]) | (refine JD_bar ?_; try simp only [List.cons_append, List.nil_append]) | refine yD ?_ | ((with_reducible apply gD_go); (first | (refine JD_goq (kw) (hφ := xF) (h := ?_); rintro _ _ ⟨d', hd', rfl, rfl⟩; try simp only [List.cons_append, List.nil_append]) | (refine JD_goq (kf) (hφ := xF) (h := ?_); rintro _ _ rfl; try simp only [List.cons_append, List.nil_append]) | (refine JD_goq (ka) (hφ := xF) (h := ?_); rintro _ _ ⟨rfl, rfl⟩; try simp only [List.cons_append, List.nil_append]) | (refine JD_goq (ks) (hφ := xF) (h := ?_); rintro _ _ rfl; try simp only [List.cons_append, List.nil_append]) | fail)) | fail)) | refine yJ ?_ | ((with_reducible apply gJ_if); (first | (refine J_if xR ?_ ?_ <;> intro _ <;> (try (exfalso; first | contradiction | omega))) | (refine J_ifb xR ?_ ?_ <;> (intro hgb; subst hgb)) | (refine J_ifb xR ?_ ?_ <;> intro _) | fail)) | refine J_draw (id := 10) [0, 1, 2, 3, 4, 5, 6, 7, 8] [9] mixed xC xD xD ?_ | fail))
    all_goals (
      have hsh : ∀ {L R : List HP} {w : World}, Ow W3 K4 L w → Sb L [pts bl [.slice ad2 (l.length + 1) c2] 82, Ar 85 16 chC (.slice ad2 (l.length + 1) c2) (l ++ [Ch.mk p d' (whatB S1 o.1)]), has (fun w => ∀ x ∈ l, AtV w x.d), has (fun w => AtV w d')] R → Ow W3 K4 (accC bl (chL σ (pre ++ [(p, o)])) :: R) w := fun H t => by
        have H := H.sb t
        have H := Ow.has (M := [has (fun w => ∀ x ∈ l, AtV w x.d), has (fun w => AtV w d')]) (φ := fun w => ∀ x ∈ l ++ [Ch.mk p d' (whatB S1 o.1)], AtV w x.d) H xZ (fun w hr x hx => by
          rcases List.mem_append.1 hx with hx | hx
          · exact hr.has .here x hx
          · obtain rfl := List.mem_singleton.1 hx
            exact hr.has (.there .here))
        refine accShut (n := l.length + 1) (l := l ++ [Ch.mk p d' (whatB S1 o.1)]) (by rw [List.length_append]; rfl) ?_ (fun x hx => ?_) H xZ
        · rw [hcn, List.map_append, hl1]
          show _ ++ [(p, d'.nf, whatB S1 o.1)] = _
          rw [hd'.2]
        · rcases List.mem_append.1 hx with hx | hx
          · exact hl2 x hx
          · obtain rfl := List.mem_singleton.1 hx
            exact hd'.1)
    · rename_i hnq
      refine J_rndExit rfl fun w H => ?_
      have H := Ow.mkPu (p := (((pre ++ [(p, o)]).length : Int) = n)) (hsh H xZ) (by rw [List.length_append]; simp only [List.length_cons, List.length_nil]; omega)
      simp only [ixT, tkE, hsn2]
      exact H.sel xZ
    · rename_i hnq
      refine J_fact (φ := (pre.length : Int) < n) (fun w H => H.pu (p := (pre.length : Int) < n) xA) ?_
      intro hpn
      refine J_rnd fun w H => ?_
      have H := Ow.mkPu (p := (((pre ++ [(p, o)]).length : Int) < n)) (hsh H xZ) (by rw [List.length_append]; simp only [List.length_cons, List.length_nil]; omega)
      rw [hsn2]
      exact H.sel xZ
  · intro D xs hxs
    simp only [List.cons_append, List.nil_append]
    refine J_fact (φ := (xs.length : Int) < n) (fun w H => H.pu (p := (xs.length : Int) < n) xA) ?_
    intro hpn
    refine J_open (fun w H => accOpen H xA) ?_
    rintro ⟨⟨ad, cc, l⟩, hl1, hl2⟩
    dsimp only at hl1 hl2
    simp only [List.cons_append, List.nil_append]
    (repeat' (first | ((with_reducible apply gL); (first | refine yL0 ?_ | refine yL ?_ | (refine yM ?_; intro _) | (refine yA ?_; intro _ _ _ _) | fail)) | ((with_reducible apply gD); (first | (refine JD_nil ?_; try simp only [List.cons_append, List.nil_append]) | (refine JD_bar ?_; try simp only [List.cons_append, List.nil_append]) | refine yD ?_ | fail)) | refine yJ ?_ | ((with_reducible apply gJ_if); (first | (refine J_if xR ?_ ?_ <;> intro _ <;> (try (exfalso; first | contradiction | omega))) | (refine J_ifb xR ?_ ?_ <;> (intro hgb; subst hgb)) | (refine J_ifb xR ?_ ?_ <;> intro _) | fail)) | refine J_draw (id := 10) [0, 1, 2, 3, 4, 5, 6, 7, 8] [9] mixed xC xD xD ?_ | fail))
    exact J_ret1M (Ds := [D]) (dec_enc [D]) rfl (by rfl) fun w H => ⟨_, ⟨xs, .inl ⟨hxs, hpn⟩, ad, cc, l, ⟨hl1, hl2⟩, rfl, rfl⟩, H.sel (M := [dfr D, pts vb (vwC (sA sp) tb (dueI (tkF σ xs).E) (wntI (tkF σ xs).E)) 98, T.trA tb (tkF σ xs).E, stoA sp (tkF σ xs).S (tkF σ xs).c, Ar 85 16 chC (.slice ad l.length cc) l, has (fun w => ∀ x ∈ l, AtV w x.d)]) xZ⟩
  · intro D c xs hxs
    have no : ∀ {R R2 : List HP} {k : List It} {tm : TM}, R = [pu False] → J Tryz.prog 50 W K (fpost Tryz.prog Tryz.f31 W K (TakeR vb sp tb σ n)) k tm (dfr D :: (R ++ R2)) := fun e => by
      subst e
      exact J_fact (φ := False) (fun w H => H.pu (p := False) (by simp only [List.cons_append, List.nil_append]; (first | ((with_reducible (repeat (first | exact Tk.here | apply Tk.there))); done) | ((simp only [List.cons_append, List.nil_append]); (with_reducible (repeat (first | exact Tk.here | apply Tk.there))); done) | fail))) (fun h => h.elim)
    cases c with
    | exit id =>
      by_cases hid : id = 0
      · subst hid
        simp only [ixT, List.cons_append, List.nil_append]
        refine J_fact (φ := (xs.length : Int) = n) (fun w H => H.pu (p := (xs.length : Int) = n) xA) ?_
        intro hpn
        refine J_open (fun w H => accOpen H xA) ?_
        rintro ⟨⟨ad, cc, l⟩, hl1, hl2⟩
        dsimp only at hl1 hl2
        simp only [List.cons_append, List.nil_append]
        (repeat' (first | ((with_reducible apply gL); (first | refine yL0 ?_ | refine yL ?_ | (refine yM ?_; intro _) | (refine yA ?_; intro _ _ _ _) | fail)) | ((with_reducible apply gD); (first | (refine JD_nil ?_; try simp only [List.cons_append, List.nil_append]) | (refine JD_bar ?_; try simp only [List.cons_append, List.nil_append]) | refine yD ?_ | fail)) | refine yJ ?_ | ((with_reducible apply gJ_if); (first | (refine J_if xR ?_ ?_ <;> intro _ <;> (try (exfalso; first | contradiction | omega))) | (refine J_ifb xR ?_ ?_ <;> (intro hgb; subst hgb)) | (refine J_ifb xR ?_ ?_ <;> intro _) | fail)) | refine J_draw (id := 10) [0, 1, 2, 3, 4, 5, 6, 7, 8] [9] mixed xC xD xD ?_ | fail))
        exact J_ret1M (Ds := [D]) (dec_enc [D]) rfl (by rfl) fun w H => ⟨_, ⟨xs, .inr ⟨hxs, hpn⟩, ad, cc, l, ⟨hl1, hl2⟩, rfl, rfl⟩, H.sel (M := [dfr D, pts vb (vwC (sA sp) tb (dueI (tkF σ xs).E) (wntI (tkF σ xs).E)) 98, T.trA tb (tkF σ xs).E, stoA sp (tkF σ xs).S (tkF σ xs).c, Ar 85 16 chC (.slice ad l.length cc) l, has (fun w => ∀ x ∈ l, AtV w x.d)]) xZ⟩
      · exact no (by unfold ixT; split <;> first | rfl | (rename_i e; cases e; exact absurd rfl hid))
    | _ => exact no rfl
end Go.Proofs.YtdnokmpnemaoaaaGreat
namespace Go.Pm
set_option linter.unusedSimpArgs false
set_option linter.unusedVariables false
open Go.RowKit

def Rs (P : Program) (w : World) : Nat → TypeId → List Value → Prop
  | 0, _, _ => False
  | n + 1, t, cs => match P.underlying t with
    | some .bool => ∃ b, cs = [.bool b]
    | some (.int k) => ∃ m, cs = [.int k m] ∧ (Lit.int k m).wf = true
    | some .string => ∃ s : ByteArray, cs = [.string s] ∧ s.size ≤ reachBytes
    | some (.slice e) => cs = [.slice none 0 0] ∨ ∃ (a : Addr) (len cap : Nat), cs = [.slice (some a) len cap] ∧ len ≤ cap ∧ cap ≤ maxLen ∧ cap * P.bytesOf e ≤ reachBytes ∧
        ∀ i, i < cap → ∃ ds : List Value, ds.length = P.cellsOf e ∧ (∀ j, j < ds.length → w.cell? (a.add (i * P.cellsOf e + j)) = ds[j]?) ∧ Rs P w n e ds
    | some (.struct fs) => cs.length = P.cellsOf t ∧ ∀ f, f ∈ fs.toList → Rs P w n f.type ((cs.drop f.offset).take (P.cellsOf f.type))
    | some (.array m e) => cs.length = P.cellsOf t ∧ ∀ i, i < m → Rs P w n e ((cs.drop (i * P.cellsOf e)).take (P.cellsOf e))
    | _ => True

theorem weightsAll_mem {H : Type} {P : Program} {e : TypeId} {ds : List (DataW H)} {d : DataW H} (h : d ∈ ds) {m : Nat} (hm : m ∈ d.weights P e) : m ∈ DataW.weightsAll P e ds := by
  induction ds with
  | nil => cases h
  | cons x r ih =>
    unfold DataW.weightsAll
    rcases List.mem_cons.1 h with rfl | h
    · exact List.mem_append_left _ hm
    · exact List.mem_append_right _ (ih h)
theorem weightsEach_mem {H : Type} {P : Program} : ∀ {ts : List TypeId} {ds : List (DataW H)} {i : Nat} {t : TypeId} {d : DataW H}, ts[i]? = some t → ds[i]? = some d → ∀ {m : Nat}, m ∈ d.weights P t → m ∈ DataW.weightsEach P ts ds
  | [], _, _, _, _, h, _, _, _ => by simp at h
  | _ :: _, [], _, _, _, _, h, _, _ => by simp at h
  | t :: ts, d :: ds, 0, _, _, h1, h2, m, hm => by
    simp only [List.getElem?_cons_zero, Option.some.injEq] at h1 h2
    subst h1 h2
    unfold DataW.weightsEach
    exact List.mem_append_left _ hm
  | t :: ts, d :: ds, i + 1, _, _, h1, h2, m, hm => by
    unfold DataW.weightsEach
    exact List.mem_append_right _ (weightsEach_mem (by simpa using h1) (by simpa using h2) hm)

theorem Rs.ofTrod {H : Type} {enc : TypeId × Value → H} {P : Program} {w : World} {base : Nat} {held : Bool} : ∀ (n : Nat) (t : TypeId) (cs : List Value) (x : DataW H × List MemPlace),
    DataW.trod enc P w base (fun _ => true) held n t cs = some x → (∀ m ∈ x.1.weights P t, m ≤ reachBytes) → Rs P w n t cs := by
  intro n
  induction n with
  | zero => intro t cs x h; simp [DataW.trod] at h
  | succ n ih =>
    intro t cs x h hz
    unfold Rs
    split
    · rename_i hu
      obtain ⟨b, rfl, _⟩ := DataW.trod_bool hu h
      exact ⟨b, rfl⟩
    · rename_i k hu
      obtain ⟨m, rfl, _, hw⟩ := DataW.trod_int hu h
      exact ⟨m, rfl, hw⟩
    · rename_i hu
      obtain ⟨s, rfl, rfl, hw⟩ := DataW.trod_string hu h
      exact ⟨s, rfl, by have := hz s.data.toList.length (by simp [DataW.weights]); simpa using this⟩
    · rename_i e hu
      rcases DataW.trod_slice hu h with ⟨h1, _⟩ | ⟨a, len, cap, elems, rest, m, hm, hcs, hx, _, hl, hcm, hel, he, hr, _⟩
      · exact .inl h1
      · obtain rfl : m = n := by omega
        obtain ⟨hrl, hr⟩ := hr rfl
        subst hx
        have hwe : DataW.weights P t (.slice (elems.map (·.1)) (rest.map (·.1)) : DataW H) = ((elems.map (·.1)).length + (rest.map (·.1)).length) * P.bytesOf e :: (DataW.weightsAll P e (elems.map (·.1)) ++ DataW.weightsAll P e (rest.map (·.1))) := by
          rw [DataW.weights, hu]
        have hz' : ∀ m ∈ DataW.weights P t (.slice (elems.map (·.1)) (rest.map (·.1)) : DataW H), m ≤ reachBytes := hz
        rw [hwe] at hz'
        refine .inr ⟨a, len, cap, hcs, hl, hcm, ?_, fun i hi => ?_⟩
        · have := hz' _ (List.mem_cons_self ..)
          simp only [List.length_map] at this
          rwa [show elems.length + rest.length = cap by omega] at this
        · have key : ∃ y, (w.cells? base (a.add (i * P.cellsOf e)) (P.cellsOf e)).bind (DataW.trod enc P w base (fun _ => true) held m e) = some y ∧ (∀ k ∈ y.1.weights P e, k ≤ reachBytes) := by
            by_cases hil : i < len
            · rw [he i hil, List.getElem?_eq_getElem (by omega)]
              exact ⟨_, rfl, fun k hk => hz' k (List.mem_cons_of_mem _ (List.mem_append_left _ (weightsAll_mem (List.mem_map_of_mem (List.getElem_mem _)) hk)))⟩
            · have h4 := hr (i - len) (by omega)
              rw [show len + (i - len) = i by omega, List.getElem?_eq_getElem (by omega)] at h4
              exact ⟨_, h4, fun k hk => hz' k (List.mem_cons_of_mem _ (List.mem_append_right _ (weightsAll_mem (List.mem_map_of_mem (List.getElem_mem _)) hk)))⟩
          obtain ⟨y, hy, hyz⟩ := key
          cases hc : w.cells? base (a.add (i * P.cellsOf e)) (P.cellsOf e) with
          | none => simp [hc] at hy
          | some ds =>
            simp only [hc, Option.bind_some] at hy
            obtain ⟨_, hlen, hcell⟩ := World.cells?_some hc
            refine ⟨ds, hlen, fun j hj => ?_, ih _ _ _ hy hyz⟩
            rw [← hcell j (by omega), addr_add_add]
    · rename_i fs hu
      obtain ⟨xs, m, hm, hx, hl, hxl, hf⟩ := DataW.trod_struct hu h
      obtain rfl : m = n := by omega
      subst hx
      have hz' : ∀ m ∈ DataW.weightsEach P (fs.toList.map (·.type)) (xs.map (·.1)), m ≤ reachBytes := fun k hk => hz k (by show k ∈ DataW.weights P t (.agg (xs.map (·.1)) : DataW H); rw [DataW.weights, hu]; exact hk)
      refine ⟨hl, fun f hfm => ?_⟩
      obtain ⟨i, hi⟩ := List.getElem?_of_mem hfm
      have hi' : fs[i]? = some f := by simpa using hi
      have h3 := hf i f hi'
      have hil : i < xs.length := by
        have := (List.getElem?_eq_some_iff.1 hi).1
        simp at this
        omega
      rw [List.getElem?_eq_getElem hil] at h3
      exact ih _ _ _ h3 fun k hk => hz' k (weightsEach_mem (i := i) (t := f.type) (by simp [hi]) (d := xs[i].1) (by simp [List.getElem?_eq_getElem hil]) hk)
    · rename_i m e hu
      obtain ⟨xs, m', hm, hx, hl, hxl, hf⟩ := DataW.trod_array hu h
      obtain rfl : m' = n := by omega
      subst hx
      have hz' : ∀ m ∈ DataW.weightsAll P e (xs.map (·.1)), m ≤ reachBytes := fun k hk => hz k (by show k ∈ DataW.weights P t (.agg (xs.map (·.1)) : DataW H); rw [DataW.weights, hu]; exact hk)
      refine ⟨hl, fun i hi => ?_⟩
      have h3 := hf i hi
      rw [List.getElem?_eq_getElem (by omega)] at h3
      exact ih _ _ _ h3 fun k hk => hz' k (weightsAll_mem (List.mem_map_of_mem (List.getElem_mem _)) hk)
    · trivial

theorem Rs.ofTrod' {H : Type} {enc : TypeId × Value → H} {P : Program} {w : World} {base : Nat} {held : Bool} {t : TypeId} {v : Value} {d : DataW H} {ps : List MemPlace}
    (h : DataW.Trod enc P w base (fun _ => true) held t v d ps) (hz : ∀ m ∈ d.weights P t, m ≤ reachBytes) : ∃ n, Rs P w n t v.cells.toList := by
  obtain ⟨n, h⟩ := h
  exact ⟨n, Rs.ofTrod n _ _ _ h hz⟩

theorem Rs.rd {P : Program} {w : World} : ∀ (n : Nat) (t : TypeId) (cs : List Value), Rs P w n t cs → Rd P w n t cs := by
  intro n
  induction n with
  | zero => intro t cs h; exact h
  | succ n ih =>
    intro t cs h
    unfold Rs at h
    unfold Rd
    split
    · rename_i hu; simpa only [hu] using h
    · rename_i k hu; simpa only [hu] using h
    · rename_i hu
      simp only [hu] at h
      obtain ⟨s, hs, hl⟩ := h
      exact ⟨s, hs, by unfold reachBytes at hl; unfold maxLen; omega⟩
    · rename_i e hu
      simp only [hu] at h
      rcases h with h | ⟨a, len, cap, hcs, hl, hm, _, he⟩
      · exact .inl h
      · exact .inr ⟨a, len, cap, hcs, hl, hm, fun i hi => by
          obtain ⟨ds, h1, h2, h3⟩ := he i hi
          exact ⟨ds, h1, h2, ih _ _ h3⟩⟩
    · rename_i fs hu
      simp only [hu] at h
      exact ⟨h.1, fun f hf => ih _ _ (h.2 f hf)⟩
    · rename_i m e hu
      simp only [hu] at h
      exact ⟨h.1, fun i hi => ih _ _ (h.2 i hi)⟩
    · trivial

theorem Rs.slice {P : Program} {w : World} {n : Nat} {t e : TypeId} {cs : List Value} (h : Rs P w n t cs) (hu : P.underlying t = some (.slice e)) :
    cs = [.slice none 0 0] ∨ ∃ (a : Addr) (len cap m : Nat), cs = [.slice (some a) len cap] ∧ len ≤ cap ∧ cap ≤ maxLen ∧ cap * P.bytesOf e ≤ reachBytes ∧
        ∀ i, i < cap → ∃ ds : List Value, ds.length = P.cellsOf e ∧ (∀ j, j < ds.length → w.cell? (a.add (i * P.cellsOf e + j)) = ds[j]?) ∧ Rs P w m e ds := by
  cases n with
  | zero => exact h.elim
  | succ n =>
    unfold Rs at h
    simp only [hu] at h
    rcases h with h | ⟨a, len, cap, h1, h2, h3, h4, h5⟩
    · exact .inl h
    · exact .inr ⟨a, len, cap, n, h1, h2, h3, h4, h5⟩

theorem Rs.elems {P : Program} {w : World} {n : Nat} {t e : TypeId} {a : Option Addr} {len cap sz : Nat} (h : Rs P w n t [.slice a len cap]) (hu : P.underlying t = some (.slice e)) (hc : P.cellsOf e = sz) :
    len ≤ cap ∧ cap ≤ maxLen ∧ cap * P.bytesOf e ≤ reachBytes ∧ ∃ (m : Nat) (ds : List (List Value)), ds.length = len ∧ Vw w (.slice a len cap) sz len ds.flatten ∧ ∀ d ∈ ds, d.length = sz ∧ Rs P w m e d := by
  rcases h.slice hu with h | ⟨x, l, c, m, h1, h2, h3, h4, h5⟩
  · cases h
    exact ⟨Nat.le_refl _, by simp [maxLen], by simp, 0, [], rfl, by simpa using Vw.nil w sz, by simp⟩
  · cases h1
    refine ⟨h2, h3, h4, m, ?_⟩
    obtain ⟨f, hf⟩ := choose_lt (n := len) (p := fun i (d : List Value) => d.length = sz ∧ (∀ j, j < sz → w.cell? (x.add (i * sz + j)) = d[j]?) ∧ Rs P w m e d) (by
      intro i hi
      obtain ⟨d, h6, h7, h8⟩ := h5 i (by omega)
      rw [hc] at h6 h7
      exact ⟨d, h6, fun j hj => h7 j (by omega), h8⟩)
    have hfl : ∀ k, k ≤ len → ((List.range k).map f).flatten.length = k * sz := by
      intro k
      induction k with
      | zero => intro _; simp
      | succ k ih => intro hk; rw [List.range_succ, List.map_append, List.flatten_append, List.length_append, ih (by omega)]; simp [(hf k (by omega)).1, Nat.succ_mul]
    refine ⟨(List.range len).map f, by simp, ⟨_, _, rfl, hfl len (Nat.le_refl _), h2, h3, (fun h => by cases h), fun hne => ?_⟩, ?_⟩
    · have hcell : ∀ k, k ≤ len → ∀ j u, ((List.range k).map f).flatten[j]? = some u → w.cell? (x.add j) = some u := by
        intro k
        induction k with
        | zero => intro _ j u hu; simp at hu
        | succ k ih =>
          intro hk j u hu
          rw [List.range_succ, List.map_append, List.flatten_append, List.getElem?_append] at hu
          split at hu
          · exact ih (by omega) j u hu
          · rename_i hj
            rw [hfl k (by omega)] at hu hj
            simp only [List.map_cons, List.map_nil, List.flatten_cons, List.flatten_nil, List.append_nil] at hu
            have hjl : j - k * sz < sz := by
              have := (List.getElem?_eq_some_iff.1 hu).1
              rw [(hf k (by omega)).1] at this
              exact this
            have := (hf k (by omega)).2.1 (j - k * sz) hjl
            rw [show k * sz + (j - k * sz) = j by omega] at this
            rw [this]
            exact hu
      have h0 : ∃ u, ((List.range len).map f).flatten[0]? = some u := by
        cases hq : ((List.range len).map f).flatten with
        | nil => exact (hne hq).elim
        | cons u r => exact ⟨u, rfl⟩
      obtain ⟨u0, hu0⟩ := h0
      have hc0 := hcell len (Nat.le_refl _) 0 u0 hu0
      obtain ⟨b, off, spot⟩ := x
      have hspot : spot = Option.none := by simpa [Addr.add] using World.cell?_spot hc0
      subst hspot
      exact ⟨b, off, rfl, fun j u hu => by have := hcell len (Nat.le_refl _) j u hu; rwa [addr_add_plain] at this⟩
    · intro d hd
      obtain ⟨i, hi, rfl⟩ := List.mem_map.1 hd
      have hi' : i < len := by simpa using hi
      exact ⟨(hf i hi').1, (hf i hi').2.2⟩

theorem Rs.only {P : Program} {w w' : World} (ho : Only [] w w') : ∀ (n : Nat) (t : TypeId) (cs : List Value), Rs P w n t cs → Rs P w' n t cs := by
  intro n
  induction n with
  | zero => intro t cs h; exact h
  | succ n ih =>
    intro t cs h
    unfold Rs at h ⊢
    split
    · rename_i hu; simpa only [hu] using h
    · rename_i k hu; simpa only [hu] using h
    · rename_i hu; simpa only [hu] using h
    · rename_i e hu
      simp only [hu] at h
      rcases h with h | ⟨a, len, cap, hcs, hl, hm, hz, he⟩
      · exact .inl h
      · refine .inr ⟨a, len, cap, hcs, hl, hm, hz, fun i hi => ?_⟩
        obtain ⟨ds, h1, h2, h3⟩ := he i hi
        refine ⟨ds, h1, fun j hj => ?_, ih _ _ h3⟩
        have h4 := h2 j hj
        have hlt : (a.add (i * P.cellsOf e + j)).block < w.heap.size := by
          rw [List.getElem?_eq_getElem hj] at h4
          exact World.block_lt_of_cell? w _ h4
        rw [World.cell?_of_block (w := w) (ho.block _ hlt (by simp))]
        exact h4
    · rename_i fs hu
      simp only [hu] at h
      exact ⟨h.1, fun f hf => ih _ _ (h.2 f hf)⟩
    · rename_i m e hu
      simp only [hu] at h
      exact ⟨h.1, fun i hi => ih _ _ (h.2 i hi)⟩
    · trivial
theorem Rs.struct {P : Program} {w : World} {n : Nat} {t : TypeId} {cs : List Value} {fs : Array Field} (h : Rs P w n t cs) (hu : P.underlying t = some (.struct fs)) :
    cs.length = P.cellsOf t ∧ ∃ m, ∀ f, f ∈ fs.toList → Rs P w m f.type ((cs.drop f.offset).take (P.cellsOf f.type)) := by
  cases n with
  | zero => exact h.elim
  | succ n => unfold Rs at h; simp only [hu] at h; exact ⟨h.1, n, h.2⟩
theorem Rs.field {P : Program} {w : World} {n : Nat} {t : TypeId} {cs : List Value} {fs : Array Field} (h : Rs P w n t cs) (hu : P.underlying t = some (.struct fs)) (i : Nat) (t' : TypeId) (off sz : Nat)
    (h1 : (fs[i]?).map (fun f => (f.type, f.offset)) = some (t', off)) (h2 : P.cellsOf t' = sz) : ∃ m, Rs P w m t' ((cs.drop off).take sz) := by
  obtain ⟨_, m, hf⟩ := h.struct hu
  cases hi : fs[i]? with
  | none => simp [hi] at h1
  | some f =>
    simp only [hi, Option.map_some, Option.some.injEq, Prod.mk.injEq] at h1
    obtain ⟨rfl, rfl⟩ := h1
    subst h2
    exact ⟨m, hf f (List.mem_of_getElem? (i := i) (by simpa using hi))⟩
end Go.Pm
namespace Go.Pm
set_option linter.unusedSimpArgs false
set_option linter.unusedVariables false
open Go.RowKit

theorem Pact.law {P : Program} {f : FuncId} {args : Array Value} {φ : World → Prop} {W : World} (S : Pact P f args φ [] (fun v L => v = .bool true ∧ L = [])) (h : Kn (World.all W) φ) :
    Calls P f args W fun e w' => e = .returned (.bool true) ∧ Only [] W w' :=
  (S W (World.all W) W h (Ow.start W)).mono fun e w' ⟨v, L', ⟨hv, hl⟩, he, H⟩ => by
    subst hv
    exact ⟨he, H.fin⟩

theorem cell?_heap {w w' : World} (h : w'.heap = w.heap) (a : Addr) : w'.cell? a = w.cell? a := by
  have : w' = { w' with heap := w.heap } := by rw [← h]
  unfold World.cell?
  rw [h]
theorem Rs.heap {P : Program} {w w' : World} (hh : w'.heap = w.heap) : ∀ (n : Nat) (t : TypeId) (cs : List Value), Rs P w n t cs → Rs P w' n t cs := by
  intro n
  induction n with
  | zero => intro t cs h; exact h
  | succ n ih =>
    intro t cs h
    unfold Rs at h ⊢
    split
    · rename_i hu; simpa only [hu] using h
    · rename_i k hu; simpa only [hu] using h
    · rename_i hu; simpa only [hu] using h
    · rename_i e hu
      simp only [hu] at h
      rcases h with h | ⟨a, len, cap, hcs, hl, hm, hz, he⟩
      · exact .inl h
      · refine .inr ⟨a, len, cap, hcs, hl, hm, hz, fun i hi => ?_⟩
        obtain ⟨ds, h1, h2, h3⟩ := he i hi
        exact ⟨ds, h1, fun j hj => by rw [cell?_heap hh]; exact h2 j hj, ih _ _ h3⟩
    · rename_i fs hu
      simp only [hu] at h
      exact ⟨h.1, fun f hf => ih _ _ (h.2 f hf)⟩
    · rename_i m e hu
      simp only [hu] at h
      exact ⟨h.1, fun i hi => ih _ _ (h.2 i hi)⟩
    · trivial
theorem Rs.kn {P : Program} {W : World} {n : Nat} {t : TypeId} {cs : List Value} (h : Rs P W n t cs) : Kn (World.all W) (fun w => Rs P w n t cs) :=
  Kn.all (fun _ ho => Rs.only ho n t cs h) fun _ _ hh hr => Rs.heap hh n t cs hr
theorem Rs.of_weights {H : Type} {enc : TypeId × Value → H} {P : Program} {w : World} {base : Nat} {held : Bool} {ts : List TypeId} {ds : List (DataW H)} (hz : (DataW.weightsEach P ts ds).all (· ≤ reachBytes) = true) (i : Nat) {t : TypeId} {d : DataW H} (h1 : ts[i]? = some t) (h2 : ds[i]? = some d)
    {v : Value} {ps : List MemPlace} (h : DataW.Trod enc P w base (fun _ => true) held t v d ps) : ∃ n, Rs P w n t v.cells.toList :=
  Rs.ofTrod' h fun m hm => by
    have := List.all_eq_true.1 hz m (weightsEach_mem h1 h2 hm)
    simpa using this

/-! The cells of a struct, one by one. -/
def flatF (P : Program) (r : TypeId → Option (List TypeId)) : List Field → Nat → Option (List TypeId)
  | [], _ => some []
  | f :: fs, o => if f.offset = o then match r f.type, flatF P r fs (o + P.cellsOf f.type) with
      | some a, some b => if a.length = P.cellsOf f.type then some (a ++ b) else none
      | _, _ => none
    else none
def flatT (P : Program) : Nat → TypeId → Option (List TypeId)
  | 0, _ => none
  | n + 1, t => match P.underlying t with
    | some (.struct fs) => match flatF P (flatT P n) fs.toList 0 with
      | some a => if a.length = P.cellsOf t then some a else none
      | none => none
    | some (.array m e) => match flatT P n e with
      | some a => if a.length = P.cellsOf e ∧ m * P.cellsOf e = P.cellsOf t then some (List.replicate m a).flatten else none
      | none => none
    | some .bool => some [t]
    | some (.int _) => some [t]
    | some .string => some [t]
    | some (.slice _) => some [t]
    | _ => none
def Leaf (P : Program) (w : World) : List TypeId → List Value → Prop
  | [], cs => cs = []
  | t :: ts, cs => ∃ c r, cs = c :: r ∧ (∃ m, Rs P w m t [c]) ∧ Leaf P w ts r
theorem Leaf.append {P : Program} {w : World} : ∀ {ts us : List TypeId} {cs ds : List Value}, Leaf P w ts cs → Leaf P w us ds → Leaf P w (ts ++ us) (cs ++ ds)
  | [], _, _, _, h, k => by cases h; exact k
  | _ :: _, _, _, _, ⟨c, r, e, h1, h2⟩, k => by subst e; exact ⟨c, _, rfl, h1, Leaf.append h2 k⟩
theorem Leaf.len {P : Program} {w : World} : ∀ {ts : List TypeId} {cs : List Value}, Leaf P w ts cs → cs.length = ts.length
  | [], _, h => by cases h; rfl
  | _ :: _, _, ⟨c, r, e, _, h2⟩ => by subst e; simp [Leaf.len h2]
theorem leaf_fields {P : Program} {w : World} {r : TypeId → Option (List TypeId)} (hr : ∀ t ts m cs, r t = some ts → Rs P w m t cs → Leaf P w ts cs) : ∀ (fs : List Field) (o : Nat) (ts : List TypeId) (m : Nat) (all : List Value),
    flatF P r fs o = some ts → (∀ f ∈ fs, Rs P w m f.type ((all.drop f.offset).take (P.cellsOf f.type))) → Leaf P w ts ((all.drop o).take ts.length)
  | [], _, ts, _, _, h, _ => by
    simp only [flatF, Option.some.injEq] at h
    subst h
    simp [Leaf]
  | f :: fs, o, ts, m, all, h, hf => by
    simp only [flatF] at h
    split at h
    · rename_i ho
      split at h
      · rename_i a b ha hb
        split at h
        · rename_i hl
          cases h
          have h1 := hr _ _ _ _ ha (hf f (List.mem_cons_self ..))
          have h2 := leaf_fields hr fs _ b m all hb fun g hg => hf g (List.mem_cons_of_mem _ hg)
          rw [ho] at h1
          have := h1.append h2
          rw [List.length_append, List.take_add, List.drop_drop]
          rw [hl]
          exact this
        · cases h
      · cases h
    · cases h
theorem leaf_of {P : Program} {w : World} : ∀ (k : Nat) (t : TypeId) (ts : List TypeId) (m : Nat) (cs : List Value), flatT P k t = some ts → Rs P w m t cs → Leaf P w ts cs := by
  intro k
  induction k with
  | zero => intro t ts m cs h; simp [flatT] at h
  | succ k ih =>
    intro t ts m cs h hr
    have one : ∀ c, cs = [c] → ts = [t] → Leaf P w ts cs := fun c e e2 => by subst e e2; exact ⟨c, [], rfl, ⟨m, hr⟩, rfl⟩
    simp only [flatT] at h
    split at h
    · rename_i fs hu
      split at h
      · rename_i a ha
        split at h
        · rename_i hal
          cases h
          obtain ⟨hl, m', hf⟩ := hr.struct hu
          have h1 := leaf_fields (w := w) (fun t ts m cs => ih t ts m cs) fs.toList 0 _ m' cs ha hf
          rw [List.drop_zero, List.take_of_length_le (by omega)] at h1
          exact h1
        · cases h
      · cases h
    · rename_i x e hu
      split at h
      · rename_i a ha
        split at h
        · rename_i hal
          cases h
          obtain ⟨hal, htl⟩ := hal
          cases m with
          | zero => exact hr.elim
          | succ m =>
            unfold Rs at hr
            simp only [hu] at hr
            obtain ⟨hl, hf⟩ := hr
            have key : ∀ y, y ≤ x → Leaf P w (List.replicate y a).flatten (cs.take (y * P.cellsOf e)) := by
              intro y
              induction y with
              | zero => intro _; simp [Leaf]
              | succ y ihy =>
                intro hy
                have h1 := (ihy (by omega)).append (ih _ _ _ _ ha (hf y (by omega)))
                rw [Nat.succ_mul, List.take_add, List.replicate_succ', List.flatten_append]
                simpa using h1
            have := key x (Nat.le_refl _)
            rw [List.take_of_length_le (by omega)] at this
            exact this
        · cases h
      · cases h
    · rename_i hu
      cases h
      cases m with
      | zero => exact hr.elim
      | succ m => have hr' := hr; unfold Rs at hr'; simp only [hu] at hr'; obtain ⟨b, e⟩ := hr'; exact one _ e rfl
    · rename_i hu
      cases h
      cases m with
      | zero => exact hr.elim
      | succ m => have hr' := hr; unfold Rs at hr'; simp only [hu] at hr'; obtain ⟨b, e, _⟩ := hr'; exact one _ e rfl
    · rename_i hu
      cases h
      cases m with
      | zero => exact hr.elim
      | succ m => have hr' := hr; unfold Rs at hr'; simp only [hu] at hr'; obtain ⟨b, e, _⟩ := hr'; exact one _ e rfl
    · rename_i hu
      cases h
      cases m with
      | zero => exact hr.elim
      | succ m => have hr' := hr; unfold Rs at hr'; simp only [hu] at hr'; rcases hr' with e | ⟨a, l, c, e, _⟩ <;> exact one _ e rfl
    · cases h

theorem Leaf.one {P : Program} {w : World} {t : TypeId} {ts : List TypeId} {cs : List Value} (h : Leaf P w (t :: ts) cs) : ∃ c r, cs = c :: r ∧ (∃ m, Rs P w m t [c]) ∧ Leaf P w ts r := h
theorem Leaf.nil' {P : Program} {w : World} {cs : List Value} (h : Leaf P w [] cs) : cs = [] := h
theorem Leaf.int {P : Program} {w : World} {t : TypeId} {ts : List TypeId} {cs : List Value} {k : IntKind} (h : Leaf P w (t :: ts) cs) (hu : P.underlying t = some (.int k)) : ∃ z r, cs = .int k z :: r ∧ (Lit.int k z).wf = true ∧ Leaf P w ts r := by
  obtain ⟨c, r, rfl, ⟨m, h1⟩, h2⟩ := h
  obtain ⟨z, e, h3⟩ := (Rs.rd _ _ _ h1).int hu
  cases e
  exact ⟨z, r, rfl, h3, h2⟩
theorem Leaf.i64 {P : Program} {w : World} {t : TypeId} {ts : List TypeId} {cs : List Value} (h : Leaf P w (t :: ts) cs) (hu : P.underlying t = some (.int .i64)) : ∃ z r, cs = .int .i64 z :: r ∧ (-9223372036854775808 ≤ z ∧ z ≤ 9223372036854775807) ∧ Leaf P w ts r := by
  obtain ⟨z, r, e, h1, h2⟩ := h.int hu
  exact ⟨z, r, e, bounds_i64 h1, h2⟩
theorem Leaf.u32 {P : Program} {w : World} {t : TypeId} {ts : List TypeId} {cs : List Value} (h : Leaf P w (t :: ts) cs) (hu : P.underlying t = some (.int .u32)) : ∃ z r, cs = .int .u32 z :: r ∧ (0 ≤ z ∧ z ≤ 4294967295) ∧ Leaf P w ts r := by
  obtain ⟨z, r, e, h1, h2⟩ := h.int hu
  exact ⟨z, r, e, bounds_u32 h1, h2⟩
theorem Leaf.u8 {P : Program} {w : World} {t : TypeId} {ts : List TypeId} {cs : List Value} (h : Leaf P w (t :: ts) cs) (hu : P.underlying t = some (.int .u8)) : ∃ z r, cs = .int .u8 z :: r ∧ (0 ≤ z ∧ z ≤ 255) ∧ Leaf P w ts r := by
  obtain ⟨z, r, e, h1, h2⟩ := h.int hu
  exact ⟨z, r, e, bounds_u8 h1, h2⟩
theorem Leaf.bool {P : Program} {w : World} {t : TypeId} {ts : List TypeId} {cs : List Value} (h : Leaf P w (t :: ts) cs) (hu : P.underlying t = some .bool) : ∃ z r, cs = .bool z :: r ∧ Leaf P w ts r := by
  obtain ⟨c, r, rfl, ⟨m, h1⟩, h2⟩ := h
  obtain ⟨z, e⟩ := (Rs.rd _ _ _ h1).bool hu
  cases e
  exact ⟨z, r, rfl, h2⟩
theorem Leaf.sl {P : Program} {w : World} {t e : TypeId} {ts : List TypeId} {cs : List Value} (h : Leaf P w (t :: ts) cs) (hu : P.underlying t = some (.slice e)) : ∃ a l c r, cs = .slice a l c :: r ∧ (∃ m, Rs P w m t [.slice a l c]) ∧ Leaf P w ts r := by
  obtain ⟨v, r, rfl, ⟨m, h1⟩, h2⟩ := h
  rcases h1.slice hu with e | ⟨a, l, c, _, e, _⟩
  · cases e
    exact ⟨none, 0, 0, r, rfl, ⟨m, h1⟩, h2⟩
  · cases e
    exact ⟨some a, l, c, r, rfl, ⟨m, h1⟩, h2⟩
theorem Rs.list {P : Program} {w : World} {n : Nat} {t e : TypeId} {a : Option Addr} {l c sz b : Nat} {α : Type} {enc : α → List Value} {ok : α → Prop} (h : Rs P w n t [.slice a l c]) (hu : P.underlying t = some (.slice e)) (hc : P.cellsOf e = sz) (hb : P.bytesOf e = b)
    (hx : ∀ m d, d.length = sz → Rs P w m e d → ∃ x, d = enc x ∧ ok x) :
    ∃ es : List α, es.length = l ∧ l ≤ c ∧ c ≤ maxLen ∧ c * b ≤ reachBytes ∧ Vw w (.slice a es.length c) sz es.length (flat enc es) ∧ ∀ x ∈ es, ok x := by
  obtain ⟨h1, h2, h3, m, ds, h4, h5, h6⟩ := h.elems hu hc
  subst hb
  have : ∃ es : List α, ds = es.map enc ∧ ∀ x ∈ es, ok x := by
    clear h4 h5
    induction ds with
    | nil => exact ⟨[], rfl, by simp⟩
    | cons d ds ih =>
      obtain ⟨es, e1, e2⟩ := ih fun d hd => h6 d (List.mem_cons_of_mem _ hd)
      obtain ⟨hl, hr⟩ := h6 d (List.mem_cons_self ..)
      obtain ⟨x, e3, e4⟩ := hx m d hl hr
      exact ⟨x :: es, by simp [e1, e3], fun y hy => by
        rcases List.mem_cons.1 hy with rfl | hy
        · exact e4
        · exact e2 y hy⟩
  obtain ⟨es, e1, e2⟩ := this
  subst e1
  have hel : es.length = l := by simpa using h4
  subst hel
  exact ⟨es, rfl, h1, h2, h3, by simpa [flat, List.flatMap] using h5, e2⟩
/-! What came in is known of any later world. -/
theorem vwKeep {w w' : World} (hc : ∀ b o u, w.cell? ⟨b, o, none⟩ = some u → w'.cell? ⟨b, o, none⟩ = some u) {v : Value} {sz n : Nat} {xs : List Value} (h : Vw w v sz n xs) : Vw w' v sz n xs := by
  obtain ⟨a, cap, rfl, h1, h2, h3, h4, h5⟩ := h
  refine ⟨a, cap, rfl, h1, h2, h3, h4, fun hne => ?_⟩
  obtain ⟨b, off, h6, h7⟩ := h5 hne
  exact ⟨b, off, h6, fun j u hu => hc _ _ _ (h7 j u hu)⟩
end Go.Pm
