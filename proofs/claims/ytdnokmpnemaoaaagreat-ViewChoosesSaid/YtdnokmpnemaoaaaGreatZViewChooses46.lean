/-
  Vd5: merged.
-/
import Derived.Test.YtdnokmpnemaoaaaGreatZViewChooses45
namespace Go.Proofs.YtdnokmpnemaoaaaGreat
set_option linter.unusedSimpArgs false
set_option linter.unusedVariables false
set_option maxRecDepth 20000
set_option maxHeartbeats 4000000
open Go.RowKit Go.Pm
theorem zd9Vd5 {p q : Prop} (k : p) (h : p → q := by intro hk; first | exact J_draw (id := 5) [0, 1, 2, 3, 4, 5, 6, 7, 8, 9, 10, 11, 12, 13, 14, 15, 16, 17, 18, 19, 20, 21, 22, 23, 24, 25, 26, 27] [28, 29] mixed xC xD xD hk | fail) : q := h k
theorem zd8Vd5 {p q : Prop} (k : p) (h : p → q := by intro hk; first | exact J_draw (id := 19) [0, 1, 2, 3, 4, 5] [6] mixed xC xD xD hk | fail) : q := h k

structure Qpl where
  k : Nat
  ad : Option Addr
  cc : Nat
theorem plain_s (a : Option Addr) (c : Nat) (ds : List B.Cd) (hl : ds.length ≤ 10) : Pact Tryz.prog 9 #[.slice a ds.length c] (fun w => Vw w (.slice a ds.length c) 17 ds.length (flat B.cdC ds)) [] (fun v L' => ∃ a' c', v = .slice a' ds.length c' ∧ L' = [Ar 72 17 B.cdC (.slice a' ds.length c') ds]) := by
  refine pact Tryz.func9 rfl Tryz.ntmps9 rfl ?_
  intro W K hK
  (repeat' (first | (refine gL ?_; first | refine yL0 ?_ | refine yL ?_ | (refine yM ?_; intro _)) | (refine gD ?_; first | (refine yN ?_; try simp only [cAp, nAp]) | refine yD ?_ | (refine yE ?_; intro _) | (refine yB ?_; intro _ _ _ _)) | refine yJ ?_ | refine zd9Vd5 ?_ | (refine yI ?_ ?_ <;> intro _ <;> try exact xX) | (refine yK ?_ ?_ <;> intro hgb <;> first | subst hgb | fail_if_success have : type_of% hgb := rfl) | fail))
  rename_i b0
  refine J_loop (α := Qpl) ⟨0, some ⟨b0, 0, none⟩, 0⟩ (fun x => ds.length - x.k) (fun x => x.k ≤ ds.length) (fun x => [(0, .slice a ds.length c), (3, .slice x.ad (ds.take x.k).length x.cc), (4, .int .i64 x.k)])
    (fun x => [Ar 72 17 B.cdC (.slice x.ad (ds.take x.k).length x.cc) (ds.take x.k)]) (Nat.zero_le _) ⟨rfl, rfl, rfl, trivial⟩ (fun w H => (H.arLit0 .here).sel xZ) ?_
  rintro ⟨k, ad, cc⟩ hk
  dsimp only at hk ⊢
  have htl : (ds.take k).length ≤ 10 := by rw [List.length_take]; omega
  by_cases hlt : k < ds.length
  · obtain ⟨x, hs⟩ : ∃ x, ds[k]? = some x := ⟨_, List.getElem?_eq_getElem hlt⟩
    have htk := take_snoc hs
    have hll : (ds.take (k + 1)).length = (ds.take k).length + 1 := by rw [htk, List.length_append]; rfl
    (repeat' (first | (refine gL ?_; first | refine yL0 ?_ | refine yL ?_ | (refine yM ?_; intro _)) | (refine gD ?_; first | (refine yN ?_; try simp only [cAp, nAp]) | (refine gD_c_append ?_; (refine JD_ap1 (z := x) (tabE etab_ok xR) xR xR xA xA xC xR xL xR (by omega) xR ?_; intro ad2 c2 _ _)) | refine yD ?_ | (refine yE ?_; intro _) | (refine yB ?_; intro _ _ _ _)) | refine yJ ?_ | refine zd9Vd5 ?_ | (refine yI ?_ ?_ <;> intro _ <;> try exact xX) | (refine yK ?_ ?_ <;> intro hgb <;> first | subst hgb | fail_if_success have : type_of% hgb := rfl) | fail))
    all_goals (first | (exfalso; omega) | skip)
    refine J_again ⟨k + 1, ad2, c2⟩ (by dsimp only; omega) hlt ⟨rfl, ?_, rfl, trivial⟩ (fun w H => ?_)
    · dsimp only
      rw [hll]
      rfl
    · dsimp only
      rw [hll, htk]
      exact H.sel xZ
  · obtain rfl : k = ds.length := by omega
    rw [List.take_length]
    (repeat' (first | (refine gL ?_; first | refine yL0 ?_ | refine yL ?_ | (refine yM ?_; intro _)) | (refine gD ?_; first | (refine yN ?_; try simp only [cAp, nAp]) | refine yD ?_ | (refine yE ?_; intro _) | (refine yB ?_; intro _ _ _ _)) | refine yJ ?_ | refine zd9Vd5 ?_ | (refine yI ?_ ?_ <;> intro _ <;> try exact xX) | (refine yK ?_ ?_ <;> intro hgb <;> first | subst hgb | fail_if_success have : type_of% hgb := rfl) | fail))
    all_goals (first | (exfalso; omega) | skip)
    exact J_ret1 rfl (by rfl) fun w H => ⟨_, ⟨ad, cc, rfl, rfl⟩, H.sel xZ⟩
abbrev rcC (pe sy : Int) (b : Bool) (oa : Option Addr) (on oc : Nat) : List Value := [.int .i64 pe, .int .u32 sy, .bool b, .slice oa on oc]
theorem has_snoc {ds xs : List B.Cd} {x : B.Cd} {W : World} {K : Hl} {L R : List HP} {w : World} {d' : At} (H : Ow W K L w) (t : Sb L [has (fun w => AtV w d'), has (cnI ds xs)] R) : Ow W K (has (cnI ds (xs ++ [⟨d', x.peer, x.as_, x.id, x.addr⟩])) :: R) w :=
  Ow.has (M := [has (fun w => AtV w d'), has (cnI ds xs)]) (φ := cnI ds (xs ++ [⟨d', x.peer, x.as_, x.id, x.addr⟩])) H t (fun w hr hds d hd => by
    rcases List.mem_append.1 hd with hd | hd
    · exact hr.has (φ := cnI ds xs) (.there .here) hds d hd
    · obtain rfl := List.mem_singleton.1 hd
      exact hr.has (φ := fun w => AtV w d') .here)
theorem has_snoc0 {ds xs : List B.Cd} {x : B.Cd} {W : World} {K : Hl} {L R : List HP} {w : World} (H : Ow W K L w) (hx : x ∈ ds) (t : Tk L (has (cnI ds xs)) R) : Ow W K (has (cnI ds (xs ++ [x])) :: R) w :=
  Ow.has (M := [has (cnI ds xs)]) (φ := cnI ds (xs ++ [x])) H (.cons t .nil) (fun w hr hds d hd => by
    rcases List.mem_append.1 hd with hd | hd
    · exact hr.has (φ := cnI ds xs) .here hds d hd
    · obtain rfl := List.mem_singleton.1 hd
      exact hds d hx)
set_option maxRecDepth 4000 in
theorem rchoose_s (pe sy : Int) (oa : Option Addr) (oc : Nat) (T : List C.Sp) (p : C.Pf) (hp : C.PfN p) (hTl : T.length ≤ 60) (hsn : ∀ s ∈ T, C.SpN s) (a : Option Addr) (c : Nat) (ds : List B.Cd) (hF : ∀ d ∈ ds, B.CdN d) (hl : ds.length ≤ 10) :
    Pact Tryz.prog 8 #[.agg (rcC pe sy (decide ((0 : Int) < T.length)) oa T.length oc).toArray, .agg (C.pfC p).toArray, .slice a ds.length c] (fun w => (Vw w (.slice a ds.length c) 17 ds.length (flat B.cdC ds) ∧ cnV ds w) ∧ Vw w (.slice oa T.length oc) 7 T.length (flat C.spC T)) [] (ChooseR (fP pe sy T p) (ds.map cnN)) := by
  refine pact Tryz.func8 rfl Tryz.ntmps8 rfl ?_
  intro W K hK
  have hv := hK.left.left
  obtain ⟨f, hfe⟩ : ∃ f, fP pe sy T p = f := ⟨_, rfl⟩
  obtain ⟨l, hle⟩ : ∃ l, ds.map cnN = l := ⟨_, rfl⟩
  have hll : l.length = ds.length := by rw [← hle, List.length_map]
  rw [hle, hfe]
  obtain ⟨b, hb⟩ : ∃ b, decide ((0 : Int) < T.length) = b := ⟨_, rfl⟩
  rw [hb]
  (repeat' (first | (refine gL ?_; first | refine yL0 ?_ | refine yL ?_ | (refine yM ?_; intro _) | (refine yA ?_; intro _ _ _ _)) | (refine gD ?_; first | (refine yN ?_; try simp only [cAp, nAp]) | refine yD ?_) | refine yJ ?_ | refine zd8Vd5 ?_ | (refine yI ?_ ?_ <;> intro _ <;> try exact xX) | (refine yK ?_ ?_ <;> intro hgb <;> first | subst hgb | fail_if_success have : type_of% hgb := rfl) | fail))
  rename_i cb pb rb lb ib
  refine J_loop (α := Qch) ⟨0, [], some ⟨lb, 0, none⟩, 0, [], some ⟨ib, 0, none⟩, 0⟩ (fun x => ds.length - x.k) (fun x => x.k ≤ ds.length ∧ x.xs.map cnN = (letF f (l.take x.k)).map Prod.fst ∧ x.is = (letF f (l.take x.k)).map (fun e => (e.2 : Int)) ∧ ∀ d ∈ x.xs, B.CdN d) (fun x => [(2, .slice a ds.length c), (3, .pointer (some ⟨cb, 0, none⟩)), (4, .pointer (some ⟨pb, 0, none⟩)), (6, .pointer (some ⟨rb, 0, none⟩)), (8, .slice x.la x.xs.length x.lc), (9, .slice x.aa x.is.length x.ac), (10, .int .i64 x.k)])
    (fun x => [pts cb (rcC pe sy b oa T.length oc) 40, pts pb (C.pfC p) 28, pts rb at00C 35, Ar 72 17 B.cdC (.slice x.la x.xs.length x.lc) x.xs, Ar 3 1 iC (.slice x.aa x.is.length x.ac) x.is, has (cnI ds x.xs)]) ⟨Nat.zero_le _, rfl, rfl, by simp⟩ ⟨rfl, rfl, rfl, rfl, rfl, rfl, rfl, trivial⟩ (fun w H => by
      have H1 := Ow.arLit0 (sz := 1) (enc := iC) H .here
      have H2 := Ow.arLit0 (sz := 17) (enc := B.cdC) H1 (.there .here)
      exact (Ow.hasTrue (φ := cnI ds []) H2 (by intro _ _ _ h; exact absurd h List.not_mem_nil)).sel xZ) ?_
  rintro ⟨k, xs, la, lc, is, aa, ac⟩ ⟨hk, hx1, hx2, hxn⟩
  dsimp only at hk hx1 hx2 hxn ⊢
  have hlf := letF_len f (l.take k)
  have hxl : xs.length = (letF f (l.take k)).length := by have := congrArg List.length hx1; simpa using this
  have hil : is.length = (letF f (l.take k)).length := by rw [hx2, List.length_map]
  rw [List.length_take] at hlf
  by_cases hlt : k < ds.length
  · obtain ⟨x, hs⟩ : ∃ x, ds[k]? = some x := ⟨_, List.getElem?_eq_getElem hlt⟩
    have hm := List.mem_of_getElem? hs
    have hs2 : l[k]? = some (cnN x) := by rw [← hle, List.getElem?_map, hs]; rfl
    have hx := hF x hm
    have kp := C.rhas_s x.pa x.pc x.path sy (by have := hx.f.path; omega) hx.f.num.path
    have no_again : f (cnN x) = none → letF f (l.take (k + 1)) = letF f (l.take k) := fun h => letF_no hs2 h
    by_cases hno : x.peer = pe ∨ C.hasN (pN x.path) sy = true
    · have e1 := letF_no hs2 (show f (cnN x) = none by rw [← hfe]; exact if_pos hno)
      rcases hh : C.hasN (pN x.path) sy with _ | _
      all_goals rw [hh] at kp
      all_goals (
        (repeat' (first | (refine gL ?_; first | refine yL0 ?_ | refine yL ?_ | (refine gL_go ?_; (refine JL_goq (kp) (hφ := (by (try simp only [cAp, nAp]); exact fun w hr => ((hK w hr.1).1.2 x hm).path)) (h := ?_); rintro _ _ ⟨rfl, rfl⟩; try simp only [cAp, nAp])) | (refine yM ?_; intro _) | (refine yA ?_; intro _ _ _ _)) | (refine gD ?_; first | (refine yN ?_; try simp only [cAp, nAp]) | refine yD ?_) | refine yJ ?_ | refine zd8Vd5 ?_ | (refine yI ?_ ?_ <;> intro _ <;> try exact xX) | (refine yK ?_ ?_ <;> intro hgb <;> first | subst hgb | fail_if_success have : type_of% hgb := rfl) | fail))
        all_goals (first | (exfalso; omega) | (exfalso; simp_all; done) | skip)
        all_goals exact J_again ⟨k + 1, xs, la, lc, is, aa, ac⟩ (by dsimp only; omega) ⟨hlt, by rw [e1]; exact hx1, by rw [e1]; exact hx2, hxn⟩ ⟨rfl, rfl, rfl, rfl, rfl, rfl, rfl, trivial⟩ (fun w H => H.sel xZ))
    have hpe : x.peer ≠ pe := fun h => hno (.inl h)
    have hh : C.hasN (pN x.path) sy = false := Bool.eq_false_iff.2 fun h => hno (.inr h)
    rw [hh] at kp
    by_cases hT : T = []
    · have e1 := letF_yes hs2 (show f (cnN x) = some x.toAt.nf by rw [← hfe]; exact (if_neg hno).trans (if_pos hT))
      obtain rfl : b = false := by rw [← hb, hT]; rfl
      (repeat' (first | (refine gL ?_; first | refine yL0 ?_ | (refine gL_c_append ?_; (first | (refine JL_ap1 (z := x) (tabE etab_ok xR) xR xR xA xA xC xR xL xR (by omega) xR xR ?_; intro ad1 c1 _ _) | (refine JL_ap1 (z := (k : Int)) (tabE etab_ok xR) xR xR xA xA xC xR xL xR (by omega) xR xR ?_; intro ad2 c2 _ _))) | refine yL ?_ | (refine gL_go ?_; (refine JL_goq (kp) (hφ := (by (try simp only [cAp, nAp]); exact fun w hr => ((hK w hr.1).1.2 x hm).path)) (h := ?_); rintro _ _ ⟨rfl, rfl⟩; try simp only [cAp, nAp])) | (refine yM ?_; intro _) | (refine yA ?_; intro _ _ _ _)) | (refine gD ?_; first | (refine yN ?_; try simp only [cAp, nAp]) | refine yD ?_) | refine yJ ?_ | refine zd8Vd5 ?_ | (refine yI ?_ ?_ <;> intro _ <;> try exact xX) | (refine yK ?_ ?_ <;> intro hgb <;> first | subst hgb | fail_if_success have : type_of% hgb := rfl) | fail))
      all_goals (first | (exfalso; omega) | skip)
      refine J_again ⟨k + 1, xs ++ [x], ad1, c1, is ++ [(k : Int)], ad2, c2⟩ (by dsimp only; omega) ⟨hlt, ?_, ?_, ?_⟩ ⟨rfl, rfl, rfl, rfl, ?_, ?_, rfl, trivial⟩ (fun w H => ?_)
      · rw [e1, List.map_append, List.map_append, hx1]
        rfl
      · rw [e1, List.map_append, hx2]
        rfl
      · intro d hd
        rcases List.mem_append.1 hd with hd | hd
        · exact hxn d hd
        · obtain rfl := List.mem_singleton.1 hd
          exact hx
      · show some _ = some _
        simp
      · show some _ = some _
        simp
      · simp only [List.length_append, List.length_cons, List.length_nil]
        exact (has_snoc0 H hm xA).sel xZ
    have hT0 : 0 < T.length := List.length_pos_iff.2 hT
    obtain rfl : b = true := by rw [← hb]; exact decide_eq_true (by omega)
    by_cases hc : C.checkE T = 0
    · have kc := C.rcheck_s oa oc T hsn (by omega)
      rw [hc] at kc
      have kq := C.qplay_s oa oc T p hp x.toAt hx.f (C.right_of_check hc) hsn hT0 (by omega)
      have hfx : f (cnN x) = (C.playW T p 0 x.toAt.nf).1 := by rw [← hfe]; exact (if_neg hno).trans ((if_neg hT).trans (if_pos hc))
      obtain ⟨r, hr⟩ : ∃ r, (C.playW T p 0 x.toAt.nf).1 = r := ⟨_, rfl⟩
      rw [hr] at kq hfx
      cases r with
      | none =>
        have e1 := letF_no hs2 hfx
        (repeat' (first | (refine gL ?_; first | refine yL0 ?_ | refine yL ?_ | (refine gL_go ?_; first | (refine JL_goq (kp) (hφ := (by (try simp only [cAp, nAp]); exact fun w hr => ((hK w hr.1).1.2 x hm).path)) (h := ?_); rintro _ _ ⟨rfl, rfl⟩; try simp only [cAp, nAp]) | (refine JL_goq (kc) (hφ := (by (try simp only [cAp, nAp]); exact fun w hr => (hK w hr.1).2)) (h := ?_); rintro _ _ ⟨rfl, rfl⟩; try simp only [cAp, nAp]) | (refine JL_goq (kq) (hφ := (by (try simp only [cAp, nAp]); exact fun w hr => ⟨(hK w hr.1).1.2 x hm, (hK w hr.1).2⟩)) (h := ?_); rintro _ _ ⟨d', n', hd', hnf, rfl, rfl⟩; try simp only [cAp, nAp])) | (refine yM ?_; intro _) | (refine yA ?_; intro _ _ _ _)) | (refine gD ?_; first | (refine yN ?_; try simp only [cAp, nAp]) | refine yD ?_) | refine yJ ?_ | refine zd8Vd5 ?_ | (refine yI ?_ ?_ <;> intro _ <;> try exact xX) | (refine yK ?_ ?_ <;> intro hgb <;> first | subst hgb | fail_if_success have : type_of% hgb := rfl) | fail))
        all_goals (first | (exfalso; omega) | skip)
        exact J_again ⟨k + 1, xs, la, lc, is, aa, ac⟩ (by dsimp only; omega) ⟨hlt, by rw [e1]; exact hx1, by rw [e1]; exact hx2, hxn⟩ ⟨rfl, rfl, rfl, rfl, rfl, rfl, rfl, trivial⟩ (fun w H => H.sel xZ)
      | some n =>
        have e1 := letF_yes hs2 hfx
        (repeat' (first | (refine gL ?_; first | refine yL0 ?_ | (refine gL_c_append ?_; (first | (refine JL_ap1 (z := (⟨d', x.peer, x.as_, x.id, x.addr⟩ : B.Cd)) (tabE etab_ok xR) xR xR xA xA xC xR xL xR (by omega) xR xR ?_; intro ad1 c1 _ _) | (refine JL_ap1 (z := (k : Int)) (tabE etab_ok xR) xR xR xA xA xC xR xL xR (by omega) xR xR ?_; intro ad2 c2 _ _))) | refine yL ?_ | (refine gL_go ?_; first | (refine JL_goq (kp) (hφ := (by (try simp only [cAp, nAp]); exact fun w hr => ((hK w hr.1).1.2 x hm).path)) (h := ?_); rintro _ _ ⟨rfl, rfl⟩; try simp only [cAp, nAp]) | (refine JL_goq (kc) (hφ := (by (try simp only [cAp, nAp]); exact fun w hr => (hK w hr.1).2)) (h := ?_); rintro _ _ ⟨rfl, rfl⟩; try simp only [cAp, nAp]) | (refine JL_goq (kq) (hφ := (by (try simp only [cAp, nAp]); exact fun w hr => ⟨(hK w hr.1).1.2 x hm, (hK w hr.1).2⟩)) (h := ?_); rintro _ _ ⟨d', n', hd', hnf, rfl, rfl⟩; try simp only [cAp, nAp])) | (refine yM ?_; intro _) | (refine yA ?_; intro _ _ _ _)) | (refine gD ?_; first | (refine yN ?_; try simp only [cAp, nAp]) | refine yD ?_) | refine yJ ?_ | refine zd8Vd5 ?_ | (refine yI ?_ ?_ <;> intro _ <;> try exact xX) | (refine yK ?_ ?_ <;> intro hgb <;> first | subst hgb | fail_if_success have : type_of% hgb := rfl) | fail))
        all_goals (first | (exfalso; omega) | skip)
        refine J_again ⟨k + 1, xs ++ [⟨d', x.peer, x.as_, x.id, x.addr⟩], ad1, c1, is ++ [(k : Int)], ad2, c2⟩ (by dsimp only; omega) ⟨hlt, ?_, ?_, ?_⟩ ⟨rfl, rfl, rfl, rfl, ?_, ?_, rfl, trivial⟩ (fun w H => ?_)
        · rw [e1, List.map_append, List.map_append, hx1]
          simp only [List.map_cons, List.map_nil, cnN, hnf n rfl]
        · rw [e1, List.map_append, hx2]
          rfl
        · intro d hd
          rcases List.mem_append.1 hd with hd | hd
          · exact hxn d hd
          · obtain rfl := List.mem_singleton.1 hd
            exact ⟨hx.peer, hx.as_, hx.id, hx.addr, hd'⟩
        · show some _ = some _
          simp
        · show some _ = some _
          simp
        · simp only [List.length_append, List.length_cons, List.length_nil]
          exact (has_snoc (x := x) (d' := d') H xZ).sel xZ
    · have kc := C.rcheck_s oa oc T hsn (by omega)
      obtain ⟨e, he⟩ : ∃ e, C.checkE T = e := ⟨_, rfl⟩
      have e1 := letF_no hs2 (show f (cnN x) = none by rw [← hfe]; exact (if_neg hno).trans ((if_neg hT).trans (if_neg hc)))
      rw [he] at kc hc
      (repeat' (first | (refine gL ?_; first | refine yL0 ?_ | refine yL ?_ | (refine gL_go ?_; first | (refine JL_goq (kp) (hφ := (by (try simp only [cAp, nAp]); exact fun w hr => ((hK w hr.1).1.2 x hm).path)) (h := ?_); rintro _ _ ⟨rfl, rfl⟩; try simp only [cAp, nAp]) | (refine JL_goq (kc) (hφ := (by (try simp only [cAp, nAp]); exact fun w hr => (hK w hr.1).2)) (h := ?_); rintro _ _ ⟨rfl, rfl⟩; try simp only [cAp, nAp])) | (refine yM ?_; intro _) | (refine yA ?_; intro _ _ _ _)) | (refine gD ?_; first | (refine yN ?_; try simp only [cAp, nAp]) | refine yD ?_) | refine yJ ?_ | refine zd8Vd5 ?_ | (refine yI ?_ ?_ <;> intro _ <;> try exact xX) | (refine yK ?_ ?_ <;> intro hgb <;> first | subst hgb | fail_if_success have : type_of% hgb := rfl) | fail))
      all_goals (first | (exfalso; omega) | skip)
      exact J_again ⟨k + 1, xs, la, lc, is, aa, ac⟩ (by dsimp only; omega) ⟨hlt, by rw [e1]; exact hx1, by rw [e1]; exact hx2, hxn⟩ ⟨rfl, rfl, rfl, rfl, rfl, rfl, rfl, trivial⟩ (fun w H => H.sel xZ)
  · obtain rfl : k = ds.length := by omega
    rw [← hll, List.take_length] at hx1 hx2 hxl hil hlf
    have kp := B.rpick_s la lc xs hxn (by omega)
    rw [pickN_cn, hx1] at kp
    have hrd : ∀ w, cnV xs w → B.candsV xs w := fun w hw o ho => (hw o ho).path
    by_cases hne : letF f l = []
    · rw [hne, List.map_nil, pickN_nil] at kp
      (repeat' (first | (refine gL ?_; first | refine yL0 ?_ | refine yL ?_ | (refine gL_go ?_; (refine JL_goq (kp) (hφ := (by (try simp only [cAp, nAp]); exact fun w hr => ⟨Src.ar xA w hr, hrd w (hr.has (φ := cnI ds xs) xA (hK w hr.1).1.2)⟩)) (h := ?_); rintro _ _ ⟨rfl, rfl⟩; try simp only [cAp, nAp])) | (refine yM ?_; intro _) | (refine yA ?_; intro _ _ _ _)) | (refine gD ?_; first | (refine yN ?_; try simp only [cAp, nAp]) | refine yD ?_) | refine yJ ?_ | refine zd8Vd5 ?_ | (refine yI ?_ ?_ <;> intro _ <;> try exact xX) | (refine yK ?_ ?_ <;> intro hgb <;> first | subst hgb | fail_if_success have : type_of% hgb := rfl) | fail))
      all_goals (first | (exfalso; omega) | skip)
      exact J_retC1 (cs := at00C) rfl (by rfl) (by rfl) xA (by rfl) fun w H => ⟨_, .inl ⟨hne, rfl, rfl⟩, (Ow.hasTrue (φ := fun w => AtV w at00) H at00_v).sel xZ⟩
    · obtain ⟨j, hj, hjl⟩ := pickN_in (l := (letF f l).map Prod.fst) (by simpa using hne)
      rw [List.length_map] at hjl
      rw [hj] at kp
      obtain ⟨e, he⟩ : ∃ e, (letF f l)[j]? = some e := ⟨_, List.getElem?_eq_getElem hjl⟩
      obtain ⟨y, i⟩ := e
      obtain ⟨z, hz⟩ : ∃ z, xs[j]? = some z := ⟨_, List.getElem?_eq_getElem (by omega)⟩
      have hzy : cnN z = y := by
        have := congrArg (·[j]?) hx1
        simpa [he, hz] using this
      have hA : is[j]? = some (i : Int) := by rw [hx2, List.getElem?_map, he]; rfl
      have hzm := List.mem_of_getElem? hz
      have hjx : j < xs.length := by omega
      have hji : j < is.length := by omega
      (repeat' (first | (refine gL ?_; first | refine yL0 ?_ | refine yL ?_ | (refine gL_go ?_; first | (refine JL_goq (kp) (hφ := (by (try simp only [cAp, nAp]); exact fun w hr => ⟨Src.ar xA w hr, hrd w (hr.has (φ := cnI ds xs) xA (hK w hr.1).1.2)⟩)) (h := ?_); rintro _ _ ⟨rfl, rfl⟩; try simp only [cAp, nAp]) | (refine JL_goq (acopy_s z.toAt (hxn z hzm).f _ _ _ rfl rfl rfl) (hφ := (by (try simp only [cAp, nAp]); exact fun w hr => hr.has (φ := cnI ds xs) xA (hK w hr.1).1.2 z hzm)) (h := ?_); rintro _ _ ⟨d', hd', hnf, rfl, rfl⟩; try simp only [cAp, nAp])) | (refine yM ?_; intro _) | (refine yA ?_; intro _ _ _ _)) | (refine gD ?_; first | (refine yN ?_; try simp only [cAp, nAp]) | refine yD ?_) | refine yJ ?_ | refine zd8Vd5 ?_ | (refine yI ?_ ?_ <;> intro _ <;> try exact xX) | (refine yK ?_ ?_ <;> intro hgb <;> first | subst hgb | fail_if_success have : type_of% hgb := rfl) | fail))
      all_goals (first | (exfalso; omega) | skip)
      refine J_retC1 (cs := [.int .i64 d'.origin, .slice d'.pa d'.path.length d'.pc, .int .u32 d'.next, .bool d'.hasMed, .int .u32 d'.med, .bool false, .int .u32 0, .bool d'.atomic, .bool d'.hasMaker, .int .u32 d'.makerAS, .int .u32 d'.maker, .slice d'.ca d'.comms.length d'.cc, .slice d'.oa d'.others.length d'.oc]) rfl (by rfl) (by rfl) xA (by rfl) fun w H => ⟨_, .inr ⟨j, i, y, d'.bare, hj, he, At.bare_f hd', by rw [At.bare_nf, hnf, ← hzy]; rfl, rfl, rfl⟩, ?_⟩
      exact (Ow.has (M := [has (fun w => AtV w d')]) (φ := fun w => AtV w d'.bare) H xZ (fun w hr => by have h := hr.has (φ := fun w => AtV w d') .here; exact ⟨h.path, h.comms, h.others⟩)).sel xZ
end Go.Proofs.YtdnokmpnemaoaaaGreat
