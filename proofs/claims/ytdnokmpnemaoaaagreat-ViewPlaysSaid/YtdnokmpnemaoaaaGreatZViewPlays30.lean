/-
  Vp6, J4, Tq2r: merged.
-/
import Derived.Test.YtdnokmpnemaoaaaGreatZViewPlays29
namespace Go.Proofs.YtdnokmpnemaoaaaGreat
set_option linter.unusedSimpArgs false
set_option linter.unusedVariables false
set_option maxRecDepth 20000
set_option maxHeartbeats 4000000
open Go.RowKit Go.Pm

open T (Pf PfN Rt Ah pfC)
def tkO (o : On) : On := if dueQ o.q = true then ⟨o.p, o.w, o.w, false, o.x, o.x⟩ else o
def chO (o : On) : Pf × Nf × Bool := (o.p, o.x.nf, o.w)
structure QxT where
  k : Nat
  ad : Option Addr
  cc : Nat
  out : List Ch
structure QtOk (L : List On) (n : Int) (x : QxT) : Prop where
  kl : x.k ≤ L.length
  v : x.out.map chN = (dueO (L.take x.k)).map chO
  m : ∀ y ∈ x.out, AtF y.d
  n : (x.out.length : Int) ≤ max n 0
theorem rvTake_s (rb : Nat) (a : Option Addr) (c : Nat) (L : List On) (n : Int) (hn : I64 n) (hL : ∀ o ∈ L, OnN o) (hl : L.length ≤ 100000) : Pact Tryz.prog 36 #[.pointer (some ⟨rb, 0, none⟩), .int .i64 n] (fun _ => True) (RvL rb a c L) (fun u L' => ∃ (k : Nat) (a2 : Option Addr) (c2 : Nat) (a3 : Option Addr) (c3 : Nat) (out : List Ch), ((k = L.length ∨ n ≤ (out.length : Int)) ∧ QtOk L n ⟨k, a3, c3, out⟩) ∧ u = .slice a3 out.length c3 ∧ L' = [Ar 145 16 chC (.slice a3 out.length c3) out, pts rb [.slice a2 (clO (mkF tkO L k)).length c2] 60, Ar 107 31 onC (.slice a2 (clO (mkF tkO L k)).length c2) (clO (mkF tkO L k)), has (fun w => (∀ o ∈ clO (mkF tkO L k), AtV w o.x ∧ AtV w o.y) ∧ ∀ y ∈ out, AtV w y.d)]) := by
  refine pact Tryz.func36 rfl Tryz.ntmps36 rfl ?_
  intro W K _
  (repeat' (first | ((with_reducible apply gL); (first | refine yL0 ?_ | refine yL ?_ | (refine yM ?_; intro _) | ((with_reducible apply gL_gd); (first | (refine JL_guard xR xR ?_ ?_ <;> intro _ <;> (try (exfalso; first | contradiction | omega))) | (refine JL_guardb xR xR ?_ ?_ <;> (intro hgb; subst hgb)) | (refine JL_guardb xR xR ?_ ?_ <;> (intro hgb; fail_if_success (have : type_of% hgb := rfl))) | fail)) | fail)) | ((with_reducible apply gD); (first | (refine JD_nil ?_; try simp only [List.cons_append, List.nil_append]) | (refine JD_bar ?_; try simp only [List.cons_append, List.nil_append]) | refine yD ?_ | (refine yE ?_; intro _) | (refine yB ?_; intro _ _ _ _) | fail)) | refine yJ ?_ | ((with_reducible apply gJ_if); (first | (refine J_if xR ?_ ?_ <;> intro _ <;> (try (exfalso; first | contradiction | omega))) | (refine J_ifb xR ?_ ?_ <;> (intro hgb; subst hgb)) | (refine J_ifb xR ?_ ?_ <;> intro _) | fail)) | refine J_draw (id := 7) [0, 1, 2, 3, 4, 6, 7, 5, 8, 9] [10, 11] mixed xC xD xD ?_ | refine J_draw (id := 8) [0, 1, 2, 3, 4, 5, 6, 7, 8, 9, 10, 11, 12, 13, 14, 15, 16, 17, 18, 19, 20, 21, 22, 23, 24] [25, 26, 27] mixed xC xD xD ?_ | fail))
  rename_i g0
  refine J_loop (α := QxT) ⟨0, some ⟨g0, 0, none⟩, 0, []⟩ (fun x => L.length - x.k) (QtOk L n) (fun x => [(0, .pointer (some ⟨rb, 0, none⟩)), (1, .int .i64 n), (5, .slice x.ad x.out.length x.cc), (6, .int .i64 x.k)]) (fun x => [pts rb [.slice a L.length c] 60, Ar 107 31 onC (.slice a L.length c) (mkF tkO L x.k), Ar 145 16 chC (.slice x.ad x.out.length x.cc) x.out, has (fun w => (∀ o ∈ L, AtV w o.x ∧ AtV w o.y) ∧ ∀ y ∈ x.out, AtV w y.d)]) ⟨Nat.zero_le _, rfl, fun _ h => absurd h List.not_mem_nil, by show (0 : Int) ≤ _; omega⟩ ⟨rfl, rfl, rfl, rfl, trivial⟩ (fun w H => (Ow.has (M := [has (fun w => ∀ o ∈ L, AtV w o.x ∧ AtV w o.y)]) (φ := fun w => (∀ o ∈ L, AtV w o.x ∧ AtV w o.y) ∧ ∀ y ∈ ([] : List Ch), AtV w y.d) (Ow.arLit0 (sz := 16) (enc := chC) (b := g0) (T := 145) H xA) xZ (fun w hr => ⟨hr.has .here, fun _ h => absurd h List.not_mem_nil⟩)).sel xZ) ?_
  rintro ⟨k, ad, cc, out⟩ hI
  have hk := hI.kl
  have hv := hI.v
  have hol := congrArg List.length hv
  rw [List.length_map, List.length_map] at hol
  have hb := dueO_len (L.take k)
  rw [List.length_take] at hb
  dsimp only at hk hv hol hb ⊢
  have hml := mkF_len tkO L k
  by_cases hlt : k < L.length ∧ (out.length : Int) < n
  · obtain ⟨hlt, hln⟩ := hlt
    obtain ⟨x, hx⟩ : ∃ x, L[k]? = some x := ⟨_, List.getElem?_eq_getElem hlt⟩
    have hxm := List.mem_of_getElem? hx
    have hxn := hL x hxm
    obtain ⟨hm1, hm2, hm3⟩ := mkF_at (f := tkO) hx
    have hsn := dueO_snoc hx
    have kd := rvdue_s x hxn
    refine J_fact (φ := ∃ b o, a = some ⟨b, o, none⟩) (fun w H => ?_) ?_
    · obtain ⟨b, o, h, _⟩ := Src.at (enc := onC) (sz := 31) (es := mkF tkO L k) (Src.ar xA) (by intro _; rfl) hm1 (Ow.rdw (M := []) H) (by omega)
      exact ⟨b, o, h⟩
    intro hne
    rcases hdq : dueQ x.q with _ | _
    · rw [hdq, if_neg (by simp), List.append_nil] at hsn
      rw [hdq] at kd
      have hmk := hm3 (by unfold tkO; rw [hdq, if_neg (by simp)])
      (repeat' (first | ((with_reducible apply gL); (first | refine yL0 ?_ | refine yL ?_ | ((with_reducible apply gL_go); (first | (refine JL_goq (kd) (hφ := (by (try simp only [List.cons_append, List.nil_append]); exact fun w hr => (hr.has (φ := fun w => (∀ o ∈ L, AtV w o.x ∧ AtV w o.y) ∧ ∀ y ∈ out, AtV w y.d) xA).1 x hxm)) (h := ?_); rintro _ _ ⟨rfl, rfl⟩; try simp only [List.cons_append, List.nil_append]) | fail)) | (refine yM ?_; intro _) | ((with_reducible apply gL_gd); (first | (refine JL_guard xR xR ?_ ?_ <;> intro _ <;> (try (exfalso; first | contradiction | omega))) | (refine JL_guardb xR xR ?_ ?_ <;> (intro hgb; subst hgb)) | (refine JL_guardb xR xR ?_ ?_ <;> (intro hgb; fail_if_success (have : type_of% hgb := rfl))) | fail)) | fail)) | ((with_reducible apply gD); (first | (refine JD_nil ?_; try simp only [List.cons_append, List.nil_append]) | (refine JD_bar ?_; try simp only [List.cons_append, List.nil_append]) | refine yD ?_ | ((with_reducible apply gD_go); (first | (refine JD_goq (kd) (hφ := (by (try simp only [List.cons_append, List.nil_append]); exact fun w hr => (hr.has (φ := fun w => (∀ o ∈ L, AtV w o.x ∧ AtV w o.y) ∧ ∀ y ∈ out, AtV w y.d) xA).1 x hxm)) (h := ?_); rintro _ _ ⟨rfl, rfl⟩; try simp only [List.cons_append, List.nil_append]) | fail)) | (refine yE ?_; intro _) | (refine yB ?_; intro _ _ _ _) | fail)) | refine yJ ?_ | ((with_reducible apply gJ_if); (first | (refine J_if xR ?_ ?_ <;> intro _ <;> (try (exfalso; first | contradiction | omega))) | (refine J_ifb xR ?_ ?_ <;> (intro hgb; subst hgb)) | (refine J_ifb xR ?_ ?_ <;> intro _) | fail)) | refine J_draw (id := 7) [0, 1, 2, 3, 4, 6, 7, 5, 8, 9] [10, 11] mixed xC xD xD ?_ | refine J_draw (id := 8) [0, 1, 2, 3, 4, 5, 6, 7, 8, 9, 10, 11, 12, 13, 14, 15, 16, 17, 18, 19, 20, 21, 22, 23, 24] [25, 26, 27] mixed xC xD xD ?_ | fail))
      refine J_again ⟨k + 1, ad, cc, out⟩ (by dsimp only; omega) ⟨hlt, by dsimp only; rw [hsn]; exact hv, hI.m, hI.n⟩ ⟨rfl, rfl, rfl, rfl, trivial⟩ (fun w H => ?_)
      dsimp only
      rw [hmk]
      exact H.sel xZ
    · rw [hdq, if_pos rfl] at hsn
      rw [hdq] at kd
      have htk : tkO x = ⟨x.p, x.w, x.w, false, x.x, x.x⟩ := by unfold tkO; rw [hdq, if_pos rfl]
      rw [htk] at hm2
      have hs1 : ((mkF tkO L k).set k ⟨x.p, x.w, x.w, x.a, x.x, x.y⟩)[k]? = some ⟨x.p, x.w, x.w, x.a, x.x, x.y⟩ := by rw [List.getElem?_set_self (by rw [hml]; exact hlt)]
      have hs2 : (((mkF tkO L k).set k ⟨x.p, x.w, x.w, x.a, x.x, x.y⟩).set k ⟨x.p, x.w, x.w, x.a, x.x, x.x⟩)[k]? = some ⟨x.p, x.w, x.w, x.a, x.x, x.x⟩ := by rw [List.getElem?_set_self (by rw [List.length_set, hml]; exact hlt)]
      (repeat' (first | ((with_reducible apply gL); (first | refine yL0 ?_ | ((with_reducible apply gL_indexAddr); (first | (refine D_indexAddr ?_ (hp := pe_ixN hne xR xR (tabE etab_ok xR) xI (by omega))) | fail)) | ((with_reducible apply gL_store); (first | (first | (refine JD_stEf (z' := (⟨x.p, x.w, x.w, x.a, x.x, x.y⟩ : On)) (by rfl) (by rfl) xA hm1 (by rfl) (by intro _; rfl) (by rfl) (by rfl) (by (first | ((repeat (first | exact Put.e | apply Put.t | apply Put.s)); done) | fail)) (by rfl) (by rfl) (by rfl) ?_) | (refine JD_stEf (z' := (⟨x.p, x.w, x.w, x.a, x.x, x.x⟩ : On)) (by rfl) (by rfl) xA hs1 (by rfl) (by intro _; rfl) (by rfl) (by rfl) (by (first | ((repeat (first | exact Put.e | apply Put.t | apply Put.s)); done) | fail)) (by rfl) (by rfl) (by rfl) ?_) | (refine JD_stEf (z' := (⟨x.p, x.w, x.w, false, x.x, x.x⟩ : On)) (by rfl) (by rfl) xA hs2 (by rfl) (by intro _; rfl) (by rfl) (by rfl) (by (first | ((repeat (first | exact Put.e | apply Put.t | apply Put.s)); done) | fail)) (by rfl) (by rfl) (by rfl) ?_)) | fail)) | refine yL ?_ | ((with_reducible apply gL_go); (first | (refine JL_goq (kd) (hφ := (by (try simp only [List.cons_append, List.nil_append]); exact fun w hr => (hr.has (φ := fun w => (∀ o ∈ L, AtV w o.x ∧ AtV w o.y) ∧ ∀ y ∈ out, AtV w y.d) xA).1 x hxm)) (h := ?_); rintro _ _ ⟨rfl, rfl⟩; try simp only [List.cons_append, List.nil_append]) | (refine JL_goq (acopy_s x.x hxn.x _ _ _ rfl rfl rfl) (hφ := (by (try simp only [List.cons_append, List.nil_append]); exact fun w hr => ((hr.has (φ := fun w => (∀ o ∈ L, AtV w o.x ∧ AtV w o.y) ∧ ∀ y ∈ out, AtV w y.d) xA).1 x hxm).1)) (h := ?_); rintro _ _ ⟨d2, hd2, hnf, rfl, rfl⟩; try simp only [List.cons_append, List.nil_append]) | fail)) | (refine yM ?_; intro _) | ((with_reducible apply gL_gd); (first | (refine JL_guard xR xR ?_ ?_ <;> intro _ <;> (try (exfalso; first | contradiction | omega))) | (refine JL_guardb xR xR ?_ ?_ <;> (intro hgb; subst hgb)) | (refine JL_guardb xR xR ?_ ?_ <;> (intro hgb; fail_if_success (have : type_of% hgb := rfl))) | fail)) | fail)) | ((with_reducible apply gD); (first | (refine JD_nil ?_; try simp only [List.cons_append, List.nil_append]) | (refine JD_bar ?_; try simp only [List.cons_append, List.nil_append]) | ((with_reducible apply gD_c_append); (first | (first | (refine JD_ap1 (z := (⟨x.p, d2, x.w⟩ : Ch)) (tabE etab_ok xR) xR xR xA xA xC xR xL xR (by omega) xR ?_; intro ad2 c2 _ _) | (refine JL_ap1 (z := (⟨x.p, d2, x.w⟩ : Ch)) (tabE etab_ok xR) xR xR xA xA xC xR xL xR (by omega) xR xR ?_; intro ad2 c2 _ _)) | fail)) | ((with_reducible apply gD_indexAddr); (first | (refine D_indexAddr ?_ (hp := pe_ixN hne xR xR (tabE etab_ok xR) xI (by omega))) | fail)) | ((with_reducible apply gD_store); (first | (first | (refine JD_stEf (z' := (⟨x.p, x.w, x.w, x.a, x.x, x.y⟩ : On)) (by rfl) (by rfl) xA hm1 (by rfl) (by intro _; rfl) (by rfl) (by rfl) (by (first | ((repeat (first | exact Put.e | apply Put.t | apply Put.s)); done) | fail)) (by rfl) (by rfl) (by rfl) ?_) | (refine JD_stEf (z' := (⟨x.p, x.w, x.w, x.a, x.x, x.x⟩ : On)) (by rfl) (by rfl) xA hs1 (by rfl) (by intro _; rfl) (by rfl) (by rfl) (by (first | ((repeat (first | exact Put.e | apply Put.t | apply Put.s)); done) | fail)) (by rfl) (by rfl) (by rfl) ?_) | (refine JD_stEf (z' := (⟨x.p, x.w, x.w, false, x.x, x.x⟩ : On)) (by rfl) (by rfl) xA hs2 (by rfl) (by intro _; rfl) (by rfl) (by rfl) (by (first | ((repeat (first | exact Put.e | apply Put.t | apply Put.s)); done) | fail)) (by rfl) (by rfl) (by rfl) ?_)) | fail)) | refine yD ?_ | ((with_reducible apply gD_go); (first | (refine JD_goq (kd) (hφ := (by (try simp only [List.cons_append, List.nil_append]); exact fun w hr => (hr.has (φ := fun w => (∀ o ∈ L, AtV w o.x ∧ AtV w o.y) ∧ ∀ y ∈ out, AtV w y.d) xA).1 x hxm)) (h := ?_); rintro _ _ ⟨rfl, rfl⟩; try simp only [List.cons_append, List.nil_append]) | (refine JD_goq (acopy_s x.x hxn.x _ _ _ rfl rfl rfl) (hφ := (by (try simp only [List.cons_append, List.nil_append]); exact fun w hr => ((hr.has (φ := fun w => (∀ o ∈ L, AtV w o.x ∧ AtV w o.y) ∧ ∀ y ∈ out, AtV w y.d) xA).1 x hxm).1)) (h := ?_); rintro _ _ ⟨d2, hd2, hnf, rfl, rfl⟩; try simp only [List.cons_append, List.nil_append]) | fail)) | (refine yE ?_; intro _) | (refine yB ?_; intro _ _ _ _) | fail)) | refine yJ ?_ | ((with_reducible apply gJ_if); (first | (refine J_if xR ?_ ?_ <;> intro _ <;> (try (exfalso; first | contradiction | omega))) | (refine J_ifb xR ?_ ?_ <;> (intro hgb; subst hgb)) | (refine J_ifb xR ?_ ?_ <;> intro _) | fail)) | refine J_draw (id := 7) [0, 1, 2, 3, 4, 6, 7, 5, 8, 9] [10, 11] mixed xC xD xD ?_ | refine J_draw (id := 8) [0, 1, 2, 3, 4, 5, 6, 7, 8, 9, 10, 11, 12, 13, 14, 15, 16, 17, 18, 19, 20, 21, 22, 23, 24] [25, 26, 27] mixed xC xD xD ?_ | fail))
      have hln2 := hI.n
      dsimp only at hln2
      refine J_again ⟨k + 1, ad2, c2, out ++ [⟨x.p, d2, x.w⟩]⟩ (by dsimp only; omega) ⟨hlt, ?_, fun y hy => ?_, ?_⟩ ⟨rfl, rfl, ?_, rfl, trivial⟩ (fun w H => ?_)
      · dsimp only
        rw [hsn, List.map_append, List.map_append, hv]
        show _ ++ [(x.p, d2.nf, x.w)] = _ ++ [(x.p, x.x.nf, x.w)]
        rw [hnf]
      · rcases List.mem_append.1 hy with hy | hy
        · exact hI.m y hy
        · obtain rfl := List.mem_singleton.1 hy
          exact hd2
      · dsimp only
        rw [List.length_append]
        show ((out.length + 1 : Nat) : Int) ≤ _
        omega
      · show some _ = some _
        rw [List.length_append]
        rfl
      · rw [List.set_set, List.set_set, hm2] at H
        dsimp only
        rw [List.length_append]
        refine (Ow.has (M := [has (fun w => AtV w d2), has (fun w => (∀ o ∈ L, AtV w o.x ∧ AtV w o.y) ∧ ∀ y ∈ out, AtV w y.d)]) (φ := fun w => (∀ o ∈ L, AtV w o.x ∧ AtV w o.y) ∧ ∀ y ∈ out ++ [⟨x.p, d2, x.w⟩], AtV w y.d) H xZ (fun w hr => ?_)).sel xZ
        have g1 := hr.has (φ := fun w => AtV w d2) .here
        have g2 := hr.has (φ := fun w => (∀ o ∈ L, AtV w o.x ∧ AtV w o.y) ∧ ∀ y ∈ out, AtV w y.d) (.there .here)
        refine ⟨g2.1, fun y hy => ?_⟩
        rcases List.mem_append.1 hy with hy | hy
        · exact g2.2 y hy
        · obtain rfl := List.mem_singleton.1 hy
          exact g1
  · have kcl := rvclean_s rb a c (mkF tkO L k) (by omega)
    rw [hml] at kcl
    (repeat' (first | ((with_reducible apply gL); (first | refine yL0 ?_ | refine yL ?_ | ((with_reducible apply gL_go); (first | (refine JL_goq (kcl) (hφ := xF) (h := ?_); rintro _ _ ⟨a2, c2, rfl⟩; try simp only [List.cons_append, List.nil_append]) | fail)) | (refine yM ?_; intro _) | ((with_reducible apply gL_gd); (first | (refine JL_guard xR xR ?_ ?_ <;> intro _ <;> (try (exfalso; first | contradiction | omega))) | (refine JL_guardb xR xR ?_ ?_ <;> (intro hgb; subst hgb)) | (refine JL_guardb xR xR ?_ ?_ <;> (intro hgb; fail_if_success (have : type_of% hgb := rfl))) | fail)) | fail)) | ((with_reducible apply gD); (first | (refine JD_nil ?_; try simp only [List.cons_append, List.nil_append]) | (refine JD_bar ?_; try simp only [List.cons_append, List.nil_append]) | refine yD ?_ | ((with_reducible apply gD_go); (first | (refine JD_goq (kcl) (hφ := xF) (h := ?_); rintro _ _ ⟨a2, c2, rfl⟩; try simp only [List.cons_append, List.nil_append]) | fail)) | (refine yE ?_; intro _) | (refine yB ?_; intro _ _ _ _) | fail)) | refine yJ ?_ | ((with_reducible apply gJ_if); (first | (refine J_if xR ?_ ?_ <;> intro _ <;> (try (exfalso; first | contradiction | omega))) | (refine J_ifb xR ?_ ?_ <;> (intro hgb; subst hgb)) | (refine J_ifb xR ?_ ?_ <;> intro _) | fail)) | refine J_draw (id := 7) [0, 1, 2, 3, 4, 6, 7, 5, 8, 9] [10, 11] mixed xC xD xD ?_ | refine J_draw (id := 8) [0, 1, 2, 3, 4, 5, 6, 7, 8, 9, 10, 11, 12, 13, 14, 15, 16, 17, 18, 19, 20, 21, 22, 23, 24] [25, 26, 27] mixed xC xD xD ?_ | fail))
    all_goals (
      refine J_ret1 rfl (by rfl) fun w H => ⟨_, ⟨k, a2, c2, ad, cc, out, ⟨by omega, hI⟩, rfl, rfl⟩, ?_⟩
      refine (Ow.has (M := [has (fun w => (∀ o ∈ L, AtV w o.x ∧ AtV w o.y) ∧ ∀ y ∈ out, AtV w y.d)]) (φ := fun w => (∀ o ∈ clO (mkF tkO L k), AtV w o.x ∧ AtV w o.y) ∧ ∀ y ∈ out, AtV w y.d) H xZ (fun w hr => ?_)).sel xZ
      have g2 := hr.has (φ := fun w => (∀ o ∈ L, AtV w o.x ∧ AtV w o.y) ∧ ∀ y ∈ out, AtV w y.d) .here
      refine ⟨fun o ho => ?_, g2.2⟩
      have ho := (List.mem_filter.1 ho).1
      unfold mkF at ho
      rcases List.mem_append.1 ho with ho | ho
      · obtain ⟨z, hz, rfl⟩ := List.mem_map.1 ho
        have g3 := g2.1 z (List.take_subset _ _ hz)
        unfold tkO
        split
        · exact ⟨g3.1, g3.1⟩
        · exact g3
      · exact g2.1 o (List.drop_subset _ _ ho))
end Go.Proofs.YtdnokmpnemaoaaaGreat
namespace Go.Pm
set_option linter.unusedSimpArgs false
set_option linter.unusedVariables false
open Go.RowKit
section
variable {P : Program} {n : Nat} {K : Hl} {ops : Array Oper} {fin : TF → List HP → Prop} {Q : Exit → Act → World → Prop} {ro : Option Nat}
def Indep (P : Program) (o : Oper) : Prop := kindOp o.op = 0 ∧ ∀ ρ w w' v, (∀ c, Operand.const c ∈ o.op.operands.toList → ρ (.const c) = c) → (execOp ρ o).run P w = .ok (.value v) w → (execOp ρ o).run P w' = .ok (.value v) w'
theorem indep_of {o : Oper} {v : Value} (hk : kindOp o.op = 0) (h : ∀ ρ w, (execOp ρ o).run P w = .ok (.value v) w) : Indep P o := ⟨hk, fun ρ w w' u _ hu => by
  have h1 := h ρ w
  rw [hu] at h1
  cases h1
  exact h ρ w'⟩
theorem indep_move {d : Option Tmp} {x : Operand} {T : TypeId} {pos : String} {af : Array Edge} {gd : Option (Nat × Bool)} : Indep P ⟨d, .move x, T, pos, af, gd⟩ := ⟨rfl, fun ρ w w' v _ h => by
  have e : ∀ w, (execOp ρ ⟨d, .move x, T, pos, af, gd⟩).run P w = .ok (.value (ρ x)) w := fun w => by unfold execOp; rfl
  rw [e] at h
  cases h
  exact e w'⟩
theorem indep_pick {d : Option Tmp} {c x y : Operand} {T : TypeId} {pos : String} {af : Array Edge} {gd : Option (Nat × Bool)} : Indep P ⟨d, .pick c x y, T, pos, af, gd⟩ := ⟨rfl, fun ρ w w' v _ h => by
  unfold execOp at h ⊢
  dsimp only at h ⊢
  cases hc : ρ c with
  | bool b =>
    rw [hc] at h
    cases b with
    | true => cases h; rfl
    | false => cases h; rfl
  | _ => rw [hc] at h; cases h⟩
theorem indep_build0 {d : Option Tmp} {t T : TypeId} {pos : String} {af : Array Edge} {gd : Option (Nat × Bool)} {cs : List Value} (h3 : ∀ w, (Instr.build t #[]).run P w = .ok (.agg cs.toArray) w) : Indep P ⟨d, .build t #[], T, pos, af, gd⟩ := indep_of (v := .agg cs.toArray) rfl fun ρ w => by
  unfold execOp
  simp [Sem.run_bind, h3 w]
theorem PE.indep {o : Oper} {f : TF} {v : Value} {S : List HP} (hi : Indep P o) (h : PE P K S o f v) {W : World} {K' : Hl} {w : World} {M : List HP} (hK : K.le K') (hO : Ow W K' (M ++ S) w) : PE P K [] o f v := fun ρ w' ha _ => hi.2 ρ w w' v (fun c hc => ha (.const c) hc c rfl) (h ρ w ha (hO.rdw.le hK))
theorem DW_shift (hfin : ∀ f L L', L.Perm L' → fin f L → fin f L') (B : List Oper) : ∀ (A : List Oper) (f : TF) (S M : List HP), (∀ o ∈ A, Indep P o) → DW P n K ops (fun f L => DW P n K ops fin B f [] L) A f S M → DW P n K ops fin (A ++ B) f [] (M ++ S)
  | [], f, S, M, _, h => DW_lv fun l => h (by rwa [List.append_nil] at l)
  | o :: A, f, S, M, hi, h => fun W K' w a hK hf hO => by
    rw [List.append_nil] at hO
    have hio := hi o (by simp)
    have hiA : ∀ o ∈ A, Indep P o := fun z hz => hi z (by simp [hz])
    rcases h W K' w a hK hf hO with ⟨h1, h2⟩ | ⟨h1, h2⟩
    · exact .inl ⟨h1, DW_shift hfin B A _ S M hiA h2⟩
    · rcases h2 with ⟨k, As, M', v, p, e, d⟩ | ⟨k, _⟩ | ⟨k, _⟩
      · refine .inr ⟨h1, .inl ⟨k, [], M ++ S, v, .refl _, ?_, ?_⟩⟩
        · have hO2 : Ow W K' (M' ++ (As ++ S)) w := hO.perm ((p.append_right S).trans (by rw [← List.append_assoc]; exact (List.perm_append_comm).append_right S))
          exact PE.indep hio e hK hO2
        · have h3 := DW_shift hfin B A _ _ _ hiA d
          refine DW_perm hfin _ _ _ _ _ ?_ h3
          exact (((p.append_right S).trans (by rw [← List.append_assoc]; exact (List.perm_append_comm).append_right S))).symm
      · rw [hio.1] at k; cases k
      · rw [hio.1] at k; cases k
def okOrderF (n : Nat) (ops : Array Oper) (l l2 free : List Nat) : Bool := let m := clo [] ops.toList
  okGo n ops m (l ++ l2) && (l ++ l2).length == ops.size && (List.range ops.size).all ((l ++ l2).contains ·) && l2.all fun j => l.all fun i => (m.getD j 0).testBit i || (free.contains i && movI ops i j)
theorem DW_anyF (hfin : ∀ f L L', L.Perm L' → fin f L → fin f L') {W : World} {K' : Hl} (hK : K.le K') (l2 free : List Nat) (fuel2 : Nat) (hQ : ∀ (l : List Nat) (f : TF) (S M : List HP) (a : Act) (w : World) (listed : Array Bool), (∀ i ∈ l, i ∈ free) → listed.size = ops.size → (∀ i, i < ops.size → (listed.getD i false = false ↔ i ∈ l ++ l2)) → (∀ i o, ops[i]? = some o → listed.getD i false = true → ∀ e ∈ o.after, Region.binds .any e = true → listed.getD e.on false = true) →
    (∀ i ∈ l, ∀ j ∈ l2, j ≠ i ∧ noEdge ops i j = true ∧ (((clo [] ops.toList).getD j 0).testBit i = true ∨ (i ∈ free ∧ movI ops i j = true))) → l.Pairwise (fun i j => j ≠ i ∧ noEdge ops i j = true ∧ (((clo [] ops.toList).getD j 0).testBit i = true ∨ movI ops i j = true)) → (∀ i ∈ l, inI n ops i = true ∧ okEdge ops i = true) →
    DW P n K ops fin (l.map (opAt ops)) f S M → Fit n f a → Ow W K' (M ++ S) w → wpAnyIn (wideR ro) 0 P .any ops Q (l.length + fuel2) listed a w) : ∀ (fuel : Nat) (l : List Nat) (listed : Array Bool) (a : Act) (w : World) (f : TF) (S M : List HP),
    l.length = fuel → listed.size = ops.size → (∀ i, i < ops.size → (listed.getD i false = false ↔ i ∈ l ++ l2)) →
    (∀ i o, ops[i]? = some o → listed.getD i false = true → ∀ e ∈ o.after, Region.binds .any e = true → listed.getD e.on false = true) →
    (∀ i ∈ l, ∀ j ∈ l2, j ≠ i ∧ noEdge ops i j = true ∧ (((clo [] ops.toList).getD j 0).testBit i = true ∨ (i ∈ free ∧ movI ops i j = true))) → l.Pairwise (fun i j => j ≠ i ∧ noEdge ops i j = true ∧ (((clo [] ops.toList).getD j 0).testBit i = true ∨ movI ops i j = true)) → (∀ i ∈ l, inI n ops i = true ∧ okEdge ops i = true) →
    DW P n K ops fin (l.map (opAt ops)) f S M → Fit n f a → Ow W K' (M ++ S) w → wpAnyIn (wideR ro) 0 P .any ops Q (fuel + fuel2) listed a w := by
  intro fuel
  induction fuel with
  | zero =>
    intro l listed a w f S M hl hs hli hd hx hp hg h hf hO
    obtain rfl : l = [] := List.eq_nil_of_length_eq_zero hl
    exact hQ [] f S M a w listed (by simp) hs hli hd hx hp hg h hf hO
  | succ fuel ih =>
    intro l listed a w f S M hl hs hli hd hx hp hg h hf hO
    by_cases hall : ∀ i ∈ l, i ∈ free
    · have := hQ l f S M a w listed hall hs hli hd hx hp hg h hf hO
      rwa [hl] at this
    obtain ⟨j0, hj0, hnf⟩ : ∃ j, j ∈ l ∧ j ∉ free := Classical.byContradiction fun k => hall fun i hi => Classical.byContradiction fun k2 => k ⟨i, hi, k2⟩
    rw [show fuel + 1 + fuel2 = (fuel + fuel2) + 1 by omega]
    have unl : ∀ i, i < ops.size → listed.getD i true = listed.getD i false := fun i hi => by
      rw [Array.getD_eq_getD_getElem?, Array.getD_eq_getD_getElem?, Array.getElem?_eq_getElem (by omega)]; rfl
    refine ⟨fun hr => ?_, fun i hi => ?_⟩
    · exfalso
      cases l with
      | nil => simp at hl
      | cons i r =>
        obtain ⟨g1, g2⟩ := hg i (by simp)
        cases ho : ops[i]? with
        | none => simp [inI, ho] at g1
        | some o =>
          have hlt := (Array.getElem?_eq_some_iff.1 ho).1
          have : i ∈ Region.ready .any ops listed := mem_ready.2 ⟨by rw [unl i hlt]; exact (hli i hlt).2 (by simp), o, ho, fun e he hb => by
            unfold okEdge at g2
            simp only [ho, List.all_eq_true, Bool.or_eq_true, Bool.not_eq_true', Bool.and_eq_true, bne_iff_ne, ne_eq] at g2
            have g3 := (g2 e (by simpa using he)).resolve_left (by simp [hb])
            have hen : e.on < ops.size := by simpa using g3.2
            cases hc : listed.getD e.on false with
            | true => rfl
            | false =>
              exfalso
              have hm := (hli e.on hen).1 hc
              have h5 : e.on = i ∨ noEdge ops i e.on = true := by
                rcases List.mem_cons.1 hm with h1 | h1
                · exact .inl h1
                · rcases List.mem_append.1 h1 with h1 | h1
                  · exact .inr ((List.pairwise_cons.1 hp).1 e.on h1).2.1
                  · exact .inr (hx i (by simp) e.on h1).2.1
              rcases h5 with h1 | h2
              · exact g3.1 h1
              · unfold noEdge at h2
                simp only [ho, List.all_eq_true, Bool.or_eq_true, Bool.not_eq_true', bne_iff_ne, ne_eq] at h2
                have := (h2 e (by simpa using he)).resolve_left (by simp [hb])
                exact this rfl⟩
          rw [hr] at this
          cases this
    · obtain ⟨h1, o, ho, hedge⟩ := mem_ready.1 hi
      have hlt := (Array.getElem?_eq_some_iff.1 ho).1
      have hil : i ∈ l := by
        rcases List.mem_append.1 ((hli i hlt).1 (by rw [← unl i hlt]; exact h1)) with h2 | h2
        · exact h2
        · exfalso
          have h3 := clo_done hd ho hedge j0 ((hx j0 hj0 i h2).2.2.resolve_right fun k => hnf k.1)
          have hj2 := (hg j0 hj0).1
          have hjl : j0 < ops.size := by
            unfold inI at hj2
            cases hoj : ops[j0]? with
            | none => simp [hoj] at hj2
            | some _ => exact (Array.getElem?_eq_some_iff.1 hoj).1
          have h4 := (hli j0 hjl).2 (by simp [hj0])
          rw [h3] at h4
          cases h4
      obtain ⟨A, B, rfl⟩ := List.append_of_mem hil
      have hA : ∀ j ∈ A, movI ops j i = true ∧ inI n ops j = true := fun j hj => by
        refine ⟨?_, (hg j (by simp [hj])).1⟩
        have h2 := (List.pairwise_append.1 hp).2.2 j hj i (by simp)
        refine h2.2.2.resolve_left fun hb => ?_
        have h3 := clo_done hd ho hedge j hb
        have hj2 := (hg j (by simp [hj])).1
        have hjl : j < ops.size := by
          unfold inI at hj2
          cases hoj : ops[j]? with
          | none => simp [hoj] at hj2
          | some _ => exact (Array.getElem?_eq_some_iff.1 hoj).1
        have h4 := (hli j hjl).2 (by simp [hj])
        rw [h3] at h4
        cases h4
      have hin := (hg i (by simp)).1
      have h2 := DW_front hfin hin A hA f S M h
      have hop : opAt ops i = o := by simp [opAt, ho]
      have hdst : inB n o.dst = true := by simpa [inI, ho] using hin
      rw [List.cons_append, List.map_cons, hop] at h2
      have sub : (A ++ B).Sublist (A ++ i :: B) := List.Sublist.append_left (List.sublist_cons_self ..) A
      have nd : i ∉ A ∧ i ∉ B := by
        have h3 := List.pairwise_append.1 hp
        refine ⟨fun hm => (h3.2.2 i hm i (by simp)).1 rfl, fun hm => ((List.pairwise_cons.1 h3.2.1).1 i hm).1 rfl⟩
      have nd2 : i ∉ l2 := fun hm => (hx i (by simp) i hm).1 rfl
      have go : ∀ a' w' f' S' M', DW P n K ops fin ((A ++ B).map (opAt ops)) f' S' M' → Fit n f' a' → Ow W K' (M' ++ S') w' → wpAnyIn (wideR ro) 0 P .any ops Q (fuel + fuel2) (listed.setIfInBounds i true) a' w' := fun a' w' f' S' M' x1 x2 x3 => by
        refine ih (A ++ B) _ a' w' f' S' M' (by simp at hl ⊢; omega) (by simpa using hs) (fun j hj => ?_) (fun j o' hj' hl' e he hb => ?_) (fun j hj => hx j (sub.subset hj)) (hp.sublist sub) (fun j hj => hg j (sub.subset hj)) x1 x2 x3
        · by_cases hji : i = j
          · subst hji
            have : (listed.setIfInBounds i true).getD i false = true := by rw [Array.getD_eq_getD_getElem?, Array.getElem?_setIfInBounds]; simp [hs, hj]
            rw [this]
            simp [nd, nd2]
          · rw [getD_set_ne false hji, hli j hj]
            simp [Ne.symm hji]
        · by_cases hji : i = j
          · subst hji
            rw [ho] at hj'
            cases hj'
            exact getD_set_true (hedge e he hb)
          · rw [getD_set_ne false hji] at hl'
            exact getD_set_true (hd j o' hj' hl' e he hb)
      unfold wpOpIn
      rw [ho]
      dsimp only
      rcases h2 W K' w a hK hf hO with ⟨wi, d⟩ | ⟨wi, h3⟩
      · rw [wantF_eq wi hf, if_neg (by simp)]
        exact ⟨fun _ _ => trivial, go _ _ _ _ _ d (hf.put hdst _) hO⟩
      · rw [wantF_eq wi hf, if_pos rfl]
        rcases h3 with ⟨_, As, M', v, p, e, d⟩ | ⟨_, x, g, e, d⟩ | ⟨_, e⟩
        · have hO2 : Ow W K' (M' ++ (As ++ S)) w := hO.perm ((p.append_right S).trans (by rw [← List.append_assoc]; exact (List.perm_append_comm).append_right S))
          exact wpI_val (e a.eval w (hf.agree o) (hO2.rdw.le hK)) (go _ _ _ _ _ d (hf.put hdst _) hO2)
        · exact wpI_val (e a.eval w (hf.agree o)) (go _ _ _ _ _ (d _) (hf.put hdst _) (hO.al x))
        · refine Oper.wpIn_mono ?_ (wpI_in (N := fun v w' => ∃ M', Ow W K' (M' ++ S) w' ∧ DW P n K ops fin ((A ++ B).map (opAt ops)) (upd f o.dst v) S M') e)
          rintro a' w' ⟨v, rfl, M', o2, d⟩
          exact go _ _ _ _ _ d (hf.put hdst _) o2

theorem DW_regionF (hfin : ∀ f L L', L.Perm L' → fin f L → fin f L') {W : World} (hm : P.follows .mixedOrders = true) {id : Nat} {l l2 free : List Nat} (hl : okOrderF n ops l l2 free = true) (hfree : ∀ i ∈ free, Indep P (opAt ops i)) {f : TF} {L : List HP} {a : Act} {w : World}
    (hQ : ∀ f L a w, fin f L → Fit n f a → Ow W K L w → Q .normal a w) (h : DW P n K ops (fun f L => DW P n K ops fin (l2.map (opAt ops)) f [] L) (l.map (opAt ops)) f [] L) (hf : Fit n f a) (hO : Ow W K L w) : (Code.region id ops true).wpIn (wideR ro) 0 P Q a w := by
  simp only [okOrderF, Bool.and_eq_true, beq_iff_eq] at hl
  obtain ⟨⟨⟨h1, h2⟩, h3⟩, h4⟩ := hl
  obtain ⟨k1, k2⟩ := okGo_pair h1
  have k3 := List.pairwise_append.1 k1
  have hlen : ops.size = l.length + l2.length := by rw [← h2]; simp
  have hends : ∀ f L a w (listed : Array Bool), listed.size = ops.size → (∀ i, i < ops.size → (listed.getD i false = false ↔ i ∈ ([] : List Nat))) → (∀ i o, ops[i]? = some o → listed.getD i false = true → ∀ e ∈ o.after, Region.binds .any e = true → listed.getD e.on false = true) →
      fin f L → Fit n f a → Ow W K L w → wpAnyIn (wideR ro) 0 P .any ops Q 0 listed a w := fun f L a w listed hs hli _ hfn hf hO => by
    refine ⟨?_, hQ _ _ _ _ hfn hf hO⟩
    apply List.eq_nil_iff_forall_not_mem.2
    intro i hi
    obtain ⟨h1, o, h2, _⟩ := mem_ready.1 hi
    have hlt := (Array.getElem?_eq_some_iff.1 h2).1
    have : listed.getD i false = false := by
      rw [Array.getD_eq_getD_getElem?, Array.getElem?_eq_getElem (by omega)] at h1 ⊢
      exact h1
    exact absurd ((hli i hlt).1 this) (by simp)
  refine wpIn_region_any hm ?_
  rw [hlen]
  refine DW_anyF (W := W) (fin := fun f L => DW P n K ops fin (l2.map (opAt ops)) f [] L) (fun f L L' p h => DW_perm hfin _ _ _ _ _ p h) (Hl.le.refl K) l2 free l2.length (fun lx f S M a w listed hfr hs hli hd hx hp hg hdw hf hO => ?_) l.length l _ a _ f [] L rfl (by simp [hlen]) (fun i hi => ?_) (fun i o hi hl => ?_) (fun i hi j hj => ?_) k3.1 (fun i hi => k2 i (by simp [hi])) h hf ?_
  · have h6 := DW_shift hfin (l2.map (opAt ops)) (lx.map (opAt ops)) f S M (fun o ho => by
      obtain ⟨i, hi, rfl⟩ := List.mem_map.1 ho
      exact hfree i (hfr i hi)) hdw
    rw [← List.map_append] at h6
    have h7 := DW_any (W := W) hfin (Hl.le.refl K) [] 0 hends (lx.length + l2.length) (lx ++ l2) listed a w f [] (M ++ S) (by simp) hs (by simpa using hli) hd (by simp) (List.pairwise_append.2 ⟨hp, k3.2.1, fun i hi j hj => ⟨(hx i hi j hj).1, (hx i hi j hj).2.1, (hx i hi j hj).2.2.imp_right fun k => k.2⟩⟩) (fun i hi => (List.mem_append.1 hi).elim (hg i) fun k => k2 i (by simp [k])) h6 hf (by simpa using hO)
    simpa using h7
  · rw [← hlen] at *
    have : (Array.replicate ops.size false).getD i false = false := by rw [Array.getD_eq_getD_getElem?]; simp [hi]
    rw [this]
    simp only [true_iff]
    have := List.all_eq_true.1 h3 i (by simpa using hi)
    simpa using this
  · exfalso
    have hlt := (Array.getElem?_eq_some_iff.1 hi).1
    rw [← hlen] at hl
    have : (Array.replicate ops.size false).getD i false = false := by rw [Array.getD_eq_getD_getElem?]; simp [hlt]
    rw [this] at hl
    cases hl
  · have h5 := k3.2.2 i hi j hj
    have h6 := List.all_eq_true.1 (List.all_eq_true.1 h4 j hj) i hi
    simp only [Bool.or_eq_true, Bool.and_eq_true, List.contains_eq_mem, decide_eq_true_eq] at h6
    exact ⟨h5.1, h5.2.1, h6⟩
  · simpa using hO.drew
end
section
variable {P : Program} {n : Nat} {W : World} {K : Hl} {F : Fp} {k : List It} {tm : TM} {L : List HP}
theorem J_drawF {id : Nat} {lo : List Oper} (l l2 free : List Nat) {r r2 : List Oper} (hm : P.follows .mixedOrders = true) (hl : okOrderF n lo.toArray l l2 free = true) (h1 : Pick lo l r) (h2 : Pick lo l2 r2) (hfree : ∀ i ∈ free, Indep P (opAt lo.toArray i)) (h : JD P n W K F lo.toArray k r2 r tm [] L) : J P n W K F (.code (.region id lo.toArray true) :: k) tm L := .mk <| fun _ _ hf hO => by
  rw [← h1.eq, ← h2.eq] at h
  exact DW_regionF (fun _ _ _ p h a w h1 h2 => h a w h1 (h2.perm p.symm)) hm hl hfree (fun _ _ a w h h1 h2 => h a w h1 h2) h.h hf hO
end
end Go.Pm
namespace Go.Proofs.YtdnokmpnemaoaaaGreat.T
set_option linter.unusedSimpArgs false
set_option linter.unusedVariables false
set_option maxRecDepth 20000
set_option maxHeartbeats 4000000
open Go.RowKit Go.Pm

theorem size_s (l : Int) (h0 : 0 ≤ l) (h1 : l ≤ 32) : Pact Tryz.prog 111 #[.int .i64 l] (fun _ => True) [] (ret0 (.int .u64 (pw l))) := by
  refine pact Tryz.func111 rfl Tryz.ntmps111 rfl ?_
  intro W K _
  have hmax : max l 0 = l := by omega
  have p2 : ∀ k : Nat, k ≤ 32 → 0 < (2 : Int) ^ k ∧ (2 : Int) ^ k ≤ 4294967296 := fun k hk => by
    refine ⟨Int.pow_pos (by omega), ?_⟩
    have h1 := pw_le (32 - k) (by omega)
    unfold pw at h1
    rwa [show (32 - (32 - (k : Int))).toNat = k by omega] at h1
  (repeat' (first | ((with_reducible apply gL); (first | refine yL0 ?_ | refine yL ?_ | fail)) | refine yJ ?_ | ((with_reducible apply gJ_if); (first | (refine J_if xR ?_ ?_ <;> intro _ <;> (try (exfalso; first | contradiction | omega))) | (refine J_ifb xR ?_ ?_ <;> (intro hgb; subst hgb)) | (refine J_ifb xR ?_ ?_ <;> intro _) | fail)) | fail))
  refine J_loop (α := Nat) 0 (fun k => 32 - k) (fun k => l + k ≤ 32) (fun k => [(3, .int .u64 (2 ^ k)), (4, .int .i64 (l + k))]) (fun _ => []) (by show l + 0 ≤ 32; omega) ⟨rfl, ?_, trivial⟩ (fun w H => H.sel xZ) ?_
  · show some (Value.int .i64 (max l 0)) = some (Value.int .i64 (l + 0))
    rw [hmax, Int.add_zero]
  rintro k hk
  have hk2 := p2 k (by omega)
  by_cases hlt : l + k < 32
  · (repeat' (first | ((with_reducible apply gL); (first | refine yL0 ?_ | refine yL ?_ | fail)) | refine yJ ?_ | ((with_reducible apply gJ_if); (first | (refine J_if xR ?_ ?_ <;> intro _ <;> (try (exfalso; first | contradiction | omega))) | (refine J_ifb xR ?_ ?_ <;> (intro hgb; subst hgb)) | (refine J_ifb xR ?_ ?_ <;> intro _) | fail)) | fail))
    refine J_again (k + 1) (by omega) (by show l + ((k + 1 : Nat) : Int) ≤ 32; omega) ⟨?_, ?_, trivial⟩ (fun w H => H.sel xZ)
    · show some _ = some _
      rw [Int.pow_succ, Int.mul_comm]
    · show some _ = some _
      congr 2
      omega
  · (repeat' (first | ((with_reducible apply gL); (first | refine yL0 ?_ | refine yL ?_ | fail)) | refine yJ ?_ | ((with_reducible apply gJ_if); (first | (refine J_if xR ?_ ?_ <;> intro _ <;> (try (exfalso; first | contradiction | omega))) | (refine J_ifb xR ?_ ?_ <;> (intro hgb; subst hgb)) | (refine J_ifb xR ?_ ?_ <;> intro _) | fail)) | fail))
    refine J_ret1 rfl (by rfl) fun w H => ⟨[], ⟨?_, rfl⟩, H.sel .nil⟩
    unfold pw
    rw [show (32 - l).toNat = k by omega]
theorem rright_s (p : Pf) (hp : PfN p) : Pact Tryz.prog 77 #[.agg (pfC p).toArray] (fun _ => True) [] (ret0 (.bool (decide (Rt p)))) := by
  refine pact Tryz.func77 rfl Tryz.ntmps77 rfl ?_
  intro W K _
  have h1 := hp.1
  unfold U32 at h1
  have hpos := pw_pos p.2
  (repeat' (first | ((with_reducible apply gL); (first | refine yL0 ?_ | refine yL ?_ | (refine yM ?_; intro _) | fail)) | ((with_reducible apply gD); (first | (refine JD_nil ?_; try simp only [List.cons_append, List.nil_append]) | (refine JD_bar ?_; try simp only [List.cons_append, List.nil_append]) | refine yD0 ?_ | refine yD ?_ | ((with_reducible apply gD_go); (first | (refine JD_goq (size_s p.2 (by omega) (by omega)) (hφ := xF) (h := ?_); rintro _ _ ⟨rfl, rfl⟩; try simp only [List.cons_append, List.nil_append]) | fail)) | ((with_reducible apply gD_gd); (first | (refine JD_guard xR xR ?_ ?_ <;> intro _ <;> (try (exfalso; first | contradiction | omega))) | (refine JD_guardb xR xR ?_ ?_ <;> (intro hgb; subst hgb)) | (refine JD_guardb xR xR ?_ ?_ <;> (intro hgb; fail_if_success (have : type_of% hgb := rfl))) | fail)) | fail)) | refine yJ ?_ | refine J_draw (id := 1) [0, 1, 2, 3, 4, 5, 6, 7, 8, 9, 10, 11, 12, 13, 14] [15, 16, 17, 18] mixed xC xD xD ?_ | fail))
  all_goals (refine J_ret1 rfl (by rfl) fun w H => ⟨[], ⟨?_, rfl⟩, H.sel .nil⟩)
  all_goals congr 1
  · rename_i h1 h2
    simp [Rt, h1, h2]
  · rename_i h1 h2
    simp [Rt, h1, h2]
  · rename_i h1
    simp [Rt, h1]
theorem rahead_s (p q : Pf) : Pact Tryz.prog 80 #[.agg (pfC p).toArray, .agg (pfC q).toArray] (fun _ => True) [] (ret0 (.bool (decide (Ah p q)))) := by
  refine pact Tryz.func80 rfl Tryz.ntmps80 rfl ?_
  intro W K _
  (repeat' (first | ((with_reducible apply gL); (first | refine yL0 ?_ | refine yL ?_ | (refine yM ?_; intro _) | ((with_reducible apply gL_gd); (first | (refine JL_guard xR xR ?_ ?_ <;> intro _ <;> (try (exfalso; first | contradiction | omega))) | (refine JL_guardb xR xR ?_ ?_ <;> (intro hgb; subst hgb)) | (refine JL_guardb xR xR ?_ ?_ <;> (intro hgb; fail_if_success (have : type_of% hgb := rfl))) | fail)) | fail)) | refine yJ ?_ | fail))
  all_goals (refine J_ret1 rfl (by rfl) fun w H => ⟨[], ⟨?_, rfl⟩, H.sel .nil⟩)
  all_goals congr 1
  all_goals (simp only [Ah]; first | (symm; apply decide_eq_true; omega) | (symm; apply decide_eq_false; omega) | (congr 1; simp only [eq_iff_iff]; omega))
end Go.Proofs.YtdnokmpnemaoaaaGreat.T
