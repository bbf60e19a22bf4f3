/-
  ViewPlays: a view answers what the document says (does not build yet: wants fewV, the law's few).
-/
import Derived.Test.YtdnokmpnemaoaaaGreatZViewPlays33
import Derived.HandedShaped
namespace Go.Proofs.YtdnokmpnemaoaaaGreat
set_option linter.unusedSimpArgs false
set_option linter.unusedVariables false
set_option maxRecDepth 20000
set_option maxHeartbeats 4000000
open Go.RowKit Go.Pm

open T (Pf PfN Rt Ah pfC)
theorem alikev_s (vb sp tb rb : Nat) (a : Option Addr) (ca : Nat) (L : List On) (E : List T.Ent) (S : List En) (c : Int) (i : Nat) (hi : i ≤ 50) (hx : Sv i E S c) (hA : Al E S L) :
    Pact Tryz.prog 17 #[.pointer (some ⟨vb, 0, none⟩), .pointer (some ⟨rb, 0, none⟩)] (fun _ => True) (BvL vb sp tb E S c rb a ca L) (fun v L' => v = .bool true ∧ L' = BvL vb sp tb E S c rb a ca L) := by
  refine pact Tryz.func17 rfl Tryz.ntmps17 rfl ?_
  intro W K _
  obtain ⟨hR, hE, hs, hn⟩ := hx
  have hll := hA.len
  have hLn := hA.n
  have hwl := wntO_len L
  have hdl := dueO_len L
  have kall := rvAll_s rb a ca L (by omega)
  have kdue := due_s vb (sA sp) tb E
  have kdr := rvDue_s rb a ca L hLn (by omega)
  have kva := vall_s vb (sA sp) tb E (by omega)
  have kvl := vlen_s vb (sA sp) tb E
  have hdu := hA.due hR hE.s hs
  have hwn := hA.wntI
  have hks : (thoseL (fun _ => E) wantE (T.keysE E) []).map (·.1) = wntO L := by
    rw [those_all hE.s (fun _ _ _ => rfl), hA.wnt]
  (repeat' (first | ((with_reducible apply gL); (first | refine yL0 ?_ | refine yL ?_ | ((with_reducible apply gL_go); (first | (refine JL_goq (kall) (hφ := xF) (h := ?_); rintro _ _ ⟨a1, c1, rfl, rfl⟩; try simp only [List.cons_append, List.nil_append]) | (refine JL_goq (kdue) (hφ := xF) (h := ?_); rintro _ _ ⟨rfl, rfl⟩; try simp only [List.cons_append, List.nil_append]) | (refine JL_goq (kdr) (hφ := xF) (h := ?_); rintro _ _ ⟨rfl, rfl⟩; try simp only [List.cons_append, List.nil_append]) | (refine JL_goq (kva) (hφ := xF) (h := ?_); rintro _ _ ⟨xs, a2, c2, hxs, rfl, rfl⟩; try simp only [List.cons_append, List.nil_append]) | fail)) | (refine yM ?_; intro _) | ((with_reducible apply gL_gd); (first | (refine JL_guard xR xR ?_ ?_ <;> intro _ <;> (try (exfalso; first | contradiction | omega))) | (refine JL_guardb xR xR ?_ ?_ <;> (intro hgb; subst hgb)) | (refine JL_guardb xR xR ?_ ?_ <;> (intro hgb; fail_if_success (have : type_of% hgb := rfl))) | fail)) | fail)) | refine yJ ?_ | ((with_reducible apply gJ_if); (first | (refine J_if xR ?_ ?_ <;> intro _ <;> (try (exfalso; first | contradiction | omega))) | (refine J_ifb xR ?_ ?_ <;> (intro hgb; subst hgb)) | (refine J_ifb xR ?_ ?_ <;> intro _) | fail)) | fail))
  obtain rfl : xs = wntO L := hxs.trans hks
  have kl := listv_s a2 a1 c2 c1 _ _ (wntO L) rfl rfl (by omega)
  (repeat' (first | ((with_reducible apply gL); (first | refine yL0 ?_ | refine yL ?_ | ((with_reducible apply gL_go); (first | (refine JL_goq (kl) (hφ := (by (try simp only [List.cons_append, List.nil_append]); exact fun w hr => ⟨Src.ar xA w hr, Src.ar xA w hr⟩)) (h := ?_); rintro _ _ ⟨rfl, rfl⟩; try simp only [List.cons_append, List.nil_append]) | (refine JL_goq (kvl) (hφ := xF) (h := ?_); rintro _ _ ⟨rfl, rfl⟩; try simp only [List.cons_append, List.nil_append]) | fail)) | (refine yM ?_; intro _) | ((with_reducible apply gL_gd); (first | (refine JL_guard xR xR ?_ ?_ <;> intro _ <;> (try (exfalso; first | contradiction | omega))) | (refine JL_guardb xR xR ?_ ?_ <;> (intro hgb; subst hgb)) | (refine JL_guardb xR xR ?_ ?_ <;> (intro hgb; fail_if_success (have : type_of% hgb := rfl))) | fail)) | fail)) | refine yJ ?_ | ((with_reducible apply gJ_if); (first | (refine J_if xR ?_ ?_ <;> intro _ <;> (try (exfalso; first | contradiction | omega))) | (refine J_ifb xR ?_ ?_ <;> (intro hgb; subst hgb)) | (refine J_ifb xR ?_ ?_ <;> intro _) | fail)) | fail))
  all_goals (first | (exfalso; omega) | skip)
  refine J_loop (α := Nat) 0 (fun k => L.length - k) (fun k => k ≤ L.length) (fun k => [(0, .pointer (some ⟨vb, 0, none⟩)), (1, .pointer (some ⟨rb, 0, none⟩)), (6, .int .i64 k)]) (fun _ => BvL vb sp tb E S c rb a ca L) (Nat.zero_le _) ⟨rfl, rfl, rfl, trivial⟩ (fun w H => H.sel xZ) ?_
  intro k hk
  by_cases hlt : k < L.length
  · obtain ⟨o, ho⟩ : ∃ o, L[k]? = some o := ⟨_, List.getElem?_eq_getElem hlt⟩
    have hom := List.mem_of_getElem? ho
    have hon := hLn o hom
    obtain ⟨e, he, hep, heq⟩ := hA.ent hom
    have hold : T.oldV E o.p = e.2 := by rw [← hep]; exact old_mem hE.s he
    obtain ⟨b1, b2⟩ := whatB_eq hR hE.s hs he
    have q1 : decide (e.2.1 ≠ 0) = o.w := congrArg Qv.w heq
    have q2 : decide (e.2.2.1 ≠ 0) = o.s := congrArg Qv.s heq
    have q3 : whatX S e.2.1 = o.x.nf := congrArg Qv.x heq
    have q4 : whatX S e.2.2.1 = o.y.nf := congrArg Qv.y heq
    have kw := wanted_s vb sp tb E S c o.p hon.p
    have kd := said_s vb sp tb E S c o.p hon.p
    rw [hold, b1, q1, q3] at kw
    rw [hold, b2, q2, q4] at kd
    have hox := hon.x
    have hoy := hon.y
    clear b1 b2 q1 q2 q3 q4 hold heq hep
    obtain ⟨p, w, s, ag, x, y⟩ := o
    dsimp only at kw kd hox hoy
    rcases w with _ | _ <;> rcases s with _ | _
    all_goals (
      (repeat' (first | ((with_reducible apply gL); (first | refine yL0 ?_ | refine yL ?_ | ((with_reducible apply gL_go); (first | (refine JL_goq (kw) (hφ := xF) (h := ?_); rintro _ _ ⟨d1, hd1, rfl, rfl⟩; try simp only [List.cons_append, List.nil_append]) | (refine JL_goq (kd) (hφ := xF) (h := ?_); rintro _ _ ⟨d2, hd2, rfl, rfl⟩; try simp only [List.cons_append, List.nil_append]) | fail)) | (refine yM ?_; intro _) | ((with_reducible apply gL_gd); (first | (refine JL_guard xR xR ?_ ?_ <;> intro _ <;> (try (exfalso; first | contradiction | omega))) | (refine JL_guardb xR xR ?_ ?_ <;> (intro hgb; subst hgb)) | (refine JL_guardb xR xR ?_ ?_ <;> (intro hgb; fail_if_success (have : type_of% hgb := rfl))) | fail)) | fail)) | refine yJ ?_ | ((with_reducible apply gJ_if); (first | (refine J_if xR ?_ ?_ <;> intro _ <;> (try (exfalso; first | contradiction | omega))) | (refine J_ifb xR ?_ ?_ <;> (intro hgb; subst hgb)) | (refine J_ifb xR ?_ ?_ <;> intro _) | fail)) | fail))
      have ks1 := rsame_s d1 x hd1.1 hox
      rw [hd1.2, decide_eq_true rfl] at ks1
      have ks2 := rsame_s d2 y hd2.1 hoy
      rw [hd2.2, decide_eq_true rfl] at ks2
      (repeat' (first | ((with_reducible apply gL); (first | refine yL0 ?_ | refine yL ?_ | ((with_reducible apply gL_go); (first | (refine JL_goq (ks1) (hφ := (by (try simp only [List.cons_append, List.nil_append]); exact fun w hr => ⟨hr.has (φ := fun w => AtV w d1) xA, (hr.has (φ := fun w => ∀ o ∈ L, AtV w o.x ∧ AtV w o.y) xA _ hom).1⟩)) (h := ?_); rintro _ _ ⟨rfl, rfl⟩; try simp only [List.cons_append, List.nil_append]) | (refine JL_goq (ks2) (hφ := (by (try simp only [List.cons_append, List.nil_append]); exact fun w hr => ⟨hr.has (φ := fun w => AtV w d2) xA, (hr.has (φ := fun w => ∀ o ∈ L, AtV w o.x ∧ AtV w o.y) xA _ hom).2⟩)) (h := ?_); rintro _ _ ⟨rfl, rfl⟩; try simp only [List.cons_append, List.nil_append]) | fail)) | (refine yM ?_; intro _) | ((with_reducible apply gL_gd); (first | (refine JL_guard xR xR ?_ ?_ <;> intro _ <;> (try (exfalso; first | contradiction | omega))) | (refine JL_guardb xR xR ?_ ?_ <;> (intro hgb; subst hgb)) | (refine JL_guardb xR xR ?_ ?_ <;> (intro hgb; fail_if_success (have : type_of% hgb := rfl))) | fail)) | fail)) | refine yJ ?_ | ((with_reducible apply gJ_if); (first | (refine J_if xR ?_ ?_ <;> intro _ <;> (try (exfalso; first | contradiction | omega))) | (refine J_ifb xR ?_ ?_ <;> (intro hgb; subst hgb)) | (refine J_ifb xR ?_ ?_ <;> intro _) | fail)) | fail))
      exact J_again (k + 1) (by omega) (by omega) ⟨rfl, rfl, rfl, trivial⟩ (fun w H => H.sel xZ))
  · obtain rfl : k = L.length := by omega
    (repeat' (first | ((with_reducible apply gL); (first | refine yL0 ?_ | refine yL ?_ | (refine yM ?_; intro _) | ((with_reducible apply gL_gd); (first | (refine JL_guard xR xR ?_ ?_ <;> intro _ <;> (try (exfalso; first | contradiction | omega))) | (refine JL_guardb xR xR ?_ ?_ <;> (intro hgb; subst hgb)) | (refine JL_guardb xR xR ?_ ?_ <;> (intro hgb; fail_if_success (have : type_of% hgb := rfl))) | fail)) | fail)) | refine yJ ?_ | ((with_reducible apply gJ_if); (first | (refine J_if xR ?_ ?_ <;> intro _ <;> (try (exfalso; first | contradiction | omega))) | (refine J_ifb xR ?_ ?_ <;> (intro hgb; subst hgb)) | (refine J_ifb xR ?_ ?_ <;> intro _) | fail)) | fail))
    exact J_ret1 rfl (by rfl) fun w H => ⟨_, ⟨rfl, rfl⟩, H.sel xZ⟩
end Go.Proofs.YtdnokmpnemaoaaaGreat
namespace Go.Proofs.YtdnokmpnemaoaaaGreat
set_option linter.unusedSimpArgs false
set_option linter.unusedVariables false
set_option maxRecDepth 20000
set_option maxHeartbeats 4000000
open Go.RowKit Go.Pm

open T (Pf PfN Rt Ah pfC)
structure QxV where
  i : Nat
  E : List T.Ent
  S : List En
  c : Int
  a : Option Addr
  ca : Nat
  L : List On
structure QvOk (n : Nat) (x : QxV) : Prop where
  il : x.i ≤ 50
  nl : x.i ≤ n
  sv : Sv x.i x.E x.S x.c
  al : Al x.E x.S x.L
theorem playsv_s {tr : At → At} (hfew : FewV tr) (aa : Option Addr) (cc : Nat) (acts : List Av) (hx : ∀ x ∈ acts, AvN x) (hl : acts.length ≤ 140737488355328) : Pact Tryz.prog 5 #[.slice aa acts.length cc] (fun w => Vw w (.slice aa acts.length cc) 18 acts.length (flat avC acts) ∧ ∀ x ∈ acts, AtV w x.d) [] (ret0 (.bool true)) := by
  refine pact Tryz.func5 rfl Tryz.ntmps5 rfl ?_
  intro W K hK
  have hv := hK.left
  (repeat' (first | ((with_reducible apply gL); (first | refine yL0 ?_ | refine yL ?_ | ((with_reducible apply gL_go); (first | (refine JL_goq (new_s) (hφ := xF) (h := ?_); rintro _ _ ⟨sp, rfl, rfl⟩; try simp only [List.cons_append, List.nil_append]) | (refine JL_goq (vnew_s _) (hφ := xF) (h := ?_); rintro _ _ ⟨vb, tb, rfl, rfl⟩; try simp only [List.cons_append, List.nil_append]) | fail)) | (refine yM ?_; intro _) | ((with_reducible apply gL_gd); (first | (refine JL_guard xR xR ?_ ?_ <;> intro _ <;> (try (exfalso; first | contradiction | omega))) | (refine JL_guardb xR xR ?_ ?_ <;> (intro hgb; subst hgb)) | (refine JL_guardb xR xR ?_ ?_ <;> (intro hgb; fail_if_success (have : type_of% hgb := rfl))) | fail)) | fail)) | refine yJ ?_ | ((with_reducible apply gJ_if); (first | (refine J_if xR ?_ ?_ <;> intro _ <;> (try (exfalso; first | contradiction | omega))) | (refine J_ifb xR ?_ ?_ <;> (intro hgb; subst hgb)) | (refine J_ifb xR ?_ ?_ <;> intro _) | fail)) | fail))
  rename_i rb
  refine J_loop (α := QxV) ⟨0, [], [], 0, none, 0, []⟩ (fun x => 50 - x.i) (QvOk acts.length) (fun x => [(0, .slice aa acts.length cc), (3, .pointer (some ⟨sp, 0, none⟩)), (4, .pointer (some ⟨vb, 0, none⟩)), (6, .pointer (some ⟨rb, 0, none⟩)), (7, .int .i64 x.i)]) (fun x => BvL vb sp tb x.E x.S x.c rb x.a x.ca x.L) ⟨Nat.zero_le _, Nat.zero_le _, ⟨⟨fun _ _ => rfl, fun _ h => absurd h List.not_mem_nil⟩, ⟨.nil, fun _ h => absurd h List.not_mem_nil⟩, stok_nil.mono (by simp), Nat.le_refl _⟩, ⟨rfl, fun _ h => absurd h List.not_mem_nil⟩⟩ ⟨rfl, rfl, rfl, rfl, rfl, trivial⟩ (fun w H => (Ow.hasTrue (φ := fun w => ∀ o ∈ ([] : List On), AtV w o.x ∧ AtV w o.y) (Ow.arNil (e := 107) (sz := 31) (enc := onC) H) (fun _ _ h => absurd h List.not_mem_nil)).sel xZ) ?_
  rintro ⟨i, E, S, c, a, ca, L⟩ hI
  obtain ⟨hi, hia, hS, hA⟩ := hI
  dsimp only at hi hia hS hA ⊢
  by_cases hlt : i < acts.length ∧ i < 50
  · obtain ⟨h1, h2⟩ := hlt
    obtain ⟨x, hsx⟩ : ∃ x, acts[i]? = some x := ⟨_, List.getElem?_eq_getElem h1⟩
    have hxm := List.mem_of_getElem? hsx
    have hxn := hx x hxm
    have hdv : Kn K (fun w => AtV w x.d) := hK.right.imp fun w h => h x hxm
    have kd := dov_s hfew vb sp tb rb a ca L E S c i h2 hS hA x hxn
    (repeat' (first | ((with_reducible apply gL); (first | refine yL0 ?_ | refine yL ?_ | ((with_reducible apply gL_go); (first | (refine JL_goq (kd) (hφ := (by (try simp only [List.cons_append, List.nil_append]); exact fun w hr => hdv w hr.1)) (h := ?_); rintro _ _ ⟨E', S', c', a2, c2, L2, ⟨hS', hA'⟩, rfl, rfl⟩; try simp only [List.cons_append, List.nil_append]) | fail)) | (refine yM ?_; intro _) | ((with_reducible apply gL_gd); (first | (refine JL_guard xR xR ?_ ?_ <;> intro _ <;> (try (exfalso; first | contradiction | omega))) | (refine JL_guardb xR xR ?_ ?_ <;> (intro hgb; subst hgb)) | (refine JL_guardb xR xR ?_ ?_ <;> (intro hgb; fail_if_success (have : type_of% hgb := rfl))) | fail)) | fail)) | refine yJ ?_ | ((with_reducible apply gJ_if); (first | (refine J_if xR ?_ ?_ <;> intro _ <;> (try (exfalso; first | contradiction | omega))) | (refine J_ifb xR ?_ ?_ <;> (intro hgb; subst hgb)) | (refine J_ifb xR ?_ ?_ <;> intro _) | fail)) | fail))
    have ka := alikev_s vb sp tb rb a2 c2 L2 E' S' c' (i + 1) (by omega) hS' hA'
    (repeat' (first | ((with_reducible apply gL); (first | refine yL0 ?_ | refine yL ?_ | ((with_reducible apply gL_go); (first | (refine JL_goq (ka) (hφ := xF) (h := ?_); rintro _ _ ⟨rfl, rfl⟩; try simp only [List.cons_append, List.nil_append]) | fail)) | (refine yM ?_; intro _) | ((with_reducible apply gL_gd); (first | (refine JL_guard xR xR ?_ ?_ <;> intro _ <;> (try (exfalso; first | contradiction | omega))) | (refine JL_guardb xR xR ?_ ?_ <;> (intro hgb; subst hgb)) | (refine JL_guardb xR xR ?_ ?_ <;> (intro hgb; fail_if_success (have : type_of% hgb := rfl))) | fail)) | fail)) | refine yJ ?_ | ((with_reducible apply gJ_if); (first | (refine J_if xR ?_ ?_ <;> intro _ <;> (try (exfalso; first | contradiction | omega))) | (refine J_ifb xR ?_ ?_ <;> (intro hgb; subst hgb)) | (refine J_ifb xR ?_ ?_ <;> intro _) | fail)) | fail))
    exact J_again ⟨i + 1, E', S', c', a2, c2, L2⟩ (by dsimp only; omega) ⟨by dsimp only; omega, by dsimp only; omega, hS', hA'⟩ ⟨rfl, rfl, rfl, rfl, rfl, trivial⟩ (fun w H => H.sel xZ)
  · obtain ⟨hR, hE, hs, hn⟩ := hS
    have kv := vreset_s (51 * i) (by omega) vb sp tb E S c hs (by omega)
    have kv2 : Pact Tryz.prog 18 #[.pointer (some ⟨vb, 0, none⟩)] (fun _ => True) (vsL vb sp tb E S c) (fun _ L' => L' = vsL vb sp tb [] [] c) := Pact.imp kv fun _ L' h => by
      obtain ⟨xs, hxs, h2⟩ := h
      have hxs2 : xs = E := by
        rw [hxs, those_all hE.s (q := fun _ => true) (fun pre p h => old_sF (fun _ => T.zV) pre E p hE.s h)]
        exact List.filter_eq_self.2 fun _ _ => rfl
      obtain ⟨e1, e2⟩ := Al.reset hR hE hs hxs2
      rw [e1, e2] at h2
      exact h2
    (repeat' (first | ((with_reducible apply gL); (first | refine yL0 ?_ | refine yL ?_ | ((with_reducible apply gL_go); (first | (refine JL_goq (kv2) (hφ := xF) (h := ?_); rintro _ _ rfl; try simp only [List.cons_append, List.nil_append]) | (refine JL_goq (len_s sp _ _) (hφ := xF) (h := ?_); rintro _ _ ⟨rfl, rfl⟩; try simp only [List.cons_append, List.nil_append]) | (refine JL_goq (works_s) (hφ := xF) (h := ?_); rintro _ _ ⟨rfl, rfl⟩; try simp only [List.cons_append, List.nil_append]) | fail)) | (refine yM ?_; intro _) | ((with_reducible apply gL_gd); (first | (refine JL_guard xR xR ?_ ?_ <;> intro _ <;> (try (exfalso; first | contradiction | omega))) | (refine JL_guardb xR xR ?_ ?_ <;> (intro hgb; subst hgb)) | (refine JL_guardb xR xR ?_ ?_ <;> (intro hgb; fail_if_success (have : type_of% hgb := rfl))) | fail)) | fail)) | refine yJ ?_ | ((with_reducible apply gJ_if); (first | (refine J_if xR ?_ ?_ <;> intro _ <;> (try (exfalso; first | contradiction | omega))) | (refine J_ifb xR ?_ ?_ <;> (intro hgb; subst hgb)) | (refine J_ifb xR ?_ ?_ <;> intro _) | fail)) | fail))
    all_goals exact J_ret1 rfl (by rfl) fun w H => ⟨_, ⟨rfl, rfl⟩, H.sel .nil⟩
end Go.Proofs.YtdnokmpnemaoaaaGreat
namespace Go.Proofs.YtdnokmpnemaoaaaGreat
set_option linter.unusedSimpArgs false
set_option linter.unusedVariables false
open Go.RowKit Go.Pm

open T (Pf PfN Rt Ah pfC)
theorem leaf_appv {P : Program} {w : World} : ∀ (ts us : List TypeId) (cs : List Value), Leaf P w (ts ++ us) cs → ∃ a b, cs = a ++ b ∧ Leaf P w ts a ∧ Leaf P w us b
  | [], _, cs, h => ⟨[], cs, rfl, rfl, h⟩
  | t :: ts, us, cs, h => by
    obtain ⟨c, r, rfl, h1, h2⟩ := Leaf.one h
    obtain ⟨a, b, rfl, h3, h4⟩ := leaf_appv ts us r h2
    exact ⟨c :: a, b, rfl, ⟨c, a, rfl, h1, h3⟩, h4⟩
theorem actv_el {w : World} (m : Nat) (d : List Value) (_ : d.length = 18) (h : Rs Tryz.prog w m 63 d) : ∃ x : Av, d = avC x ∧ AvN x ∧ AtV w x.d := by
  have h0 := leaf_of 5 63 (3 :: 3 :: 26 :: 3 :: ([3, 31, 26, 4, 22, 4, 22, 4, 4, 22, 26, 32, 33] ++ [4])) m d (by kernel_rfl) h
  obtain ⟨do_, r, e, b0, h1⟩ := h0.i64 Tryz.underlying3
  subst e
  obtain ⟨n, r, e, b1, h2⟩ := h1.i64 Tryz.underlying3
  subst e
  obtain ⟨pa, r, e, b2, h3⟩ := h2.u32 Tryz.underlying26
  subst e
  obtain ⟨pl, r, e, b3, h4⟩ := h3.i64 Tryz.underlying3
  subst e
  obtain ⟨x, y, rfl, h5, h6⟩ := leaf_appv [3, 31, 26, 4, 22, 4, 22, 4, 4, 22, 26, 32, 33] [4] _ h4
  obtain ⟨d, rfl, hd, hv⟩ := attrs_leaf h5
  obtain ⟨t, r, e, h7⟩ := h6.bool Tryz.underlying4
  subst e
  obtain rfl := h7.nil'
  exact ⟨⟨do_, n, (pa, pl), d, t⟩, rfl, ⟨b0, b1, ⟨b2, b3⟩, hd⟩, hv⟩
theorem actsv_arg {W : World} {n : Nat} {a : Option Addr} {l c : Nat} (h : Rs Tryz.prog W n 50 [.slice a l c]) : ∃ es : List Av, es.length = l ∧ es.length ≤ 140737488355328 ∧ (∀ x ∈ es, AvN x) ∧ Kn (World.all W) (fun w => Vw w (.slice a es.length c) 18 es.length (flat avC es) ∧ ∀ x ∈ es, AtV w x.d) := by
  obtain ⟨es, rfl, h1, h2, h3, h4, h5⟩ := h.list (sz := 18) (b := 152) (enc := avC) (ok := fun x => AvN x ∧ AtV W x.d) Tryz.underlying50 (by kernel_rfl) (by kernel_rfl) actv_el
  exact ⟨es, rfl, by simp only [reachBytes] at h3; omega, fun x hx => (h5 x hx).1, kn_keep (fun hc h => ⟨vwKeep hc h.1, fun x hx => (h.2 x hx).keep hc⟩) ⟨h4, fun x hx => (h5 x hx).2⟩⟩
end Go.Proofs.YtdnokmpnemaoaaaGreat
namespace Go.Pm
set_option linter.unusedSimpArgs false
set_option linter.unusedVariables false
open Go.RowKit
section
variable {P : Program} {d : Option Tmp} {T : TypeId} {pos : String} {af : Array Edge} {gd : Option (Nat × Bool)}
theorem bp_no {α : Type} {k : IntKind} {x y : Int} {code : BoundsCode} {w w' : World} {v : α} : (boundsPanic k x y code : Sem α).run P w ≠ .ok v w' := by
  intro h
  unfold boundsPanic at h
  dsimp only at h
  split at h
  · rw [Sem.run_bind] at h
    generalize Sem.run P ((fun x => x == 1) <$> choose (Question.extern "runtime.boundsError.signed" 2)) w = r at h
    cases r with
    | ok s w2 => simp [runtimePanic, Sem.run_bind, goPanic] at h
    | _ => simp at h
  · simp [runtimePanic, Sem.run_bind, goPanic] at h
theorem andThen_no {α β : Type} {r : Result α} {f : α → World → Result β} (h : ∀ v w, r ≠ .ok v w) {u : β} {w' : World} : r.andThen f ≠ .ok u w' := by
  cases r with
  | ok v w => exact absurd rfl (h v w)
  | _ => intro k; cases k
theorem indep_len {x : Operand} {t : TypeId} (ht : tyIs P t isSliceD = true) : Indep P ⟨d, .call ⟨.builtin .len, #[x], #[t]⟩, T, pos, af, gd⟩ := ⟨rfl, fun ρ w w' v _ h => by
  obtain ⟨de, hd, hf⟩ := tyIs_spec ht
  cases de <;> simp [isSliceD] at hf
  unfold execOp at h ⊢
  simp only [resolve, Sem.run_bind, Sem.run_pure, Result.andThen_ok, invoke] at h ⊢
  have e : (#[x].map ρ) = #[ρ x] := by simp
  rw [e] at h ⊢
  cases hx : ρ x <;> simp [hx, builtin, Builtin.len_, Sem.run_bind, run_underlying hd, goInt, stuck] at h ⊢
  all_goals first | exact h | (cases h; rfl)⟩
theorem indep_min {x : Operand} {ts : Array TypeId} {k : IntKind} {b : Int} : Indep P ⟨d, .call ⟨.builtin .min, #[x, .const (.int k b)], ts⟩, T, pos, af, gd⟩ := ⟨rfl, fun ρ w w' v hc h => by
  have hb := hc (.int k b) (by simp [Op.operands, Call.operands])
  unfold execOp at h ⊢
  simp only [resolve, Sem.run_bind, Sem.run_pure, Result.andThen_ok, invoke] at h ⊢
  have e : (#[x, .const (.int k b)].map ρ) = #[ρ x, .int k b] := by simp [hb]
  rw [e] at h ⊢
  cases hx : ρ x with
  | pointer o => cases o <;> simp [hx, builtin, Builtin.min_, Builtin.min2, Sem.run_bind, stuck] at h
  | _ => simp [hx, builtin, Builtin.min_, Builtin.min2, Sem.run_bind, stuck] at h ⊢ <;> exact h⟩
theorem indep_slice0 {x y : Operand} {t e : TypeId} {sz b' : Nat} (ht : elemInfo P t = some (e, sz, b')) : Indep P ⟨d, .slice t x none (some y) none, T, pos, af, gd⟩ := ⟨rfl, fun ρ w w' v _ h => by
  obtain ⟨inf, hu, hin, hsz, _⟩ := elemInfo_spec ht
  unfold execOp at h ⊢
  cases hx : ρ x with
  | slice a n c =>
    cases hy : ρ y with
    | int k z =>
      by_cases hb : 0 ≤ z ∧ z ≤ (c : Int)
      · simp [hx, hy, hb, Instr.sliceAt, Instr.slice, Instr.sliceBounds, Instr.sliceBound, asIntOf, Sem.run_bind, run_underlying hu, run_sz hin] at h ⊢
        exact h
      · exfalso
        simp [hx, hy, hb, Instr.sliceAt, Instr.slice, Instr.sliceBounds, Instr.sliceBound, asIntOf, Sem.run_bind, run_underlying hu, run_sz hin] at h
        exact andThen_no (fun v w => andThen_no fun v w => bp_no) h
    | pointer o =>
      exfalso
      cases o <;> simp [hx, hy, Instr.sliceAt, Instr.slice, Instr.sliceBounds, Instr.sliceBound, asIntOf, Sem.run_bind, run_underlying hu] at h
    | _ =>
      exfalso
      simp [hx, hy, Instr.sliceAt, Instr.slice, Instr.sliceBounds, Instr.sliceBound, asIntOf, Sem.run_bind, run_underlying hu] at h
      done
  | _ =>
    exfalso
    simp [hx, Instr.sliceAt, Instr.slice, Sem.run_bind, run_underlying hu, stuck] at h
    done⟩
end
end Go.Pm
namespace Go.Proofs.YtdnokmpnemaoaaaGreat
set_option linter.unusedSimpArgs false
set_option linter.unusedVariables false
set_option maxRecDepth 20000
set_option maxHeartbeats 4000000
open Go.RowKit Go.Pm

open T (Pf PfN Rt Ah pfC)
theorem fewv_s (d : At) (hN : AtN d) : Pact Tryz.prog 20 #[.agg (atC d).toArray] (fun w => AtV w d) [] (CopyR d.trW) := by
  refine pact Tryz.func20 rfl Tryz.ntmps20 rfl ?_
  intro W K hK
  refine J_fact (φ := (d.path.length ≤ d.pc ∧ d.pc ≤ maxLen) ∧ (d.comms.length ≤ d.cc ∧ d.cc ≤ maxLen) ∧ (d.others.length ≤ d.oc ∧ d.oc ≤ maxLen)) (fun w H => ?_) ?_
  · have h := hK.of H
    refine ⟨?_, ?_, ?_⟩
    · obtain ⟨a', c', he, h1, h2⟩ := h.path.vw.shape
      cases he
      exact ⟨h1, h2⟩
    · obtain ⟨a', c', he, h1, h2⟩ := h.comms.shape
      cases he
      exact ⟨h1, h2⟩
    · obtain ⟨a', c', he, h1, h2⟩ := h.others.vw.shape
      cases he
      exact ⟨h1, h2⟩
  rintro ⟨⟨hp, hp2⟩, ⟨hc, hc2⟩, ⟨ho, ho2⟩⟩
  unfold maxLen at hp2 hc2 ho2
  have e1 : d.trW.path.length = (min (d.path.length : Int) 6).toNat := by simp [At.trW, At.at_]; omega
  have e2 : d.trW.comms.length = (min (d.comms.length : Int) 40).toNat := by simp [At.trW, At.at_]; omega
  have e3 : d.trW.others.length = (min (d.others.length : Int) 9).toNat := by simp [At.trW, At.at_]; omega
  (iterate 6 (first | ((with_reducible apply gL); (first | refine yL0 ?_ | refine yL ?_ | (refine yM ?_; intro _) | fail)) | ((with_reducible apply gD); (first | (refine JD_nil ?_; try simp only [List.cons_append, List.nil_append]) | (refine JD_bar ?_; try simp only [List.cons_append, List.nil_append]) | refine yD ?_ | fail)) | refine yJ ?_ | refine J_draw (id := 1) [0, 1, 2, 3, 4, 5, 6, 7, 8, 9, 10, 11, 12, 13, 14, 15, 16, 17, 18, 19, 20, 21, 22, 23, 24] [25, 26] mixed xC xD xD ?_ | fail))
  refine J_drawF (id := 1) [0, 1, 2, 3, 4, 5, 6, 7, 8, 9, 10, 11, 12, 13, 14, 15, 16, 17, 18, 19, 20] [21, 22, 23, 24, 25, 26] [11, 12, 13, 18, 19, 20] mixed xC xD xD ?_ ?_
  · intro i hi
    simp only [List.mem_cons, List.not_mem_nil, or_false] at hi
    rcases hi with rfl | rfl | rfl | rfl | rfl | rfl
    · exact indep_len (by rfl)
    · exact indep_min
    · exact indep_slice0 (tabE etab_ok xR)
    · exact indep_len (by rfl)
    · exact indep_min
    · exact indep_slice0 (tabE etab_ok xR)
  (repeat' (first | ((with_reducible apply gL); (first | refine yL0 ?_ | refine yL ?_ | ((with_reducible apply gL_go); (first | (refine JL_goq (acopy_s d.trW (At.trW_few hN) _ _ _ e1 e2 e3) (hφ := (by (try simp only [List.cons_append, List.nil_append]); exact fun w hr => (hK w hr.1).trW)) (h := ?_); rintro _ _ ⟨d', hd', hnf, rfl, rfl⟩; try simp only [List.cons_append, List.nil_append]) | fail)) | (refine yM ?_; intro _) | fail)) | ((with_reducible apply gD); (first | (refine JD_nil ?_; try simp only [List.cons_append, List.nil_append]) | (refine JD_bar ?_; try simp only [List.cons_append, List.nil_append]) | refine yD ?_ | fail)) | refine yJ ?_ | refine J_draw (id := 1) [0, 1, 2, 3, 4, 5, 6, 7, 8, 9, 10, 11, 12, 13, 14, 15, 16, 17, 18, 19, 20, 21, 22, 23, 24] [25, 26] mixed xC xD xD ?_ | fail))
  exact J_retC (cs := atC d') rfl (by rfl) xA (by rfl) fun w H => ⟨_, ⟨d', hd', hnf, rfl, rfl⟩, H.sel xZ⟩
theorem fewV : FewV At.trW := ⟨fun _ h => At.trW_few h, fewv_s⟩
end Go.Proofs.YtdnokmpnemaoaaaGreat
namespace Go.Proofs.YtdnokmpnemaoaaaGreat
set_option linter.unusedSimpArgs false
set_option linter.unusedVariables false
open Go.RowKit Go.Pm

namespace viewPlays
theorem walk {W : World} (n0 : Nat) {a0 : Option Addr} {l0 c0 : Nat} (g0 : Rs Tryz.prog W n0 50 (Value.slice a0 l0 c0).cells.toList) :
    Calls Tryz.prog 5 #[.slice a0 l0 c0] W fun e w' => e = .returned (.bool true) ∧ Only [] W w' := by
  obtain ⟨acts, rfl, h1, h2, h3⟩ := actsv_arg g0
  exact (playsv_s fewV a0 c0 acts h2 h1).law h3
end viewPlays
namespace viewPlays
open Go.ChangeShapes Go.WideShapes Go.ChangeAt
set_option linter.unusedVariables false

theorem own : ownKnob Tryz.prog.godebug = none := by kernel_rfl
theorem laidOut : laidOutB Tryz.prog = true := by kernel_rfl

set_option maxRecDepth 100000 in
theorem lifted (os : Os) (started : os.Started) (H : Type) (enc : TypeId × Value → H) :
    ReturnsInHanded {} Tryz.checked os 5 .any (Rows.viewPlaysSpec.pre6 enc Tryz.prog Tryz.f5 Rows.viewPlaysRow.domain false) (Rows.viewPlaysSpec.post enc Tryz.prog Tryz.f5 false true false false) := by
  refine returnsInHanded_of_change_sized (C := Tryz.checked) own started (by kernel_rfl) Tryz.func5
    (ChangeSpec.witness6 (enc := enc) (C := Tryz.checked) false ⟨#[], #[.slice none 0 0], []⟩ 8 (by kernel_rfl) (by kernel_rfl) (by kernel_rfl) (by kernel_rfl)) ?_
  intro W base args ds gs before hval0 hW hcnd hsz hreach
  have hval : ∀ (j : Nat) t v, Tryz.f5.params[j]? = some t → args[j]? = some v → Value.okWide Tryz.prog W .any base t v := hval0
  have hW' := hW
  obtain ⟨p, q, hA0, hV, rfl, hfz, hnd⟩ := hW
  have hA : DataW.TrodAll enc Tryz.prog W 0 (fun _ => true) true Tryz.f5.params.toList args.toList ds p := hA0
  rw [Tryz.params5] at hA hval
  obtain ⟨v0, vs0, d0, ds0, p0, q0, hargs, rfl, rfl, h0, r0⟩ := trodAll_cons hA
  obtain ⟨rfl, rfl, rfl⟩ := trodAll_nil r0
  obtain rfl : args = #[v0] := by cases args; simp_all
  obtain ⟨rfl, rfl⟩ := trodVars_none hV
  have k0 := h0
  have lt0 : ∀ x ∈ p0, x.block < W.heap.size := by obtain ⟨m, hm⟩ := k0; exact DataW.trod_lt m _ _ _ hm
  obtain ⟨n0, g0⟩ := Rs.of_weights hsz 0 (by first | rfl | (simp [Tryz.params5])) rfl h0
  obtain ⟨a0, l0, c0, rfl⟩ := okWide_slice Tryz.underlying50 (hval 0 50 v0 rfl rfl)
  refine (walk n0 g0).mono fun e W' ⟨he, hg⟩ => ?_
  subst he
  have bel := hg.belowNil
  exact ⟨_, rfl, _, _, _, [], _, [], hW', trodAll_mk1 (shut_bool Tryz.underlying4 _), (trodAll_cons_mk (Below.trod laidOut (by kernel_rfl) (of_decide_eq_true (by kernel_rfl)) k0 bel lt0) trodAll_mk0), rfl, bel.frame _, fun h => by cases h⟩

theorem over : Rows.viewPlaysRow.holds Tryz.pinned (OpenSpec.ofChange Rows.viewPlaysSpec) :=
  OpenClaim.holds_of_wide 5 Tryz.f5 rfl rfl rfl rfl rfl rfl rfl ⟨rfl, rfl, rfl, rfl, rfl⟩ rfl rfl rfl rfl rfl (by kernel_rfl) Tryz.func5 (by kernel_rfl)
    (of_decide_eq_true (by kernel_rfl)) (by unfold Func.isWrapper; first | (rw [if_pos (by decide +kernel)]; kernel_rfl) | (rw [if_neg (by decide +kernel)]; exact ⟨rfl, rfl⟩))
    (fun os started H enc _ => lifted os started H enc)

theorem proved : Rows.ViewPlaysSaid := over
#print axioms proved
end viewPlays
end Go.Proofs.YtdnokmpnemaoaaaGreat
