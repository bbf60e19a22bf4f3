/-
  Cq7, Aq2, Aq3, Jv: merged.
-/
import Derived.Test.YtmbgbhambgoejaaZRunMeans10
import Derived.Laws.Concat
import Derived.Laws.Strings2
namespace Go.Proofs.Ytmbgbhambgoejaa.C
set_option linter.unusedSimpArgs false
set_option linter.unusedVariables false
set_option maxRecDepth 20000
set_option maxHeartbeats 4000000
open Go.RowKit Go.Pm

structure Cd where
  op : Int
  n : Int
  pa : Int
  pl : Int
  a : Option Addr
  c : Nat
  l : List Cd
structure St where
  op : Int
  n : Int
  m : Int
  cd : Cd
  ta : Option Addr
  tc : Nat
  th : List St
  ea : Option Addr
  ec : Nat
  el : List St
abbrev cdC (x : Cd) : List Value := [.int .i64 x.op, .slice x.a x.l.length x.c, .int .u32 x.pa, .int .i64 x.pl, .int .i64 x.n]
abbrev stC (s : St) : List Value := [.int .i64 s.op, .int .i64 s.cd.op, .slice s.cd.a s.cd.l.length s.cd.c, .int .u32 s.cd.pa, .int .i64 s.cd.pl, .int .i64 s.cd.n, .slice s.ta s.th.length s.tc, .slice s.ea s.el.length s.ec, .int .i64 s.n, .int .i64 s.m]
structure CdN (x : Cd) : Prop where
  op : I64 x.op
  n : I64 x.n
  pa : U32 x.pa
  pl : I64 x.pl
structure StN (s : St) : Prop where
  op : I64 s.op
  n : I64 s.n
  m : I64 s.m
  cd : CdN s.cd
def CdR : Nat → Cd → Prop
  | 0, x => CdN x ∧ x.l.length ≤ 140737488355328
  | d + 1, x => CdN x ∧ x.l.length ≤ 140737488355328 ∧ ∀ y ∈ x.l, CdR d y
def CdV (w : World) : Nat → Cd → Prop
  | 0, _ => True
  | d + 1, x => Vw w (.slice x.a x.l.length x.c) 5 x.l.length (flat cdC x.l) ∧ ∀ y ∈ x.l, CdV w d y
def CdF : Nat → Cd → Prop
  | 0, x => CdN x ∧ x.l = []
  | d + 1, x => CdN x ∧ x.l.length ≤ 5 ∧ ∀ y ∈ x.l, CdF d y
def LsR : Nat → List St → Prop
  | 0, l => l.length ≤ 140737488355328
  | d + 1, l => l.length ≤ 140737488355328 ∧ ∀ s ∈ l, StN s ∧ CdR 5 s.cd ∧ LsR d s.th ∧ LsR d s.el
def LsV (w : World) : Nat → Option Addr → Nat → List St → Prop
  | 0, _, _, _ => True
  | d + 1, a, c, l => Vw w (.slice a l.length c) 10 l.length (flat stC l) ∧ ∀ s ∈ l, CdV w 5 s.cd ∧ LsV w d s.ta s.tc s.th ∧ LsV w d s.ea s.ec s.el
def LsF : Nat → List St → Prop
  | 0, l => l = []
  | d + 1, l => l.length ≤ 5 ∧ ∀ s ∈ l, StN s ∧ CdF 5 s.cd ∧ LsF d s.th ∧ LsF d s.el
theorem CdR.nn {d : Nat} {x : Cd} (h : CdR d x) : CdN x := by
  cases d with
  | zero => exact h.1
  | succ d => exact h.1
theorem CdR.len {d : Nat} {x : Cd} (h : CdR d x) : x.l.length ≤ 140737488355328 := by
  cases d with
  | zero => exact h.2
  | succ d => exact h.2.1
theorem CdF.nn {d : Nat} {x : Cd} (h : CdF d x) : CdN x := by
  cases d with
  | zero => exact h.1
  | succ d => exact h.1
structure Lc where
  k : Nat
  ys : List Cd
  a : Option Addr
  c : Nat
theorem cond_s : ∀ (d : Nat) (x : Cd), CdR d x → d ≤ 64 → Pact Try.prog 14 #[.agg (cdC x).toArray, .int .i64 d] (fun w => CdV w d x) [] (fun u L' => ∃ y, CdF d y ∧ u = .agg (cdC y).toArray ∧ L' = [has (fun w => CdV w d y)]) := by
  intro d
  induction d with
  | zero =>
    intro x hx _
    have hxl := hx.len
    refine pact Try.func14 rfl Try.ntmps14 rfl ?_
    intro W K hK
    (repeat' (first | ((with_reducible apply gL); (first | refine yL0 ?_ | refine yL ?_ | (refine yM ?_; intro _) | (refine yA ?_; intro _ _ _ _) | ((with_reducible apply gL_gd); (first | (refine JL_guard xR xR ?_ ?_ <;> intro _ <;> (try (exfalso; first | contradiction | omega))) | (refine JL_guardb xR xR ?_ ?_ <;> (intro hgb; subst hgb)) | (refine JL_guardb xR xR ?_ ?_ <;> (intro hgb; fail_if_success (have : type_of% hgb := rfl))) | fail)) | fail)) | refine yJ ?_ | ((with_reducible apply gJ_if); (first | (refine J_if xR ?_ ?_ <;> intro _ <;> (try (exfalso; first | contradiction | omega))) | (refine J_ifb xR ?_ ?_ <;> (intro hgb; subst hgb)) | (refine J_ifb xR ?_ ?_ <;> intro _) | fail)) | fail))
    rename_i b1 b2 b3
    refine J_loop (α := Unit) () (fun _ => 0) (fun _ => True) (fun _ => [(1, .int .i64 ((0 : Nat) : Int)), (2, .pointer (some ⟨b1, 0, none⟩)), (4, .pointer (some ⟨b2, 0, none⟩)), (5, .slice (some ⟨b3, 0, none⟩) 0 0), (6, .int .i64 0)])
      (fun _ => [pts b1 (cdC x) 50, pts b2 [.int .i64 0, .slice none 0 0, .int .u32 0, .int .i64 0, .int .i64 0] 50]) trivial ⟨rfl, rfl, rfl, rfl, rfl, trivial⟩ (fun w H => H.sel xZ) ?_
    rintro ⟨⟩ _
    (repeat' (first | ((with_reducible apply gL); (first | refine yL0 ?_ | refine yL ?_ | (refine yM ?_; intro _) | (refine yA ?_; intro _ _ _ _) | ((with_reducible apply gL_gd); (first | (refine JL_guard xR xR ?_ ?_ <;> intro _ <;> (try (exfalso; first | contradiction | omega))) | (refine JL_guardb xR xR ?_ ?_ <;> (intro hgb; subst hgb)) | (refine JL_guardb xR xR ?_ ?_ <;> (intro hgb; fail_if_success (have : type_of% hgb := rfl))) | fail)) | fail)) | refine yJ ?_ | ((with_reducible apply gJ_if); (first | (refine J_if xR ?_ ?_ <;> intro _ <;> (try (exfalso; first | contradiction | omega))) | (refine J_ifb xR ?_ ?_ <;> (intro hgb; subst hgb)) | (refine J_ifb xR ?_ ?_ <;> intro _) | fail)) | fail))
    all_goals exact J_retC (cs := [.int .i64 x.op, .slice (some ⟨b3, 0, none⟩) 0 0, .int .u32 x.pa, .int .i64 x.pl, .int .i64 x.n]) rfl (by rfl) xA (by rfl) fun w H => ⟨_, ⟨⟨x.op, x.n, x.pa, x.pl, some ⟨b3, 0, none⟩, 0, []⟩, ⟨⟨hx.1.op, hx.1.n, hx.1.pa, hx.1.pl⟩, rfl⟩, rfl, rfl⟩, (Ow.hasTrue (φ := fun w => CdV w 0 _) H (fun _ => trivial)).sel xZ⟩
  | succ d ih =>
    intro x hx hd
    have hxl := hx.len
    refine pact Try.func14 rfl Try.ntmps14 rfl ?_
    intro W K hK
    have hkv : Kn K (fun w => Vw w (.slice x.a x.l.length x.c) 5 x.l.length (flat cdC x.l)) := hK.imp fun w h => h.1
    have hkl : ∀ y ∈ x.l, Kn K (fun w => CdV w d y) := fun y hy => hK.imp fun w h => h.2 y hy
    have hd1 : (d : Int) + 1 - 1 = d := by omega
    (repeat' (first | ((with_reducible apply gL); (first | refine yL0 ?_ | refine yL ?_ | (refine yM ?_; intro _) | (refine yA ?_; intro _ _ _ _) | ((with_reducible apply gL_gd); (first | (refine JL_guard xR xR ?_ ?_ <;> intro _ <;> (try (exfalso; first | contradiction | omega))) | (refine JL_guardb xR xR ?_ ?_ <;> (intro hgb; subst hgb)) | (refine JL_guardb xR xR ?_ ?_ <;> (intro hgb; fail_if_success (have : type_of% hgb := rfl))) | fail)) | fail)) | refine yJ ?_ | ((with_reducible apply gJ_if); (first | (refine J_if xR ?_ ?_ <;> intro _ <;> (try (exfalso; first | contradiction | omega))) | (refine J_ifb xR ?_ ?_ <;> (intro hgb; subst hgb)) | (refine J_ifb xR ?_ ?_ <;> intro _) | fail)) | fail))
    rename_i b1 b2 b3
    refine J_loop (α := Lc) ⟨0, [], some ⟨b3, 0, none⟩, 0⟩ (fun z => 5 - z.k) (fun z => z.k ≤ x.l.length ∧ z.k ≤ 5 ∧ z.k = z.ys.length ∧ ∀ y ∈ z.ys, CdF d y) (fun z => [(1, .int .i64 ((d : Int) + 1)), (2, .pointer (some ⟨b1, 0, none⟩)), (4, .pointer (some ⟨b2, 0, none⟩)), (5, .slice z.a z.ys.length z.c), (6, .int .i64 z.k)])
      (fun z => [pts b1 (cdC x) 50, pts b2 [.int .i64 0, .slice none 0 0, .int .u32 0, .int .i64 0, .int .i64 0] 50, Ar 50 5 cdC (.slice z.a z.ys.length z.c) z.ys, has (fun w => ∀ y ∈ z.ys, CdV w d y)]) ⟨Nat.zero_le _, Nat.zero_le _, rfl, by simp⟩ ⟨rfl, rfl, rfl, rfl, rfl, trivial⟩ (fun w H => (Ow.hasTrue (φ := fun w => ∀ y ∈ ([] : List Cd), CdV w d y) (Ow.arLit0 (sz := 5) (enc := cdC) H xA) (by intro _ _ h; exact absurd h List.not_mem_nil)).sel xZ) ?_
    rintro ⟨k, ys, a, c⟩ ⟨hk, hk5, hky, hys⟩
    dsimp only at hk hk5 hky hys ⊢
    by_cases hlt : k < x.l.length ∧ k < 5
    · obtain ⟨hlt, hlt5⟩ := hlt
      obtain ⟨y, hs⟩ : ∃ y, x.l[k]? = some y := ⟨_, List.getElem?_eq_getElem hlt⟩
      have hm := List.mem_of_getElem? hs
      have hyr := hx.2.2 y hm
      (repeat' (first | ((with_reducible apply gL); (first | refine yL0 ?_ | refine yL ?_ | (refine yM ?_; intro _) | (refine yA ?_; intro _ _ _ _) | ((with_reducible apply gL_gd); (first | (refine JL_guard xR xR ?_ ?_ <;> intro _ <;> (try (exfalso; first | contradiction | omega))) | (refine JL_guardb xR xR ?_ ?_ <;> (intro hgb; subst hgb)) | (refine JL_guardb xR xR ?_ ?_ <;> (intro hgb; fail_if_success (have : type_of% hgb := rfl))) | fail)) | fail)) | refine yJ ?_ | ((with_reducible apply gJ_if); (first | (refine J_if xR ?_ ?_ <;> intro _ <;> (try (exfalso; first | contradiction | omega))) | (refine J_ifb xR ?_ ?_ <;> (intro hgb; subst hgb)) | (refine J_ifb xR ?_ ?_ <;> intro _) | fail)) | fail))
      rw [hd1]
      (repeat' (first | ((with_reducible apply gL); (first | refine yL0 ?_ | ((with_reducible apply gL_c_append); (first | (refine JL_ap1 (z := z) (tabE etab_ok xR) xR xR xA xA xC xR xL xR (by omega) xR xR ?_; intro ad2 c2 _ _) | fail)) | refine yL ?_ | ((with_reducible apply gL_go); (first | (refine JL_goq (ih y hyr (by omega)) (hφ := (by (try simp only [List.cons_append, List.nil_append]); exact fun w hr => hkl y hm w hr.1)) (h := ?_); rintro _ _ ⟨z, hz, rfl, rfl⟩; try simp only [List.cons_append, List.nil_append]) | fail)) | (refine yM ?_; intro _) | (refine yA ?_; intro _ _ _ _) | ((with_reducible apply gL_gd); (first | (refine JL_guard xR xR ?_ ?_ <;> intro _ <;> (try (exfalso; first | contradiction | omega))) | (refine JL_guardb xR xR ?_ ?_ <;> (intro hgb; subst hgb)) | (refine JL_guardb xR xR ?_ ?_ <;> (intro hgb; fail_if_success (have : type_of% hgb := rfl))) | fail)) | fail)) | refine yJ ?_ | ((with_reducible apply gJ_if); (first | (refine J_if xR ?_ ?_ <;> intro _ <;> (try (exfalso; first | contradiction | omega))) | (refine J_ifb xR ?_ ?_ <;> (intro hgb; subst hgb)) | (refine J_ifb xR ?_ ?_ <;> intro _) | fail)) | fail))
      refine J_again ⟨k + 1, ys ++ [z], ad2, c2⟩ (by dsimp only; omega) ⟨hlt, by dsimp only; omega, by simp [hky], ?_⟩ ⟨rfl, rfl, rfl, ?_, rfl, trivial⟩ (fun w H => ?_)
      · intro y' hy'
        rcases List.mem_append.1 hy' with h | h
        · exact hys y' h
        · obtain rfl := List.mem_singleton.1 h
          exact hz
      · show some _ = some _
        simp
      · simp only [List.length_append, List.length_cons, List.length_nil]
        refine (Ow.has (M := [has (fun w => CdV w d z), has (fun w => ∀ y ∈ ys, CdV w d y)]) (φ := fun w => ∀ y ∈ ys ++ [z], CdV w d y) H xZ ?_).sel xZ
        intro w hr y' hy'
        rcases List.mem_append.1 hy' with h | h
        · exact hr.has (.there .here) y' h
        · obtain rfl := List.mem_singleton.1 h
          exact hr.has .here
    · (repeat' (first | ((with_reducible apply gL); (first | refine yL0 ?_ | refine yL ?_ | (refine yM ?_; intro _) | (refine yA ?_; intro _ _ _ _) | ((with_reducible apply gL_gd); (first | (refine JL_guard xR xR ?_ ?_ <;> intro _ <;> (try (exfalso; first | contradiction | omega))) | (refine JL_guardb xR xR ?_ ?_ <;> (intro hgb; subst hgb)) | (refine JL_guardb xR xR ?_ ?_ <;> (intro hgb; fail_if_success (have : type_of% hgb := rfl))) | fail)) | fail)) | refine yJ ?_ | ((with_reducible apply gJ_if); (first | (refine J_if xR ?_ ?_ <;> intro _ <;> (try (exfalso; first | contradiction | omega))) | (refine J_ifb xR ?_ ?_ <;> (intro hgb; subst hgb)) | (refine J_ifb xR ?_ ?_ <;> intro _) | fail)) | fail))
      all_goals (first | (exfalso; omega) | skip)
      all_goals exact J_retC (cs := [.int .i64 x.op, .slice a ys.length c, .int .u32 x.pa, .int .i64 x.pl, .int .i64 x.n]) rfl (by rfl) xA (by rfl) fun w H => ⟨_, ⟨⟨x.op, x.n, x.pa, x.pl, a, c, ys⟩, ⟨⟨hx.1.op, hx.1.n, hx.1.pa, hx.1.pl⟩, by show ys.length ≤ 5; omega, hys⟩, rfl, rfl⟩, (Ow.has (M := [Ar 50 5 cdC (.slice a ys.length c) ys, has (fun w => ∀ y ∈ ys, CdV w d y)]) (φ := fun w => CdV w (d + 1) ⟨x.op, x.n, x.pa, x.pl, a, c, ys⟩) H xZ (fun w hr => ⟨Src.ar .here w hr, hr.has (.there .here)⟩)).sel xZ⟩
end Go.Proofs.Ytmbgbhambgoejaa.C
namespace Go.Proofs.Ytmbgbhambgoejaa
set_option linter.unusedSimpArgs false
set_option linter.unusedVariables false
set_option maxRecDepth 20000
set_option maxHeartbeats 4000000
open Go.RowKit Go.Pm

structure Lc where
  q : List Sg
  ad : Option Addr
  cc : Nat
def PathR (p : List Sg) (v : Value) (L' : List HP) : Prop := ∃ q a' c', v = .slice a' q.length c' ∧ pN q = pN p ∧ L' = [has (fun w => PathV w a' c' q)]
theorem pcopy_s (a : Option Addr) (c : Nat) (p : List Sg) (n : Nat) (hn : p.length = n) (h8 : n ≤ 1000) (hsm : ∀ s ∈ p, SgN s) : Pact Try.prog 27 #[.slice a n c] (fun w => PathV w a c p) [] (PathR p) := by
  subst hn
  refine pact Try.func27 rfl Try.ntmps27 rfl ?_
  intro W K hK
  have hv : Kn K (fun w => Vw w (.slice a p.length c) 2 p.length (flat sgC p)) := hK.imp fun _ h => h.vw
  (repeat' (first | ((with_reducible apply gL); (first | refine yL0 ?_ | refine yL ?_ | (refine yM ?_; intro _) | fail)) | ((with_reducible apply gD); (first | (refine JD_nil ?_; try simp only [List.cons_append, List.nil_append]) | (refine JD_bar ?_; try simp only [List.cons_append, List.nil_append]) | refine yD ?_ | (refine yE ?_; intro _) | (refine yB ?_; intro _ _ _ _) | fail)) | refine yJ ?_ | ((with_reducible apply gJ_if); (first | (refine J_if xR ?_ ?_ <;> intro _ <;> (try (exfalso; first | contradiction | omega))) | (refine J_ifb xR ?_ ?_ <;> (intro hgb; subst hgb)) | (refine J_ifb xR ?_ ?_ <;> intro _) | fail)) | refine J_draw (id := 5) [0, 1, 2, 3, 4, 5, 7, 8, 9, 10, 11, 6, 12, 13, 14] [15, 16] mixed xC xD xD ?_ | fail))
  rename_i b0
  refine J_loop (α := Lc) ⟨[], some ⟨b0, 0, none⟩, 0⟩ (fun x => p.length - x.q.length) (fun x => x.q.length ≤ p.length ∧ pN x.q = pN (p.take x.q.length)) (fun x => [(0, .slice a p.length c), (3, .slice x.ad x.q.length x.cc), (4, .int .i64 x.q.length)])
    (fun x => [Ar 56 2 sgC (.slice x.ad x.q.length x.cc) x.q, has (fun w => ∀ s ∈ x.q, segV w s)]) ⟨Nat.zero_le _, rfl⟩ ⟨rfl, rfl, rfl, trivial⟩ (fun w H => (Ow.hasTrue (φ := fun w => ∀ s ∈ ([] : List Sg), segV w s) (H.arLit0 .here) (by intro _ _ h; exact absurd h List.not_mem_nil)).sel xZ) ?_
  rintro ⟨q, ad, cc⟩ ⟨hq, hsame⟩
  dsimp only at hq hsame ⊢
  by_cases hlt : q.length < p.length
  · obtain ⟨s, hs⟩ : ∃ s, p[q.length]? = some s := ⟨_, List.getElem?_eq_getElem hlt⟩
    have hm := List.mem_of_getElem? hs
    have hsn := hsm s hm
    have hsn1 := hsn.1
    have hu : Kn K (fun w => Vw w (.slice s.a s.as_.length s.c) 1 s.as_.length (flat u32C s.as_)) := hK.imp fun _ h => h.segs s hm
    (repeat' (first | ((with_reducible apply gL); (first | refine yL0 ?_ | refine yL ?_ | (refine yM ?_; intro _) | fail)) | ((with_reducible apply gD); (first | (refine JD_nil ?_; try simp only [List.cons_append, List.nil_append]) | (refine JD_bar ?_; try simp only [List.cons_append, List.nil_append]) | ((with_reducible apply gD_c_append); (first | ((refine JD_appL u32C (tabE etab_ok (by rfl)) (by rfl) (by rfl) xA (Src.kn hu) (by decide +kernel) (by intro _; rfl) (all_one _ (by intro _ _; rfl)) (by omega) (by rfl) ?_; intro ad2 c2 _ _)) | ((refine JD_ap1 (z := Sg.mk s.set ad2 c2 s.as_) (tabE etab_ok (by rfl)) (by rfl) (by rfl) xA xA (by decide +kernel) (by rfl) (by intro _; rfl) (by rfl) (by omega) (by rfl) ?_; intro ad3 c3 _ _)) | fail)) | refine yD ?_ | (refine yE ?_; intro _) | (refine yB ?_; intro _ _ _ _) | fail)) | refine yJ ?_ | ((with_reducible apply gJ_if); (first | (refine J_if xR ?_ ?_ <;> intro _ <;> (try (exfalso; first | contradiction | omega))) | (refine J_ifb xR ?_ ?_ <;> (intro hgb; subst hgb)) | (refine J_ifb xR ?_ ?_ <;> intro _) | fail)) | refine J_draw (id := 5) [0, 1, 2, 3, 4, 5, 7, 8, 9, 10, 11, 6, 12, 13, 14] [15, 16] mixed xC xD xD ?_ | fail))
    refine J_again ⟨q ++ [Sg.mk s.set ad2 c2 s.as_], ad3, c3⟩ (by simp; omega) ⟨by simp; omega, ?_⟩ ⟨rfl, ?_, ?_, trivial⟩ (fun w H => ?_)
    · simp only [List.length_append, List.length_cons, List.length_nil]
      rw [take_snoc hs]
      unfold pN at hsame ⊢
      rw [List.map_append, List.map_append, hsame]
      rfl
    · show some _ = some _
      simp
    · show some _ = some _
      simp
    · simp only [List.length_append, List.length_cons, List.length_nil]
      refine (Ow.has (M := [Ar 25 1 u32C (.slice ad2 s.as_.length c2) s.as_, has (fun w => ∀ s ∈ q, segV w s)]) (φ := fun w => ∀ x ∈ q ++ [Sg.mk s.set ad2 c2 s.as_], segV w x) H xZ ?_).sel xZ
      intro w hr x hx
      rcases List.mem_append.1 hx with hx | hx
      · exact hr.has (.there .here) x hx
      · obtain rfl := List.mem_singleton.1 hx
        exact Src.ar .here w hr
  · obtain hql : q.length = p.length := by omega
    rw [hql, List.take_length] at hsame
    (repeat' (first | ((with_reducible apply gL); (first | refine yL0 ?_ | refine yL ?_ | (refine yM ?_; intro _) | fail)) | ((with_reducible apply gD); (first | (refine JD_nil ?_; try simp only [List.cons_append, List.nil_append]) | (refine JD_bar ?_; try simp only [List.cons_append, List.nil_append]) | refine yD ?_ | (refine yE ?_; intro _) | (refine yB ?_; intro _ _ _ _) | fail)) | refine yJ ?_ | ((with_reducible apply gJ_if); (first | (refine J_if xR ?_ ?_ <;> intro _ <;> (try (exfalso; first | contradiction | omega))) | (refine J_ifb xR ?_ ?_ <;> (intro hgb; subst hgb)) | (refine J_ifb xR ?_ ?_ <;> intro _) | fail)) | refine J_draw (id := 5) [0, 1, 2, 3, 4, 5, 7, 8, 9, 10, 11, 6, 12, 13, 14] [15, 16] mixed xC xD xD ?_ | fail))
    refine J_ret1 rfl (by rfl) fun w H => ⟨_, ⟨q, ad, cc, rfl, hsame, rfl⟩, ?_⟩
    refine (Ow.has (M := [Ar 56 2 sgC (.slice ad q.length cc) q, has (fun w => ∀ s ∈ q, segV w s)]) (φ := fun w => PathV w ad cc q) H xZ ?_).sel xZ
    intro w hr
    exact ⟨Src.ar .here w hr, fun s hs => hr.has (.there .here) s hs⟩
structure Lo where
  q : List Rw
  ad : Option Addr
  cc : Nat
def cpC (d : At) (n : Nat) (a' : Option Addr) (c' : Nat) (ad2 : Option Addr) (c2 : Nat) (oa : Option Addr) (k oc : Nat) : List Value := [.int .i64 d.origin, .slice a' n c', .int .u32 d.next, .bool d.hasMed, .int .u32 d.med, .bool d.hasLocal, .int .u32 d.loc, .bool d.atomic, .bool d.hasMaker, .int .u32 d.makerAS, .int .u32 d.maker, .slice ad2 d.comms.length c2, .slice oa k oc]
theorem acopy_s (d : At) (hd : AtF d) (n m k : Nat) (hn : d.path.length = n) (hm : d.comms.length = m) (hk : d.others.length = k) : Pact Try.prog 15 #[.agg (atN d n m k).toArray] (fun w => AtV w d) [] (CopyR d) := by
  subst hn hm hk
  refine pact Try.func15 rfl Try.ntmps15 rfl ?_
  intro W K hK
  have hd1 := hd.path
  have hd2 := hd.comms
  have hd3 := hd.others
  have hcv : Kn K (fun w => Vw w (.slice d.ca d.comms.length d.cc) 1 d.comms.length (flat u32C d.comms)) := hK.imp fun _ h => h.comms
  have hov : Kn K (fun w => Vw w (.slice d.oa d.others.length d.oc) 2 d.others.length (flat rwC d.others)) := hK.imp fun _ h => h.others.vw
  (repeat' (first | ((with_reducible apply gL); (first | refine yL0 ?_ | ((with_reducible apply gL_c_append); (first | (refine JL_appL (fs := d.comms) u32C (tabE etab_ok (by rfl)) (by rfl) (by rfl) xA (Src.kn hcv) (by decide +kernel) (by intro _; rfl) (all_one _ (by intro _ _; rfl)) (by omega) (by rfl) (by rfl) ?_; intro ad2 c2 _ _) | fail)) | refine yL ?_ | ((with_reducible apply gL_go); (first | (refine JL_goq (pcopy_s d.pa d.pc d.path _ rfl (by omega) hd.num.path) (hφ := (by (try simp only [List.cons_append, List.nil_append]); exact fun w hr => (hK w hr.1).path)) (h := ?_); rintro _ _ ⟨q, a', c', rfl, hs, rfl⟩; try simp only [List.cons_append, List.nil_append]) | fail)) | (refine yM ?_; intro _) | (refine yA ?_; intro _ _ _ _) | fail)) | ((with_reducible apply gD); (first | (refine JD_nil ?_; try simp only [List.cons_append, List.nil_append]) | (refine JD_bar ?_; try simp only [List.cons_append, List.nil_append]) | ((with_reducible apply gD_c_append); (first | (refine JL_appL (fs := d.comms) u32C (tabE etab_ok (by rfl)) (by rfl) (by rfl) xA (Src.kn hcv) (by decide +kernel) (by intro _; rfl) (all_one _ (by intro _ _; rfl)) (by omega) (by rfl) (by rfl) ?_; intro ad2 c2 _ _) | fail)) | refine yD ?_ | (refine yE ?_; intro _) | (refine yB ?_; intro _ _ _ _) | fail)) | refine yJ ?_ | ((with_reducible apply gJ_if); (first | (refine J_if xR ?_ ?_ <;> intro _ <;> (try (exfalso; first | contradiction | omega))) | (refine J_ifb xR ?_ ?_ <;> (intro hgb; subst hgb)) | (refine J_ifb xR ?_ ?_ <;> intro _) | fail)) | refine J_draw (id := 8) [0, 1, 2, 3, 4, 5, 6, 7, 9, 10, 11, 12, 13, 14, 8, 15, 16, 17] [18, 19, 20] mixed xC xD xD ?_ | fail))
  rename_i b1 b2 b3 _ _ _ b4
  refine J_loop (α := Lo) ⟨[], some ⟨b4, 0, none⟩, 0⟩ (fun x => d.others.length - x.q.length) (fun x => x.q.length ≤ d.others.length ∧ oN x.q = oN (d.others.take x.q.length)) (fun x => [(1, .pointer (some ⟨b1, 0, none⟩)), (2, .pointer (some ⟨b2, 0, none⟩)), (3, .pointer (some ⟨b3, 0, none⟩)), (4, .int .i64 x.q.length)])
    (fun x => [pts b3 (cpC d q.length a' c' ad2 c2 x.ad x.q.length x.cc) 33, Ar 79 2 rwC (.slice x.ad x.q.length x.cc) x.q, has (fun w => ∀ s ∈ x.q, rawV w s), Ar 25 1 u32C (.slice ad2 d.comms.length c2) d.comms, has (fun w => PathV w a' c' q), pts b2 [.int .i64 0, .slice none 0 0, .int .u32 0, .bool false, .int .u32 0, .bool false, .int .u32 0, .bool false, .bool false, .int .u32 0, .int .u32 0, .slice none 0 0, .slice none 0 0] 33, pts b1 (atN d d.path.length d.comms.length d.others.length) 33]) ⟨Nat.zero_le _, rfl⟩ ⟨rfl, rfl, rfl, rfl, trivial⟩ (fun w H => (Ow.hasTrue (φ := fun w => ∀ s ∈ ([] : List Rw), rawV w s) (H.arLit0 xA) (by intro _ _ h; exact absurd h List.not_mem_nil)).sel xZ) ?_
  rintro ⟨o, oa, oc⟩ ⟨ho, hsame⟩
  dsimp only at ho hsame ⊢
  by_cases hlt : o.length < d.others.length
  · obtain ⟨s, hs⟩ : ∃ s, d.others[o.length]? = some s := ⟨_, List.getElem?_eq_getElem hlt⟩
    have hm := List.mem_of_getElem? hs
    have hsn := hd.num.others s hm
    have hsn1 := hsn.2.1
    have hu : Kn K (fun w => Vw w (.slice s.a s.data.length s.c) 1 s.data.length (flat byC s.data)) := hK.imp fun _ h => h.others.raws s hm
    (repeat' (first | ((with_reducible apply gL); (first | refine yL0 ?_ | ((with_reducible apply gL_c_append); (first | ((refine JD_appL byC (tabE etab_ok (by rfl)) (by rfl) (by rfl) xA (Src.kn hu) (by decide +kernel) (by intro _; rfl) (all_one _ (by intro _ _; rfl)) (by omega) (by rfl) ?_; intro ad3 c3 _ _)) | ((refine JD_ap1 (z := Rw.mk s.kind ad3 c3 s.data) (tabE etab_ok (by rfl)) (by rfl) (by rfl) xA xA (by decide +kernel) (by rfl) (by intro _; rfl) (by rfl) (by omega) (by rfl) ?_; intro ad4 c4 _ _)) | fail)) | refine yL ?_ | (refine yM ?_; intro _) | (refine yA ?_; intro _ _ _ _) | fail)) | ((with_reducible apply gD); (first | (refine JD_nil ?_; try simp only [List.cons_append, List.nil_append]) | (refine JD_bar ?_; try simp only [List.cons_append, List.nil_append]) | ((with_reducible apply gD_c_append); (first | ((refine JD_appL byC (tabE etab_ok (by rfl)) (by rfl) (by rfl) xA (Src.kn hu) (by decide +kernel) (by intro _; rfl) (all_one _ (by intro _ _; rfl)) (by omega) (by rfl) ?_; intro ad3 c3 _ _)) | ((refine JD_ap1 (z := Rw.mk s.kind ad3 c3 s.data) (tabE etab_ok (by rfl)) (by rfl) (by rfl) xA xA (by decide +kernel) (by rfl) (by intro _; rfl) (by rfl) (by omega) (by rfl) ?_; intro ad4 c4 _ _)) | fail)) | refine yD ?_ | (refine yE ?_; intro _) | (refine yB ?_; intro _ _ _ _) | fail)) | refine yJ ?_ | ((with_reducible apply gJ_if); (first | (refine J_if xR ?_ ?_ <;> intro _ <;> (try (exfalso; first | contradiction | omega))) | (refine J_ifb xR ?_ ?_ <;> (intro hgb; subst hgb)) | (refine J_ifb xR ?_ ?_ <;> intro _) | fail)) | refine J_draw (id := 8) [0, 1, 2, 3, 4, 5, 6, 7, 9, 10, 11, 12, 13, 14, 8, 15, 16, 17] [18, 19, 20] mixed xC xD xD ?_ | fail))
    refine J_again ⟨o ++ [Rw.mk s.kind ad3 c3 s.data], ad4, c4⟩ (by simp; omega) ⟨by simp; omega, ?_⟩ ⟨rfl, rfl, rfl, ?_, trivial⟩ (fun w H => ?_)
    · simp only [List.length_append, List.length_cons, List.length_nil]
      rw [take_snoc hs]
      unfold oN at hsame ⊢
      rw [List.map_append, List.map_append, hsame]
      rfl
    · show some _ = some _
      simp
    · simp only [List.length_append, List.length_cons, List.length_nil]
      refine (Ow.has (M := [Ar 5 1 byC (.slice ad3 s.data.length c3) s.data, has (fun w => ∀ s ∈ o, rawV w s)]) (φ := fun w => ∀ x ∈ o ++ [Rw.mk s.kind ad3 c3 s.data], rawV w x) H xZ ?_).sel xZ
      intro w hr x hx
      rcases List.mem_append.1 hx with hx | hx
      · exact hr.has (.there .here) x hx
      · obtain rfl := List.mem_singleton.1 hx
        exact Src.ar .here w hr
  · obtain hol : o.length = d.others.length := by omega
    rw [hol, List.take_length] at hsame
    (repeat' (first | ((with_reducible apply gL); (first | refine yL0 ?_ | refine yL ?_ | (refine yM ?_; intro _) | (refine yA ?_; intro _ _ _ _) | fail)) | ((with_reducible apply gD); (first | (refine JD_nil ?_; try simp only [List.cons_append, List.nil_append]) | (refine JD_bar ?_; try simp only [List.cons_append, List.nil_append]) | refine yD ?_ | (refine yE ?_; intro _) | (refine yB ?_; intro _ _ _ _) | fail)) | refine yJ ?_ | ((with_reducible apply gJ_if); (first | (refine J_if xR ?_ ?_ <;> intro _ <;> (try (exfalso; first | contradiction | omega))) | (refine J_ifb xR ?_ ?_ <;> (intro hgb; subst hgb)) | (refine J_ifb xR ?_ ?_ <;> intro _) | fail)) | refine J_draw (id := 8) [0, 1, 2, 3, 4, 5, 6, 7, 9, 10, 11, 12, 13, 14, 8, 15, 16, 17] [18, 19, 20] mixed xC xD xD ?_ | fail))
    refine J_retC (cs := cpC d q.length a' c' ad2 c2 oa o.length oc) rfl (by rfl) xA (by rfl) fun w H => ⟨_, ⟨d.at_ q a' c' d.comms ad2 c2 o oa oc, At.at_num hd _ _ _ _ _ _ _ _ _ hs rfl hsame, d.at_nf _ _ _ _ _ _ _ _ _ hs rfl hsame, rfl, rfl⟩, ?_⟩
    refine (Ow.has (M := [has (fun w => PathV w a' c' q), Ar 25 1 u32C (.slice ad2 d.comms.length c2) d.comms, Ar 79 2 rwC (.slice oa o.length oc) o, has (fun w => ∀ s ∈ o, rawV w s)]) (φ := fun w => AtV w (d.at_ q a' c' d.comms ad2 c2 o oa oc)) H xZ ?_).sel xZ
    intro w hr
    exact ⟨hr.has .here, Src.ar (.there .here) w hr, Src.ar (.there (.there .here)) w hr, fun s hs => hr.has (.there (.there (.there .here))) s hs⟩
theorem Vw_take {w : World} {a : Option Addr} {c sz n : Nat} {α : Type} {enc : α → List Value} {es : List α} (h : Vw w (.slice a n c) sz n (flat enc es)) (hl : ∀ x, (enc x).length = sz) (hn : es.length = n) (j m : Nat) (hm : (es.take j).length = m) : Vw w (.slice a m c) sz m (flat enc (es.take j)) := by
  obtain ⟨a', cap, he, h1, h2, h3, h4, h5⟩ := h
  cases he
  have hpre : flat enc es = flat enc (es.take j) ++ flat enc (es.drop j) := by rw [← flat_append, List.take_append_drop]
  have hmn : m ≤ n := by rw [← hm, ← hn, List.length_take]; omega
  refine ⟨a, c, rfl, by rw [flat_length hl, hm], by omega, h3, fun h => ⟨by have := (h4 h).1; omega, (h4 h).2⟩, fun hne => ?_⟩
  have hne' : flat enc es ≠ [] := by
    intro h
    rw [hpre] at h
    exact hne (List.append_eq_nil_iff.1 h).1
  obtain ⟨b, off, hb, hc⟩ := h5 hne'
  refine ⟨b, off, hb, fun k u hk => hc k u ?_⟩
  rw [hpre, List.getElem?_append_left (List.getElem?_eq_some_iff.1 hk).1]
  exact hk
def At.tr (d : At) : At := d.at_ (d.path.take 8) d.pa d.pc (d.comms.take 40) d.ca d.cc (d.others.take 8) d.oa d.oc
theorem At.tr_few {d : At} (h : AtN d) : AtF d.tr := by
  refine ⟨⟨h.origin, h.next, h.med, h.loc, h.makerAS, h.maker, fun s hs => h.path s (List.take_subset _ _ hs), fun s hs => h.comms s (List.take_subset _ _ hs), fun s hs => h.others s (List.take_subset _ _ hs)⟩, ?_, ?_, ?_⟩ <;> simp [At.tr, At.at_] <;> omega
theorem AtV.tr {w : World} {d : At} (h : AtV w d) : AtV w d.tr :=
  ⟨⟨Vw_take h.path.vw (by intro _; rfl) rfl 8 _ rfl, fun s hs => h.path.segs s (List.take_subset _ _ hs)⟩, Vw_take h.comms (by intro _; rfl) rfl 40 _ rfl, ⟨Vw_take h.others.vw (by intro _; rfl) rfl 8 _ rfl, fun s hs => h.others.raws s (List.take_subset _ _ hs)⟩⟩
theorem few_s (d : At) (hN : AtN d) : Pact Try.prog 7 #[.agg (atC d).toArray] (fun w => AtV w d) [] (CopyR d.tr) := by
  refine pact Try.func7 rfl Try.ntmps7 rfl ?_
  intro W K hK
  refine J_fact (φ := (d.path.length ≤ d.pc ∧ d.pc ≤ maxLen) ∧ (d.comms.length ≤ d.cc ∧ d.cc ≤ maxLen) ∧ (d.others.length ≤ d.oc ∧ d.oc ≤ maxLen)) (fun w H => ?_) ?_
  · have h := hK.of H
    refine ⟨?_, ?_, ?_⟩
    · obtain ⟨a', c', he, h1, h2⟩ := h.path.vw.shape
      cases he
      exact ⟨h1, h2⟩
    · obtain ⟨a', c', he, h1, h2⟩ := h.comms.shape
      cases he
      exact ⟨h1, h2⟩
    · obtain ⟨a', c', he, h1, h2⟩ := h.others.vw.shape
      cases he
      exact ⟨h1, h2⟩
  rintro ⟨⟨hp, hp2⟩, ⟨hc, hc2⟩, ⟨ho, ho2⟩⟩
  unfold maxLen at hp2 hc2 ho2
  have e1 : d.tr.path.length = (min (d.path.length : Int) 8).toNat := by simp [At.tr, At.at_]; omega
  have e2 : d.tr.comms.length = (min (d.comms.length : Int) 40).toNat := by simp [At.tr, At.at_]; omega
  have e3 : d.tr.others.length = (min (d.others.length : Int) 8).toNat := by simp [At.tr, At.at_]; omega
  (repeat' (first | ((with_reducible apply gL); (first | refine yL0 ?_ | refine yL ?_ | ((with_reducible apply gL_go); (first | (refine JL_goq (acopy_s d.tr (At.tr_few hN) _ _ _ e1 e2 e3) (hφ := (by (try simp only [List.cons_append, List.nil_append]); exact fun w hr => (hK w hr.1).tr)) (h := ?_); rintro _ _ ⟨d', hd', hnf, rfl, rfl⟩; try simp only [List.cons_append, List.nil_append]) | fail)) | (refine yM ?_; intro _) | fail)) | refine yJ ?_ | fail))
  exact J_retC (cs := atC d') rfl (by rfl) xA (by rfl) fun w H => ⟨_, ⟨d', hd', hnf, rfl, rfl⟩, H.sel xZ⟩
end Go.Proofs.Ytmbgbhambgoejaa
namespace Go.Proofs.Ytmbgbhambgoejaa
set_option linter.unusedSimpArgs false
set_option linter.unusedVariables false
set_option maxRecDepth 20000
set_option maxHeartbeats 4000000
open Go.RowKit Go.Pm

def ckP : List (Bool × List Int) → Nat → Bool
  | [], _ => true
  | s :: p, n => if s.2.length = 0 ∨ 255 < s.2.length then false else if (0 : Int) ∈ s.2 then false else if 64 < n + s.2.length then false else ckP p (n + s.2.length)
def er (b : Bool) : Int := if b then 0 else 2
theorem er_t {b : Bool} (h : b = true) : er b = 0 := by rw [h]; rfl
theorem er_f {b : Bool} (h : b = false) : er b = 2 := by rw [h]; rfl
theorem ckP_step {p : List Sg} {k : Nat} {s : Sg} (hs : p[k]? = some s) (n : Nat) : ckP (pN (p.drop k)) n = (if s.as_.length = 0 ∨ 255 < s.as_.length then false else if (0 : Int) ∈ s.as_ then false else if 64 < n + s.as_.length then false else ckP (pN (p.drop (k + 1))) (n + s.as_.length)) := by
  have : p.drop k = s :: p.drop (k + 1) := by
    obtain ⟨hk, e⟩ := List.getElem?_eq_some_iff.1 hs
    rw [List.drop_eq_getElem_cons hk, e]
  rw [this]
  rfl
theorem pcheck_s (a : Option Addr) (c : Nat) (p : List Sg) (h8 : p.length ≤ 1000) (hsm : ∀ s ∈ p, SgN s) : Pact Try.prog 66 #[.slice a p.length c] (fun w => PathV w a c p) [] (ret0 (.int .i64 (er (ckP (pN p) 0)))) := by
  refine pact Try.func66 rfl Try.ntmps66 rfl ?_
  intro W K hK
  have hv : Kn K (fun w => Vw w (.slice a p.length c) 2 p.length (flat sgC p)) := hK.imp fun _ h => h.vw
  (repeat' (first | ((with_reducible apply gL); (first | refine yL0 ?_ | refine yL ?_ | ((with_reducible apply gL_gd); (first | (refine JL_guard xR xR ?_ ?_ <;> intro _ <;> (try (exfalso; first | contradiction | omega))) | (refine JL_guardb xR xR ?_ ?_ <;> (intro hgb; subst hgb)) | (refine JL_guardb xR xR ?_ ?_ <;> (intro hgb; fail_if_success (have : type_of% hgb := rfl))) | fail)) | fail)) | refine yJ ?_ | ((with_reducible apply gJ_if); (first | (refine J_if xR ?_ ?_ <;> intro _ <;> (try (exfalso; first | contradiction | omega))) | (refine J_ifb xR ?_ ?_ <;> (intro hgb; subst hgb)) | (refine J_ifb xR ?_ ?_ <;> intro _) | fail)) | fail))
  refine J_loop (α := Nat × Nat) (0, 0) (fun x => p.length - x.1) (fun x => x.1 ≤ p.length ∧ x.2 ≤ 64 ∧ ckP (pN p) 0 = ckP (pN (p.drop x.1)) x.2) (fun x => [(0, .slice a p.length c), (3, .int .i64 x.2), (4, .int .i64 x.1)]) (fun x => []) ⟨Nat.zero_le _, Nat.zero_le _, rfl⟩ ⟨rfl, rfl, rfl, trivial⟩ (fun w H => H) ?_
  rintro ⟨k, n⟩ ⟨hk, hn, hck⟩
  dsimp only at hk hn hck ⊢
  by_cases hlt : k < p.length
  · obtain ⟨s, hs⟩ : ∃ s, p[k]? = some s := ⟨_, List.getElem?_eq_getElem hlt⟩
    have hm := List.mem_of_getElem? hs
    have hsn := hsm s hm
    have hsn1 := hsn.1
    rw [ckP_step hs] at hck
    have hu : Kn K (fun w => Vw w (.slice s.a s.as_.length s.c) 1 s.as_.length (flat u32C s.as_)) := hK.imp fun _ h => h.segs s hm
    (repeat' (first | ((with_reducible apply gL); (first | refine yL0 ?_ | refine yL ?_ | ((with_reducible apply gL_gd); (first | (refine JL_guard xR xR ?_ ?_ <;> intro _ <;> (try (exfalso; first | contradiction | omega))) | (refine JL_guardb xR xR ?_ ?_ <;> (intro hgb; subst hgb)) | (refine JL_guardb xR xR ?_ ?_ <;> (intro hgb; fail_if_success (have : type_of% hgb := rfl))) | fail)) | fail)) | refine yJ ?_ | ((with_reducible apply gJ_if); (first | (refine J_if xR ?_ ?_ <;> intro _ <;> (try (exfalso; first | contradiction | omega))) | (refine J_ifb xR ?_ ?_ <;> (intro hgb; subst hgb)) | (refine J_ifb xR ?_ ?_ <;> intro _) | fail)) | fail))
    · rw [if_pos (by omega)] at hck
      exact J_ret1 rfl (by rfl) fun w H => ⟨_, ⟨by rw [er_f hck], rfl⟩, H.sel .nil⟩
    · rw [if_pos (by omega)] at hck
      exact J_ret1 rfl (by rfl) fun w H => ⟨_, ⟨by rw [er_f hck], rfl⟩, H.sel .nil⟩
    · rw [if_neg (by omega)] at hck
      refine J_loop (α := Nat) 0 (fun x => s.as_.length - x) (fun x => x ≤ s.as_.length ∧ (0 : Int) ∉ s.as_.take x) (fun x => [(0, .slice a p.length c), (3, .int .i64 n), (4, .int .i64 k), (5, .int .i64 x)]) (fun x => []) ⟨Nat.zero_le _, by simp⟩ ⟨rfl, rfl, rfl, rfl, trivial⟩ (fun w H => H) ?_
      rintro j ⟨hj, hz⟩
      by_cases hjl : j < s.as_.length
      · obtain ⟨x, hx⟩ : ∃ x, s.as_[j]? = some x := ⟨_, List.getElem?_eq_getElem hjl⟩
        (repeat' (first | ((with_reducible apply gL); (first | refine yL0 ?_ | refine yL ?_ | ((with_reducible apply gL_gd); (first | (refine JL_guard xR xR ?_ ?_ <;> intro _ <;> (try (exfalso; first | contradiction | omega))) | (refine JL_guardb xR xR ?_ ?_ <;> (intro hgb; subst hgb)) | (refine JL_guardb xR xR ?_ ?_ <;> (intro hgb; fail_if_success (have : type_of% hgb := rfl))) | fail)) | fail)) | refine yJ ?_ | ((with_reducible apply gJ_if); (first | (refine J_if xR ?_ ?_ <;> intro _ <;> (try (exfalso; first | contradiction | omega))) | (refine J_ifb xR ?_ ?_ <;> (intro hgb; subst hgb)) | (refine J_ifb xR ?_ ?_ <;> intro _) | fail)) | fail))
        · rename_i h0
          subst h0
          rw [if_pos (List.mem_of_getElem? hx)] at hck
          exact J_ret1 rfl (by rfl) fun w H => ⟨_, ⟨by rw [er_f hck], rfl⟩, H.sel .nil⟩
        · rename_i h0
          exact J_again (j + 1) (by omega) ⟨by omega, by rw [take_snoc hx]; simp only [List.mem_append, List.mem_singleton]; rintro (h | h); exact hz h; exact h0 h.symm⟩ ⟨rfl, rfl, rfl, rfl, trivial⟩ (fun w H => H.sel .nil)
      · have hje : j = s.as_.length := by omega
        rw [hje, List.take_length] at hz
        rw [if_neg hz] at hck
        (repeat' (first | ((with_reducible apply gL); (first | refine yL0 ?_ | refine yL ?_ | ((with_reducible apply gL_gd); (first | (refine JL_guard xR xR ?_ ?_ <;> intro _ <;> (try (exfalso; first | contradiction | omega))) | (refine JL_guardb xR xR ?_ ?_ <;> (intro hgb; subst hgb)) | (refine JL_guardb xR xR ?_ ?_ <;> (intro hgb; fail_if_success (have : type_of% hgb := rfl))) | fail)) | fail)) | refine yJ ?_ | ((with_reducible apply gJ_if); (first | (refine J_if xR ?_ ?_ <;> intro _ <;> (try (exfalso; first | contradiction | omega))) | (refine J_ifb xR ?_ ?_ <;> (intro hgb; subst hgb)) | (refine J_ifb xR ?_ ?_ <;> intro _) | fail)) | fail))
        · rw [if_pos (by omega)] at hck
          exact J_ret1 rfl (by rfl) fun w H => ⟨_, ⟨by rw [er_f hck], rfl⟩, H.sel .nil⟩
        · rw [if_neg (by omega)] at hck
          exact J_again (k + 1, n + s.as_.length) (by dsimp only; omega) ⟨by dsimp only; omega, by dsimp only; omega, hck⟩ ⟨rfl, rfl, rfl, trivial⟩ (fun w H => H.sel .nil)
  · have hke : k = p.length := by omega
    have hck2 : ckP (pN p) 0 = true := by rw [hck, hke, List.drop_length]; rfl
    (repeat' (first | ((with_reducible apply gL); (first | refine yL0 ?_ | refine yL ?_ | ((with_reducible apply gL_gd); (first | (refine JL_guard xR xR ?_ ?_ <;> intro _ <;> (try (exfalso; first | contradiction | omega))) | (refine JL_guardb xR xR ?_ ?_ <;> (intro hgb; subst hgb)) | (refine JL_guardb xR xR ?_ ?_ <;> (intro hgb; fail_if_success (have : type_of% hgb := rfl))) | fail)) | fail)) | refine yJ ?_ | ((with_reducible apply gJ_if); (first | (refine J_if xR ?_ ?_ <;> intro _ <;> (try (exfalso; first | contradiction | omega))) | (refine J_ifb xR ?_ ?_ <;> (intro hgb; subst hgb)) | (refine J_ifb xR ?_ ?_ <;> intro _) | fail)) | fail))
    exact J_ret1 rfl (by rfl) fun w H => ⟨_, ⟨by rw [er_t hck2], rfl⟩, H.sel .nil⟩
def kno (k : Int) : Bool := decide ((1 ≤ k ∧ k ≤ 8) ∨ k = 17 ∨ k = 18)
def ckO : List (Int × List Int) → Int → Bool
  | [], _ => true
  | o :: l, last => if o.1 ≤ last ∨ 255 < o.1 ∨ kno o.1 = true ∨ 255 < o.2.length then false else ckO l o.1
structure OkN (x : Nf) : Prop where
  origin : 0 ≤ x.origin ∧ x.origin ≤ 2
  path : ckP x.path 0 = true
  next : x.next ≠ 0 ∧ x.next < 3758096384
  maker : ∀ m, x.maker = some m → m.1 ≠ 0
  comms : x.comms.length ≤ 32
  others : x.others.length ≤ 8 ∧ ckO x.others (-1) = true
end Go.Proofs.Ytmbgbhambgoejaa
namespace Go.Pm
set_option linter.unusedSimpArgs false
set_option linter.unusedVariables false
open Go.RowKit
section
variable {P : Program} {n : Nat} {W : World} {K : Hl} {F : Fp} {k : List It} {tm : TM} {L L' R S M C : List HP} {T : TypeId} {pos : String} {af : Array Edge} {gd : Option (Nat × Bool)} {ops : Array Oper} {rest nx : List Oper} {d : Option Tmp}
theorem pe_neStr {xt yt : TypeId} {x y : Operand} {a b : ByteArray} {c : Bool} (hx : evT tm x = some (.string a)) (hy : evT tm y = some (.string b)) (_ht : tyIs P xt isStrD = true) (hc : decide (a ≠ b) = c) : PE P K L ⟨d, .binOp .neq xt x y yt, T, pos, af, gd⟩ (tget tm) (.bool c) := pe_bin hx hy fun w => by
  have : (!(a.toList == b.toList)) = c := by
    rw [← hc, ByteArray.toList_eq, ByteArray.toList_eq]
    by_cases h : a = b
    · subst h; simp
    · have h2 : ¬ a.data.toList = b.data.toList := fun e => h (ByteArray.ext (Array.toList_inj.1 e))
      rw [decide_eq_true h]
      simpa using h2
  simp [eqGuard, Sem.run_bind, binOp_string_neq, this]
end
end Go.Pm
