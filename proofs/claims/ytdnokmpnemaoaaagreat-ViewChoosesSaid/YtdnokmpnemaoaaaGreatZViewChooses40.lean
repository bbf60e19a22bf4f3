/-
  Ru13, Cq11, Cq13, Cq14, Cq15, Cq18, Ru14, J7, Ru15: merged.
-/
import Derived.Test.YtdnokmpnemaoaaaGreatZViewChooses39
namespace Go.Proofs.YtdnokmpnemaoaaaGreat.C
set_option linter.unusedSimpArgs false
set_option linter.unusedVariables false
set_option maxRecDepth 20000
set_option maxHeartbeats 4000000
open Go.RowKit Go.Pm

structure Lpl where
  k : Nat
  n : Nat
  d : At
def PlayR (rb : Nat) (p : Pf) (d0 : At) (r : Option Nf × Nat) (u : Value) (L' : List HP) : Prop := ∃ d' : At, AtF d' ∧ u = .tuple #[.bool r.1.isSome, .int .i64 r.2] ∧ (∀ x, r.1 = some x → x = d'.nf) ∧ L' = [pts rb (routeC p d') 157, has (fun w => AtV w d0 → AtV w d')]
theorem play_s (rb : Nat) (p : Pf) (hp : PfN p) (d0 : At) (hd0 : AtF d0) (a : Option Addr) (c : Nat) (T : List Sp) (hT : RightT T) (hsn : ∀ s ∈ T, SpN s) (h0 : 0 < T.length) (hl : T.length ≤ 4096) : Pact Tryz.prog 90 #[.pointer (some ⟨rb, 0, none⟩), .slice a T.length c] (fun w => AtV w d0 ∧ Vw w (.slice a T.length c) 7 T.length (flat spC T)) [pts rb (routeC p d0) 157] (PlayR rb p d0 (playW T p 0 d0.nf)) := by
  refine pact Tryz.func90 rfl Tryz.ntmps90 rfl ?_
  intro W K hK
  have hkv : Kn K (fun w => Vw w (.slice a T.length c) 7 T.length (flat spC T)) := hK.imp fun w h => h.2
  obtain ⟨r0, hr0⟩ : ∃ r, playW T p 0 d0.nf = r := ⟨_, rfl⟩
  rw [hr0]
  (repeat' (first | (refine gL ?_; first | refine yL0 ?_ | refine yL ?_ | (refine yM ?_; intro _)) | refine yJ ?_ | (refine yI ?_ ?_ <;> intro _ <;> try exact xX) | (refine yK ?_ ?_ <;> intro hgb <;> first | subst hgb | fail_if_success have : type_of% hgb := rfl) | fail))
  refine J_loop (α := Lpl) ⟨0, 1, d0⟩ (fun x => T.length - x.k) (fun x => x.k < T.length ∧ x.n ≤ x.k + 1 ∧ AtF x.d ∧ r0.1 = (playW T p x.k x.d.nf).1 ∧ r0.2 + 1 = x.n + (playW T p x.k x.d.nf).2) (fun x => [(0, .pointer (some ⟨rb, 0, none⟩)), (1, .slice a T.length c), (6, .int .i64 x.k), (7, .int .i64 x.n)])
    (fun x => [pts rb (routeC p x.d) 157, has (fun w => AtV w d0 → AtV w x.d)]) ⟨h0, by show 1 ≤ 0 + 1; omega, hd0, by rw [hr0], by rw [hr0]; show r0.2 + 1 = 1 + r0.2; omega⟩ ⟨rfl, rfl, rfl, rfl, trivial⟩ (fun w H => (Ow.hasTrue (φ := fun w => AtV w d0 → AtV w d0) H (fun _ h => h)).sel xZ) ?_
  rintro ⟨k, n, d⟩ ⟨hk, hn, hd, hr1, hr2⟩
  dsimp only at hk hn hd hr1 hr2 ⊢
  obtain ⟨s, hs⟩ : ∃ s, T[k]? = some s := ⟨_, List.getElem?_eq_getElem hk⟩
  have hok := hT k s hs
  have hsm := hsn s (List.mem_of_getElem? hs)
  by_cases o22 : s.op = 22
  · rw [playW_acc hs o22] at hr1 hr2
    (repeat' (first | (refine gL ?_; first | refine yL0 ?_ | refine yL ?_ | (refine yM ?_; intro _)) | refine yJ ?_ | (refine yI ?_ ?_ <;> intro _ <;> try exact xX) | (refine yK ?_ ?_ <;> intro hgb <;> first | subst hgb | fail_if_success have : type_of% hgb := rfl) | fail))
    all_goals (first | (exfalso; omega) | skip)
    refine J_ret2 rfl (by rfl) (by rfl) fun w H => ⟨_, ⟨d, hd, ?_, fun x hx => by rw [hr1] at hx; exact (Option.some.inj hx).symm, rfl⟩, H.sel xZ⟩
    rw [hr1, show r0.2 = n by omega, o22]
    rfl
  by_cases o23 : s.op = 23
  · rw [playW_rej hs o23] at hr1 hr2
    (repeat' (first | (refine gL ?_; first | refine yL0 ?_ | refine yL ?_ | (refine yM ?_; intro _)) | refine yJ ?_ | (refine yI ?_ ?_ <;> intro _ <;> try exact xX) | (refine yK ?_ ?_ <;> intro hgb <;> first | subst hgb | fail_if_success have : type_of% hgb := rfl) | fail))
    all_goals (first | (exfalso; omega) | skip)
    refine J_ret2 rfl (by rfl) (by rfl) fun w H => ⟨_, ⟨d, hd, ?_, fun x hx => (by rw [hr1] at hx; cases hx), rfl⟩, H.sel xZ⟩
    rw [hr1, show r0.2 = n by omega, o23]
    rfl
  by_cases o12 : s.op ≤ 12
  · obtain ⟨h1, h2, h3, h4, h5⟩ : (4 ≤ s.op ∧ s.op ≤ 12) ∧ TestOk s.op s.n (s.a, s.l) ∧ s.m = 0 ∧ ((k : Int) < s.x ∧ s.x < T.length) ∧ ((k : Int) < s.y ∧ s.y < T.length) := by
      rcases hok with h | h | h | h
      · exact h
      · omega
      · omega
      · omega
    have hnx : nextN s p d.nf = some ((if testN s.op s.n (s.a, s.l) p d.nf then s.x else s.y), d.nf) := by unfold nextN; rw [if_pos o12]
    rw [playW_step hs hok o22 o23 hnx] at hr1 hr2
    have hB := otest_s rb p hp d hd s hsm h1 h2
    rcases hb : testN s.op s.n (s.a, s.l) p d.nf with _ | _
    all_goals rw [hb] at hB hr1 hr2
    · rw [if_neg (by simp)] at hr1 hr2
      (repeat' (first | (refine gL ?_; first | refine yL0 ?_ | refine yL ?_ | (refine gL_go ?_; (refine JL_goq (hB) (hφ := (by (try simp only [cAp, nAp]); exact fun w hr => hr.has (φ := fun w => AtV w d0 → AtV w d) xA (hK w hr.1).1)) (h := ?_); rintro _ _ ⟨rfl, rfl⟩; try simp only [cAp, nAp])) | (refine yM ?_; intro _)) | refine yJ ?_ | (refine yI ?_ ?_ <;> intro _ <;> try exact xX) | (refine yK ?_ ?_ <;> intro hgb <;> first | subst hgb | fail_if_success have : type_of% hgb := rfl) | fail))
      all_goals (first | (exfalso; omega) | skip)
      refine J_again ⟨s.y.toNat, n + 1, d⟩ (by dsimp only; omega) ⟨by dsimp only; omega, by dsimp only; omega, hd, hr1, by dsimp only at hr2 ⊢; omega⟩ ⟨rfl, rfl, ?_, rfl, trivial⟩ (fun w H => H.sel xZ)
      show some (Value.int .i64 s.y) = some (Value.int .i64 (s.y.toNat : Int))
      rw [show (s.y.toNat : Int) = s.y by omega]
    · rw [if_pos rfl] at hr1 hr2
      (repeat' (first | (refine gL ?_; first | refine yL0 ?_ | refine yL ?_ | (refine gL_go ?_; (refine JL_goq (hB) (hφ := (by (try simp only [cAp, nAp]); exact fun w hr => hr.has (φ := fun w => AtV w d0 → AtV w d) xA (hK w hr.1).1)) (h := ?_); rintro _ _ ⟨rfl, rfl⟩; try simp only [cAp, nAp])) | (refine yM ?_; intro _)) | refine yJ ?_ | (refine yI ?_ ?_ <;> intro _ <;> try exact xX) | (refine yK ?_ ?_ <;> intro hgb <;> first | subst hgb | fail_if_success have : type_of% hgb := rfl) | fail))
      all_goals (first | (exfalso; omega) | skip)
      refine J_again ⟨s.x.toNat, n + 1, d⟩ (by dsimp only; omega) ⟨by dsimp only; omega, by dsimp only; omega, hd, hr1, by dsimp only at hr2 ⊢; omega⟩ ⟨rfl, rfl, ?_, rfl, trivial⟩ (fun w H => H.sel xZ)
      show some (Value.int .i64 s.x) = some (Value.int .i64 (s.x.toNat : Int))
      rw [show (s.x.toNat : Int) = s.x by omega]
  · have hdo : s.op = 21 ∨ ((24 ≤ s.op ∧ s.op ≤ 29) ∧ ActOk (s.op - 20) s.n s.m) := by
      rcases hok with h | h | h | h
      · omega
      · exact .inl h.1
      · omega
      · exact .inr ⟨h.1, h.2.1⟩
    have hx : (k : Int) < s.x ∧ s.x < T.length := by
      rcases hok with h | h | h | h
      · omega
      · exact h.2.2.2.2.1
      · omega
      · exact h.2.2.2.1
    have hD := rdo_s rb p d hd s hdo
    obtain ⟨r, hr⟩ : ∃ r, (if s.op = 21 then some d.nf else doN (s.op - 20) s.n s.m d.nf) = r := ⟨_, rfl⟩
    rw [hr] at hD
    have hnx : nextN s p d.nf = r.map fun y => (s.x, y) := by
      unfold nextN
      rw [if_neg o12, ← hr]
      split <;> rfl
    (repeat' (first | (refine gL ?_; first | refine yL0 ?_ | refine yL ?_ | (refine gL_go ?_; (refine JL_goq (hD) (hφ := (by (try simp only [cAp, nAp]); exact fun w hr => hr.has (φ := fun w => AtV w d0 → AtV w d) xA (hK w hr.1).1)) (h := ?_); rintro _ _ ⟨d', ok, hd', rfl, hrr, rfl⟩; try simp only [cAp, nAp])) | (refine yM ?_; intro _)) | refine yJ ?_ | (refine yI ?_ ?_ <;> intro _ <;> try exact xX) | (refine yK ?_ ?_ <;> intro hgb <;> first | subst hgb | fail_if_success have : type_of% hgb := rfl) | fail))
    all_goals (first | (exfalso; omega) | skip)
    · obtain rfl : ok = false := Bool.eq_false_iff.2 (by assumption)
      rw [if_neg (by simp)] at hrr
      rw [hrr] at hnx
      rw [playW_no hs o22 hnx] at hr1 hr2
      refine J_ret2 rfl (by rfl) (by rfl) fun w H => ⟨_, ⟨d', hd', ?_, fun x hx => (by rw [hr1] at hx; cases hx), rfl⟩, ?_⟩
      · rw [hr1, show r0.2 = n by omega]
        rfl
      · exact (Ow.has (M := [has (fun w => AtV w d → AtV w d'), has (fun w => AtV w d0 → AtV w d)]) (φ := fun w => AtV w d0 → AtV w d') H xZ (fun w hr h => hr.has (φ := fun w => AtV w d → AtV w d') .here (hr.has (φ := fun w => AtV w d0 → AtV w d) (.there .here) h))).sel xZ
    · obtain rfl : ok = true := by first | assumption | exact Decidable.not_not.1 (by assumption)
      rw [if_pos rfl] at hrr
      rw [hrr] at hnx
      rw [playW_step hs hok o22 o23 hnx] at hr1 hr2
      refine J_again ⟨s.x.toNat, n + 1, d'⟩ (by dsimp only; omega) ⟨by dsimp only; omega, by dsimp only; omega, hd', hr1, by dsimp only at hr2 ⊢; omega⟩ ⟨rfl, rfl, ?_, rfl, trivial⟩ (fun w H => ?_)
      · show some (Value.int .i64 s.x) = some (Value.int .i64 (s.x.toNat : Int))
        rw [show (s.x.toNat : Int) = s.x by omega]
      · exact (Ow.has (M := [has (fun w => AtV w d → AtV w d'), has (fun w => AtV w d0 → AtV w d)]) (φ := fun w => AtV w d0 → AtV w d') H xZ (fun w hr h => hr.has (φ := fun w => AtV w d → AtV w d') .here (hr.has (φ := fun w => AtV w d0 → AtV w d) (.there .here) h))).sel xZ

def KidS (φ : St → World → Prop) (a : Option Addr) (c : Nat) (l : List St) (w : World) : Prop := (l ≠ [] → Vw w (.slice a l.length c) 10 l.length (flat stC l)) ∧ ∀ s ∈ l, φ s w
theorem LsF.len {d : Nat} {l : List St} (h : LsF d l) : l.length ≤ 6 := by
  cases d with
  | zero => rw [show l = [] from h]; simp
  | succ d => exact h.1
theorem LsF.sub {d : Nat} {l : List St} {s : St} (h : LsF d l) (hs : s ∈ l) : StN s ∧ CdF 5 s.cd ∧ LsF (d - 1) s.th ∧ LsF (d - 1) s.el := by
  cases d with
  | zero => rw [show l = [] from h] at hs; cases hs
  | succ d => exact h.2 s hs
theorem LsF.kids {d : Nat} {l : List St} (h : LsF d l) {a : Option Addr} {c : Nat} {w : World} (hv : LsV w d a c l) : KidS (fun s w => SeenS (d - 1) s w) a c l w := by
  cases d with
  | zero => rw [show l = [] from h]; exact ⟨fun h => absurd rfl h, fun y hy => absurd hy List.not_mem_nil⟩
  | succ d => exact ⟨fun _ => hv.1, hv.2⟩


def leafS (x : Cd) (X Y : Int) : Sp := ⟨x.op, x.n, 0, x.pa, x.pl, X, Y⟩
def seqP (f : Nat → Cd → Int → Int → List Sp) (t : Cd → Nat) (sw : Bool) (X Y : Int) : Nat → List Cd → List Sp
  | _, [] => []
  | k, y :: r =>
    let nx : Int := if r = [] then (if sw then Y else X) else (k : Int) + t y
    let p := if sw then f k y X nx else f k y nx Y
    p ++ seqP f t sw X Y (k + p.length) r
def putG (f : Nat → Cd → Int → Int → List Sp) (t : Cd → Nat) (k : Nat) (x : Cd) (X Y : Int) : List Sp :=
  if x.op = 1 then seqP f t false X Y k x.l else if x.op = 2 then seqP f t true X Y k x.l else if x.op = 3 then (x.l.head?.elim [] fun y => f k y Y X) else [leafS x X Y]
def putL : Nat → Nat → Cd → Int → Int → List Sp
  | 0, k, x, X, Y => putG (fun _ _ _ _ => []) (fun _ => 0) k x X Y
  | d + 1, k, x, X, Y => putG (putL d) (tests d) k x X Y
structure Lp where
  i : Nat
  T : List Sp
  a : Option Addr
  c : Nat
def PutOk (F : FuncId) (y : Cd) (φ : World → Prop) (f : Nat → Int → Int → List Sp) (m : Nat) : Prop := ∀ (a : Option Addr) (c : Nat) (T : List Sp) (X Y : Int) (T2 : List Sp), T.length + m ≤ 500000000 → T ++ f T.length X Y = T2 → Pact Tryz.prog F #[.slice a T.length c, .agg (cdC y).toArray, .int .i64 X, .int .i64 Y] φ [Ar 120 7 spC (.slice a T.length c) T] (fun u L' => ∃ a' c', u = .slice a' T2.length c' ∧ L' = [Ar 120 7 spC (.slice a' T2.length c') T2])

theorem PutOk.mono {F : FuncId} {y : Cd} {φ ψ : World → Prop} {f : Nat → Int → Int → List Sp} {m m' : Nat} (h : PutOk F y φ f m) (hm : m ≤ m') (hφ : ∀ w, ψ w → φ w) : PutOk F y ψ f m' := fun a c T X Y T2 h1 h2 => preP (h a c T X Y T2 (by omega) h2) hφ
/-! Statements. -/
end Go.Proofs.YtdnokmpnemaoaaaGreat.C
namespace Go.Proofs.YtdnokmpnemaoaaaGreat.C
set_option linter.unusedSimpArgs false
set_option linter.unusedVariables false
open Go.RowKit Go.Pm

section
variable {P : Program} {n : Nat} {W : World} {K : Hl} {F : Fp} {k : List It} {tm : TM} {L L' R S M M' : List HP} {T : TypeId} {pos : String} {af : Array Edge} {gd : Option (Nat × Bool)} {ops : Array Oper} {rest nx : List Oper} {d : Tmp} {t e : TypeId} {x y : Operand} {a : Option Addr} {m c sz j off : Nat} {v : Value} {α : Type} {enc : α → List Value} {es : List α} {z z' : α} {vs : List Value}
theorem JD_stEf (hx : evT tm x = some (.pointer (some (elA a j sz off)))) (hy : evT tm y = some v) (hm : Tk M (Ar e sz enc (.slice a m c) es) R) (hj : es[j]? = some z) (hv : cellsL v = vs) (hl : ∀ x, (enc x).length = sz) (hz : Nat.blt 0 sz = true) (ht : (P.info? t).map (·.size) = some vs.length) {cs : List Value} (hp : Put (enc z) off vs cs) (hq : enc z' = cs) (h1 : vs.all (·.oneCell') = true) (hg : wantF ops ⟨none, .store t x y, T, pos, af, gd⟩ (tget tm) = some true)
    (h : JD P n W K F ops k nx rest tm S (Ar e sz enc (.slice a m c) (es.set j z') :: R)) : JD P n W K F ops k nx (⟨none, .store t x y, T, pos, af, gd⟩ :: rest) tm S M :=
  JD_a0 rfl hg rfl (.cons hm .nil) (ae_stE hx hy hv hl hz hj ht (by rw [hq]; exact hp.eq.1) (by have := hp.eq.2; rw [hl] at this; exact this) h1) (by rintro _ _ ⟨rfl, rfl⟩; exact h)
end
structure M3 where
  f : FuncId
  first : Array Value
  caps : Array Value
end Go.Proofs.YtdnokmpnemaoaaaGreat.C
namespace Go.Proofs.YtdnokmpnemaoaaaGreat.C
set_option linter.unusedSimpArgs false
set_option linter.unusedVariables false
set_option maxRecDepth 20000
set_option maxHeartbeats 4000000
open Go.RowKit Go.Pm
theorem zd91Ru14 {p q : Prop} (k : p) (h : p → q := by intro hk; first | exact J_draw (id := 1) [0, 1, 3, 4, 6, 7, 2, 9, 5, 8] [10, 11, 12, 13, 14] mixed xC xD xD hk | exact J_draw (id := 5) [0, 1, 2, 3, 4, 5] [6, 7, 8] mixed xC xD xD hk | exact J_draw (id := 10) [0, 1, 2, 3, 4, 5] [6, 7, 8] mixed xC xD xD hk | fail) : q := h k

theorem cloneG_s (a : Option Addr) (c : Nat) (l : List Sg) (hl : l.length ≤ 1000) : Pact Tryz.prog 122 #[.slice a l.length c] (fun w => Vw w (.slice a l.length c) 2 l.length (flat sgC l)) [] (fun u L' => ∃ a c, u = .slice a l.length c ∧ L' = [Ar 87 2 sgC (.slice a l.length c) l]) := by
  refine pact Tryz.func122 rfl Tryz.ntmps122 rfl ?_
  intro W K hK
  cases a with
  | none =>
    refine J_fact (φ := l = []) (fun w H => ?_) ?_
    · obtain ⟨a', c', he, _, _, _, h4, _⟩ := hK.of H
      cases he
      exact List.eq_nil_of_length_eq_zero (h4 rfl).1
    · rintro rfl
      (repeat' (first | (refine gL ?_; first | refine yL0 ?_ | refine yL ?_ | (refine yM ?_; intro _) | (refine yA ?_; intro _ _ _ _)) | refine yJ ?_ | (refine yI ?_ ?_ <;> intro _ <;> try exact xX) | (refine yK ?_ ?_ <;> intro hgb <;> first | subst hgb | fail_if_success have : type_of% hgb := rfl) | fail))
      exact J_ret1 rfl (by rfl) fun w H => ⟨_, ⟨none, 0, rfl, rfl⟩, (Ow.arNil (e := 87) (sz := 2) (enc := sgC) H).sel xZ⟩
  | some p =>
    (repeat' (first | (refine gL ?_; first | refine yL0 ?_ | (refine gL_c_append ?_; (refine JL_appL sgC (fs := l) (tabE etab_ok xR) xR xR xA (Src.kn hK) xC (by intro _; rfl) (all_one _ (by intro _ _; rfl)) (by omega) xR xR ?_; intro ad c2 _ _)) | refine yL ?_ | (refine yM ?_; intro _) | (refine yA ?_; intro _ _ _ _)) | refine yJ ?_ | (refine yI ?_ ?_ <;> intro _ <;> try exact xX) | (refine yK ?_ ?_ <;> intro hgb <;> first | subst hgb | fail_if_success have : type_of% hgb := rfl) | fail))
    exact J_ret1 rfl (by rfl) fun w H => ⟨_, ⟨ad, c2, rfl, rfl⟩, H.sel xZ⟩
theorem cloneR_s (a : Option Addr) (c : Nat) (l : List Rw) (hl : l.length ≤ 1000) : Pact Tryz.prog 123 #[.slice a l.length c] (fun w => Vw w (.slice a l.length c) 2 l.length (flat rwC l)) [] (fun u L' => ∃ a c, u = .slice a l.length c ∧ L' = [Ar 79 2 rwC (.slice a l.length c) l]) := by
  refine pact Tryz.func123 rfl Tryz.ntmps123 rfl ?_
  intro W K hK
  cases a with
  | none =>
    refine J_fact (φ := l = []) (fun w H => ?_) ?_
    · obtain ⟨a', c', he, _, _, _, h4, _⟩ := hK.of H
      cases he
      exact List.eq_nil_of_length_eq_zero (h4 rfl).1
    · rintro rfl
      (repeat' (first | (refine gL ?_; first | refine yL0 ?_ | refine yL ?_ | (refine yM ?_; intro _) | (refine yA ?_; intro _ _ _ _)) | refine yJ ?_ | (refine yI ?_ ?_ <;> intro _ <;> try exact xX) | (refine yK ?_ ?_ <;> intro hgb <;> first | subst hgb | fail_if_success have : type_of% hgb := rfl) | fail))
      exact J_ret1 rfl (by rfl) fun w H => ⟨_, ⟨none, 0, rfl, rfl⟩, (Ow.arNil (e := 79) (sz := 2) (enc := rwC) H).sel xZ⟩
  | some p =>
    (repeat' (first | (refine gL ?_; first | refine yL0 ?_ | (refine gL_c_append ?_; (refine JL_appL rwC (fs := l) (tabE etab_ok xR) xR xR xA (Src.kn hK) xC (by intro _; rfl) (all_one _ (by intro _ _; rfl)) (by omega) xR xR ?_; intro ad c2 _ _)) | refine yL ?_ | (refine yM ?_; intro _) | (refine yA ?_; intro _ _ _ _)) | refine yJ ?_ | (refine yI ?_ ?_ <;> intro _ <;> try exact xX) | (refine yK ?_ ?_ <;> intro hgb <;> first | subst hgb | fail_if_success have : type_of% hgb := rfl) | fail))
    exact J_ret1 rfl (by rfl) fun w H => ⟨_, ⟨ad, c2, rfl, rfl⟩, H.sel xZ⟩
abbrev ownC (d : At) (a1 : Option Addr) (c1 : Nat) (a2 : Option Addr) (c2 : Nat) (a3 : Option Addr) (c3 : Nat) : List Value := [.int .i64 d.origin, .slice a1 d.path.length c1, .int .u32 d.next, .bool d.hasMed, .int .u32 d.med, .bool d.hasLocal, .int .u32 d.loc, .bool d.atomic, .bool d.hasMaker, .int .u32 d.makerAS, .int .u32 d.maker, .slice a2 d.comms.length c2, .slice a3 d.others.length c3]
structure Lg where
  k : Nat
  xs : List Sg
structure Lr where
  k : Nat
  xs : List Rw
theorem pN_set {xs : List Sg} {k : Nat} {s z : Sg} (h : xs[k]? = some s) (h1 : z.set = s.set) (h2 : z.as_ = s.as_) : pN (xs.set k z) = pN xs := by
  obtain ⟨hk, he⟩ := List.getElem?_eq_some_iff.1 h
  unfold pN
  rw [List.map_set, h1, h2]
  apply List.ext_getElem?
  intro j
  by_cases hj : k = j
  · subst hj
    rw [List.getElem?_set_self (by simpa using hk), List.getElem?_map, h]
    rfl
  · rw [List.getElem?_set_ne hj]
theorem oN_set {xs : List Rw} {k : Nat} {s z : Rw} (h : xs[k]? = some s) (h1 : z.kind = s.kind) (h2 : z.data = s.data) : oN (xs.set k z) = oN xs := by
  obtain ⟨hk, he⟩ := List.getElem?_eq_some_iff.1 h
  unfold oN
  rw [List.map_set, h1, h2]
  apply List.ext_getElem?
  intro j
  by_cases hj : k = j
  · subst hj
    rw [List.getElem?_set_self (by simpa using hk), List.getElem?_map, h]
    rfl
  · rw [List.getElem?_set_ne hj]
theorem take_set {α : Type} {xs : List α} {k : Nat} {z : α} (h : k < xs.length) : (xs.set k z).take (k + 1) = xs.take k ++ [z] := by
  rw [List.take_add_one, List.getElem?_set_self h, List.take_set_of_le (Nat.le_refl _)]
  rfl
theorem own_s (d : At) (hd : AtF d) : Pact Tryz.prog 91 #[.agg (atC d).toArray] (fun w => AtV w d) [] (CopyR d) := by
  refine pact Tryz.func91 rfl Tryz.ntmps91 rfl ?_
  intro W K hK
  have hd1 := hd.path
  have hd2 := hd.comms
  have hd3 := hd.others
  (repeat' (first | (refine gL ?_; first | refine yL0 ?_ | refine yL ?_ | (refine yM ?_; intro _)) | (refine gD ?_; first | (refine yN ?_; try simp only [cAp, nAp]) | refine yD ?_ | (refine gD_go ?_; first | (refine JD_goq (cloneU_s d.ca d.cc d.comms (by omega)) (hφ := (by (try simp only [cAp, nAp]); exact fun w hr => (hK w hr.1).comms)) (h := ?_); rintro _ _ ⟨a2, c2, rfl, rfl⟩; try simp only [cAp, nAp]) | (refine JD_goq (cloneG_s d.pa d.pc d.path (by omega)) (hφ := (by (try simp only [cAp, nAp]); exact fun w hr => (hK w hr.1).path.vw)) (h := ?_); rintro _ _ ⟨a1, c1, rfl, rfl⟩; try simp only [cAp, nAp]) | (refine JD_goq (cloneR_s d.oa d.oc d.others (by omega)) (hφ := (by (try simp only [cAp, nAp]); exact fun w hr => (hK w hr.1).others.vw)) (h := ?_); rintro _ _ ⟨a3, c3, rfl, rfl⟩; try simp only [cAp, nAp]))) | refine yJ ?_ | refine zd91Ru14 ?_ | (refine yI ?_ ?_ <;> intro _ <;> try exact xX) | (refine yK ?_ ?_ <;> intro hgb <;> first | subst hgb | fail_if_success have : type_of% hgb := rfl) | fail))
  rename_i b1 b2
  refine J_loop (α := Lg) ⟨0, d.path⟩ (fun x => d.path.length - x.k) (fun x => x.k ≤ d.path.length ∧ x.xs.length = d.path.length ∧ pN x.xs = pN d.path ∧ x.xs.drop x.k = d.path.drop x.k) (fun x => [(1, .pointer (some ⟨b1, 0, none⟩)), (2, .pointer (some ⟨b2, 0, none⟩)), (20, .slice a1 d.path.length c1), (21, .int .i64 d.path.length), (22, .int .i64 x.k)])
    (fun x => [pts b1 (ownC d a1 c1 a2 c2 a3 c3) 35, Ar 79 2 rwC (.slice a3 d.others.length c3) d.others, Ar 87 2 sgC (.slice a1 d.path.length c1) x.xs, has (fun w => ∀ s ∈ x.xs.take x.k, segV w s), Ar 22 1 u32C (.slice a2 d.comms.length c2) d.comms, pts b2 [.int .i64 0, .slice none 0 0, .int .u32 0, .bool false, .int .u32 0, .bool false, .int .u32 0, .bool false, .bool false, .int .u32 0, .int .u32 0, .slice none 0 0, .slice none 0 0] 35]) ⟨Nat.zero_le _, rfl, rfl, rfl⟩ ⟨rfl, rfl, rfl, rfl, rfl, trivial⟩ (fun w H => (Ow.hasTrue (φ := fun w => ∀ s ∈ d.path.take 0, segV w s) H (by intro _ _ h; exact absurd h (by simp))).sel xZ) ?_
  rintro ⟨k, xs⟩ ⟨hk, hxl, hxn, hxd⟩
  dsimp only at hk hxl hxn hxd ⊢
  by_cases hlt : k < d.path.length
  · obtain ⟨s, hs0⟩ : ∃ s, d.path[k]? = some s := ⟨_, List.getElem?_eq_getElem hlt⟩
    have hs : xs[k]? = some s := by have := congrArg (·[0]?) hxd; simpa [hs0] using this
    have hm := List.mem_of_getElem? hs0
    have hsn1 := (hd.num.path s hm).1
    (repeat' (first | (refine gL ?_; first | refine yL0 ?_ | (refine gL_store ?_; (refine JD_stEf (z' := (⟨s.set, ad5, c5, s.as_⟩ : Sg)) (by rfl) (by rfl) xA hs (by rfl) (by intro _; rfl) (by rfl) (by rfl) (by (first | ((repeat (first | exact Put.e | apply Put.t | apply Put.s)); done) | fail)) (by rfl) (by rfl) (by rfl) ?_)) | refine yL ?_ | (refine yM ?_; intro _)) | (refine gD ?_; first | (refine yN ?_; try simp only [cAp, nAp]) | (refine gD_store ?_; (refine JD_stEf (z' := (⟨s.set, ad5, c5, s.as_⟩ : Sg)) (by rfl) (by rfl) xA hs (by rfl) (by intro _; rfl) (by rfl) (by rfl) (by (first | ((repeat (first | exact Put.e | apply Put.t | apply Put.s)); done) | fail)) (by rfl) (by rfl) (by rfl) ?_)) | refine yD ?_ | (refine gD_go ?_; (refine JD_goq (cloneU_s s.a s.c s.as_ hsn1) (hφ := (by (try simp only [cAp, nAp]); exact fun w hr => (hK w hr.1).path.segs s hm)) (h := ?_); rintro _ _ ⟨ad5, c5, rfl, rfl⟩; try simp only [cAp, nAp]))) | refine yJ ?_ | refine J_draw (id := 5) [0, 1, 2, 3, 4, 5, 6, 7] [8] mixed xC xD xD ?_ | refine J_draw (id := 1) [0, 1, 3, 4, 6, 7, 2, 9, 5, 8] [10, 11, 12, 13, 14] mixed xC xD xD ?_ | refine J_draw (id := 10) [0, 1, 2, 3, 4, 5] [6, 7, 8] mixed xC xD xD ?_ | (refine yI ?_ ?_ <;> intro _ <;> try exact xX) | (refine yK ?_ ?_ <;> intro hgb <;> first | subst hgb | fail_if_success have : type_of% hgb := rfl) | fail))
    refine J_again ⟨k + 1, xs.set k ⟨s.set, ad5, c5, s.as_⟩⟩ (by dsimp only; omega) ⟨by dsimp only; omega, by simp [hxl], (pN_set (z := ⟨s.set, ad5, c5, s.as_⟩) hs rfl rfl).trans hxn, ?_⟩ ⟨rfl, rfl, rfl, rfl, rfl, trivial⟩ (fun w H => ?_)
    · dsimp only
      rw [List.drop_set_of_lt (by omega), ← List.drop_drop, hxd, List.drop_drop]
    · refine (Ow.has (M := [Ar 22 1 u32C (.slice ad5 s.as_.length c5) s.as_, has (fun w => ∀ s ∈ xs.take k, segV w s)]) (φ := fun w => ∀ x ∈ (xs.set k ⟨s.set, ad5, c5, s.as_⟩).take (k + 1), segV w x) H xZ ?_).sel xZ
      intro w hr x hx
      rw [take_set (by omega)] at hx
      rcases List.mem_append.1 hx with hx | hx
      · exact hr.has (.there .here) x hx
      · obtain rfl := List.mem_singleton.1 hx
        exact Src.ar .here w hr
  · obtain rfl : k = d.path.length := by omega
    rw [← hxl, List.take_length, hxl]
    (repeat' (first | (refine gL ?_; first | refine yL0 ?_ | refine yL ?_ | (refine yM ?_; intro _)) | (refine gD ?_; first | (refine yN ?_; try simp only [cAp, nAp]) | refine yD ?_) | refine yJ ?_ | refine zd91Ru14 ?_ | (refine yI ?_ ?_ <;> intro _ <;> try exact xX) | (refine yK ?_ ?_ <;> intro hgb <;> first | subst hgb | fail_if_success have : type_of% hgb := rfl) | fail))
    refine J_loop (α := Lr) ⟨0, d.others⟩ (fun x => d.others.length - x.k) (fun x => x.k ≤ d.others.length ∧ x.xs.length = d.others.length ∧ oN x.xs = oN d.others ∧ x.xs.drop x.k = d.others.drop x.k) (fun x => [(1, .pointer (some ⟨b1, 0, none⟩)), (2, .pointer (some ⟨b2, 0, none⟩)), (37, .slice a3 d.others.length c3), (38, .int .i64 d.others.length), (39, .int .i64 x.k)])
      (fun x => [pts b1 (ownC d a1 c1 a2 c2 a3 c3) 35, Ar 79 2 rwC (.slice a3 d.others.length c3) x.xs, has (fun w => ∀ s ∈ x.xs.take x.k, rawV w s), Ar 87 2 sgC (.slice a1 d.path.length c1) xs, has (fun w => ∀ s ∈ xs, segV w s), Ar 22 1 u32C (.slice a2 d.comms.length c2) d.comms, pts b2 [.int .i64 0, .slice none 0 0, .int .u32 0, .bool false, .int .u32 0, .bool false, .int .u32 0, .bool false, .bool false, .int .u32 0, .int .u32 0, .slice none 0 0, .slice none 0 0] 35]) ⟨Nat.zero_le _, rfl, rfl, rfl⟩ ⟨rfl, rfl, rfl, rfl, rfl, trivial⟩ (fun w H => (Ow.hasTrue (φ := fun w => ∀ s ∈ d.others.take 0, rawV w s) H (by intro _ _ h; exact absurd h (by simp))).sel xZ) ?_
    rintro ⟨j, ys⟩ ⟨hj, hyl, hyn, hyd⟩
    dsimp only at hj hyl hyn hyd ⊢
    by_cases hlt : j < d.others.length
    · obtain ⟨s, hs0⟩ : ∃ s, d.others[j]? = some s := ⟨_, List.getElem?_eq_getElem hlt⟩
      have hs : ys[j]? = some s := by have := congrArg (·[0]?) hyd; simpa [hs0] using this
      have hm := List.mem_of_getElem? hs0
      have hsn1 := (hd.num.others s hm).2.1
      (repeat' (first | (refine gL ?_; first | refine yL0 ?_ | (refine gL_store ?_; (refine JD_stEf (z' := (⟨s.kind, ad5, c5, s.data⟩ : Rw)) (by rfl) (by rfl) xA hs (by rfl) (by intro _; rfl) (by rfl) (by rfl) (by (first | ((repeat (first | exact Put.e | apply Put.t | apply Put.s)); done) | fail)) (by rfl) (by rfl) (by rfl) ?_)) | refine yL ?_ | (refine yM ?_; intro _)) | (refine gD ?_; first | (refine yN ?_; try simp only [cAp, nAp]) | (refine gD_store ?_; (refine JD_stEf (z' := (⟨s.kind, ad5, c5, s.data⟩ : Rw)) (by rfl) (by rfl) xA hs (by rfl) (by intro _; rfl) (by rfl) (by rfl) (by (first | ((repeat (first | exact Put.e | apply Put.t | apply Put.s)); done) | fail)) (by rfl) (by rfl) (by rfl) ?_)) | refine yD ?_ | (refine gD_go ?_; (refine JD_goq (cloneB_s s.a s.c s.data hsn1) (hφ := (by (try simp only [cAp, nAp]); exact fun w hr => (hK w hr.1).others.raws s hm)) (h := ?_); rintro _ _ ⟨ad5, c5, rfl, rfl⟩; try simp only [cAp, nAp]))) | refine yJ ?_ | refine J_draw (id := 10) [0, 1, 2, 3, 4, 5, 6, 7] [8] mixed xC xD xD ?_ | refine J_draw (id := 1) [0, 1, 3, 4, 6, 7, 2, 9, 5, 8] [10, 11, 12, 13, 14] mixed xC xD xD ?_ | refine J_draw (id := 5) [0, 1, 2, 3, 4, 5] [6, 7, 8] mixed xC xD xD ?_ | (refine yI ?_ ?_ <;> intro _ <;> try exact xX) | (refine yK ?_ ?_ <;> intro hgb <;> first | subst hgb | fail_if_success have : type_of% hgb := rfl) | fail))
      refine J_again ⟨j + 1, ys.set j ⟨s.kind, ad5, c5, s.data⟩⟩ (by dsimp only; omega) ⟨by dsimp only; omega, by simp [hyl], (oN_set (z := ⟨s.kind, ad5, c5, s.data⟩) hs rfl rfl).trans hyn, ?_⟩ ⟨rfl, rfl, rfl, rfl, rfl, trivial⟩ (fun w H => ?_)
      · dsimp only
        rw [List.drop_set_of_lt (by omega), ← List.drop_drop, hyd, List.drop_drop]
      · refine (Ow.has (M := [Ar 5 1 byC (.slice ad5 s.data.length c5) s.data, has (fun w => ∀ s ∈ ys.take j, rawV w s)]) (φ := fun w => ∀ x ∈ (ys.set j ⟨s.kind, ad5, c5, s.data⟩).take (j + 1), rawV w x) H xZ ?_).sel xZ
        intro w hr x hx
        rw [take_set (by omega)] at hx
        rcases List.mem_append.1 hx with hx | hx
        · exact hr.has (.there .here) x hx
        · obtain rfl := List.mem_singleton.1 hx
          exact Src.ar .here w hr
    · obtain rfl : j = d.others.length := by omega
      rw [← hyl, List.take_length, hyl]
      (repeat' (first | (refine gL ?_; first | refine yL0 ?_ | refine yL ?_ | (refine yM ?_; intro _)) | (refine gD ?_; first | (refine yN ?_; try simp only [cAp, nAp]) | refine yD ?_) | refine yJ ?_ | refine zd91Ru14 ?_ | (refine yI ?_ ?_ <;> intro _ <;> try exact xX) | (refine yK ?_ ?_ <;> intro hgb <;> first | subst hgb | fail_if_success have : type_of% hgb := rfl) | fail))
      refine J_retC (cs := ownC d a1 c1 a2 c2 a3 c3) rfl (by rfl) xA (by rfl) fun w H => ⟨_, ⟨d.at_ xs a1 c1 d.comms a2 c2 ys a3 c3, At.at_num hd _ _ _ _ _ _ _ _ _ hxn rfl hyn, d.at_nf _ _ _ _ _ _ _ _ _ hxn rfl hyn, by simp only [atC, atN, At.at_, hxl, hyl], rfl⟩, ?_⟩
      refine (Ow.has (M := [Ar 87 2 sgC (.slice a1 d.path.length c1) xs, has (fun w => ∀ s ∈ xs, segV w s), Ar 22 1 u32C (.slice a2 d.comms.length c2) d.comms, Ar 79 2 rwC (.slice a3 d.others.length c3) ys, has (fun w => ∀ s ∈ ys, rawV w s)]) (φ := fun w => AtV w (d.at_ xs a1 c1 d.comms a2 c2 ys a3 c3)) H xZ ?_).sel xZ
      intro w hr
      have h1 := Src.ar (enc := sgC) (es := xs) .here w hr
      have h2 := Src.ar (enc := rwC) (es := ys) (.there (.there (.there .here))) w hr
      rw [← hxl] at h1
      rw [← hyl] at h2
      exact ⟨⟨h1, fun s hs => hr.has (φ := fun w => ∀ s ∈ xs, segV w s) (.there .here) s hs⟩, Src.ar (.there (.there .here)) w hr, ⟨h2, fun s hs => hr.has (φ := fun w => ∀ s ∈ ys, rawV w s) (.there (.there (.there (.there .here)))) s hs⟩⟩
end Go.Proofs.YtdnokmpnemaoaaaGreat.C
namespace Go.Pm
set_option linter.unusedSimpArgs false
set_option linter.unusedVariables false
open Go.RowKit
section
variable {P : Program} {n : Nat} {W : World} {K : Hl} {fn : Func} {Rr : Value → List HP → Prop} {tm : TM} {L R : List HP} {k : List It}
theorem J_retC2 {t u s : Tmp} {v x : Value} {ty T : TypeId} {b : Nat} {cs : List Value} (hr : fn.results = #[.cell t ty, .tmp u, .tmp s]) (hv : evT tm (.tmp t) = some (.pointer (some ⟨b, 0, none⟩))) (hu : evT tm (.tmp u) = some v) (hs : evT tm (.tmp s) = some x) (hm : Tk L (pts b cs T) R) (ht : rowTy P ty cs.length = true) (hk : ∀ w, Ow W K L w → ∃ L', Rr (.tuple #[.agg cs.toArray, v, x]) L' ∧ Ow W K L' w) (hd : decM (tget tm mkK) = [] := by rfl) : J P n W K (fpost P fn W K Rr) (.code .ret :: k) tm L := J_outR hd fun a w hf hO => by
  refine ⟨L, hO, fun w' H => ?_⟩
  obtain ⟨L', h1, h2⟩ := hk w' H
  exact ⟨_, by simp [results, hr, hf.get? hv, hf.get? hu, hf.get? hs, run_cellR H hm ht, Array.getD_eq_getD_getElem?, asAddr], L', h1, h2⟩
end
/-! Append onto a literal of one element. -/
section
variable {P : Program} {n : Nat} {W : World} {K : Hl} {F : Fp} {k : List It} {tm : TM} {L L' R S M M' : List HP} {T : TypeId} {pos : String} {af : Array Edge} {gd : Option (Nat × Bool)} {ops : Array Oper} {rest nx : List Oper} {d : Tmp}
variable {α : Type} {enc : α → List Value} {e : TypeId} {sz bytes : Nat}
theorem ar_one {W : World} {w : World} {g : Nat} {cs : List Value} {y : α} (H : Ow W K L w) (h : Tk L (pts g cs e) R) (hy : cs = enc y) (hl : ∀ x, (enc x).length = sz) : Ow W K (Ar e sz enc (.slice (some ⟨g, 0, none⟩) 1 1) [y] :: R) w := by
  subst hy
  rw [← flat_one enc y] at h
  exact Ow.arRow (m := 1) H h hl (Nat.le_refl _) (by unfold maxLen; simp)
theorem JL_appY {t : TypeId} {g m : Nat} {s x : Operand} {v : Value} {cs : List Value} (y : α) (fs : List α) (hi : elemInfo P t = some (e, sz, bytes)) (hs : evT tm s = some (.slice (some ⟨g, 0, none⟩) 1 1)) (hx : evT tm x = some v) (hm : Tk L (pts g cs e) R) (hy : cs = enc y) (hv : Src K R v sz m (flat enc fs)) (hok : elOk P t e sz bytes = true) (hl : ∀ x, (enc x).length = sz) (h1 : ∀ u ∈ flat enc fs, u.oneCell' = true) (hsz : (1 + m) * bytes ≤ 140737488355328)
    (hn : Nat.blt d n = true) (hg : wantF ops ⟨some d, .call ⟨.builtin .append, #[s, x], #[t, t]⟩, T, pos, af, gd⟩ (tget tm) = some true) (h : ∀ ad c, 1 + m ≤ c → c ≤ maxLen → JL P n W K F ops k rest ((d, .slice ad (1 + m) c) :: tm) (Ar e sz enc (.slice ad (1 + m) c) (y :: fs) :: R)) : JL P n W K F ops k (⟨some d, .call ⟨.builtin .append, #[s, x], #[t, t]⟩, T, pos, af, gd⟩ :: rest) tm L :=
  JL_a rfl hn hg (.cons hm .nil) (fun W' K' w a next hK hf hO hn => ae_app (es := [y]) (.ofOk hok) hs hx hv hl h1 (by simpa using hsz) W' K' w a next hK hf (ar_one hO .here hy hl) hn) (by
    rintro _ _ ⟨ad, c, h2, h3, rfl, rfl⟩
    exact h ad c h2 h3)
end
end Go.Pm
namespace Go.Proofs.YtdnokmpnemaoaaaGreat.C
set_option linter.unusedSimpArgs false
set_option linter.unusedVariables false
set_option maxRecDepth 20000
set_option maxHeartbeats 4000000
open Go.RowKit Go.Pm

def at0 : At := ⟨0, none, 0, [], 0, false, 0, false, 0, false, false, 0, 0, none, 0, [], none, 0, []⟩
theorem at0_f : AtF at0 := ⟨⟨by show I64 0; unfold I64; decide, by show U32 0; unfold U32; decide, by show U32 0; unfold U32; decide, by show U32 0; unfold U32; decide, by show U32 0; unfold U32; decide, by show U32 0; unfold U32; decide, fun s h => (by cases h), fun s h => (by cases h), fun s h => (by cases h)⟩, by simp [at0], by simp [at0], by simp [at0]⟩
theorem at0_v (w : World) : AtV w at0 := ⟨⟨Vw.nil w 2, fun s h => (by cases h)⟩, Vw.nil w 1, ⟨Vw.nil w 2, fun s h => (by cases h)⟩⟩
def PlR (r : Option Nf) (u : Value) (L' : List HP) : Prop := ∃ d' : At, AtF d' ∧ d'.nf = r.getD at0.nf ∧ u = .tuple #[.agg (atC d').toArray, .bool r.isSome, .int .i64 0] ∧ L' = [has (fun w => AtV w d')]
theorem Play_s (a : Option Addr) (c : Nat) (T : List Sp) (p : Pf) (hp : PfN p) (d : At) (hd : AtF d) (hc : checkE T = 0) (hsn : ∀ s ∈ T, SpN s) (h0 : 0 < T.length) (hl : T.length ≤ 4096) : Pact Tryz.prog 53 #[.slice a T.length c, .agg (pfC p).toArray, .agg (atC d).toArray] (fun w => AtV w d ∧ Vw w (.slice a T.length c) 7 T.length (flat spC T)) [] (PlR (playW T p 0 d.nf).1) := by
  have hT := right_of_check hc
  refine pact Tryz.func53 rfl Tryz.ntmps53 rfl ?_
  intro W K hK
  obtain ⟨r0, hr0⟩ : ∃ r, playW T p 0 d.nf = r := ⟨_, rfl⟩
  rw [hr0]
  have hC := check_b a c T hsn (by omega) 0 hc
  have hP := fun rb => play_s rb p hp d hd a c T hT hsn h0 hl
  rw [hr0] at hP
  obtain ⟨r, N⟩ := r0
  cases r with
  | none =>
    (repeat' (first | (refine gL ?_; first | refine yL0 ?_ | refine yL ?_ | (refine gL_go ?_; first | (refine JL_goq (hC) (hφ := (by (try simp only [cAp, nAp]); exact fun w hr => (hK w hr.1).2)) (h := ?_); rintro _ _ ⟨rfl, rfl⟩; try simp only [cAp, nAp]) | (refine JL_goq (hP _) (hφ := (by (try simp only [cAp, nAp]); exact fun w hr => hK w hr.1)) (h := ?_); rintro _ _ ⟨d', hd', rfl, hx, rfl⟩; try simp only [cAp, nAp])) | (refine yM ?_; intro _)) | refine yJ ?_ | (refine yI ?_ ?_ <;> intro _ <;> try exact xX) | (refine yK ?_ ?_ <;> intro hgb <;> first | subst hgb | fail_if_success have : type_of% hgb := rfl) | fail))
    all_goals (first | (exfalso; omega) | skip)
    exact J_retC2 (cs := [.int .i64 0, .slice none 0 0, .int .u32 0, .bool false, .int .u32 0, .bool false, .int .u32 0, .bool false, .bool false, .int .u32 0, .int .u32 0, .slice none 0 0, .slice none 0 0]) rfl (by rfl) (by rfl) (by rfl) xA (by rfl) fun w H => ⟨_, ⟨at0, at0_f, rfl, rfl, rfl⟩, (Ow.hasTrue (φ := fun w => AtV w at0) H at0_v).sel xZ⟩
  | some x =>
    (repeat' (first | (refine gL ?_; first | refine yL0 ?_ | refine yL ?_ | (refine gL_go ?_; first | (refine JL_goq (hC) (hφ := (by (try simp only [cAp, nAp]); exact fun w hr => (hK w hr.1).2)) (h := ?_); rintro _ _ ⟨rfl, rfl⟩; try simp only [cAp, nAp]) | (refine JL_goq (hP _) (hφ := (by (try simp only [cAp, nAp]); exact fun w hr => hK w hr.1)) (h := ?_); rintro _ _ ⟨d', hd', rfl, hx, rfl⟩; try simp only [cAp, nAp]) | (refine JL_goq (own_s d' hd') (hφ := (by (try simp only [cAp, nAp]); exact fun w hr => hr.has (φ := fun w => AtV w d → AtV w d') xA (hK w hr.1).1)) (h := ?_); rintro _ _ ⟨d2, hd2, hn2, rfl, rfl⟩; try simp only [cAp, nAp])) | (refine yM ?_; intro _)) | refine yJ ?_ | (refine yI ?_ ?_ <;> intro _ <;> try exact xX) | (refine yK ?_ ?_ <;> intro hgb <;> first | subst hgb | fail_if_success have : type_of% hgb := rfl) | fail))
    all_goals (first | (exfalso; omega) | skip)
    exact J_retC2 (cs := atC d2) rfl (by rfl) (by rfl) (by rfl) xA (by rfl) fun w H => ⟨_, ⟨d2, hd2, by rw [hn2, hx x rfl]; rfl, rfl, rfl⟩, H.sel xZ⟩
end Go.Proofs.YtdnokmpnemaoaaaGreat.C
