/-
  Aq7, Jw, Aq8, Aq9: merged.
-/
import Derived.Test.YtdnokmpnemaoaaaGreatZViewPlays20
import Derived.WalkSpells
import Derived.WalkLawsBesides
import Derived.BigRegion
namespace Go.Proofs.YtdnokmpnemaoaaaGreat
set_option linter.unusedSimpArgs false
set_option linter.unusedVariables false
set_option maxRecDepth 20000
set_option maxHeartbeats 4000000
open Go.RowKit Go.Pm

theorem bytesEl : El Tryz.prog 77 5 1 1 := El.mk' (z := .int .u8 0) Tryz.underlying77 (by kernel_rfl) rfl (by omega) (by omega)

theorem OwnB.empty {e : TypeId} {w : World} {base g cap : Nat} {cur : Array Value} (h : Blk w g cur e) (hb : base ≤ g) (hs : cur.size = cap) (hm : cap ≤ maxLen) : OwnB e w base (.slice (some ⟨g, 0, none⟩) 0 cap) [] :=
  ⟨rfl, .inr ⟨g, cap, cur, rfl, hb, h, Nat.zero_le _, hm, by omega, rfl⟩⟩

theorem grow_nil (n : Nat) (w : World) (hn : n ≤ 140737488355328) :
    Calls Tryz.prog 188 #[.slice none 0 0, .int .i64 n] w (FreshB 5 w []) := by
  obtain ⟨i, z, hi, hz, hsz, hby, hzs⟩ := bytesEl.inf
  have hm : n ≤ 9223372036854775807 := by omega
  by_cases h0 : n = 0
  · subst h0
    go_enter Tryz.func188, Tryz.ntmps188
    go_wp2
    go_ret
    exact ⟨_, rfl, OwnB.nil _ _ _, Only.refl _ _⟩
  · have hpos : 0 < n := by omega
    have HR := Lib.hid (Lib.run_append_nil_zeros (P := Tryz.prog) w 77 3 77 5 i z .i64 .i64 Tryz.underlying77 Tryz.underlying3 hi hz n hpos (by omega) (by omega) (by rw [hby]; omega))
    have HC1 := Lib.hid (grownCap_ge w n 0 5)
    have HC2 := Lib.hid (grownCap_le_maxLen w n 0 5 (by unfold maxLen; omega))
    generalize z.cells = zc at *
    have HZ := Lib.hid hzs
    generalize grownCap w n 0 5 = c at *
    have hc : n ≤ c := HC1.out
    have hc2 : c ≤ 9223372036854775807 := by have := HC2.out; unfold maxLen at this; omega
    go_enter Tryz.func188, Tryz.ntmps188
    go_wp2_with (at_builtin; refine Lib.wpList_append_run _ rfl _ _ _ _ rfl _ _ rfl rfl _ _ HR.out ?_)
    go_ret
    refine ⟨_, rfl, OwnB.empty (Blk.new w.drew _ _) (Nat.le_refl _) ?_ HC2.out, ((Only.refl _ _).drew).alloc _⟩
    rw [Array.size_append, size_zeroCells, size_zeroCells, HZ.out]; omega

def SlR (l : List Int) (u : Value) (L' : List HP) : Prop := ∃ a c, u = .slice a l.length c ∧ L' = [Ar 5 1 byC (.slice a l.length c) l]
theorem ar_bytes (v : Value) (l : List Int) : SlB 5 v l = Ar 5 1 byC v l := by
  unfold SlB Ar
  rw [flat_byC]
theorem grow_s (n : Nat) (hn : n ≤ 140737488355328) : Pact Tryz.prog 188 #[.slice none 0 0, .int .i64 n] (fun _ => True) [] (SlR []) := fun W K w hK H =>
  (grow_nil n w hn).mono fun e w' h => by
    obtain ⟨v, rfl, ho, hO⟩ := h
    obtain ⟨a, c, rfl, h1, h2⟩ := ho.vw.shape
    have H2 := H.freshB hO ho
    rw [ar_bytes] at H2
    exact ⟨_, _, ⟨a, c, rfl, rfl⟩, rfl, H2⟩
structure Bs where
  a : Option Addr
  c : Nat
  l : List Int
def bsC (s : Bs) : List Value := [.slice s.a s.l.length s.c]
def bsV (w : World) (s : Bs) : Prop := Vw w (.slice s.a s.l.length s.c) 1 s.l.length (flat byC s.l)
structure PartsV (w : World) (a : Option Addr) (c : Nat) (p : List Bs) : Prop where
  vw : Vw w (.slice a p.length c) 1 p.length (flat bsC p)
  parts : ∀ s ∈ p, bsV w s
def catB (p : List Bs) : List Int := p.flatMap (·.l)
theorem catB_snoc (p : List Bs) (s : Bs) : catB (p ++ [s]) = catB p ++ s.l := by simp [catB]
theorem catB_take {p : List Bs} {k : Nat} {s : Bs} (h : p[k]? = some s) : catB (p.take (k + 1)) = catB (p.take k) ++ s.l := by rw [take_snoc h, catB_snoc]
theorem catB_le (p : List Bs) (k : Nat) : (catB (p.take k)).length ≤ (catB p).length := by
  have : catB p = catB (p.take k) ++ catB (p.drop k) := by
    unfold catB
    rw [← List.flatMap_append, List.take_append_drop]
  rw [this, List.length_append]
  omega
structure Cc where
  i : Nat
  ad : Option Addr
  c : Nat
theorem concat_s (a : Option Addr) (c : Nat) (p : List Bs) (hp : p.length ≤ 1000) (hl : (catB p).length ≤ 1000000) : Pact Tryz.prog 184 #[.slice a p.length c] (fun w => PartsV w a c p) [] (SlR (catB p)) := by
  refine pact Tryz.func184 rfl Tryz.ntmps184 rfl ?_
  intro W K hK
  have hO : Kn K (fun w => Vw w (.slice a p.length c) 1 p.length (flat bsC p)) := hK.imp fun _ h => h.vw
  (repeat' (first | ((with_reducible apply gL); (first | refine yL0 ?_ | refine yL ?_ | (refine yA ?_; intro _ _ _ _) | fail)) | refine yJ ?_ | ((with_reducible apply gJ_if); (first | (refine J_if xR ?_ ?_ <;> intro _ <;> (try (exfalso; first | contradiction | omega))) | (refine J_ifb xR ?_ ?_ <;> (intro hgb; subst hgb)) | (refine J_ifb xR ?_ ?_ <;> intro _) | fail)) | fail))
  refine J_loop (α := Nat) 0 (fun x => p.length - x) (fun x => x ≤ p.length) (fun x => [(0, .slice a p.length c), (9, .slice a p.length c), (10, .int .i64 p.length), (11, .int .i64 x), (3, .int .i64 (catB (p.take x)).length)]) (fun _ => []) (Nat.zero_le _) ⟨rfl, rfl, rfl, rfl, rfl, trivial⟩ (fun w H => H.sel .nil) ?_
  intro k hk
  have hkl := catB_le p k
  obtain ⟨N, hN⟩ : ∃ N, (catB (p.take k)).length = N := ⟨_, rfl⟩
  rw [hN] at hkl ⊢
  by_cases hlt : k < p.length
  · obtain ⟨s, hs⟩ : ∃ s, p[k]? = some s := ⟨_, List.getElem?_eq_getElem hlt⟩
    have h1 := catB_le p (k + 1)
    rw [catB_take hs, List.length_append, hN] at h1
    (repeat' (first | ((with_reducible apply gL); (first | refine yL0 ?_ | refine yL ?_ | (refine yA ?_; intro _ _ _ _) | fail)) | refine yJ ?_ | ((with_reducible apply gJ_if); (first | (refine J_if xR ?_ ?_ <;> intro _ <;> (try (exfalso; first | contradiction | omega))) | (refine J_ifb xR ?_ ?_ <;> (intro hgb; subst hgb)) | (refine J_ifb xR ?_ ?_ <;> intro _) | fail)) | fail))
    refine J_again (k + 1) (by omega) (by omega) ⟨rfl, rfl, rfl, rfl, ?_, trivial⟩ (fun w H => H.sel .nil)
    rw [catB_take hs, List.length_append, hN]
    show some _ = some _
    simp
  · have hke : k = p.length := by omega
    subst hke
    rw [List.take_length] at hN
    (repeat' (first | ((with_reducible apply gL); (first | refine yL0 ?_ | refine yL ?_ | ((with_reducible apply gL_go); (first | (refine JL_goq (grow_s N (by omega)) (hφ := xF) (h := ?_); rintro _ _ ⟨ga, gc, rfl, rfl⟩; try simp only [List.cons_append, List.nil_append]) | fail)) | (refine yA ?_; intro _ _ _ _) | fail)) | refine yJ ?_ | ((with_reducible apply gJ_if); (first | (refine J_if xR ?_ ?_ <;> intro _ <;> (try (exfalso; first | contradiction | omega))) | (refine J_ifb xR ?_ ?_ <;> (intro hgb; subst hgb)) | (refine J_ifb xR ?_ ?_ <;> intro _) | fail)) | fail))
    refine J_loop (α := Cc) ⟨0, ga, gc⟩ (fun x => p.length - x.i) (fun x => x.i ≤ p.length) (fun x => [(25, .slice a p.length c), (26, .int .i64 p.length), (27, .int .i64 x.i), (6, .slice x.ad (catB (p.take x.i)).length x.c)]) (fun x => [Ar 5 1 byC (.slice x.ad (catB (p.take x.i)).length x.c) (catB (p.take x.i))]) (Nat.zero_le _) ⟨rfl, rfl, rfl, rfl, trivial⟩ (fun w H => H.sel xZ) ?_
    rintro ⟨k, ad, cc⟩ hk
    dsimp only at hk ⊢
    have hkl := catB_le p k
    by_cases hlt : k < p.length
    · obtain ⟨s, hs⟩ : ∃ s, p[k]? = some s := ⟨_, List.getElem?_eq_getElem hlt⟩
      have h1 := catB_le p (k + 1)
      have h2 := catB_take hs
      rw [h2, List.length_append] at h1
      have hu : Kn K (fun w => Vw w (.slice s.a s.l.length s.c) 1 s.l.length (flat byC s.l)) := hK.imp fun _ h => h.parts s (List.mem_of_getElem? hs)
      (repeat' (first | ((with_reducible apply gL); (first | refine yL0 ?_ | ((with_reducible apply gL_c_append); (first | (refine JL_app (fs := s.l) (tabE etab_ok xR) xR xR xA (Src.kn hu) xC xL xU (by omega) xR xR ?_; intro ad2 cc2 _ _) | fail)) | refine yL ?_ | (refine yA ?_; intro _ _ _ _) | fail)) | refine yJ ?_ | ((with_reducible apply gJ_if); (first | (refine J_if xR ?_ ?_ <;> intro _ <;> (try (exfalso; first | contradiction | omega))) | (refine J_ifb xR ?_ ?_ <;> (intro hgb; subst hgb)) | (refine J_ifb xR ?_ ?_ <;> intro _) | fail)) | fail))
      refine J_again ⟨k + 1, ad2, cc2⟩ (by dsimp only; omega) (by dsimp only; omega) ⟨rfl, rfl, rfl, ?_, trivial⟩ (fun w H => ?_)
      · dsimp only
        rw [h2, List.length_append]
        rfl
      · dsimp only
        rw [h2, List.length_append]
        exact H.sel xZ
    · have hke : k = p.length := by omega
      subst hke
      rw [List.take_length]
      (repeat' (first | ((with_reducible apply gL); (first | refine yL0 ?_ | refine yL ?_ | (refine yA ?_; intro _ _ _ _) | fail)) | refine yJ ?_ | ((with_reducible apply gJ_if); (first | (refine J_if xR ?_ ?_ <;> intro _ <;> (try (exfalso; first | contradiction | omega))) | (refine J_ifb xR ?_ ?_ <;> (intro hgb; subst hgb)) | (refine J_ifb xR ?_ ?_ <;> intro _) | fail)) | fail))
      exact J_ret1 rfl (by rfl) fun w H => ⟨_, ⟨ad, cc, rfl, rfl⟩, H.sel xZ⟩
end Go.Proofs.YtdnokmpnemaoaaaGreat
namespace Go.Pm
set_option linter.unusedSimpArgs false
set_option linter.unusedVariables false
open Go.RowKit
inductive NumsOf : List Value → List Int → Prop
  | nil : NumsOf [] []
  | cons {x : Int} {cs : List Value} {bs : List Int} : NumsOf cs bs → NumsOf (.int .u8 x :: cs) (x :: bs)
theorem NumsOf.eq {cs : List Value} {bs : List Int} (h : NumsOf cs bs) : cs = flat byC bs := by
  induction h with
  | nil => rfl
  | cons _ ih => rw [ih]; rfl
theorem NumsOf.cons' {x y : Int} {cs : List Value} {bs : List Int} (h : y = x) (hc : NumsOf cs bs) : NumsOf (.int .u8 y :: cs) (x :: bs) := by subst h; exact .cons hc
theorem flat_byC_len (bs : List Int) : (flat byC bs).length = bs.length := by
  have := flat_length (f := byC) (sz := 1) (fun _ => rfl) bs
  omega
theorem flat_byC_one (bs : List Int) : ∀ u ∈ flat byC bs, u.oneCell' = true := by
  intro u hu
  obtain ⟨x, _, hx⟩ := List.mem_flatMap.1 hu
  obtain rfl := List.mem_singleton.1 hx
  rfl
section
variable {P : Program} {n : Nat} {W : World} {K : Hl} {F : Fp} {k : List It} {tm : TM} {L L' R S M M' R' : List HP} {T : TypeId} {pos : String} {af : Array Edge} {gd : Option (Nat × Bool)} {ops : Array Oper} {rest nx : List Oper} {d : Tmp}
variable {t e T' : TypeId} {m b : Nat} {s x : Operand} {v : Value} {es bs : List Int} {cs : List Value}
theorem Src.nums {K : Hl} {L R : List HP} {g m : Nat} {cs : List Value} {e : TypeId} {bs : List Int} (t : Tk L (pts g cs e) R) (hb : NumsOf cs bs) (hl : Nat.beq bs.length m = true) (hm : Nat.ble m 1000000 = true) : Src K L (.slice (some ⟨g, 0, none⟩) m m) 1 m (flat byC bs) := by
  rw [← hb.eq]
  have h1 := Nat.eq_of_beq_eq_true hl
  have h2 := Nat.le_of_ble_eq_true hm
  exact Src.lit t (by rw [hb.eq, flat_byC_len]; omega) (by simp [maxLen]; omega)
theorem JL_apN (hi : elemInfo P t = some (e, 1, 1)) (hs : evT tm s = some v) (hx : evT tm x = some (.slice (some ⟨b, 0, none⟩) m m)) (hm : Tk L (Ar e 1 byC v es) R) (hb : Tk R (pts b cs T') R') (hy : NumsOf cs bs) (hlen : Nat.beq bs.length m = true) (hm2 : Nat.ble m 1000000 = true) (hok : elOk P t e 1 1 = true) (hsz : es.length + m ≤ 140737488355328)
    (hn : Nat.blt d n = true) (hg : wantF ops ⟨some d, .call ⟨.builtin .append, #[s, x], #[t, t]⟩, T, pos, af, gd⟩ (tget tm) = some true) (h : ∀ ad c, es.length + m ≤ c → c ≤ maxLen → JL P n W K F ops k rest ((d, .slice ad (es.length + m) c) :: tm) (Ar e 1 byC (.slice ad (es.length + m) c) (es ++ bs) :: R)) : JL P n W K F ops k (⟨some d, .call ⟨.builtin .append, #[s, x], #[t, t]⟩, T, pos, af, gd⟩ :: rest) tm L :=
  JL_app hi hs hx hm (Src.nums hb hy hlen hm2) hok (fun _ => rfl) (flat_byC_one bs) (by omega) hn hg h
theorem JD_apN (hi : elemInfo P t = some (e, 1, 1)) (hs : evT tm s = some v) (hx : evT tm x = some (.slice (some ⟨b, 0, none⟩) m m)) (hm : Tk M (Ar e 1 byC v es) R) (hb : Tk R (pts b cs T') R') (hy : NumsOf cs bs) (hlen : Nat.beq bs.length m = true) (hm2 : Nat.ble m 1000000 = true) (hok : elOk P t e 1 1 = true) (hsz : es.length + m ≤ 140737488355328)
    (hg : wantF ops ⟨some d, .call ⟨.builtin .append, #[s, x], #[t, t]⟩, T, pos, af, gd⟩ (tget tm) = some true) (h : ∀ ad c, es.length + m ≤ c → c ≤ maxLen → JD P n W K F ops k nx rest ((d, .slice ad (es.length + m) c) :: tm) S (Ar e 1 byC (.slice ad (es.length + m) c) (es ++ bs) :: R)) : JD P n W K F ops k nx (⟨some d, .call ⟨.builtin .append, #[s, x], #[t, t]⟩, T, pos, af, gd⟩ :: rest) tm S M :=
  JD_app hi hs hx hm (Src.nums (hb.app S) hy hlen hm2) hok (fun _ => rfl) (flat_byC_one bs) (by omega) hg h
theorem Ow.arNums {w : World} (H : Ow W K L w) (hb : Tk L (pts b cs e) R) (hy : NumsOf cs bs) (hlen : Nat.beq bs.length m = true) (hm2 : Nat.ble m 1000000 = true) : Ow W K (Ar e 1 byC (.slice (some ⟨b, 0, none⟩) m m) bs :: R) w := by
  have h1 := Nat.eq_of_beq_eq_true hlen
  have h2 := Nat.le_of_ble_eq_true hm2
  unfold Ar
  rw [h1, ← hy.eq]
  exact H.slLit hb (by rw [hy.eq, flat_byC_len]; omega) (by simp [maxLen]; omega)
end
end Go.Pm
namespace Go.Proofs.YtdnokmpnemaoaaaGreat
set_option linter.unusedSimpArgs false
set_option linter.unusedVariables false
set_option maxRecDepth 20000
set_option maxHeartbeats 4000000
open Go.RowKit Go.Pm

def num4 (n : Int) : List Int := [n / 16777216, n / 65536 % 256, n / 256 % 256, n % 256]
abbrev Ar4 (b : Nat) (n : Int) : HP := Ar 5 1 byC (.slice (some ⟨b, 0, none⟩) 4 4) (num4 n)
theorem num_s (n : Int) (hn : U32 n) : Pact Tryz.prog 164 #[.int .u32 n] (fun _ => True) [] (fun u L' => ∃ b, u = .slice (some ⟨b, 0, none⟩) 4 4 ∧ L' = [Ar4 b n]) := by
  refine pact Tryz.func164 rfl Tryz.ntmps164 rfl ?_
  intro W K _
  obtain ⟨h0, h1⟩ := hn
  (repeat' (first | ((with_reducible apply gL); (first | refine yL0 ?_ | refine yL ?_ | (refine yM ?_; intro _) | fail)) | refine yJ ?_ | fail))
  rename_i b
  refine J_ret1 rfl (by rfl) fun w H => ⟨_, ⟨b, rfl, rfl⟩, ?_⟩
  refine Ow.sel (Ow.arNums (bs := num4 n) H .here ?_ rfl rfl) xZ
  unfold num4
  repeat (first | exact NumsOf.nil | (refine NumsOf.cons' ?_ ?_; omega))
def kd (b : Bool) : Int := if b then 1 else 2
theorem kind_s (s : Sg) : Pact Tryz.prog 179 #[.agg (sgC s).toArray] (fun _ => True) [] (ret0 (.int .u8 (kd s.set))) := by
  refine pact Tryz.func179 rfl Tryz.ntmps179 rfl ?_
  intro W K _
  (repeat' (first | ((with_reducible apply gL); (first | refine yL0 ?_ | refine yL ?_ | (refine yM ?_; intro _) | fail)) | refine yJ ?_ | ((with_reducible apply gJ_if); (first | (refine J_if xR ?_ ?_ <;> intro _ <;> (try (exfalso; first | contradiction | omega))) | (refine J_ifb xR ?_ ?_ <;> (intro hgb; subst hgb)) | (refine J_ifb xR ?_ ?_ <;> intro _) | fail)) | fail))
  all_goals (rename_i hb; rw [hb]; exact J_ret1 rfl (by rfl) fun w H => ⟨_, ⟨rfl, rfl⟩, H.sel .nil⟩)
def asB (l : List Int) : List Int := l.flatMap num4
def segB (s : Bool × List Int) : List Int := kd s.1 :: (s.2.length : Int) :: asB s.2
def pB (p : List (Bool × List Int)) : List Int := p.flatMap segB
theorem asB_len (l : List Int) : (asB l).length = 4 * l.length := by
  induction l with
  | nil => rfl
  | cons x l ih =>
    have : asB (x :: l) = num4 x ++ asB l := rfl
    rw [this, List.length_append, ih]
    simp only [num4, List.length_cons, List.length_nil]
    omega
theorem pB_len (p : List (Bool × List Int)) : (pB p).length = 2 * p.length + 4 * tot p := by
  induction p with
  | nil => rfl
  | cons s p ih =>
    have : pB (s :: p) = segB s ++ pB p := rfl
    rw [this, List.length_append, ih]
    simp only [segB, List.length_cons, asB_len, tot]
    omega
theorem pB_snoc (p : List (Bool × List Int)) (s : Bool × List Int) : pB (p ++ [s]) = pB p ++ segB s := by simp [pB]
theorem asB_snoc (p : List Int) (s : Int) : asB (p ++ [s]) = asB p ++ num4 s := by simp [asB]
theorem tot_take (p : List (Bool × List Int)) (k : Nat) : tot (p.take k) ≤ tot p := by
  have : tot p = tot (p.take k) + tot (p.drop k) := by rw [← tot_append, List.take_append_drop]
  omega
structure Lb where
  j : Nat
  xs : List Int
  ad : Option Addr
  c : Nat
theorem pPut_s (a : Option Addr) (c : Nat) (p : List Sg) (h8 : p.length ≤ 1000) (hsm : ∀ s ∈ p, SgN s) (hck : ckP (pN p) 0 = true) : Pact Tryz.prog 162 #[.slice a p.length c, .bool true] (fun w => PathV w a c p) [] (fun u L' => ∃ a' c', u = .tuple #[.slice a' (pB (pN p)).length c', .int .i64 0] ∧ L' = [Ar 5 1 byC (.slice a' (pB (pN p)).length c') (pB (pN p))]) := by
  refine pact Tryz.func162 rfl Tryz.ntmps162 rfl ?_
  intro W K hK
  have hv : Kn K (fun w => Vw w (.slice a p.length c) 2 p.length (flat sgC p)) := hK.imp fun _ h => h.vw
  obtain ⟨hok, h64⟩ := (ckP_iff (pN p) 0 (by omega)).1 hck
  have hPC := pchk_s a c p h8 hsm
  rw [hck] at hPC
  (repeat' (first | ((with_reducible apply gL); (first | refine yL0 ?_ | refine yL ?_ | ((with_reducible apply gL_go); (first | (refine JL_goq (hPC) (hφ := (by (try simp only [List.cons_append, List.nil_append]); exact fun w hr => hK w hr.1)) (h := ?_); rintro _ _ ⟨rfl, rfl⟩; try simp only [List.cons_append, List.nil_append]) | fail)) | (refine yM ?_; intro _) | (refine yA ?_; intro _ _ _ _) | fail)) | ((with_reducible apply gD); (first | (refine JD_nil ?_; try simp only [List.cons_append, List.nil_append]) | (refine JD_bar ?_; try simp only [List.cons_append, List.nil_append]) | refine yD ?_ | ((with_reducible apply gD_go); (first | (refine JD_goq (hPC) (hφ := (by (try simp only [List.cons_append, List.nil_append]); exact fun w hr => hK w hr.1)) (h := ?_); rintro _ _ ⟨rfl, rfl⟩; try simp only [List.cons_append, List.nil_append]) | fail)) | (refine yE ?_; intro _) | (refine yB ?_; intro _ _ _ _) | fail)) | refine yJ ?_ | ((with_reducible apply gJ_if); (first | (refine J_if xR ?_ ?_ <;> intro _ <;> (try (exfalso; first | contradiction | omega))) | (refine J_ifb xR ?_ ?_ <;> (intro hgb; subst hgb)) | (refine J_ifb xR ?_ ?_ <;> intro _) | fail)) | refine J_draw (id := 8) [0, 1, 3, 4, 5, 6, 2, 7] [8, 9] mixed xC xD xD ?_ | fail))
  refine J_loop (α := Lb) ⟨0, [], none, 0⟩ (fun x => p.length - x.j) (fun x => x.j ≤ p.length ∧ x.xs = pB (pN (p.take x.j))) (fun x => [(0, .slice a p.length c), (1, .bool true), (17, .slice a p.length c), (18, .int .i64 p.length), (19, .int .i64 x.j), (7, .slice x.ad x.xs.length x.c)]) (fun x => [Ar 5 1 byC (.slice x.ad x.xs.length x.c) x.xs]) ⟨Nat.zero_le _, rfl⟩ ⟨rfl, rfl, rfl, rfl, rfl, rfl, trivial⟩ (fun w H => (Ow.arNil (e := 5) (sz := 1) (enc := byC) H).sel xZ) ?_
  rintro ⟨k, xs, ad, cc⟩ ⟨hk, hxs⟩
  dsimp only at hk hxs ⊢
  have hxl : xs.length ≤ 2256 := by
    have h1 := tot_take (pN p) k
    have h2 : pN (p.take k) = (pN p).take k := by simp [pN]
    rw [hxs, pB_len, h2]
    simp only [List.length_take, pN, List.length_map] at h1 ⊢
    unfold pN at h64
    omega
  by_cases hlt : k < p.length
  · obtain ⟨s, hs⟩ : ∃ s, p[k]? = some s := ⟨_, List.getElem?_eq_getElem hlt⟩
    have hm := List.mem_of_getElem? hs
    obtain ⟨hsn1, hsn2⟩ := hsm s hm
    have hos := hok (s.set, s.as_) (List.mem_map.2 ⟨s, hm, rfl⟩)
    unfold okS at hos
    obtain ⟨ho1, ho2, _⟩ := of_decide_eq_true hos
    dsimp only at ho1 ho2
    have hu : Kn K (fun w => Vw w (.slice s.a s.as_.length s.c) 1 s.as_.length (flat u32C s.as_)) := hK.imp fun _ h => h.segs s hm
    (repeat' (first | ((with_reducible apply gL); (first | refine yL0 ?_ | ((with_reducible apply gL_c_append); (first | (refine JD_apN (bs := [kd s.set, (s.as_.length : Int)]) (tabE etab_ok xR) xR xR xA xA (by exact .cons (.cons .nil)) rfl rfl xC (by omega) xR ?_; intro ad2 cc2 _ _) | fail)) | refine yL ?_ | ((with_reducible apply gL_go); (first | (refine JL_goq (kind_s s) (hφ := xF) (h := ?_); rintro _ _ ⟨rfl, rfl⟩; try simp only [List.cons_append, List.nil_append]) | fail)) | (refine yM ?_; intro _) | (refine yA ?_; intro _ _ _ _) | fail)) | ((with_reducible apply gD); (first | (refine JD_nil ?_; try simp only [List.cons_append, List.nil_append]) | (refine JD_bar ?_; try simp only [List.cons_append, List.nil_append]) | ((with_reducible apply gD_c_append); (first | (refine JD_apN (bs := [kd s.set, (s.as_.length : Int)]) (tabE etab_ok xR) xR xR xA xA (by exact .cons (.cons .nil)) rfl rfl xC (by omega) xR ?_; intro ad2 cc2 _ _) | fail)) | refine yD ?_ | ((with_reducible apply gD_go); (first | (refine JD_goq (kind_s s) (hφ := xF) (h := ?_); rintro _ _ ⟨rfl, rfl⟩; try simp only [List.cons_append, List.nil_append]) | fail)) | (refine yE ?_; intro _) | (refine yB ?_; intro _ _ _ _) | fail)) | refine yJ ?_ | ((with_reducible apply gJ_if); (first | (refine J_if xR ?_ ?_ <;> intro _ <;> (try (exfalso; first | contradiction | omega))) | (refine J_ifb xR ?_ ?_ <;> (intro hgb; subst hgb)) | (refine J_ifb xR ?_ ?_ <;> intro _) | fail)) | refine J_draw (id := 8) [0, 1, 3, 4, 5, 6, 2, 7] [8, 9] mixed xC xD xD ?_ | fail))
    rename_i b9
    refine J_loop (α := Lb) ⟨0, xs ++ [kd s.set, (s.as_.length : Int)], ad2, cc2⟩ (fun x => s.as_.length - x.j) (fun x => x.j ≤ s.as_.length ∧ x.xs = xs ++ [kd s.set, (s.as_.length : Int)] ++ asB (s.as_.take x.j)) (fun x => [(0, .slice a p.length c), (1, .bool true), (17, .slice a p.length c), (18, .int .i64 p.length), (19, .int .i64 k), (33, .slice s.a s.as_.length s.c), (34, .int .i64 s.as_.length), (35, .int .i64 x.j), (7, .slice x.ad x.xs.length x.c)]) (fun x => [Ar 5 1 byC (.slice x.ad x.xs.length x.c) x.xs]) ⟨Nat.zero_le _, by simp [asB]⟩ ⟨rfl, rfl, rfl, rfl, rfl, rfl, rfl, rfl, ?_, trivial⟩ (fun w H => ?_) ?_
    · dsimp only
      rw [List.length_append]
      rfl
    · dsimp only
      rw [List.length_append]
      exact H.sel xZ
    rintro ⟨j, ys, ad3, cc3⟩ ⟨hj, hys⟩
    dsimp only at hj hys ⊢
    have hyl : ys.length ≤ 4000 := by
      rw [hys, List.length_append, List.length_append, asB_len, List.length_take]
      simp only [List.length_cons, List.length_nil]
      omega
    by_cases hjl : j < s.as_.length
    · obtain ⟨x, hx⟩ : ∃ x, s.as_[j]? = some x := ⟨_, List.getElem?_eq_getElem hjl⟩
      obtain ⟨hx0, hx1⟩ := hsn2 x (List.mem_of_getElem? hx)
      (repeat' (first | ((with_reducible apply gL); (first | refine yL0 ?_ | ((with_reducible apply gL_c_append); (first | (refine JL_apN (tabE etab_ok xR) xR xR xA xA (by exact .cons (.cons .nil)) rfl rfl xC (by first | omega | (simp only [List.length_append, List.length_cons, List.length_nil]; omega)) xR xR ?_; intro ad4 cc4 _ _) | fail)) | refine yL ?_ | (refine yM ?_; intro _) | (refine yA ?_; intro _ _ _ _) | fail)) | ((with_reducible apply gD); (first | (refine JD_nil ?_; try simp only [List.cons_append, List.nil_append]) | (refine JD_bar ?_; try simp only [List.cons_append, List.nil_append]) | ((with_reducible apply gD_c_append); (first | (refine JL_apN (tabE etab_ok xR) xR xR xA xA (by exact .cons (.cons .nil)) rfl rfl xC (by first | omega | (simp only [List.length_append, List.length_cons, List.length_nil]; omega)) xR xR ?_; intro ad4 cc4 _ _) | fail)) | refine yD ?_ | (refine yE ?_; intro _) | (refine yB ?_; intro _ _ _ _) | fail)) | refine yJ ?_ | ((with_reducible apply gJ_if); (first | (refine J_if xR ?_ ?_ <;> intro _ <;> (try (exfalso; first | contradiction | omega))) | (refine J_ifb xR ?_ ?_ <;> (intro hgb; subst hgb)) | (refine J_ifb xR ?_ ?_ <;> intro _) | fail)) | refine J_draw (id := 8) [0, 1, 3, 4, 5, 6, 2, 7] [8, 9] mixed xC xD xD ?_ | fail))
      have e : ys ++ [x / 2 ^ 24, x / 2 ^ 16 % 256] ++ [x / 2 ^ 8 % 256, x % 256] = ys ++ num4 x := by simp [num4]
      refine J_again ⟨j + 1, ys ++ num4 x, ad4, cc4⟩ (by dsimp only; omega) ⟨by dsimp only; omega, ?_⟩ ⟨rfl, rfl, rfl, rfl, rfl, rfl, rfl, rfl, ?_, trivial⟩ (fun w H => ?_)
      · dsimp only
        rw [take_snoc hx, asB_snoc, hys]
        simp
      · dsimp only
        rw [← e]
        simp only [List.length_append, List.length_cons, List.length_nil]
        rfl
      · dsimp only
        rw [← e]
        simp only [List.length_append, List.length_cons, List.length_nil] at H ⊢
        exact H.sel xZ
    · have hje : j = s.as_.length := by omega
      rw [hje, List.take_length] at hys
      (repeat' (first | ((with_reducible apply gL); (first | refine yL0 ?_ | refine yL ?_ | (refine yM ?_; intro _) | (refine yA ?_; intro _ _ _ _) | fail)) | ((with_reducible apply gD); (first | (refine JD_nil ?_; try simp only [List.cons_append, List.nil_append]) | (refine JD_bar ?_; try simp only [List.cons_append, List.nil_append]) | refine yD ?_ | (refine yE ?_; intro _) | (refine yB ?_; intro _ _ _ _) | fail)) | refine yJ ?_ | ((with_reducible apply gJ_if); (first | (refine J_if xR ?_ ?_ <;> intro _ <;> (try (exfalso; first | contradiction | omega))) | (refine J_ifb xR ?_ ?_ <;> (intro hgb; subst hgb)) | (refine J_ifb xR ?_ ?_ <;> intro _) | fail)) | refine J_draw (id := 8) [0, 1, 3, 4, 5, 6, 2, 7] [8, 9] mixed xC xD xD ?_ | fail))
      refine J_again ⟨k + 1, ys, ad3, cc3⟩ (by dsimp only; omega) ⟨by dsimp only; omega, ?_⟩ ⟨rfl, rfl, rfl, rfl, rfl, rfl, trivial⟩ (fun w H => H.sel xZ)
      dsimp only
      rw [take_snoc hs]
      unfold pN at hxs ⊢
      rw [List.map_append, List.map_cons, List.map_nil, pB_snoc, ← hxs, hys]
      simp [segB]
  · have hke : k = p.length := by omega
    rw [hke, List.take_length] at hxs
    subst hxs
    (repeat' (first | ((with_reducible apply gL); (first | refine yL0 ?_ | refine yL ?_ | (refine yM ?_; intro _) | (refine yA ?_; intro _ _ _ _) | fail)) | ((with_reducible apply gD); (first | (refine JD_nil ?_; try simp only [List.cons_append, List.nil_append]) | (refine JD_bar ?_; try simp only [List.cons_append, List.nil_append]) | refine yD ?_ | (refine yE ?_; intro _) | (refine yB ?_; intro _ _ _ _) | fail)) | refine yJ ?_ | ((with_reducible apply gJ_if); (first | (refine J_if xR ?_ ?_ <;> intro _ <;> (try (exfalso; first | contradiction | omega))) | (refine J_ifb xR ?_ ?_ <;> (intro hgb; subst hgb)) | (refine J_ifb xR ?_ ?_ <;> intro _) | fail)) | refine J_draw (id := 8) [0, 1, 3, 4, 5, 6, 2, 7] [8, 9] mixed xC xD xD ?_ | fail))
    exact J_ret2 rfl (by rfl) (by rfl) fun w H => ⟨_, ⟨ad, cc, rfl, rfl⟩, H.sel xZ⟩
end Go.Proofs.YtdnokmpnemaoaaaGreat
namespace Go.Proofs.YtdnokmpnemaoaaaGreat
set_option linter.unusedSimpArgs false
set_option linter.unusedVariables false
set_option maxRecDepth 20000
set_option maxHeartbeats 4000000
open Go.RowKit Go.Pm

def wrO (wb : Nat) (l : List Int) : HP := fun h => ∃ (ad : Option Addr) (cc : Nat), sats [pts wb [.slice ad l.length cc] 226, Ar 5 1 byC (.slice ad l.length cc) l] h
theorem wrOpen {W : World} {K : Hl} {L R : List HP} {w : World} {wb : Nat} {l : List Int} (H : Ow W K L w) (t : Tk L (wrO wb l) R) : ∃ x : Option Addr × Nat, Ow W K (pts wb [.slice x.1 l.length x.2] 226 :: Ar 5 1 byC (.slice x.1 l.length x.2) l :: R) w := by
  have := H.open t (Bs := fun x : Option Addr × Nat => [pts wb [.slice x.1 l.length x.2] 226, Ar 5 1 byC (.slice x.1 l.length x.2) l]) (fun k ⟨a, c, h⟩ => ⟨(a, c), h⟩)
  exact this
theorem wrShut {W : World} {K : Hl} {L R : List HP} {w : World} {wb m : Nat} {l : List Int} {ad : Option Addr} {cc : Nat} (H : Ow W K L w) (t : Sb L [pts wb [.slice ad m cc] 226, Ar 5 1 byC (.slice ad m cc) l] R) (hm : l.length = m) : Ow W K (wrO wb l :: R) w := by
  subst hm
  exact H.shut t (fun k hk => ⟨ad, cc, hk⟩)
def orF (f : Int) : Int := Go.bits .or .u8 f 16
def putB (f k : Int) (d : List Int) : List Int := (if 255 < d.length then [orF f, k, (d.length : Int) / 256, (d.length : Int) % 256] else [f, k, (d.length : Int)]) ++ d
theorem put_s (wb : Nat) (l : List Int) (f k : Int) (a : Option Addr) (c : Nat) (p : List Bs) (hk : 0 ≤ k ∧ k ≤ 255) (hp : p.length ≤ 1000) (hd : (catB p).length ≤ 65535) (hl : l.length ≤ 1000000000) : Pact Tryz.prog 167 #[.pointer (some ⟨wb, 0, none⟩), .int .u8 f, .int .i64 k, .slice a p.length c] (fun w => PartsV w a c p) [wrO wb l] (fun u L' => L' = [wrO wb (l ++ putB f k (catB p))]) := by
  refine pact Tryz.func167 rfl Tryz.ntmps167 rfl ?_
  intro W K hK
  obtain ⟨hk1, hk2⟩ := hk
  refine J_open (fun w H => wrOpen H .here) ?_
  rintro ⟨ad, cc⟩
  dsimp only
  obtain ⟨d, hD⟩ : ∃ d, catB p = d := ⟨_, rfl⟩
  have hcon := concat_s a c p hp (by omega)
  rw [hD] at hcon hd ⊢
  (repeat' (first | ((with_reducible apply gL); (first | refine yL0 ?_ | ((with_reducible apply gL_c_append); (first | (refine JL_apN (tabE etab_ok xR) xR xR xA xA (by first | exact .cons (.cons (.cons (.cons .nil))) | exact .cons (.cons (.cons .nil))) rfl rfl xC (by omega) xR xR ?_; intro ad4 cc4 _ _) | (refine JL_app (fs := d) (tabE etab_ok xR) xR xR xA (Src.ar xA) xC xL xU (by simp only [List.length_append, List.length_cons, List.length_nil]; omega) xR xR ?_; intro ad5 cc5 _ _) | fail)) | refine yL ?_ | ((with_reducible apply gL_go); (first | (refine JL_goq (hcon) (hφ := (by (try simp only [List.cons_append, List.nil_append]); exact fun w hr => hK w hr.1)) (h := ?_); rintro _ _ ⟨a1, c1, rfl, rfl⟩; try simp only [List.cons_append, List.nil_append]) | fail)) | (refine yM ?_; intro _) | (refine yA ?_; intro _ _ _ _) | fail)) | refine yJ ?_ | ((with_reducible apply gJ_if); (first | (refine J_if xR ?_ ?_ <;> intro _ <;> (try (exfalso; first | contradiction | omega))) | (refine J_ifb xR ?_ ?_ <;> (intro hgb; subst hgb)) | (refine J_ifb xR ?_ ?_ <;> intro _) | fail)) | fail))
  · have e : l ++ putB f k d = l ++ [bits .or .u8 f 16, k, (d.length : Int) / 2 ^ (7 + 1), (d.length : Int) % 256] ++ d := by
      unfold putB orF
      rw [if_pos (by omega)]
      simp
    refine J_end0 rfl fun w H => ⟨_, rfl, ?_⟩
    rw [e]
    exact (wrShut (ad := ad5) (cc := cc5) H xZ List.length_append).sel xZ
  · have e : l ++ putB f k d = l ++ [f, k, (d.length : Int)] ++ d := by
      unfold putB
      rw [if_neg (by omega)]
      simp
    refine J_end0 rfl fun w H => ⟨_, rfl, ?_⟩
    rw [e]
    exact (wrShut (ad := ad5) (cc := cc5) H xZ List.length_append).sel xZ
theorem usual_s (wb : Nat) (l : List Int) (k : Int) (a : Option Addr) (c : Nat) (p : List Bs) (hk : 0 ≤ k ∧ k ≤ 255) (hkn : kno k = true) (hp : p.length ≤ 1000) (hd : (catB p).length ≤ 65535) (hl : l.length ≤ 1000000000) : Pact Tryz.prog 163 #[.pointer (some ⟨wb, 0, none⟩), .int .i64 k, .slice a p.length c] (fun w => PartsV w a c p) [wrO wb l] (fun u L' => L' = [wrO wb (l ++ putB (fl k) k (catB p))]) := by
  refine pact Tryz.func163 rfl Tryz.ntmps163 rfl ?_
  intro W K hK
  have hkk := known_s k
  rw [hkn] at hkk
  (repeat' (first | ((with_reducible apply gL); (first | refine yL0 ?_ | refine yL ?_ | ((with_reducible apply gL_go); (first | (refine JL_goq (hkk) (hφ := xF) (h := ?_); rintro _ _ ⟨f, rfl, hf, rfl⟩; try simp only [List.cons_append, List.nil_append]) | (refine JL_goq (put_s wb l f k a c p hk hp hd hl) (hφ := (by (try simp only [List.cons_append, List.nil_append]); exact fun w hr => hK w hr.1)) (h := ?_); rintro _ _ rfl; try simp only [List.cons_append, List.nil_append]) | fail)) | fail)) | refine yJ ?_ | fail))
  obtain rfl := hf rfl
  exact J_end0 rfl fun w H => ⟨_, rfl, H.sel xZ⟩
end Go.Proofs.YtdnokmpnemaoaaaGreat
