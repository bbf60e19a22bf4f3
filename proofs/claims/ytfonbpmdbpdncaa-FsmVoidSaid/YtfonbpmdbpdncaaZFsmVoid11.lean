/-
  Fs1, Fs2, Fs3: merged.
-/
import Derived.Test.YtfonbpmdbpdncaaZFsmVoid10
import Derived.WalkSpells
import Derived.WalkLawsBesides
import Derived.BigRegion
import Derived.ChangeKeysEq
namespace Go.Proofs.Ytfonbpmdbpdncaa
set_option linter.unusedSimpArgs false
set_option linter.unusedVariables false
set_option maxRecDepth 20000
set_option maxHeartbeats 4000000
open Go.RowKit Go.Pm

theorem bytesEl : El Try.prog 30 5 1 1 := El.mk' (z := .int .u8 0) Try.underlying30 (by kernel_rfl) rfl (by omega) (by omega)

theorem OwnB.empty {e : TypeId} {w : World} {base g cap : Nat} {cur : Array Value} (h : Blk w g cur e) (hb : base ≤ g) (hs : cur.size = cap) (hm : cap ≤ maxLen) : OwnB e w base (.slice (some ⟨g, 0, none⟩) 0 cap) [] :=
  ⟨rfl, .inr ⟨g, cap, cur, rfl, hb, h, Nat.zero_le _, hm, by omega, rfl⟩⟩

theorem grow_nil (n : Nat) (w : World) (hn : n ≤ 140737488355328) :
    Calls Try.prog 63 #[.slice none 0 0, .int .i64 n] w (FreshB 5 w []) := by
  obtain ⟨i, z, hi, hz, hsz, hby, hzs⟩ := bytesEl.inf
  have hm : n ≤ 9223372036854775807 := by omega
  by_cases h0 : n = 0
  · subst h0
    go_enter Try.func63, Try.ntmps63
    go_wp2
    go_ret
    exact ⟨_, rfl, OwnB.nil _ _ _, Only.refl _ _⟩
  · have hpos : 0 < n := by omega
    have HR := Lib.hid (Lib.run_append_nil_zeros (P := Try.prog) w 30 3 30 5 i z .i64 .i64 Try.underlying30 Try.underlying3 hi hz n hpos (by omega) (by omega) (by rw [hby]; omega))
    have HC1 := Lib.hid (grownCap_ge w n 0 5)
    have HC2 := Lib.hid (grownCap_le_maxLen w n 0 5 (by unfold maxLen; omega))
    generalize z.cells = zc at *
    have HZ := Lib.hid hzs
    generalize grownCap w n 0 5 = c at *
    have hc : n ≤ c := HC1.out
    have hc2 : c ≤ 9223372036854775807 := by have := HC2.out; unfold maxLen at this; omega
    go_enter Try.func63, Try.ntmps63
    go_wp2_with (at_builtin; refine Lib.wpList_append_run _ rfl _ _ _ _ rfl _ _ rfl rfl _ _ HR.out ?_)
    go_ret
    refine ⟨_, rfl, OwnB.empty (Blk.new w.drew _ _) (Nat.le_refl _) ?_ HC2.out, ((Only.refl _ _).drew).alloc _⟩
    rw [Array.size_append, size_zeroCells, size_zeroCells, HZ.out]; omega

def SlR (l : List Int) (u : Value) (L' : List HP) : Prop := ∃ a c, u = .slice a l.length c ∧ L' = [Ar 5 1 byC (.slice a l.length c) l]
theorem ar_bytes (v : Value) (l : List Int) : SlB 5 v l = Ar 5 1 byC v l := by
  unfold SlB Ar
  rw [flat_byC]
theorem grow_s (n : Nat) (hn : n ≤ 140737488355328) : Pact Try.prog 63 #[.slice none 0 0, .int .i64 n] (fun _ => True) [] (SlR []) := fun W K w hK H =>
  (grow_nil n w hn).mono fun e w' h => by
    obtain ⟨v, rfl, ho, hO⟩ := h
    obtain ⟨a, c, rfl, h1, h2⟩ := ho.vw.shape
    have H2 := H.freshB hO ho
    rw [ar_bytes] at H2
    exact ⟨_, _, ⟨a, c, rfl, rfl⟩, rfl, H2⟩
structure Bs where
  a : Option Addr
  c : Nat
  l : List Int
def bsC (s : Bs) : List Value := [.slice s.a s.l.length s.c]
def bsV (w : World) (s : Bs) : Prop := Vw w (.slice s.a s.l.length s.c) 1 s.l.length (flat byC s.l)
structure PartsV (w : World) (a : Option Addr) (c : Nat) (p : List Bs) : Prop where
  vw : Vw w (.slice a p.length c) 1 p.length (flat bsC p)
  parts : ∀ s ∈ p, bsV w s
def catB (p : List Bs) : List Int := p.flatMap (·.l)
theorem take_snoc {α : Type} {l : List α} {k : Nat} {x : α} (h : l[k]? = some x) : l.take (k + 1) = l.take k ++ [x] := by
  rw [List.take_add_one, h]
  rfl
theorem catB_snoc (p : List Bs) (s : Bs) : catB (p ++ [s]) = catB p ++ s.l := by simp [catB]
theorem catB_take {p : List Bs} {k : Nat} {s : Bs} (h : p[k]? = some s) : catB (p.take (k + 1)) = catB (p.take k) ++ s.l := by rw [take_snoc h, catB_snoc]
theorem catB_le (p : List Bs) (k : Nat) : (catB (p.take k)).length ≤ (catB p).length := by
  have : catB p = catB (p.take k) ++ catB (p.drop k) := by
    unfold catB
    rw [← List.flatMap_append, List.take_append_drop]
  rw [this, List.length_append]
  omega
structure Cc where
  i : Nat
  ad : Option Addr
  c : Nat
theorem concat_s (a : Option Addr) (c : Nat) (p : List Bs) (hp : p.length ≤ 1000) (hl : (catB p).length ≤ 1000000) : Pact Try.prog 51 #[.slice a p.length c] (fun w => PartsV w a c p) [] (SlR (catB p)) := by
  refine pact Try.func51 rfl Try.ntmps51 rfl ?_
  intro W K hK
  have hO : Kn K (fun w => Vw w (.slice a p.length c) 1 p.length (flat bsC p)) := hK.imp fun _ h => h.vw
  (repeat' (first | ((with_reducible apply gL); (first | refine yL0 ?_ | refine yL ?_ | (refine yA ?_; intro _ _ _ _) | fail)) | refine yJ ?_ | ((with_reducible apply gJ_if); (first | (refine J_if xR ?_ ?_ <;> intro _ <;> (try (exfalso; first | contradiction | omega))) | (refine J_ifb xR ?_ ?_ <;> (intro hgb; subst hgb)) | (refine J_ifb xR ?_ ?_ <;> intro _) | fail)) | fail))
  refine J_loop (α := Nat) 0 (fun x => p.length - x) (fun x => x ≤ p.length) (fun x => [(0, .slice a p.length c), (9, .slice a p.length c), (10, .int .i64 p.length), (11, .int .i64 x), (3, .int .i64 (catB (p.take x)).length)]) (fun _ => []) (Nat.zero_le _) ⟨rfl, rfl, rfl, rfl, rfl, trivial⟩ (fun w H => H.sel .nil) ?_
  intro k hk
  have hkl := catB_le p k
  obtain ⟨N, hN⟩ : ∃ N, (catB (p.take k)).length = N := ⟨_, rfl⟩
  rw [hN] at hkl ⊢
  by_cases hlt : k < p.length
  · obtain ⟨s, hs⟩ : ∃ s, p[k]? = some s := ⟨_, List.getElem?_eq_getElem hlt⟩
    have h1 := catB_le p (k + 1)
    rw [catB_take hs, List.length_append, hN] at h1
    (repeat' (first | ((with_reducible apply gL); (first | refine yL0 ?_ | refine yL ?_ | (refine yA ?_; intro _ _ _ _) | fail)) | refine yJ ?_ | ((with_reducible apply gJ_if); (first | (refine J_if xR ?_ ?_ <;> intro _ <;> (try (exfalso; first | contradiction | omega))) | (refine J_ifb xR ?_ ?_ <;> (intro hgb; subst hgb)) | (refine J_ifb xR ?_ ?_ <;> intro _) | fail)) | fail))
    refine J_again (k + 1) (by omega) (by omega) ⟨rfl, rfl, rfl, rfl, ?_, trivial⟩ (fun w H => H.sel .nil)
    rw [catB_take hs, List.length_append, hN]
    show some _ = some _
    simp
  · have hke : k = p.length := by omega
    subst hke
    rw [List.take_length] at hN
    (repeat' (first | ((with_reducible apply gL); (first | refine yL0 ?_ | refine yL ?_ | ((with_reducible apply gL_go); (first | (refine JL_goq (grow_s N (by omega)) (hφ := xF) (h := ?_); rintro _ _ ⟨ga, gc, rfl, rfl⟩; try simp only [List.cons_append, List.nil_append]) | fail)) | (refine yA ?_; intro _ _ _ _) | fail)) | refine yJ ?_ | ((with_reducible apply gJ_if); (first | (refine J_if xR ?_ ?_ <;> intro _ <;> (try (exfalso; first | contradiction | omega))) | (refine J_ifb xR ?_ ?_ <;> (intro hgb; subst hgb)) | (refine J_ifb xR ?_ ?_ <;> intro _) | fail)) | fail))
    refine J_loop (α := Cc) ⟨0, ga, gc⟩ (fun x => p.length - x.i) (fun x => x.i ≤ p.length) (fun x => [(25, .slice a p.length c), (26, .int .i64 p.length), (27, .int .i64 x.i), (6, .slice x.ad (catB (p.take x.i)).length x.c)]) (fun x => [Ar 5 1 byC (.slice x.ad (catB (p.take x.i)).length x.c) (catB (p.take x.i))]) (Nat.zero_le _) ⟨rfl, rfl, rfl, rfl, trivial⟩ (fun w H => H.sel xZ) ?_
    rintro ⟨k, ad, cc⟩ hk
    dsimp only at hk ⊢
    have hkl := catB_le p k
    by_cases hlt : k < p.length
    · obtain ⟨s, hs⟩ : ∃ s, p[k]? = some s := ⟨_, List.getElem?_eq_getElem hlt⟩
      have h1 := catB_le p (k + 1)
      have h2 := catB_take hs
      rw [h2, List.length_append] at h1
      have hu : Kn K (fun w => Vw w (.slice s.a s.l.length s.c) 1 s.l.length (flat byC s.l)) := hK.imp fun _ h => h.parts s (List.mem_of_getElem? hs)
      (repeat' (first | ((with_reducible apply gL); (first | refine yL0 ?_ | ((with_reducible apply gL_c_append); (first | (refine JL_app (fs := s.l) (tabE etab_ok xR) xR xR xA (Src.kn hu) xC xL xU (by omega) xR xR ?_; intro ad2 cc2 _ _) | fail)) | refine yL ?_ | (refine yA ?_; intro _ _ _ _) | fail)) | refine yJ ?_ | ((with_reducible apply gJ_if); (first | (refine J_if xR ?_ ?_ <;> intro _ <;> (try (exfalso; first | contradiction | omega))) | (refine J_ifb xR ?_ ?_ <;> (intro hgb; subst hgb)) | (refine J_ifb xR ?_ ?_ <;> intro _) | fail)) | fail))
      refine J_again ⟨k + 1, ad2, cc2⟩ (by dsimp only; omega) (by dsimp only; omega) ⟨rfl, rfl, rfl, ?_, trivial⟩ (fun w H => ?_)
      · dsimp only
        rw [h2, List.length_append]
        rfl
      · dsimp only
        rw [h2, List.length_append]
        exact H.sel xZ
    · have hke : k = p.length := by omega
      subst hke
      rw [List.take_length]
      (repeat' (first | ((with_reducible apply gL); (first | refine yL0 ?_ | refine yL ?_ | (refine yA ?_; intro _ _ _ _) | fail)) | refine yJ ?_ | ((with_reducible apply gJ_if); (first | (refine J_if xR ?_ ?_ <;> intro _ <;> (try (exfalso; first | contradiction | omega))) | (refine J_ifb xR ?_ ?_ <;> (intro hgb; subst hgb)) | (refine J_ifb xR ?_ ?_ <;> intro _) | fail)) | fail))
      exact J_ret1 rfl (by rfl) fun w H => ⟨_, ⟨ad, cc, rfl, rfl⟩, H.sel xZ⟩
theorem clone_s (a : Option Addr) (c : Nat) (l : List Int) (hl : l.length ≤ 140737488355328) : Pact Try.prog 68 #[.slice a l.length c] (fun w => Vw w (.slice a l.length c) 1 l.length (flat byC l)) [] (SlR l) := by
  refine pact Try.func68 rfl Try.ntmps68 rfl ?_
  intro W K hK
  cases a with
  | none =>
    refine J_fact (φ := l = []) (fun w H => ?_) ?_
    · obtain ⟨a', c', he, _, _, _, h4, _⟩ := hK.of H
      cases he
      exact List.eq_nil_of_length_eq_zero (h4 rfl).1
    · rintro rfl
      (repeat' (first | ((with_reducible apply gL); (first | refine yL0 ?_ | refine yL ?_ | (refine yM ?_; intro _) | (refine yA ?_; intro _ _ _ _) | fail)) | refine yJ ?_ | ((with_reducible apply gJ_if); (first | (refine J_if xR ?_ ?_ <;> intro _ <;> (try (exfalso; first | contradiction | omega))) | (refine J_ifb xR ?_ ?_ <;> (intro hgb; subst hgb)) | (refine J_ifb xR ?_ ?_ <;> intro _) | fail)) | fail))
      exact J_ret1 rfl (by rfl) fun w H => ⟨_, ⟨none, 0, rfl, rfl⟩, (Ow.arNil (e := 5) (sz := 1) (enc := byC) H).sel xZ⟩
  | some p =>
    (repeat' (first | ((with_reducible apply gL); (first | refine yL0 ?_ | ((with_reducible apply gL_c_append); (first | (refine JL_appL byC (fs := l) (tabE etab_ok xR) xR xR xA (Src.kn hK) xC xL xU (by omega) xR xR ?_; intro ad c2 _ _) | fail)) | refine yL ?_ | (refine yM ?_; intro _) | (refine yA ?_; intro _ _ _ _) | fail)) | refine yJ ?_ | ((with_reducible apply gJ_if); (first | (refine J_if xR ?_ ?_ <;> intro _ <;> (try (exfalso; first | contradiction | omega))) | (refine J_ifb xR ?_ ?_ <;> (intro hgb; subst hgb)) | (refine J_ifb xR ?_ ?_ <;> intro _) | fail)) | fail))
    exact J_ret1 rfl (by rfl) fun w H => ⟨_, ⟨ad, c2, rfl, rfl⟩, H.sel xZ⟩
theorem clone_o (a : Option Addr) (c n : Nat) (l : List Int) (hn : l.length = n) (hl : n ≤ 140737488355328) : Pact Try.prog 68 #[.slice a n c] (fun w => Vw w (.slice a n c) 1 n (flat byC l)) [] (fun u L' => ∃ a c, u = .slice a n c ∧ L' = [Ar 5 1 byC (.slice a n c) l]) := by
  subst hn
  exact clone_s a c l hl
theorem bytes_s (a : Option Addr) (c n : Nat) (l : List Int) (hn : l.length = n) (hl : n ≤ 1000000) : Pact Try.prog 49 #[.slice a n c] (fun w => Vw w (.slice a n c) 1 n (flat byC l)) [] (fun u L' => ∃ a' c', u = .slice a' l.length c' ∧ L' = [Ar 5 1 byC (.slice a' l.length c') l]) := by
  subst hn
  refine pact Try.func49 rfl Try.ntmps49 rfl ?_
  intro W K hK
  (repeat' (first | ((with_reducible apply gL); (first | refine yL0 ?_ | ((with_reducible apply gL_c_append); (first | (refine JL_appL byC (fs := l) (tabE etab_ok xR) xR xR xA (Src.kn hK) xC xL xU (by omega) xR xR ?_; intro ad1 c1 _ _) | fail)) | refine yL ?_ | (refine yM ?_; intro _) | (refine yA ?_; intro _ _ _ _) | fail)) | refine yJ ?_ | fail))
  exact J_ret1 rfl (by rfl) fun w H => ⟨_, ⟨ad1, c1, rfl, rfl⟩, H.sel xZ⟩
def I64 (n : Int) : Prop := -9223372036854775808 ≤ n ∧ n ≤ 9223372036854775807
def ret0 (v : Value) (u : Value) (L' : List HP) : Prop := u = v ∧ L' = []
theorem among_s (x : Int) (n : Nat) (h1 : 1 ≤ n) (h2 : n ≤ 1000000) (hx : I64 x) : Pact Try.prog 20 #[.int .i64 x, .int .i64 n] (fun _ => True) [] (fun v L' => ∃ k : Nat, v = .int .i64 k ∧ k < n ∧ L' = []) := by
  refine pact Try.func20 rfl Try.ntmps20 rfl ?_
  intro W K _
  unfold I64 at hx
  (repeat' (first | ((with_reducible apply gL); (first | refine yL0 ?_ | refine yL ?_ | fail)) | refine yJ ?_ | ((with_reducible apply gJ_if); (first | (refine J_if xR ?_ ?_ <;> intro _ <;> (try (exfalso; first | contradiction | omega))) | (refine J_ifb xR ?_ ?_ <;> (intro hgb; subst hgb)) | (refine J_ifb xR ?_ ?_ <;> intro _) | fail)) | fail))
  have h3 : 0 ≤ x % 18446744073709551616 % (n : Int) := Int.emod_nonneg _ (by omega)
  have h4 : x % 18446744073709551616 % (n : Int) < n := Int.emod_lt_of_pos _ (by omega)
  refine J_ret1 rfl (by rfl) fun w H => ⟨_, ⟨(x % 18446744073709551616 % (n : Int)).toNat, ?_, by omega, rfl⟩, H.sel .nil⟩
  rw [w_i64 (by omega) (by omega), Int.toNat_of_nonneg h3]
end Go.Proofs.Ytfonbpmdbpdncaa
namespace Go.Pm
set_option linter.unusedSimpArgs false
set_option linter.unusedVariables false
set_option maxRecDepth 20000
set_option maxHeartbeats 4000000
open Go.RowKit
section
variable {P : Program} {n : Nat} {W : World} {K : Hl} {F : Fp} {k : List It} {tm : TM} {L L' R S M M' R' C : List HP} {T T' : TypeId} {pos : String} {af : Array Edge} {gd : Option (Nat × Bool)} {ops : Array Oper} {rest nx : List Oper} {d : Tmp}
theorem pe_slArr {od : Option Tmp} {t : TypeId} {x : Operand} {p : Addr} {m : Nat} {b : Bool} (hx : evT tm x = some (.pointer (some p))) (h : arrInfo P t = some (m, 1, b)) : PE P K L ⟨od, .slice t x none none none, T, pos, af, gd⟩ (tget tm) (.slice (some p) m m) := fun ρ w ha _ => by
  have h1 := ha x (by simp [Op.operands]) _ hx
  obtain ⟨e, inf, de, hu, hin, hsz, hd, hr⟩ := arrInfo_spec h
  have hal : P.arrayLen t = m := by simp [Program.arrayLen, hu]
  have hel : P.elem t = e := by simp [Program.elem, hu]
  have h2 := run_sliceAt_array_all (P := P) w t p (by rw [hal, hel]; exact hu)
  rw [hal, hel] at h2
  have e4 : (none : Option Operand).map ρ = none := rfl
  unfold execOp
  simp only [h1, e4]
  rw [Sem.run_bind, h2, run_sz hin]
  simp [slicedAt, Addr.add]
end
end Go.Pm
namespace Go.Pm
open Go.RowKit
section
variable {P : Program} {n : Nat} {W : World} {K : Hl} {F : Fp} {k : List It} {tm : TM} {L L' R S M C : List HP} {T : TypeId} {pos : String} {af : Array Edge} {gd : Option (Nat × Bool)} {ops : Array Oper} {rest nx : List Oper} {d : Option Tmp}
theorem pe_s2ap {t e : TypeId} {x : Operand} {a : Option Addr} {l c m : Nat} (hx : evT tm x = some (.slice a l c)) (ht : P.underlying t = some (.array m e)) (hl : m ≤ l) : PE P K L ⟨d, .sliceToArrayPointer t x, T, pos, af, gd⟩ (tget tm) (.pointer a) := fun ρ w ha _ => by
  have h1 := ha x (by simp [Op.operands]) _ hx
  unfold execOp
  simp only [h1]
  simp [Instr.arrayAt, Sem.run_bind, run_underlying ht, Nat.not_lt.2 hl]
theorem part_cell {t : TypeId} {k : IntKind} (e : P.underlying t = some (.int k)) (xs : Array Value) (o : Nat) (v : Value) (h : xs[o]? = some v) (w : World) : (part t xs o).run P w = .ok v w := by
  simp [part, Sem.run_bind, run_agg e, TypeDesc.isRow, h]
theorem run_eqA2 {t e : TypeId} {i : TypeInfo} {k : IntKind} (hu : P.underlying t = some (.array 2 e)) (hi : P.info? e = some i) (he : P.underlying e = some (.int k)) (hc : P.cellsOf e = 1) (a b a' b' : Int) (w : World) : (Op.equalIn 10000 t (.agg #[.int k a, .int k b]) (.agg #[.int k a', .int k b'])).run P w = .ok (decide (a = a' ∧ b = b')) w := by
  rw [run_equalIn_array w 9999 _ _ hu hi, hc]
  have h2 : List.range 2 = [0, 1] := rfl
  rw [h2]
  simp only [Op.eqItems, Sem.run_bind, part_cell he #[.int k a, .int k b] (0 * 1) (.int k a) rfl, part_cell he #[.int k a', .int k b'] (0 * 1) (.int k a') rfl, part_cell he #[.int k a, .int k b] (1 * 1) (.int k b) rfl, part_cell he #[.int k a', .int k b'] (1 * 1) (.int k b') rfl, Result.andThen_ok, run_equalIn_int w 9998 _ _ _ _ _ he]
  by_cases ha : a = a'
  · subst ha
    by_cases hb : b = b'
    · subst hb; simp [Sem.run_bind, run_equalIn_int w 9998 _ _ _ _ _ he, part_cell he #[.int k a, .int k b] (1 * 1) (.int k b) rfl]
    · simp [hb, Sem.run_bind, run_equalIn_int w 9998 _ _ _ _ _ he, part_cell he #[.int k a, .int k b] (1 * 1) (.int k b) rfl, part_cell he #[.int k a, .int k b'] (1 * 1) (.int k b') rfl]
  · simp [ha]
theorem pe_eqA2 {xt yt e : TypeId} {i : TypeInfo} {x y : Operand} {k : IntKind} {a b a' b' : Int} (hx : evT tm x = some (.agg [.int k a, .int k b].toArray)) (hy : evT tm y = some (.agg [.int k a', .int k b'].toArray)) (hu : P.underlying xt = some (.array 2 e)) (hi : P.info? e = some i) (he : P.underlying e = some (.int k)) (hc : P.cellsOf e = 1) (hg : P.eqGuardType P.depth xt = false) : PE P K L ⟨d, .binOp .eql xt x y yt, T, pos, af, gd⟩ (tget tm) (.bool (decide (a = a' ∧ b = b'))) := pe_bin hx hy fun w => by
  simp only [Sem.run_bind, run_eqGuard_agg w .eql xt x y _ _ hg, Result.andThen_ok, run_eql_struct]
  rw [run_eqA2 hu hi he hc]
  rfl
end
end Go.Pm
namespace Go.Proofs.Ytfonbpmdbpdncaa
open Go.RowKit Go.Pm

structure Kd where
  k : Int
  lo : Int
  hi : Int
def KdOk (d : Kd) : Prop := d = ⟨1, 29, 4096⟩ ∨ d = ⟨3, 21, 4096⟩ ∨ d = ⟨4, 19, 19⟩
theorem lengths_s (d : Kd) (h : KdOk d) : Pact Try.prog 66 #[.int .i64 d.k] (fun _ => True) [] (ret0 (.tuple #[.int .i64 d.lo, .int .i64 d.hi, .bool true])) := by
  refine pact Try.func66 rfl Try.ntmps66 rfl ?_
  intro W K _
  rcases h with rfl | rfl | rfl
  · (repeat' (first | ((with_reducible apply gL); (first | refine yL0 ?_ | refine yL ?_ | fail)) | refine yJ ?_ | ((with_reducible apply gJ_if); (first | (refine J_if xR ?_ ?_ <;> intro _ <;> (try (exfalso; first | contradiction | omega))) | (refine J_ifb xR ?_ ?_ <;> (intro hgb; subst hgb)) | (refine J_ifb xR ?_ ?_ <;> intro _) | fail)) | fail))
    exact J_ret3 rfl (by rfl) (by rfl) (by rfl) fun w H => ⟨_, ⟨rfl, rfl⟩, H.sel .nil⟩
  · (repeat' (first | ((with_reducible apply gL); (first | refine yL0 ?_ | refine yL ?_ | fail)) | refine yJ ?_ | ((with_reducible apply gJ_if); (first | (refine J_if xR ?_ ?_ <;> intro _ <;> (try (exfalso; first | contradiction | omega))) | (refine J_ifb xR ?_ ?_ <;> (intro hgb; subst hgb)) | (refine J_ifb xR ?_ ?_ <;> intro _) | fail)) | fail))
    exact J_ret3 rfl (by rfl) (by rfl) (by rfl) fun w H => ⟨_, ⟨rfl, rfl⟩, H.sel .nil⟩
  · (repeat' (first | ((with_reducible apply gL); (first | refine yL0 ?_ | refine yL ?_ | fail)) | refine yJ ?_ | ((with_reducible apply gJ_if); (first | (refine J_if xR ?_ ?_ <;> intro _ <;> (try (exfalso; first | contradiction | omega))) | (refine J_ifb xR ?_ ?_ <;> (intro hgb; subst hgb)) | (refine J_ifb xR ?_ ?_ <;> intro _) | fail)) | fail))
    exact J_ret3 rfl (by rfl) (by rfl) (by rfl) fun w H => ⟨_, ⟨rfl, rfl⟩, H.sel .nil⟩
theorem fits_s (d : Kd) (h : KdOk d) (n : Nat) (h1 : d.lo ≤ n) (h2 : n ≤ d.hi) : Pact Try.prog 67 #[.int .i64 d.k, .int .i64 n] (fun _ => True) [] (ret0 (.bool true)) := by
  refine pact Try.func67 rfl Try.ntmps67 rfl ?_
  intro W K _
  (repeat' (first | ((with_reducible apply gL); (first | refine yL0 ?_ | refine yL ?_ | ((with_reducible apply gL_go); (first | (refine JL_goq (lengths_s d h) (hφ := xF) (h := ?_); rintro _ _ ⟨rfl, rfl⟩; try simp only [List.cons_append, List.nil_append]) | fail)) | ((with_reducible apply gL_gd); (first | (refine JL_guard xR xR ?_ ?_ <;> intro _ <;> (try (exfalso; first | contradiction | omega))) | (refine JL_guardb xR xR ?_ ?_ <;> (intro hgb; subst hgb)) | (refine JL_guardb xR xR ?_ ?_ <;> (intro hgb; fail_if_success (have : type_of% hgb := rfl))) | fail)) | fail)) | refine yJ ?_ | fail))
  all_goals (first | (exfalso; omega) | skip)
  all_goals exact J_ret1 rfl (by rfl) fun w H => ⟨_, ⟨congrArg Value.bool (decide_eq_true h2), rfl⟩, H.sel .nil⟩
abbrev onesC : List Value := [.int .u8 255, .int .u8 255, .int .u8 255, .int .u8 255, .int .u8 255, .int .u8 255, .int .u8 255, .int .u8 255, .int .u8 255, .int .u8 255, .int .u8 255, .int .u8 255, .int .u8 255, .int .u8 255, .int .u8 255, .int .u8 255]
def oneC : Nat → List Value
  | 0 => [.int .u8 0, .int .u8 0, .int .u8 0, .int .u8 0, .int .u8 0, .int .u8 0, .int .u8 0, .int .u8 0, .int .u8 0, .int .u8 0, .int .u8 0, .int .u8 0, .int .u8 0, .int .u8 0, .int .u8 0, .int .u8 0]
  | 1 => [.int .u8 255, .int .u8 0, .int .u8 0, .int .u8 0, .int .u8 0, .int .u8 0, .int .u8 0, .int .u8 0, .int .u8 0, .int .u8 0, .int .u8 0, .int .u8 0, .int .u8 0, .int .u8 0, .int .u8 0, .int .u8 0]
  | 2 => [.int .u8 255, .int .u8 255, .int .u8 0, .int .u8 0, .int .u8 0, .int .u8 0, .int .u8 0, .int .u8 0, .int .u8 0, .int .u8 0, .int .u8 0, .int .u8 0, .int .u8 0, .int .u8 0, .int .u8 0, .int .u8 0]
  | 3 => [.int .u8 255, .int .u8 255, .int .u8 255, .int .u8 0, .int .u8 0, .int .u8 0, .int .u8 0, .int .u8 0, .int .u8 0, .int .u8 0, .int .u8 0, .int .u8 0, .int .u8 0, .int .u8 0, .int .u8 0, .int .u8 0]
  | 4 => [.int .u8 255, .int .u8 255, .int .u8 255, .int .u8 255, .int .u8 0, .int .u8 0, .int .u8 0, .int .u8 0, .int .u8 0, .int .u8 0, .int .u8 0, .int .u8 0, .int .u8 0, .int .u8 0, .int .u8 0, .int .u8 0]
  | 5 => [.int .u8 255, .int .u8 255, .int .u8 255, .int .u8 255, .int .u8 255, .int .u8 0, .int .u8 0, .int .u8 0, .int .u8 0, .int .u8 0, .int .u8 0, .int .u8 0, .int .u8 0, .int .u8 0, .int .u8 0, .int .u8 0]
  | 6 => [.int .u8 255, .int .u8 255, .int .u8 255, .int .u8 255, .int .u8 255, .int .u8 255, .int .u8 0, .int .u8 0, .int .u8 0, .int .u8 0, .int .u8 0, .int .u8 0, .int .u8 0, .int .u8 0, .int .u8 0, .int .u8 0]
  | 7 => [.int .u8 255, .int .u8 255, .int .u8 255, .int .u8 255, .int .u8 255, .int .u8 255, .int .u8 255, .int .u8 0, .int .u8 0, .int .u8 0, .int .u8 0, .int .u8 0, .int .u8 0, .int .u8 0, .int .u8 0, .int .u8 0]
  | 8 => [.int .u8 255, .int .u8 255, .int .u8 255, .int .u8 255, .int .u8 255, .int .u8 255, .int .u8 255, .int .u8 255, .int .u8 0, .int .u8 0, .int .u8 0, .int .u8 0, .int .u8 0, .int .u8 0, .int .u8 0, .int .u8 0]
  | 9 => [.int .u8 255, .int .u8 255, .int .u8 255, .int .u8 255, .int .u8 255, .int .u8 255, .int .u8 255, .int .u8 255, .int .u8 255, .int .u8 0, .int .u8 0, .int .u8 0, .int .u8 0, .int .u8 0, .int .u8 0, .int .u8 0]
  | 10 => [.int .u8 255, .int .u8 255, .int .u8 255, .int .u8 255, .int .u8 255, .int .u8 255, .int .u8 255, .int .u8 255, .int .u8 255, .int .u8 255, .int .u8 0, .int .u8 0, .int .u8 0, .int .u8 0, .int .u8 0, .int .u8 0]
  | 11 => [.int .u8 255, .int .u8 255, .int .u8 255, .int .u8 255, .int .u8 255, .int .u8 255, .int .u8 255, .int .u8 255, .int .u8 255, .int .u8 255, .int .u8 255, .int .u8 0, .int .u8 0, .int .u8 0, .int .u8 0, .int .u8 0]
  | 12 => [.int .u8 255, .int .u8 255, .int .u8 255, .int .u8 255, .int .u8 255, .int .u8 255, .int .u8 255, .int .u8 255, .int .u8 255, .int .u8 255, .int .u8 255, .int .u8 255, .int .u8 0, .int .u8 0, .int .u8 0, .int .u8 0]
  | 13 => [.int .u8 255, .int .u8 255, .int .u8 255, .int .u8 255, .int .u8 255, .int .u8 255, .int .u8 255, .int .u8 255, .int .u8 255, .int .u8 255, .int .u8 255, .int .u8 255, .int .u8 255, .int .u8 0, .int .u8 0, .int .u8 0]
  | 14 => [.int .u8 255, .int .u8 255, .int .u8 255, .int .u8 255, .int .u8 255, .int .u8 255, .int .u8 255, .int .u8 255, .int .u8 255, .int .u8 255, .int .u8 255, .int .u8 255, .int .u8 255, .int .u8 255, .int .u8 0, .int .u8 0]
  | 15 => [.int .u8 255, .int .u8 255, .int .u8 255, .int .u8 255, .int .u8 255, .int .u8 255, .int .u8 255, .int .u8 255, .int .u8 255, .int .u8 255, .int .u8 255, .int .u8 255, .int .u8 255, .int .u8 255, .int .u8 255, .int .u8 0]
  | _ => onesC
set_option maxRecDepth 4000 in
theorem ones_s : Pact Try.prog 64 #[] (fun _ => True) [] (ret0 (.agg onesC.toArray)) := by
  refine pact Try.func64 rfl Try.ntmps64 rfl ?_
  intro W K _
  (repeat' (first | ((with_reducible apply gL); (first | refine yL0 ?_ | refine yL ?_ | (refine yM ?_; intro _) | fail)) | refine yJ ?_ | ((with_reducible apply gJ_if); (first | (refine J_if xR ?_ ?_ <;> intro _ <;> (try (exfalso; first | contradiction | omega))) | (refine J_ifb xR ?_ ?_ <;> (intro hgb; subst hgb)) | (refine J_ifb xR ?_ ?_ <;> intro _) | fail)) | fail))
  rename_i b0 b1
  refine J_loop (α := Nat) 0 (fun x => 16 - x) (fun x => x ≤ 16) (fun x => [(0, .pointer (some ⟨b0, 0, none⟩)), (1, .pointer (some ⟨b1, 0, none⟩)), (3, .int .i64 x)]) (fun x => [pts b1 (oneC x) 111, pts b0 [.int .u8 0, .int .u8 0, .int .u8 0, .int .u8 0, .int .u8 0, .int .u8 0, .int .u8 0, .int .u8 0, .int .u8 0, .int .u8 0, .int .u8 0, .int .u8 0, .int .u8 0, .int .u8 0, .int .u8 0, .int .u8 0] 111]) (Nat.zero_le _) ⟨rfl, rfl, rfl, trivial⟩ (fun w H => H.sel xZ) ?_
  intro x hx
  obtain rfl | hlt : x = 16 ∨ x < 16 := by omega
  · refine J_heap (L' := [pts b1 [.int .u8 255, .int .u8 255, .int .u8 255, .int .u8 255, .int .u8 255, .int .u8 255, .int .u8 255, .int .u8 255, .int .u8 255, .int .u8 255, .int .u8 255, .int .u8 255, .int .u8 255, .int .u8 255, .int .u8 255, .int .u8 255] 111, pts b0 [.int .u8 0, .int .u8 0, .int .u8 0, .int .u8 0, .int .u8 0, .int .u8 0, .int .u8 0, .int .u8 0, .int .u8 0, .int .u8 0, .int .u8 0, .int .u8 0, .int .u8 0, .int .u8 0, .int .u8 0, .int .u8 0] 111]) (fun w H => H) ?_
    (repeat' (first | ((with_reducible apply gL); (first | refine yL0 ?_ | refine yL ?_ | (refine yM ?_; intro _) | fail)) | refine yJ ?_ | ((with_reducible apply gJ_if); (first | (refine J_if xR ?_ ?_ <;> intro _ <;> (try (exfalso; first | contradiction | omega))) | (refine J_ifb xR ?_ ?_ <;> (intro hgb; subst hgb)) | (refine J_ifb xR ?_ ?_ <;> intro _) | fail)) | fail))
    exact J_retC (cs := [.int .u8 255, .int .u8 255, .int .u8 255, .int .u8 255, .int .u8 255, .int .u8 255, .int .u8 255, .int .u8 255, .int .u8 255, .int .u8 255, .int .u8 255, .int .u8 255, .int .u8 255, .int .u8 255, .int .u8 255, .int .u8 255]) rfl (by rfl) xA (by rfl) fun w H => ⟨_, ⟨rfl, rfl⟩, H.sel .nil⟩
  obtain rfl | rfl | rfl | rfl | rfl | rfl | rfl | rfl | rfl | rfl | rfl | rfl | rfl | rfl | rfl | rfl : x = 0 ∨ x = 1 ∨ x = 2 ∨ x = 3 ∨ x = 4 ∨ x = 5 ∨ x = 6 ∨ x = 7 ∨ x = 8 ∨ x = 9 ∨ x = 10 ∨ x = 11 ∨ x = 12 ∨ x = 13 ∨ x = 14 ∨ x = 15 := by omega
  · refine J_heap (L' := [pts b1 [.int .u8 0, .int .u8 0, .int .u8 0, .int .u8 0, .int .u8 0, .int .u8 0, .int .u8 0, .int .u8 0, .int .u8 0, .int .u8 0, .int .u8 0, .int .u8 0, .int .u8 0, .int .u8 0, .int .u8 0, .int .u8 0] 111, pts b0 [.int .u8 0, .int .u8 0, .int .u8 0, .int .u8 0, .int .u8 0, .int .u8 0, .int .u8 0, .int .u8 0, .int .u8 0, .int .u8 0, .int .u8 0, .int .u8 0, .int .u8 0, .int .u8 0, .int .u8 0, .int .u8 0] 111]) (fun w H => H) ?_
    (repeat' (first | ((with_reducible apply gL); (first | refine yL0 ?_ | refine yL ?_ | (refine yM ?_; intro _) | fail)) | refine yJ ?_ | ((with_reducible apply gJ_if); (first | (refine J_if xR ?_ ?_ <;> intro _ <;> (try (exfalso; first | contradiction | omega))) | (refine J_ifb xR ?_ ?_ <;> (intro hgb; subst hgb)) | (refine J_ifb xR ?_ ?_ <;> intro _) | fail)) | fail))
    exact J_again 1 (by omega) (by omega) ⟨rfl, rfl, rfl, trivial⟩ (fun w H => H.sel xZ)
  · refine J_heap (L' := [pts b1 [.int .u8 255, .int .u8 0, .int .u8 0, .int .u8 0, .int .u8 0, .int .u8 0, .int .u8 0, .int .u8 0, .int .u8 0, .int .u8 0, .int .u8 0, .int .u8 0, .int .u8 0, .int .u8 0, .int .u8 0, .int .u8 0] 111, pts b0 [.int .u8 0, .int .u8 0, .int .u8 0, .int .u8 0, .int .u8 0, .int .u8 0, .int .u8 0, .int .u8 0, .int .u8 0, .int .u8 0, .int .u8 0, .int .u8 0, .int .u8 0, .int .u8 0, .int .u8 0, .int .u8 0] 111]) (fun w H => H) ?_
    (repeat' (first | ((with_reducible apply gL); (first | refine yL0 ?_ | refine yL ?_ | (refine yM ?_; intro _) | fail)) | refine yJ ?_ | ((with_reducible apply gJ_if); (first | (refine J_if xR ?_ ?_ <;> intro _ <;> (try (exfalso; first | contradiction | omega))) | (refine J_ifb xR ?_ ?_ <;> (intro hgb; subst hgb)) | (refine J_ifb xR ?_ ?_ <;> intro _) | fail)) | fail))
    exact J_again 2 (by omega) (by omega) ⟨rfl, rfl, rfl, trivial⟩ (fun w H => H.sel xZ)
  · refine J_heap (L' := [pts b1 [.int .u8 255, .int .u8 255, .int .u8 0, .int .u8 0, .int .u8 0, .int .u8 0, .int .u8 0, .int .u8 0, .int .u8 0, .int .u8 0, .int .u8 0, .int .u8 0, .int .u8 0, .int .u8 0, .int .u8 0, .int .u8 0] 111, pts b0 [.int .u8 0, .int .u8 0, .int .u8 0, .int .u8 0, .int .u8 0, .int .u8 0, .int .u8 0, .int .u8 0, .int .u8 0, .int .u8 0, .int .u8 0, .int .u8 0, .int .u8 0, .int .u8 0, .int .u8 0, .int .u8 0] 111]) (fun w H => H) ?_
    (repeat' (first | ((with_reducible apply gL); (first | refine yL0 ?_ | refine yL ?_ | (refine yM ?_; intro _) | fail)) | refine yJ ?_ | ((with_reducible apply gJ_if); (first | (refine J_if xR ?_ ?_ <;> intro _ <;> (try (exfalso; first | contradiction | omega))) | (refine J_ifb xR ?_ ?_ <;> (intro hgb; subst hgb)) | (refine J_ifb xR ?_ ?_ <;> intro _) | fail)) | fail))
    exact J_again 3 (by omega) (by omega) ⟨rfl, rfl, rfl, trivial⟩ (fun w H => H.sel xZ)
  · refine J_heap (L' := [pts b1 [.int .u8 255, .int .u8 255, .int .u8 255, .int .u8 0, .int .u8 0, .int .u8 0, .int .u8 0, .int .u8 0, .int .u8 0, .int .u8 0, .int .u8 0, .int .u8 0, .int .u8 0, .int .u8 0, .int .u8 0, .int .u8 0] 111, pts b0 [.int .u8 0, .int .u8 0, .int .u8 0, .int .u8 0, .int .u8 0, .int .u8 0, .int .u8 0, .int .u8 0, .int .u8 0, .int .u8 0, .int .u8 0, .int .u8 0, .int .u8 0, .int .u8 0, .int .u8 0, .int .u8 0] 111]) (fun w H => H) ?_
    (repeat' (first | ((with_reducible apply gL); (first | refine yL0 ?_ | refine yL ?_ | (refine yM ?_; intro _) | fail)) | refine yJ ?_ | ((with_reducible apply gJ_if); (first | (refine J_if xR ?_ ?_ <;> intro _ <;> (try (exfalso; first | contradiction | omega))) | (refine J_ifb xR ?_ ?_ <;> (intro hgb; subst hgb)) | (refine J_ifb xR ?_ ?_ <;> intro _) | fail)) | fail))
    exact J_again 4 (by omega) (by omega) ⟨rfl, rfl, rfl, trivial⟩ (fun w H => H.sel xZ)
  · refine J_heap (L' := [pts b1 [.int .u8 255, .int .u8 255, .int .u8 255, .int .u8 255, .int .u8 0, .int .u8 0, .int .u8 0, .int .u8 0, .int .u8 0, .int .u8 0, .int .u8 0, .int .u8 0, .int .u8 0, .int .u8 0, .int .u8 0, .int .u8 0] 111, pts b0 [.int .u8 0, .int .u8 0, .int .u8 0, .int .u8 0, .int .u8 0, .int .u8 0, .int .u8 0, .int .u8 0, .int .u8 0, .int .u8 0, .int .u8 0, .int .u8 0, .int .u8 0, .int .u8 0, .int .u8 0, .int .u8 0] 111]) (fun w H => H) ?_
    (repeat' (first | ((with_reducible apply gL); (first | refine yL0 ?_ | refine yL ?_ | (refine yM ?_; intro _) | fail)) | refine yJ ?_ | ((with_reducible apply gJ_if); (first | (refine J_if xR ?_ ?_ <;> intro _ <;> (try (exfalso; first | contradiction | omega))) | (refine J_ifb xR ?_ ?_ <;> (intro hgb; subst hgb)) | (refine J_ifb xR ?_ ?_ <;> intro _) | fail)) | fail))
    exact J_again 5 (by omega) (by omega) ⟨rfl, rfl, rfl, trivial⟩ (fun w H => H.sel xZ)
  · refine J_heap (L' := [pts b1 [.int .u8 255, .int .u8 255, .int .u8 255, .int .u8 255, .int .u8 255, .int .u8 0, .int .u8 0, .int .u8 0, .int .u8 0, .int .u8 0, .int .u8 0, .int .u8 0, .int .u8 0, .int .u8 0, .int .u8 0, .int .u8 0] 111, pts b0 [.int .u8 0, .int .u8 0, .int .u8 0, .int .u8 0, .int .u8 0, .int .u8 0, .int .u8 0, .int .u8 0, .int .u8 0, .int .u8 0, .int .u8 0, .int .u8 0, .int .u8 0, .int .u8 0, .int .u8 0, .int .u8 0] 111]) (fun w H => H) ?_
    (repeat' (first | ((with_reducible apply gL); (first | refine yL0 ?_ | refine yL ?_ | (refine yM ?_; intro _) | fail)) | refine yJ ?_ | ((with_reducible apply gJ_if); (first | (refine J_if xR ?_ ?_ <;> intro _ <;> (try (exfalso; first | contradiction | omega))) | (refine J_ifb xR ?_ ?_ <;> (intro hgb; subst hgb)) | (refine J_ifb xR ?_ ?_ <;> intro _) | fail)) | fail))
    exact J_again 6 (by omega) (by omega) ⟨rfl, rfl, rfl, trivial⟩ (fun w H => H.sel xZ)
  · refine J_heap (L' := [pts b1 [.int .u8 255, .int .u8 255, .int .u8 255, .int .u8 255, .int .u8 255, .int .u8 255, .int .u8 0, .int .u8 0, .int .u8 0, .int .u8 0, .int .u8 0, .int .u8 0, .int .u8 0, .int .u8 0, .int .u8 0, .int .u8 0] 111, pts b0 [.int .u8 0, .int .u8 0, .int .u8 0, .int .u8 0, .int .u8 0, .int .u8 0, .int .u8 0, .int .u8 0, .int .u8 0, .int .u8 0, .int .u8 0, .int .u8 0, .int .u8 0, .int .u8 0, .int .u8 0, .int .u8 0] 111]) (fun w H => H) ?_
    (repeat' (first | ((with_reducible apply gL); (first | refine yL0 ?_ | refine yL ?_ | (refine yM ?_; intro _) | fail)) | refine yJ ?_ | ((with_reducible apply gJ_if); (first | (refine J_if xR ?_ ?_ <;> intro _ <;> (try (exfalso; first | contradiction | omega))) | (refine J_ifb xR ?_ ?_ <;> (intro hgb; subst hgb)) | (refine J_ifb xR ?_ ?_ <;> intro _) | fail)) | fail))
    exact J_again 7 (by omega) (by omega) ⟨rfl, rfl, rfl, trivial⟩ (fun w H => H.sel xZ)
  · refine J_heap (L' := [pts b1 [.int .u8 255, .int .u8 255, .int .u8 255, .int .u8 255, .int .u8 255, .int .u8 255, .int .u8 255, .int .u8 0, .int .u8 0, .int .u8 0, .int .u8 0, .int .u8 0, .int .u8 0, .int .u8 0, .int .u8 0, .int .u8 0] 111, pts b0 [.int .u8 0, .int .u8 0, .int .u8 0, .int .u8 0, .int .u8 0, .int .u8 0, .int .u8 0, .int .u8 0, .int .u8 0, .int .u8 0, .int .u8 0, .int .u8 0, .int .u8 0, .int .u8 0, .int .u8 0, .int .u8 0] 111]) (fun w H => H) ?_
    (repeat' (first | ((with_reducible apply gL); (first | refine yL0 ?_ | refine yL ?_ | (refine yM ?_; intro _) | fail)) | refine yJ ?_ | ((with_reducible apply gJ_if); (first | (refine J_if xR ?_ ?_ <;> intro _ <;> (try (exfalso; first | contradiction | omega))) | (refine J_ifb xR ?_ ?_ <;> (intro hgb; subst hgb)) | (refine J_ifb xR ?_ ?_ <;> intro _) | fail)) | fail))
    exact J_again 8 (by omega) (by omega) ⟨rfl, rfl, rfl, trivial⟩ (fun w H => H.sel xZ)
  · refine J_heap (L' := [pts b1 [.int .u8 255, .int .u8 255, .int .u8 255, .int .u8 255, .int .u8 255, .int .u8 255, .int .u8 255, .int .u8 255, .int .u8 0, .int .u8 0, .int .u8 0, .int .u8 0, .int .u8 0, .int .u8 0, .int .u8 0, .int .u8 0] 111, pts b0 [.int .u8 0, .int .u8 0, .int .u8 0, .int .u8 0, .int .u8 0, .int .u8 0, .int .u8 0, .int .u8 0, .int .u8 0, .int .u8 0, .int .u8 0, .int .u8 0, .int .u8 0, .int .u8 0, .int .u8 0, .int .u8 0] 111]) (fun w H => H) ?_
    (repeat' (first | ((with_reducible apply gL); (first | refine yL0 ?_ | refine yL ?_ | (refine yM ?_; intro _) | fail)) | refine yJ ?_ | ((with_reducible apply gJ_if); (first | (refine J_if xR ?_ ?_ <;> intro _ <;> (try (exfalso; first | contradiction | omega))) | (refine J_ifb xR ?_ ?_ <;> (intro hgb; subst hgb)) | (refine J_ifb xR ?_ ?_ <;> intro _) | fail)) | fail))
    exact J_again 9 (by omega) (by omega) ⟨rfl, rfl, rfl, trivial⟩ (fun w H => H.sel xZ)
  · refine J_heap (L' := [pts b1 [.int .u8 255, .int .u8 255, .int .u8 255, .int .u8 255, .int .u8 255, .int .u8 255, .int .u8 255, .int .u8 255, .int .u8 255, .int .u8 0, .int .u8 0, .int .u8 0, .int .u8 0, .int .u8 0, .int .u8 0, .int .u8 0] 111, pts b0 [.int .u8 0, .int .u8 0, .int .u8 0, .int .u8 0, .int .u8 0, .int .u8 0, .int .u8 0, .int .u8 0, .int .u8 0, .int .u8 0, .int .u8 0, .int .u8 0, .int .u8 0, .int .u8 0, .int .u8 0, .int .u8 0] 111]) (fun w H => H) ?_
    (repeat' (first | ((with_reducible apply gL); (first | refine yL0 ?_ | refine yL ?_ | (refine yM ?_; intro _) | fail)) | refine yJ ?_ | ((with_reducible apply gJ_if); (first | (refine J_if xR ?_ ?_ <;> intro _ <;> (try (exfalso; first | contradiction | omega))) | (refine J_ifb xR ?_ ?_ <;> (intro hgb; subst hgb)) | (refine J_ifb xR ?_ ?_ <;> intro _) | fail)) | fail))
    exact J_again 10 (by omega) (by omega) ⟨rfl, rfl, rfl, trivial⟩ (fun w H => H.sel xZ)
  · refine J_heap (L' := [pts b1 [.int .u8 255, .int .u8 255, .int .u8 255, .int .u8 255, .int .u8 255, .int .u8 255, .int .u8 255, .int .u8 255, .int .u8 255, .int .u8 255, .int .u8 0, .int .u8 0, .int .u8 0, .int .u8 0, .int .u8 0, .int .u8 0] 111, pts b0 [.int .u8 0, .int .u8 0, .int .u8 0, .int .u8 0, .int .u8 0, .int .u8 0, .int .u8 0, .int .u8 0, .int .u8 0, .int .u8 0, .int .u8 0, .int .u8 0, .int .u8 0, .int .u8 0, .int .u8 0, .int .u8 0] 111]) (fun w H => H) ?_
    (repeat' (first | ((with_reducible apply gL); (first | refine yL0 ?_ | refine yL ?_ | (refine yM ?_; intro _) | fail)) | refine yJ ?_ | ((with_reducible apply gJ_if); (first | (refine J_if xR ?_ ?_ <;> intro _ <;> (try (exfalso; first | contradiction | omega))) | (refine J_ifb xR ?_ ?_ <;> (intro hgb; subst hgb)) | (refine J_ifb xR ?_ ?_ <;> intro _) | fail)) | fail))
    exact J_again 11 (by omega) (by omega) ⟨rfl, rfl, rfl, trivial⟩ (fun w H => H.sel xZ)
  · refine J_heap (L' := [pts b1 [.int .u8 255, .int .u8 255, .int .u8 255, .int .u8 255, .int .u8 255, .int .u8 255, .int .u8 255, .int .u8 255, .int .u8 255, .int .u8 255, .int .u8 255, .int .u8 0, .int .u8 0, .int .u8 0, .int .u8 0, .int .u8 0] 111, pts b0 [.int .u8 0, .int .u8 0, .int .u8 0, .int .u8 0, .int .u8 0, .int .u8 0, .int .u8 0, .int .u8 0, .int .u8 0, .int .u8 0, .int .u8 0, .int .u8 0, .int .u8 0, .int .u8 0, .int .u8 0, .int .u8 0] 111]) (fun w H => H) ?_
    (repeat' (first | ((with_reducible apply gL); (first | refine yL0 ?_ | refine yL ?_ | (refine yM ?_; intro _) | fail)) | refine yJ ?_ | ((with_reducible apply gJ_if); (first | (refine J_if xR ?_ ?_ <;> intro _ <;> (try (exfalso; first | contradiction | omega))) | (refine J_ifb xR ?_ ?_ <;> (intro hgb; subst hgb)) | (refine J_ifb xR ?_ ?_ <;> intro _) | fail)) | fail))
    exact J_again 12 (by omega) (by omega) ⟨rfl, rfl, rfl, trivial⟩ (fun w H => H.sel xZ)
  · refine J_heap (L' := [pts b1 [.int .u8 255, .int .u8 255, .int .u8 255, .int .u8 255, .int .u8 255, .int .u8 255, .int .u8 255, .int .u8 255, .int .u8 255, .int .u8 255, .int .u8 255, .int .u8 255, .int .u8 0, .int .u8 0, .int .u8 0, .int .u8 0] 111, pts b0 [.int .u8 0, .int .u8 0, .int .u8 0, .int .u8 0, .int .u8 0, .int .u8 0, .int .u8 0, .int .u8 0, .int .u8 0, .int .u8 0, .int .u8 0, .int .u8 0, .int .u8 0, .int .u8 0, .int .u8 0, .int .u8 0] 111]) (fun w H => H) ?_
    (repeat' (first | ((with_reducible apply gL); (first | refine yL0 ?_ | refine yL ?_ | (refine yM ?_; intro _) | fail)) | refine yJ ?_ | ((with_reducible apply gJ_if); (first | (refine J_if xR ?_ ?_ <;> intro _ <;> (try (exfalso; first | contradiction | omega))) | (refine J_ifb xR ?_ ?_ <;> (intro hgb; subst hgb)) | (refine J_ifb xR ?_ ?_ <;> intro _) | fail)) | fail))
    exact J_again 13 (by omega) (by omega) ⟨rfl, rfl, rfl, trivial⟩ (fun w H => H.sel xZ)
  · refine J_heap (L' := [pts b1 [.int .u8 255, .int .u8 255, .int .u8 255, .int .u8 255, .int .u8 255, .int .u8 255, .int .u8 255, .int .u8 255, .int .u8 255, .int .u8 255, .int .u8 255, .int .u8 255, .int .u8 255, .int .u8 0, .int .u8 0, .int .u8 0] 111, pts b0 [.int .u8 0, .int .u8 0, .int .u8 0, .int .u8 0, .int .u8 0, .int .u8 0, .int .u8 0, .int .u8 0, .int .u8 0, .int .u8 0, .int .u8 0, .int .u8 0, .int .u8 0, .int .u8 0, .int .u8 0, .int .u8 0] 111]) (fun w H => H) ?_
    (repeat' (first | ((with_reducible apply gL); (first | refine yL0 ?_ | refine yL ?_ | (refine yM ?_; intro _) | fail)) | refine yJ ?_ | ((with_reducible apply gJ_if); (first | (refine J_if xR ?_ ?_ <;> intro _ <;> (try (exfalso; first | contradiction | omega))) | (refine J_ifb xR ?_ ?_ <;> (intro hgb; subst hgb)) | (refine J_ifb xR ?_ ?_ <;> intro _) | fail)) | fail))
    exact J_again 14 (by omega) (by omega) ⟨rfl, rfl, rfl, trivial⟩ (fun w H => H.sel xZ)
  · refine J_heap (L' := [pts b1 [.int .u8 255, .int .u8 255, .int .u8 255, .int .u8 255, .int .u8 255, .int .u8 255, .int .u8 255, .int .u8 255, .int .u8 255, .int .u8 255, .int .u8 255, .int .u8 255, .int .u8 255, .int .u8 255, .int .u8 0, .int .u8 0] 111, pts b0 [.int .u8 0, .int .u8 0, .int .u8 0, .int .u8 0, .int .u8 0, .int .u8 0, .int .u8 0, .int .u8 0, .int .u8 0, .int .u8 0, .int .u8 0, .int .u8 0, .int .u8 0, .int .u8 0, .int .u8 0, .int .u8 0] 111]) (fun w H => H) ?_
    (repeat' (first | ((with_reducible apply gL); (first | refine yL0 ?_ | refine yL ?_ | (refine yM ?_; intro _) | fail)) | refine yJ ?_ | ((with_reducible apply gJ_if); (first | (refine J_if xR ?_ ?_ <;> intro _ <;> (try (exfalso; first | contradiction | omega))) | (refine J_ifb xR ?_ ?_ <;> (intro hgb; subst hgb)) | (refine J_ifb xR ?_ ?_ <;> intro _) | fail)) | fail))
    exact J_again 15 (by omega) (by omega) ⟨rfl, rfl, rfl, trivial⟩ (fun w H => H.sel xZ)
  · refine J_heap (L' := [pts b1 [.int .u8 255, .int .u8 255, .int .u8 255, .int .u8 255, .int .u8 255, .int .u8 255, .int .u8 255, .int .u8 255, .int .u8 255, .int .u8 255, .int .u8 255, .int .u8 255, .int .u8 255, .int .u8 255, .int .u8 255, .int .u8 0] 111, pts b0 [.int .u8 0, .int .u8 0, .int .u8 0, .int .u8 0, .int .u8 0, .int .u8 0, .int .u8 0, .int .u8 0, .int .u8 0, .int .u8 0, .int .u8 0, .int .u8 0, .int .u8 0, .int .u8 0, .int .u8 0, .int .u8 0] 111]) (fun w H => H) ?_
    (repeat' (first | ((with_reducible apply gL); (first | refine yL0 ?_ | refine yL ?_ | (refine yM ?_; intro _) | fail)) | refine yJ ?_ | ((with_reducible apply gJ_if); (first | (refine J_if xR ?_ ?_ <;> intro _ <;> (try (exfalso; first | contradiction | omega))) | (refine J_ifb xR ?_ ?_ <;> (intro hgb; subst hgb)) | (refine J_ifb xR ?_ ?_ <;> intro _) | fail)) | fail))
    exact J_again 16 (by omega) (by omega) ⟨rfl, rfl, rfl, trivial⟩ (fun w H => H.sel xZ)
end Go.Proofs.Ytfonbpmdbpdncaa
namespace Go.Proofs.Ytfonbpmdbpdncaa
set_option linter.unusedSimpArgs false
set_option linter.unusedVariables false
set_option maxRecDepth 20000
set_option maxHeartbeats 4000000
open Go.RowKit Go.Pm

theorem concat2_s (g : Nat) (a b : Option Addr) (c d n1 n2 : Nat) (l m : List Int) (h1 : l.length = n1) (h2 : m.length = n2) (hl : n1 + n2 ≤ 1000000) : Pact Try.prog 51 #[.slice (some ⟨g, 0, none⟩) 2 2] (fun w => Vw w (.slice (some ⟨g, 0, none⟩) 2 2) 1 2 [.slice a n1 c, .slice b n2 d] ∧ Vw w (.slice a n1 c) 1 n1 (flat byC l) ∧ Vw w (.slice b n2 d) 1 n2 (flat byC m)) [] (fun u L' => ∃ a c, u = .slice a (n1 + n2) c ∧ L' = [Ar 5 1 byC (.slice a (n1 + n2) c) (l ++ m)]) := by
  subst h1 h2
  have h := concat_s (some ⟨g, 0, none⟩) 2 [⟨a, c, l⟩, ⟨b, d, m⟩] (by simp) (by simp [catB]; omega)
  intro W K w hK H
  refine (h W K w (hK.imp fun w ⟨x1, x2, x3⟩ => ⟨x1, by simp only [List.forall_mem_cons]; exact ⟨x2, x3, by simp⟩⟩) H).mono fun e w' h3 => ?_
  obtain ⟨u, L', ⟨a', c', h4, h5⟩, h6⟩ := h3
  have e1 : catB [⟨a, c, l⟩, ⟨b, d, m⟩] = l ++ m := by simp [catB]
  rw [e1, List.length_append] at h4 h5
  exact ⟨u, L', ⟨a', c', h4, h5⟩, h6⟩
theorem concat3_s (g : Nat) (a b f : Option Addr) (c d q n1 n2 n3 n : Nat) (l m k : List Int) (h1 : l.length = n1) (h2 : m.length = n2) (h3 : k.length = n3) (hn : n1 + n2 + n3 = n) (hl : n ≤ 1000000) : Pact Try.prog 51 #[.slice (some ⟨g, 0, none⟩) 3 3] (fun w => Vw w (.slice (some ⟨g, 0, none⟩) 3 3) 1 3 [.slice a n1 c, .slice b n2 d, .slice f n3 q] ∧ Vw w (.slice a n1 c) 1 n1 (flat byC l) ∧ Vw w (.slice b n2 d) 1 n2 (flat byC m) ∧ Vw w (.slice f n3 q) 1 n3 (flat byC k)) [] (fun u L' => ∃ a c, u = .slice a n c ∧ L' = [Ar 5 1 byC (.slice a n c) (l ++ m ++ k)]) := by
  subst h1 h2 h3 hn
  have h := concat_s (some ⟨g, 0, none⟩) 3 [⟨a, c, l⟩, ⟨b, d, m⟩, ⟨f, q, k⟩] (by simp) (by simp [catB]; omega)
  intro W K w hK H
  refine (h W K w (hK.imp fun w ⟨x1, x2, x3, x4⟩ => ⟨x1, by simp only [List.forall_mem_cons]; exact ⟨x2, x3, x4, by simp⟩⟩) H).mono fun e w' h3 => ?_
  obtain ⟨u, L', ⟨a', c', h4, h5⟩, h6⟩ := h3
  have e1 : catB [⟨a, c, l⟩, ⟨b, d, m⟩, ⟨f, q, k⟩] = l ++ m ++ k := by simp [catB]
  rw [e1, List.length_append, List.length_append] at h4 h5
  exact ⟨u, L', ⟨a', c', h4, h5⟩, h6⟩
def ones16 : List Int := [255, 255, 255, 255, 255, 255, 255, 255, 255, 255, 255, 255, 255, 255, 255, 255]
def msgB (k : Int) (body : List Int) : List Int := ones16 ++ [((19 + body.length : Nat) : Int) / 256, ((19 + body.length : Nat) : Int) % 256, k] ++ body
theorem msgB_len (k : Int) (body : List Int) : (msgB k body).length = 19 + body.length := by simp [msgB, ones16]; omega
theorem lit16 {w : World} {v : Value} (h : Vw w v 1 16 onesC) : Vw w v 1 16 (flat byC ones16) := h
theorem lit3 {w : World} {v : Value} {x y z : Int} (h : Vw w v 1 3 [.int .u8 x, .int .u8 y, .int .u8 z]) : Vw w v 1 3 (flat byC [x, y, z]) := h
theorem lit2 {w : World} {v : Value} {x y : Int} (h : Vw w v 1 2 [.int .u8 x, .int .u8 y]) : Vw w v 1 2 (flat byC [x, y]) := h
set_option maxRecDepth 4000 in
theorem mbuild_s (d : Kd) (h : KdOk d) (a : Option Addr) (c : Nat) (l : List Int) (h1 : d.lo ≤ (19 + l.length : Nat)) (h2 : ((19 + l.length : Nat) : Int) ≤ d.hi) (hl : l.length ≤ 4077) : Pact Try.prog 56 #[.int .i64 d.k, .slice a l.length c] (fun w => Vw w (.slice a l.length c) 1 l.length (flat byC l)) [] (fun u L' => ∃ a' c', u = .tuple #[.slice a' (19 + l.length) c', .int .i64 0] ∧ L' = [Ar 5 1 byC (.slice a' (19 + l.length) c') (msgB d.k l)]) := by
  refine pact Try.func56 rfl Try.ntmps56 rfl ?_
  intro W K hK
  have hk : 0 ≤ d.k ∧ d.k ≤ 255 := by rcases h with rfl | rfl | rfl <;> decide
  have e0 : (19 : Int) + (l.length : Int) = ((19 + l.length : Nat) : Int) := by omega
  (repeat' (first | ((with_reducible apply gL); (first | refine yL0 ?_ | refine yL ?_ | ((with_reducible apply gL_go); (first | (refine JL_goq (fits_s d h (19 + l.length) h1 h2) (hφ := xF) (h := ?_); rintro _ _ ⟨rfl, rfl⟩; try simp only [List.cons_append, List.nil_append]) | (refine JL_goq (ones_s) (hφ := xF) (h := ?_); rintro _ _ ⟨rfl, rfl⟩; try simp only [List.cons_append, List.nil_append]) | fail)) | (refine yM ?_; intro _) | ((with_reducible apply gL_gd); (first | (refine JL_guard xR xR ?_ ?_ <;> intro _ <;> (try (exfalso; first | contradiction | omega))) | (refine JL_guardb xR xR ?_ ?_ <;> (intro hgb; subst hgb)) | (refine JL_guardb xR xR ?_ ?_ <;> (intro hgb; fail_if_success (have : type_of% hgb := rfl))) | fail)) | fail)) | refine yJ ?_ | ((with_reducible apply gJ_if); (first | (refine J_if xR ?_ ?_ <;> intro _ <;> (try (exfalso; first | contradiction | omega))) | (refine J_ifb xR ?_ ?_ <;> (intro hgb; subst hgb)) | (refine J_ifb xR ?_ ?_ <;> intro _) | fail)) | fail))
  rw [e0]
  (repeat' (first | ((with_reducible apply gL); (first | refine yL0 ?_ | ((with_reducible apply gL_slice); (first | (refine JL_p rfl xR xR (pe_slArr (m := 16) (b := false) xR xC) ?_) | fail)) | refine yL ?_ | (refine yM ?_; intro _) | ((with_reducible apply gL_gd); (first | (refine JL_guard xR xR ?_ ?_ <;> intro _ <;> (try (exfalso; first | contradiction | omega))) | (refine JL_guardb xR xR ?_ ?_ <;> (intro hgb; subst hgb)) | (refine JL_guardb xR xR ?_ ?_ <;> (intro hgb; fail_if_success (have : type_of% hgb := rfl))) | fail)) | fail)) | refine yJ ?_ | ((with_reducible apply gJ_if); (first | (refine J_if xR ?_ ?_ <;> intro _ <;> (try (exfalso; first | contradiction | omega))) | (refine J_ifb xR ?_ ?_ <;> (intro hgb; subst hgb)) | (refine J_ifb xR ?_ ?_ <;> intro _) | fail)) | fail))
  generalize hq1 : ((19 + l.length : Nat) : Int) / 2 ^ (7 + 1) = q1
  generalize hq2 : ((19 + l.length : Nat) : Int) % 256 = q2
  have hm : msgB d.k l = ones16 ++ [q1, q2, d.k] ++ l := by subst hq1 hq2; rfl
  rw [hm]
  clear hm hq1 hq2 h1 h2 h hk
  generalize d.k = z
  (repeat' (first | ((with_reducible apply gL); (first | refine yL0 ?_ | refine yL ?_ | ((with_reducible apply gL_go); (first | (refine JL_goq (concat3_s _ _ _ a 16 3 c 16 3 l.length (19 + l.length) ones16 [q1, q2, z] l rfl rfl rfl (by omega) (by omega)) (hφ := (by (try simp only [List.cons_append, List.nil_append]); exact fun w hr => ⟨Src.lit xA rfl (by decide) w hr, lit16 (Src.lit xA rfl (by decide) w hr), lit3 (Src.lit xA rfl (by decide) w hr), hK w hr.1⟩)) (h := ?_); rintro _ _ ⟨a', c', rfl, rfl⟩; try simp only [List.cons_append, List.nil_append]) | fail)) | (refine yM ?_; intro _) | ((with_reducible apply gL_gd); (first | (refine JL_guard xR xR ?_ ?_ <;> intro _ <;> (try (exfalso; first | contradiction | omega))) | (refine JL_guardb xR xR ?_ ?_ <;> (intro hgb; subst hgb)) | (refine JL_guardb xR xR ?_ ?_ <;> (intro hgb; fail_if_success (have : type_of% hgb := rfl))) | fail)) | fail)) | refine yJ ?_ | ((with_reducible apply gJ_if); (first | (refine J_if xR ?_ ?_ <;> intro _ <;> (try (exfalso; first | contradiction | omega))) | (refine J_ifb xR ?_ ?_ <;> (intro hgb; subst hgb)) | (refine J_ifb xR ?_ ?_ <;> intro _) | fail)) | fail))
  exact J_ret2 rfl (by rfl) (by rfl) fun w H => ⟨_, ⟨a', c', rfl, rfl⟩, H.sel xZ⟩
end Go.Proofs.Ytfonbpmdbpdncaa
