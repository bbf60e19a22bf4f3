/-
  Jo, Jq: merged.
-/
import Derived.Test.YtdnokmpnemaoaaaGreatZViewPlays8
import Derived.Laws.StructEq
namespace Go.Pm
set_option linter.unusedSimpArgs false
set_option linter.unusedVariables false
open Go.RowKit

section
variable {P : Program} {n : Nat} {W : World} {K : Hl} {F : Fp} {k : List It} {tm : TM} {L L' R S M C : List HP} {T : TypeId} {pos : String} {af : Array Edge} {gd : Option (Nat × Bool)} {ops : Array Oper} {rest nx : List Oper} {d : Option Tmp}

def eq2 (P : Program) (t : TypeId) (k j : IntKind) : Bool := !P.stoodInHeld t && !P.eqGuardType P.depth t && (match P.underlying t with
  | some (.struct fs) => match fs.toList with
    | [f, g] => f.name != "_" && g.name != "_" && f.offset == 0 && g.offset == 1 && decide (intTy P f.type = some k) && decide (intTy P g.type = some j)
    | _ => false
  | _ => false)
theorem intTy_spec {t : TypeId} {k : IntKind} (h : intTy P t = some k) : P.underlying t = some (.int k) := by
  unfold intTy at h
  split at h
  · rename_i k' hu; cases h; exact hu
  · cases h
theorem run_eq2 {t : TypeId} {k j : IntKind} (h : eq2 P t k j = true) (a b a' b' : Int) (w : World) : (Op.equalIn 10000 t (.agg #[.int k a, .int j b]) (.agg #[.int k a', .int j b'])).run P w = .ok (decide (a = a' ∧ b = b')) w := by
  simp only [eq2, Bool.and_eq_true, Bool.not_eq_true'] at h
  obtain ⟨⟨h1, _⟩, h2⟩ := h
  split at h2
  · rename_i fs hu
    split at h2
    · rename_i f g hfg
      simp only [Bool.and_eq_true, bne_iff_ne, ne_eq, beq_iff_eq, decide_eq_true_eq] at h2
      obtain ⟨⟨⟨⟨⟨n1, n2⟩, o1⟩, o2⟩, i1⟩, i2⟩ := h2
      have e1 := intTy_spec i1
      have e2 := intTy_spec i2
      have hf : P.fieldsOf t = fs := by simp [Program.fieldsOf, hu]
      rw [run_equalIn_struct w 9999 t _ _ (by rw [hf]; exact hu) h1, hf, hfg]
      have p1 : ∀ (x y : Value) w, (part f.type #[x, y] f.offset).run P w = .ok x w := fun x y w => by
        simp [part, Sem.run_bind, run_agg e1, TypeDesc.isRow, o1]
      have p2 : ∀ (x y : Value) w, (part g.type #[x, y] g.offset).run P w = .ok y w := fun x y w => by
        simp [part, Sem.run_bind, run_agg e2, TypeDesc.isRow, o2]
      simp only [Op.eqFields, if_pos (show f.name ≠ "_" from n1), if_pos (show g.name ≠ "_" from n2), Sem.run_bind, p1, p2, Result.andThen_ok, run_equalIn_int w 9998 _ _ _ _ _ e1]
      by_cases ha : a = a'
      · subst ha
        simp only [beq_self_eq_true, Bool.not_true, Bool.false_eq_true, if_false, Sem.run_bind, p2, Result.andThen_ok, run_equalIn_int w 9998 _ _ _ _ _ e2]
        by_cases hb : b = b'
        · subst hb; simp
        · simp [hb]
      · simp [ha]
    · cases h2
  · cases h2
theorem run_g2 {op : BinOp} {t : TypeId} {k j : IntKind} (h : eq2 P t k j = true) (x y : Operand) (xs ys : Array Value) (w : World) : (eqGuard op t x y (.agg xs) (.agg ys)).run P w = .ok () w := by
  simp only [eq2, Bool.and_eq_true, Bool.not_eq_true'] at h
  exact run_eqGuard_agg w op t x y xs ys h.1.2
theorem pe_eq2 {xt yt : TypeId} {x y : Operand} {k j : IntKind} {a b a' b' : Int} (hx : evT tm x = some (.agg [.int k a, .int j b].toArray)) (hy : evT tm y = some (.agg [.int k a', .int j b'].toArray)) (h : eq2 P xt k j = true) : PE P K L ⟨d, .binOp .eql xt x y yt, T, pos, af, gd⟩ (tget tm) (.bool (decide (a = a' ∧ b = b'))) := pe_bin hx hy fun w => by
  simp only [Sem.run_bind, run_g2 h, Result.andThen_ok, run_eql_struct]
  rw [run_eq2 h]
  rfl
theorem pe_ne2 {xt yt : TypeId} {x y : Operand} {k j : IntKind} {a b a' b' : Int} (hx : evT tm x = some (.agg [.int k a, .int j b].toArray)) (hy : evT tm y = some (.agg [.int k a', .int j b'].toArray)) (h : eq2 P xt k j = true) : PE P K L ⟨d, .binOp .neq xt x y yt, T, pos, af, gd⟩ (tget tm) (.bool (decide (¬ (a = a' ∧ b = b')))) := pe_bin hx hy fun w => by
  simp only [Sem.run_bind, run_g2 h, Result.andThen_ok, run_neq_struct]
  rw [run_eq2 h]
  by_cases hp : a = a' ∧ b = b' <;> simp [hp, Result.andThen]

theorem pe_indexA {t : TypeId} {x i : Operand} {cs : List Value} {m j : Nat} {kk : IntKind} {z : Int} {v : Value} (hx : evT tm x = some (.agg cs.toArray)) (hi : evT tm i = some (.int kk z)) (ht : arrInfo P t = some (m, 1, false)) (hz : z = (j : Int)) (hj : j < m) (hv : cs[j]? = some v) : PE P K L ⟨d, .index t x i, T, pos, af, gd⟩ (tget tm) v := fun ρ w ha _ => by
  have h1 := ha x (by simp [Op.operands]) _ hx
  have h2 := ha i (by simp [Op.operands]) _ hi
  obtain ⟨e, inf, de, hu, hin, hsz, hd, hr⟩ := arrInfo_spec ht
  subst hz
  unfold execOp
  simp only [h1, h2]
  have h3 : (0 : Int) ≤ (j : Int) ∧ (j : Int) < (m : Int) := by omega
  simp [Instr.index, Sem.run_bind, run_underlying hu, asIntOf, h3, hj, run_sz hin, hsz, part, run_agg hd, hr, hv]

theorem pe_ldH {ty : TypeId} {x : Operand} {p : Addr} {v : Value} (hx : evT tm x = some (.pointer (some p))) (ht : cellTy P ty = true) (h : ∀ w, Rdw K L w → w.cell? p = some v) : PE P K L ⟨d, .load ty x, T, pos, af, gd⟩ (tget tm) v :=
  pe_ldG hx fun w hr => run_load_cell ht (h w hr)
theorem pe_ldKR {ty : TypeId} {x : Operand} {b i : Nat} {cs : List Value} (hx : evT tm x = some (.pointer (some ⟨b, i, none⟩))) (h : Kn K (fun w => w.rangeAt b i cs)) (ht : rowTy P ty cs.length = true) : PE P K L ⟨d, .load ty x, T, pos, af, gd⟩ (tget tm) (.agg cs.toArray) :=
  pe_ldG hx fun w hr => run_load_row ht (h w hr.1)
theorem pe_ldKS {ty : TypeId} {x : Operand} {b i m : Nat} {T' : TypeId} {cs vs : List Value} (hx : evT tm x = some (.pointer (some ⟨b, i, none⟩))) (h : Kn K (fun w => Blk w b cs.toArray T')) (_hn : (P.info? ty).map (·.size) = some m) (hs : Seg cs i m vs) (ht : rowTy P ty m = true) : PE P K L ⟨d, .load ty x, T, pos, af, gd⟩ (tget tm) (.agg vs.toArray) :=
  pe_ldKR hx (fun w i j v hv => by rw [(h w i).cell]; simpa using hs.get j v hv) (by rw [hs.len]; exact ht)
theorem pe_ldKC {ty : TypeId} {x : Operand} {b i : Nat} {T' : TypeId} {cs : List Value} {v : Value} (hx : evT tm x = some (.pointer (some ⟨b, i, none⟩))) (h : Kn K (fun w => Blk w b cs.toArray T')) (hs : cs[i]? = some v) (ht : cellTy P ty = true) : PE P K L ⟨d, .load ty x, T, pos, af, gd⟩ (tget tm) v :=
  pe_ldG hx fun w hr => run_load_cell ht (by rw [(h w hr.1).cell]; simpa using hs)
theorem ae_stH {A B : HP} {od : Option Tmp} {t : TypeId} {x y : Operand} {p : Addr} {v : Value} (hx : evT tm x = some (.pointer (some p))) (hy : evT tm y = some v) (ht : cellTy P t = true) (h1 : v.oneCell' = true)
    (h : ∀ W K' w, Ow W K' (A :: R) w → ∃ u, w.cell? p = some u ∧ w.frozen? p = false ∧ Ow W K' (B :: R) (w.setCell p v)) : AE P n K R [A] ⟨od, .store t x y, T, pos, af, gd⟩ (tget tm) (one undef [B]) :=
  ae_stG hx hy fun W K' w _ hO => by
    obtain ⟨u, h2, h3, h4⟩ := h W K' w hO
    exact ⟨_, run_store_cell ht h2 h3 h1, h4⟩
theorem JL_stH {A B : HP} {t : TypeId} {x y : Operand} {p : Addr} {v : Value} (hx : evT tm x = some (.pointer (some p))) (hy : evT tm y = some v) (ht : cellTy P t = true) (h1 : v.oneCell' = true) (hm : Tk L A R)
    (h : ∀ W K' w, Ow W K' (A :: R) w → ∃ u, w.cell? p = some u ∧ w.frozen? p = false ∧ Ow W K' (B :: R) (w.setCell p v)) (hg : wantF ops ⟨none, .store t x y, T, pos, af, gd⟩ (tget tm) = some true) (hk : JL P n W K F ops k rest tm (B :: R)) : JL P n W K F ops k (⟨none, .store t x y, T, pos, af, gd⟩ :: rest) tm L :=
  JL_a0 rfl hg (.cons hm .nil) (ae_stH hx hy ht h1 h) (by rintro _ _ ⟨rfl, rfl⟩; exact hk)
end

/-! Calls, with what is found by the same means every time. -/
section
variable {P : Program} {n : Nat} {W : World} {K : Hl} {F : Fp} {k : List It} {tm : TM} {L R S M C : List HP} {T : TypeId} {pos : String} {af : Array Edge} {gd : Option (Nat × Bool)} {ops : Array Oper} {rest nx : List Oper} {d : Tmp}
variable {c : Operand} {xs : Array Operand} {ts : Array TypeId} {f : FuncId} {first caps : Array Value} {us vs : List Value} {φ : World → Prop} {Rr : Value → List HP → Prop}
theorem JL_goq (Sp : Pact P f vs.toArray φ C Rr) (hc : evT tm c = some (.func (.func f) first caps) := by rfl) (ha : xs.toList.mapM (evT tm) = some us := by rfl) (hv : (first ++ us.toArray ++ caps).toList = vs := by first | rfl | (simp; done) | fail) (hs : Sb L C R := by first | ((with_reducible (repeat (first | exact Sb.nil | apply Sb.cons | exact Tk.here | apply Tk.there))); done) | fail) (hφ : ∀ w, Rdw K R w → φ w) (h : ∀ v L', Rr v L' → JL P n W K F ops k rest ((d, v) :: tm) (L' ++ R)) (ho : ownB P f = true := by first | assumption | decide +kernel) (hn : Nat.blt d n = true := by rfl) (hg : wantF ops ⟨some d, .call ⟨.value c, xs, ts⟩, T, pos, af, gd⟩ (tget tm) = some true := by rfl) :
    JL P n W K F ops k (⟨some d, .call ⟨.value c, xs, ts⟩, T, pos, af, gd⟩ :: rest) tm L := JL_a rfl hn hg hs (ae_go hc ha hv ho Sp hφ) h
theorem JD_goq (Sp : Pact P f vs.toArray φ C Rr) (hc : evT tm c = some (.func (.func f) first caps) := by rfl) (ha : xs.toList.mapM (evT tm) = some us := by rfl) (hv : (first ++ us.toArray ++ caps).toList = vs := by first | rfl | (simp; done) | fail) (hs : Sb M C R := by first | ((with_reducible (repeat (first | exact Sb.nil | apply Sb.cons | exact Tk.here | apply Tk.there))); done) | fail) (hφ : ∀ w, Rdw K (R ++ S) w → φ w) (h : ∀ v L', Rr v L' → JD P n W K F ops k nx rest ((d, v) :: tm) S (L' ++ R)) (ho : ownB P f = true := by first | assumption | decide +kernel) (hg : wantF ops ⟨some d, .call ⟨.value c, xs, ts⟩, T, pos, af, gd⟩ (tget tm) = some true := by rfl) :
    JD P n W K F ops k nx (⟨some d, .call ⟨.value c, xs, ts⟩, T, pos, af, gd⟩ :: rest) tm S M := JD_a rfl hg rfl hs (ae_go hc ha hv ho Sp hφ) h
end
theorem JD_heapA {P : Program} {n : Nat} {W : World} {K : Hl} {F : Fp} {ops : Array Oper} {k : List It} {nx rest : List Oper} {o : Oper} {tm : TM} {S M M' : List HP} (hg : wantF ops o (tget tm) = some true) (hk : kindOp o.op = 2) (hh : ∀ W K w, Ow W K M w → Ow W K M' w) (h : JD P n W K F ops k nx (o :: rest) tm S M') : JD P n W K F ops k nx (o :: rest) tm S M := .mk <| fun W2 K' w a hK hf hO => by
  obtain ⟨hR, sR, dR, H1, back⟩ := hO.frame (L := M) (R := S)
  have hO' : Ow W2 K' (M' ++ S) w := back M' w (hh W2 (K'.add hR) w H1)
  rcases h.h W2 K' w a hK hf hO' with ⟨hg', _⟩ | ⟨_, h2⟩
  · rw [hg] at hg'; cases hg'
  · refine .inr ⟨hg, .inr (.inr ⟨hk, ?_⟩)⟩
    rcases h2 with ⟨k0, _⟩ | ⟨k0, _⟩ | ⟨_, h3⟩
    · rw [hk] at k0; cases k0
    · rw [hk] at k0; cases k0
    · exact h3

/-! Numbers. -/
theorem bits_andNot {a : Int} {m : Nat} (h0 : 0 ≤ a) (h1 : a < 4294967296) (hm : m ≤ 32) : bits .andNot .u32 a (2 ^ m - 1) = a - a % 2 ^ m := by
  obtain ⟨x, rfl⟩ : ∃ x : Nat, a = x := ⟨a.toNat, by omega⟩
  have hx : x < 2 ^ 32 := by omega
  have hpm : 2 ^ m ≤ 2 ^ 32 := Nat.pow_le_pow_right (by omega) hm
  have hp0 : 0 < 2 ^ m := Nat.pow_pos (by omega)
  have e0 : ((2 : Int) ^ m - 1) = ((2 ^ m - 1 : Nat) : Int) := by
    rw [Int.ofNat_sub hp0]; simp
  have e1 : (x : Int) - (x : Int) % 2 ^ m = ((x - x % 2 ^ m : Nat) : Int) := by
    rw [Int.ofNat_sub (Nat.mod_le _ _)]; simp
  rw [e0, e1]
  have key : (BitVec.ofInt 32 (x : Int) &&& ~~~ BitVec.ofInt 32 ((2 ^ m - 1 : Nat) : Int)).toNat = x - x % 2 ^ m := by
    rw [BitVec.toNat_and, BitVec.toNat_not]
    simp only [BitVec.toNat_ofInt]
    have e2 : ((x : Int) % (2 ^ 32 : Nat)).toNat = x := by omega
    have e3 : (((2 ^ m - 1 : Nat) : Int) % (2 ^ 32 : Nat)).toNat = 2 ^ m - 1 := by
      have : (2 ^ m - 1 : Nat) < 2 ^ 32 := by omega
      rw [← Int.natCast_emod, Nat.mod_eq_of_lt this]; simp
    rw [e2, e3]
    apply Nat.eq_of_testBit_eq
    intro i
    rw [Nat.testBit_and]
    have e4 : x - x % 2 ^ m = 2 ^ m * (x / 2 ^ m) := by have := Nat.div_add_mod x (2 ^ m); omega
    rw [e4, Nat.testBit_two_pow_mul, Nat.testBit_div_two_pow]
    have e5 : (2 ^ 32 - 1 - (2 ^ m - 1)).testBit i = (decide (i < 32) && !decide (i < m)) := by
      rw [show 2 ^ 32 - 1 - (2 ^ m - 1) = 2 ^ 32 - ((2 ^ m - 1) + 1) by omega, Nat.testBit_two_pow_sub_succ (by omega), Nat.testBit_two_pow_sub_one]
    rw [e5]
    by_cases hi : i < 32
    · by_cases hmi : m ≤ i
      · simp [hi, hmi, Nat.not_lt.2 hmi]
      · simp [hi, hmi, Nat.lt_of_not_le hmi]
    · have : x.testBit i = false := Nat.testBit_lt_two_pow (Nat.lt_of_lt_of_le hx (Nat.pow_le_pow_right (by omega) (by omega)))
      by_cases hmi : m ≤ i <;> simp [hi, this, hmi]
  show IntKind.u32.wrap ((BitVec.ofInt 32 (x : Int) &&& ~~~ BitVec.ofInt 32 ((2 ^ m - 1 : Nat) : Int)).toNat : Int) = _
  rw [key, w_u32 (by omega) (by omega)]
theorem bits_and1 {a : Int} (h0 : 0 ≤ a) (h1 : a < 9223372036854775808) : bits .and .i64 a 1 = a % 2 := by
  obtain ⟨x, rfl⟩ : ∃ x : Nat, a = x := ⟨a.toNat, by omega⟩
  have key : (BitVec.ofInt 64 (x : Int) &&& BitVec.ofInt 64 1).toNat = x % 2 := by
    rw [BitVec.toNat_and]
    simp only [BitVec.toNat_ofInt]
    have e2 : ((x : Int) % (2 ^ 64 : Nat)).toNat = x := by omega
    rw [e2]
    exact Nat.and_one_is_mod x
  show IntKind.i64.wrap ((BitVec.ofInt 64 (x : Int) &&& BitVec.ofInt 64 1).toNat : Int) = _
  rw [key, w_i64 (by omega) (by omega)]
  simp
end Go.Pm
namespace Go.Pm
set_option linter.unusedSimpArgs false
set_option linter.unusedVariables false
open Go.RowKit
theorem xR {p : Prop} (h : p := by rfl) : p := h
theorem xC {p : Prop} (h : p := by decide +kernel) : p := h
theorem xW {p : Prop} (h : p := by first | decide +kernel | rfl) : p := h
theorem xT {p : Prop} (h : p := by first | ((with_reducible (repeat (first | exact Tk.here | apply Tk.there))); done) | fail) : p := h
theorem xA {p : Prop} (h : p := by first | ((with_reducible (repeat (first | exact Tk.here | apply Tk.there))); done) | ((simp only [List.cons_append, List.nil_append]); (with_reducible (repeat (first | exact Tk.here | apply Tk.there))); done) | fail) : p := h
theorem xS {p : Prop} (h : p := by first | ((with_reducible (repeat (first | exact Sb.nil | apply Sb.cons | exact Tk.here | apply Tk.there))); done) | fail) : p := h
theorem xG {p : Prop} (h : p := by first | ((repeat (first | exact Seg.e | apply Seg.t | apply Seg.s)); done) | fail) : p := h
theorem xE {p : Prop} (h : p := by first | ((repeat (first | exact SetAt.z | apply SetAt.s)); done) | fail) : p := h
theorem xP {p : Prop} (h : p := by first | ((repeat (first | exact Put.e | apply Put.t | apply Put.s)); done) | fail) : p := h
theorem xN {p : Prop} (h : p := by first | ((repeat (first | exact Nrm.nil | apply Nrm.cons)); done) | fail) : p := h
theorem xI {p : Prop} (h : p := by first | exact il0 | exact il1 | exact il2 | exact il3 | exact ic_succ _ | rfl | exact (Int.toNat_of_nonneg (by omega)).symm) : p := h
theorem xV {p : Prop} (h : p := by first | exact Src.kn (by assumption) | exact Src.ar xA | exact Src.vr xA | exact Src.sl xA | exact Src.ofV xA) : p := h
theorem xO {p : Prop} (h : p := by omega) : p := h
theorem xL {p : Prop} (h : p := by intro _; rfl) : p := h
theorem xK {p : Prop} (h : p := by intro _; kernel_rfl) : p := h
theorem xU {p : Prop} (h : p := by exact all_one _ (by intro _ _; rfl)) : p := h
theorem xD {p : Prop} (h : p := by first | ((repeat (first | exact Pick.nil | apply Pick.cons rfl)); done) | fail) : p := h
theorem xH {p : Prop} (h : p := by assumption) : p := h
theorem xF {p : Prop} (h : p := by exact fun _ _ => trivial) : p := h
theorem xZ {p : Prop} (h : p := by first | ((with_reducible (repeat (first | exact Sb.nil | apply Sb.cons | exact Tk.here | apply Tk.there))); done) | ((repeat (first | exact Sb.nil | apply Sb.cons | exact Tk.here | apply Tk.there)); done)) : p := h
end Go.Pm
