/-
  Jm, Jn, Jr, Jo, Jq: merged.
-/
import Derived.Test.YtfonbpmdbpdncaaZFsmVoid7
import Derived.Laws.StructEq
namespace Go.Pm
set_option linter.unusedSimpArgs false
set_option linter.unusedVariables false
open Go.RowKit

def mapInfo (P : Program) (t : TypeId) : Option (IntKind × Value) := match P.underlying t with
  | some (.map key elem) => match P.underlying key, P.info? elem with
    | some (.int k), some i => match i.zero with
      | some z => some (k, z)
      | none => none
    | _, _ => none
  | _ => none
inductive TabM (P : Program) : List (Nat × (IntKind × Value)) → Prop
  | nil : TabM P []
  | cons {p : Nat × (IntKind × Value)} {l : List (Nat × (IntKind × Value))} : mapInfo P p.1 = some p.2 → TabM P l → TabM P (p :: l)
section
variable {P : Program} {n : Nat} {W : World} {K : Hl} {F : Fp} {k : List It} {tm : TM} {L L' R S M M' : List HP} {T : TypeId} {pos : String} {af : Array Edge} {gd : Option (Nat × Bool)} {ops : Array Oper} {rest nx : List Oper} {d : Tmp}

end

/-! What some memory of the call's own is enough to know. -/
def has (φ : World → Prop) : HP := fun h => ∀ w, h.inn w → φ w
def noK : Hl := fun _ => none
theorem has_of {M : List HP} {φ : World → Prop} (h : ∀ w, Rdw noK M w → φ w) : ∀ k, sats M k → has φ k := by
  intro k s w i
  refine h w ⟨?_, k, s, ?_, i⟩
  · intro b o e
    exact nomatch e
  · intro b
    exact .inr rfl
theorem Rdw.has {K : Hl} {L R : List HP} {φ : World → Prop} {w : World} (h : Rdw K L w) (t : Tk L (Pm.has φ) R) : φ w := by
  obtain ⟨k, hk, i⟩ := h.tk t
  exact hk w i
theorem Ow.has {W : World} {K : Hl} {L R M : List HP} {w : World} {φ : World → Prop} (H : Ow W K L w) (t : Sb L M R) (h : ∀ w, Rdw noK M w → φ w) : Ow W K (Pm.has φ :: R) w := H.shut t (has_of h)
theorem Ow.hasTrue {W : World} {K : Hl} {L : List HP} {w : World} {φ : World → Prop} (H : Ow W K L w) (h : ∀ w, φ w) : Ow W K (Pm.has φ :: L) w := (Ow.satsNil H).imp fun _ _ w _ => h w

/-! Append onto an empty literal. -/
section
variable {P : Program} {n : Nat} {W : World} {K : Hl} {F : Fp} {k : List It} {tm : TM} {L L' R S M M' : List HP} {T : TypeId} {pos : String} {af : Array Edge} {gd : Option (Nat × Bool)} {ops : Array Oper} {rest nx : List Oper} {d : Tmp}
variable {α : Type} {enc : α → List Value} {t e : TypeId} {sz bytes m b : Nat} {s x : Operand} {v y : Value} {fs : List α}
theorem JL_appL (enc : α → List Value) {fs : List α} (hi : elemInfo P t = some (e, sz, bytes)) (hs : evT tm s = some (.slice (some ⟨b, 0, none⟩) 0 0)) (hx : evT tm x = some y) (hm : Tk L (pts b [] e) R) (hv : Src K R y sz m (flat enc fs)) (hok : elOk P t e sz bytes = true) (hl : ∀ x, (enc x).length = sz) (h1 : ∀ u ∈ flat enc fs, u.oneCell' = true) (hsz : m * bytes ≤ 140737488355328)
    (hn : Nat.blt d n = true) (hg : wantF ops ⟨some d, .call ⟨.builtin .append, #[s, x], #[t, t]⟩, T, pos, af, gd⟩ (tget tm) = some true) (h : ∀ ad c, m ≤ c → c ≤ maxLen → JL P n W K F ops k rest ((d, .slice ad m c) :: tm) (Ar e sz enc (.slice ad m c) fs :: R)) : JL P n W K F ops k (⟨some d, .call ⟨.builtin .append, #[s, x], #[t, t]⟩, T, pos, af, gd⟩ :: rest) tm L :=
  JL_a rfl hn hg (.cons hm .nil) (fun W' K' w a next hK hf hO hn => ae_app (es := []) (.ofOk hok) hs hx hv hl h1 (by simpa using hsz) W' K' w a next hK hf (Ow.arLit0 hO .here) hn) (by
    rintro _ _ ⟨ad, c, h2, h3, rfl, rfl⟩
    simp only [List.length_nil, Nat.zero_add, List.nil_append] at h2 ⊢
    exact h ad c h2 h3)
theorem JD_appL (enc : α → List Value) {fs : List α} (hi : elemInfo P t = some (e, sz, bytes)) (hs : evT tm s = some (.slice (some ⟨b, 0, none⟩) 0 0)) (hx : evT tm x = some y) (hm : Tk M (pts b [] e) R) (hv : Src K (R ++ S) y sz m (flat enc fs)) (hok : elOk P t e sz bytes = true) (hl : ∀ x, (enc x).length = sz) (h1 : ∀ u ∈ flat enc fs, u.oneCell' = true) (hsz : m * bytes ≤ 140737488355328)
    (hg : wantF ops ⟨some d, .call ⟨.builtin .append, #[s, x], #[t, t]⟩, T, pos, af, gd⟩ (tget tm) = some true) (h : ∀ ad c, m ≤ c → c ≤ maxLen → JD P n W K F ops k nx rest ((d, .slice ad m c) :: tm) S (Ar e sz enc (.slice ad m c) fs :: R)) : JD P n W K F ops k nx (⟨some d, .call ⟨.builtin .append, #[s, x], #[t, t]⟩, T, pos, af, gd⟩ :: rest) tm S M :=
  JD_a rfl hg rfl (.cons hm .nil) (fun W' K' w a next hK hf hO hn => ae_app (es := []) (.ofOk hok) hs hx hv hl h1 (by simpa using hsz) W' K' w a next hK hf (Ow.arLit0 hO .here) hn) (by
    rintro _ _ ⟨ad, c, h2, h3, rfl, rfl⟩
    simp only [List.length_nil, Nat.zero_add, List.nil_append] at h2 ⊢
    exact h ad c h2 h3)
end
end Go.Pm
namespace Go.Pm
set_option linter.unusedSimpArgs false
set_option linter.unusedVariables false
open Go.RowKit
variable {α : Type} {enc : α → List Value} {K : Hl} {L : List HP} {a : Option Addr} {c n sz : Nat} {es : List α}
theorem flat_drop (hl : ∀ x, (enc x).length = sz) (es : List α) (j : Nat) (hj : j ≤ es.length) : (flat enc es).drop (j * sz) = flat enc (es.drop j) := by
  have h : flat enc es = flat enc (es.take j) ++ flat enc (es.drop j) := by rw [← flat_append, List.take_append_drop]
  have h2 : (flat enc (es.take j)).length = j * sz := by rw [flat_length hl, List.length_take, Nat.min_eq_left hj]
  rw [h, ← h2, List.drop_left]
theorem Vw_drop {w : World} (h : Vw w (.slice a n c) sz n (flat enc es)) (hl : ∀ x, (enc x).length = sz) (hn : es.length = n) (k m : Nat) (hk : k ≤ n) (hm : m = n - k) : Vw w (.slice (slA a c k sz) m (c - k)) sz m (flat enc (es.drop k)) := by
  subst hm
  obtain ⟨a', cap, he, h1, h2, h3, h4, h5⟩ := h
  cases he
  have hlen : (es.drop k).length = n - k := by rw [List.length_drop, hn]
  unfold slA
  by_cases hck : c = k
  · rw [if_pos hck]
    refine ⟨a, c - k, rfl, by rw [flat_length hl, hlen], by omega, by omega, fun h => ⟨by have := (h4 h).1; omega, by omega⟩, fun hne => ?_⟩
    have hnil : es.drop k = [] := List.eq_nil_of_length_eq_zero (by omega)
    rw [hnil] at hne
    exact absurd rfl hne
  · rw [if_neg hck]
    refine ⟨_, c - k, rfl, by rw [flat_length hl, hlen], by omega, by omega, fun h => ?_, fun hne => ?_⟩
    · cases a with
      | none => have := h4 rfl; omega
      | some x => cases h
    · have hd := flat_drop hl es k (by omega)
      have hne' : flat enc es ≠ [] := by
        intro h
        rw [h] at hd
        exact hne (by rw [← hd]; simp)
      obtain ⟨b, off, hb, hc⟩ := h5 hne'
      subst hb
      refine ⟨b, off + k * sz, by rw [Option.map_some, addr_add_plain], fun j u hj => ?_⟩
      rw [← hd, List.getElem?_drop] at hj
      have := hc _ _ hj
      rwa [Nat.add_assoc]
theorem Vw_take' {w : World} (h : Vw w (.slice a n c) sz n (flat enc es)) (hl : ∀ x, (enc x).length = sz) (hn : es.length = n) (j : Nat) (hj : j ≤ n) : Vw w (.slice a j c) sz j (flat enc (es.take j)) := by
  obtain ⟨a', cap, he, h1, h2, h3, h4, h5⟩ := h
  cases he
  have hlen : (es.take j).length = j := by rw [List.length_take]; omega
  have hpre : flat enc es = flat enc (es.take j) ++ flat enc (es.drop j) := by rw [← flat_append, List.take_append_drop]
  refine ⟨a, c, rfl, by rw [flat_length hl, hlen], by omega, h3, fun h => ⟨by have := (h4 h).1; omega, (h4 h).2⟩, fun hne => ?_⟩
  have hne' : flat enc es ≠ [] := by
    intro h
    rw [hpre] at h
    exact hne (List.append_eq_nil_iff.1 h).1
  obtain ⟨b, off, hb, hc⟩ := h5 hne'
  refine ⟨b, off, hb, fun k u hk => hc k u ?_⟩
  rw [hpre, List.getElem?_append_left (List.getElem?_eq_some_iff.1 hk).1]
  exact hk
theorem Src.drop (h : Src K L (.slice a n c) sz n (flat enc es)) (hl : ∀ x, (enc x).length = sz) (hn : es.length = n) (k m : Nat) (hk : k ≤ n) (hm : m = n - k) : Src K L (.slice (slA a c k sz) m (c - k)) sz m (flat enc (es.drop k)) := fun w hr => Vw_drop (h w hr) hl hn k m hk hm
theorem Src.take (h : Src K L (.slice a n c) sz n (flat enc es)) (hl : ∀ x, (enc x).length = sz) (hn : es.length = n) (j : Nat) (hj : j ≤ n) : Src K L (.slice a j c) sz j (flat enc (es.take j)) := fun w hr => Vw_take' (h w hr) hl hn j hj
end Go.Pm
namespace Go.Pm
set_option linter.unusedSimpArgs false
set_option linter.unusedVariables false
open Go.RowKit

def Yld (P : Program) (K0 : Hl) (l : Nat) (args : Array Value) (C : List HP) (Φ : Value → List HP → Prop) : Prop :=
  ∀ W K w, K0.le K → Ow W K C w → ∃ fn tmps assign body, (Instr.yield l args).run P w = .ok (.round l fn tmps assign body) w ∧ RoundIn Fence.wide 0 P l fn tmps assign body w (retR W K Φ)

section
variable {P : Program} {n : Nat} {W : World} {K : Hl} {F : Fp} {k : List It} {tm : TM} {L L' R S M C : List HP} {T : TypeId} {pos : String} {af : Array Edge} {gd : Option (Nat × Bool)} {ops : Array Oper} {rest nx : List Oper} {d : Tmp}

def Iter {α : Type} (P : Program) (f : FuncId) (args : Nat → List Value) (φ : World → Prop) (enc : α → List Value) (N : Nat) (S Sp : List α → Prop) : Prop :=
  ∀ (K0 : Hl) (l : Nat) (Y Yx : List α → HP), (∀ pre x, pre.length < N → Yld P K0 l (enc x).toArray [Y pre] (fun v L' => (v = .bool true ∧ L' = [Y (pre ++ [x])]) ∨ (v = .bool false ∧ L' = [Yx (pre ++ [x])]))) →
    ∀ W K w, K0.le K → Kn K φ → Ow W K [Y []] w → Calls P f (args l).toArray w (retR W K (fun _ L' => (∃ xs, S xs ∧ L' = [Y xs]) ∨ ∃ pre, Sp pre ∧ L' = [Yx pre]))
def IterQ {α : Type} (P : Program) (f : FuncId) (args : Nat → List Value) (φ : World → Prop) (enc : α → List Value) (G : List α → α → Prop) (S Sp : List α → Prop) (Q : (List α → HP) → Prop) : Prop :=
  ∀ (K0 : Hl) (l : Nat) (Y Yx : List α → HP), Q Y → (∀ pre x, G pre x → Yld P K0 l (enc x).toArray [Y pre] (fun v L' => (v = .bool true ∧ L' = [Y (pre ++ [x])]) ∨ (v = .bool false ∧ L' = [Yx (pre ++ [x])]))) →
    ∀ W K w, K0.le K → Kn K φ → Ow W K [Y []] w → Calls P f (args l).toArray w (retR W K (fun _ L' => (∃ xs, S xs ∧ L' = [Y xs]) ∨ ∃ pre, Sp pre ∧ L' = [Yx pre]))
theorem Iter.q {α : Type} {f : FuncId} {args : Nat → List Value} {φ : World → Prop} {enc : α → List Value} {N : Nat} {S Sp : List α → Prop} (It : Iter P f args φ enc N S Sp) : IterQ P f args φ enc (fun pre _ => pre.length < N) S Sp (fun _ => True) := fun K0 l Y Yx _ => It K0 l Y Yx
/-! A round. -/
end
end Go.Pm
namespace Go.Pm
set_option linter.unusedSimpArgs false
set_option linter.unusedVariables false
open Go.RowKit

section
variable {P : Program} {n : Nat} {W : World} {K : Hl} {F : Fp} {k : List It} {tm : TM} {L L' R S M C : List HP} {T : TypeId} {pos : String} {af : Array Edge} {gd : Option (Nat × Bool)} {ops : Array Oper} {rest nx : List Oper} {d : Option Tmp}

def eq2 (P : Program) (t : TypeId) (k j : IntKind) : Bool := !P.stoodInHeld t && !P.eqGuardType P.depth t && (match P.underlying t with
  | some (.struct fs) => match fs.toList with
    | [f, g] => f.name != "_" && g.name != "_" && f.offset == 0 && g.offset == 1 && decide (intTy P f.type = some k) && decide (intTy P g.type = some j)
    | _ => false
  | _ => false)
theorem intTy_spec {t : TypeId} {k : IntKind} (h : intTy P t = some k) : P.underlying t = some (.int k) := by
  unfold intTy at h
  split at h
  · rename_i k' hu; cases h; exact hu
  · cases h
theorem run_eq2 {t : TypeId} {k j : IntKind} (h : eq2 P t k j = true) (a b a' b' : Int) (w : World) : (Op.equalIn 10000 t (.agg #[.int k a, .int j b]) (.agg #[.int k a', .int j b'])).run P w = .ok (decide (a = a' ∧ b = b')) w := by
  simp only [eq2, Bool.and_eq_true, Bool.not_eq_true'] at h
  obtain ⟨⟨h1, _⟩, h2⟩ := h
  split at h2
  · rename_i fs hu
    split at h2
    · rename_i f g hfg
      simp only [Bool.and_eq_true, bne_iff_ne, ne_eq, beq_iff_eq, decide_eq_true_eq] at h2
      obtain ⟨⟨⟨⟨⟨n1, n2⟩, o1⟩, o2⟩, i1⟩, i2⟩ := h2
      have e1 := intTy_spec i1
      have e2 := intTy_spec i2
      have hf : P.fieldsOf t = fs := by simp [Program.fieldsOf, hu]
      rw [run_equalIn_struct w 9999 t _ _ (by rw [hf]; exact hu) h1, hf, hfg]
      have p1 : ∀ (x y : Value) w, (part f.type #[x, y] f.offset).run P w = .ok x w := fun x y w => by
        simp [part, Sem.run_bind, run_agg e1, TypeDesc.isRow, o1]
      have p2 : ∀ (x y : Value) w, (part g.type #[x, y] g.offset).run P w = .ok y w := fun x y w => by
        simp [part, Sem.run_bind, run_agg e2, TypeDesc.isRow, o2]
      simp only [Op.eqFields, if_pos (show f.name ≠ "_" from n1), if_pos (show g.name ≠ "_" from n2), Sem.run_bind, p1, p2, Result.andThen_ok, run_equalIn_int w 9998 _ _ _ _ _ e1]
      by_cases ha : a = a'
      · subst ha
        simp only [beq_self_eq_true, Bool.not_true, Bool.false_eq_true, if_false, Sem.run_bind, p2, Result.andThen_ok, run_equalIn_int w 9998 _ _ _ _ _ e2]
        by_cases hb : b = b'
        · subst hb; simp
        · simp [hb]
      · simp [ha]
    · cases h2
  · cases h2
theorem run_g2 {op : BinOp} {t : TypeId} {k j : IntKind} (h : eq2 P t k j = true) (x y : Operand) (xs ys : Array Value) (w : World) : (eqGuard op t x y (.agg xs) (.agg ys)).run P w = .ok () w := by
  simp only [eq2, Bool.and_eq_true, Bool.not_eq_true'] at h
  exact run_eqGuard_agg w op t x y xs ys h.1.2
theorem pe_eq2 {xt yt : TypeId} {x y : Operand} {k j : IntKind} {a b a' b' : Int} (hx : evT tm x = some (.agg [.int k a, .int j b].toArray)) (hy : evT tm y = some (.agg [.int k a', .int j b'].toArray)) (h : eq2 P xt k j = true) : PE P K L ⟨d, .binOp .eql xt x y yt, T, pos, af, gd⟩ (tget tm) (.bool (decide (a = a' ∧ b = b'))) := pe_bin hx hy fun w => by
  simp only [Sem.run_bind, run_g2 h, Result.andThen_ok, run_eql_struct]
  rw [run_eq2 h]
  rfl
theorem pe_ne2 {xt yt : TypeId} {x y : Operand} {k j : IntKind} {a b a' b' : Int} (hx : evT tm x = some (.agg [.int k a, .int j b].toArray)) (hy : evT tm y = some (.agg [.int k a', .int j b'].toArray)) (h : eq2 P xt k j = true) : PE P K L ⟨d, .binOp .neq xt x y yt, T, pos, af, gd⟩ (tget tm) (.bool (decide (¬ (a = a' ∧ b = b')))) := pe_bin hx hy fun w => by
  simp only [Sem.run_bind, run_g2 h, Result.andThen_ok, run_neq_struct]
  rw [run_eq2 h]
  by_cases hp : a = a' ∧ b = b' <;> simp [hp, Result.andThen]

theorem pe_indexA {t : TypeId} {x i : Operand} {cs : List Value} {m j : Nat} {kk : IntKind} {z : Int} {v : Value} (hx : evT tm x = some (.agg cs.toArray)) (hi : evT tm i = some (.int kk z)) (ht : arrInfo P t = some (m, 1, false)) (hz : z = (j : Int)) (hj : j < m) (hv : cs[j]? = some v) : PE P K L ⟨d, .index t x i, T, pos, af, gd⟩ (tget tm) v := fun ρ w ha _ => by
  have h1 := ha x (by simp [Op.operands]) _ hx
  have h2 := ha i (by simp [Op.operands]) _ hi
  obtain ⟨e, inf, de, hu, hin, hsz, hd, hr⟩ := arrInfo_spec ht
  subst hz
  unfold execOp
  simp only [h1, h2]
  have h3 : (0 : Int) ≤ (j : Int) ∧ (j : Int) < (m : Int) := by omega
  simp [Instr.index, Sem.run_bind, run_underlying hu, asIntOf, h3, hj, run_sz hin, hsz, part, run_agg hd, hr, hv]

theorem pe_ldKR {ty : TypeId} {x : Operand} {b i : Nat} {cs : List Value} (hx : evT tm x = some (.pointer (some ⟨b, i, none⟩))) (h : Kn K (fun w => w.rangeAt b i cs)) (ht : rowTy P ty cs.length = true) : PE P K L ⟨d, .load ty x, T, pos, af, gd⟩ (tget tm) (.agg cs.toArray) :=
  pe_ldG hx fun w hr => run_load_row ht (h w hr.1)
theorem pe_ldKS {ty : TypeId} {x : Operand} {b i m : Nat} {T' : TypeId} {cs vs : List Value} (hx : evT tm x = some (.pointer (some ⟨b, i, none⟩))) (h : Kn K (fun w => Blk w b cs.toArray T')) (_hn : (P.info? ty).map (·.size) = some m) (hs : Seg cs i m vs) (ht : rowTy P ty m = true) : PE P K L ⟨d, .load ty x, T, pos, af, gd⟩ (tget tm) (.agg vs.toArray) :=
  pe_ldKR hx (fun w i j v hv => by rw [(h w i).cell]; simpa using hs.get j v hv) (by rw [hs.len]; exact ht)
theorem pe_ldKC {ty : TypeId} {x : Operand} {b i : Nat} {T' : TypeId} {cs : List Value} {v : Value} (hx : evT tm x = some (.pointer (some ⟨b, i, none⟩))) (h : Kn K (fun w => Blk w b cs.toArray T')) (hs : cs[i]? = some v) (ht : cellTy P ty = true) : PE P K L ⟨d, .load ty x, T, pos, af, gd⟩ (tget tm) v :=
  pe_ldG hx fun w hr => run_load_cell ht (by rw [(h w hr.1).cell]; simpa using hs)
end

/-! Calls, with what is found by the same means every time. -/
section
variable {P : Program} {n : Nat} {W : World} {K : Hl} {F : Fp} {k : List It} {tm : TM} {L R S M C : List HP} {T : TypeId} {pos : String} {af : Array Edge} {gd : Option (Nat × Bool)} {ops : Array Oper} {rest nx : List Oper} {d : Tmp}
variable {c : Operand} {xs : Array Operand} {ts : Array TypeId} {f : FuncId} {first caps : Array Value} {us vs : List Value} {φ : World → Prop} {Rr : Value → List HP → Prop}
theorem JL_goq (Sp : Pact P f vs.toArray φ C Rr) (hc : evT tm c = some (.func (.func f) first caps) := by rfl) (ha : xs.toList.mapM (evT tm) = some us := by rfl) (hv : (first ++ us.toArray ++ caps).toList = vs := by first | rfl | (simp; done) | fail) (hs : Sb L C R := by first | ((with_reducible (repeat (first | exact Sb.nil | apply Sb.cons | exact Tk.here | apply Tk.there))); done) | fail) (hφ : ∀ w, Rdw K R w → φ w) (h : ∀ v L', Rr v L' → JL P n W K F ops k rest ((d, v) :: tm) (L' ++ R)) (ho : ownB P f = true := by first | assumption | decide +kernel) (hn : Nat.blt d n = true := by rfl) (hg : wantF ops ⟨some d, .call ⟨.value c, xs, ts⟩, T, pos, af, gd⟩ (tget tm) = some true := by rfl) :
    JL P n W K F ops k (⟨some d, .call ⟨.value c, xs, ts⟩, T, pos, af, gd⟩ :: rest) tm L := JL_a rfl hn hg hs (ae_go hc ha hv ho Sp hφ) h
theorem JD_goq (Sp : Pact P f vs.toArray φ C Rr) (hc : evT tm c = some (.func (.func f) first caps) := by rfl) (ha : xs.toList.mapM (evT tm) = some us := by rfl) (hv : (first ++ us.toArray ++ caps).toList = vs := by first | rfl | (simp; done) | fail) (hs : Sb M C R := by first | ((with_reducible (repeat (first | exact Sb.nil | apply Sb.cons | exact Tk.here | apply Tk.there))); done) | fail) (hφ : ∀ w, Rdw K (R ++ S) w → φ w) (h : ∀ v L', Rr v L' → JD P n W K F ops k nx rest ((d, v) :: tm) S (L' ++ R)) (ho : ownB P f = true := by first | assumption | decide +kernel) (hg : wantF ops ⟨some d, .call ⟨.value c, xs, ts⟩, T, pos, af, gd⟩ (tget tm) = some true := by rfl) :
    JD P n W K F ops k nx (⟨some d, .call ⟨.value c, xs, ts⟩, T, pos, af, gd⟩ :: rest) tm S M := JD_a rfl hg rfl hs (ae_go hc ha hv ho Sp hφ) h
end
theorem JD_heapA {P : Program} {n : Nat} {W : World} {K : Hl} {F : Fp} {ops : Array Oper} {k : List It} {nx rest : List Oper} {o : Oper} {tm : TM} {S M M' : List HP} (hg : wantF ops o (tget tm) = some true) (hk : kindOp o.op = 2) (hh : ∀ W K w, Ow W K M w → Ow W K M' w) (h : JD P n W K F ops k nx (o :: rest) tm S M') : JD P n W K F ops k nx (o :: rest) tm S M := .mk <| fun W2 K' w a hK hf hO => by
  obtain ⟨hR, sR, dR, H1, back⟩ := hO.frame (L := M) (R := S)
  have hO' : Ow W2 K' (M' ++ S) w := back M' w (hh W2 (K'.add hR) w H1)
  rcases h.h W2 K' w a hK hf hO' with ⟨hg', _⟩ | ⟨_, h2⟩
  · rw [hg] at hg'; cases hg'
  · refine .inr ⟨hg, .inr (.inr ⟨hk, ?_⟩)⟩
    rcases h2 with ⟨k0, _⟩ | ⟨k0, _⟩ | ⟨_, h3⟩
    · rw [hk] at k0; cases k0
    · rw [hk] at k0; cases k0
    · exact h3

/-! Numbers. -/
end Go.Pm
namespace Go.Pm
set_option linter.unusedSimpArgs false
set_option linter.unusedVariables false
open Go.RowKit
theorem xR {p : Prop} (h : p := by rfl) : p := h
theorem xC {p : Prop} (h : p := by decide +kernel) : p := h
theorem xW {p : Prop} (h : p := by first | decide +kernel | rfl) : p := h
theorem xT {p : Prop} (h : p := by first | ((with_reducible (repeat (first | exact Tk.here | apply Tk.there))); done) | fail) : p := h
theorem xA {p : Prop} (h : p := by first | ((with_reducible (repeat (first | exact Tk.here | apply Tk.there))); done) | ((simp only [List.cons_append, List.nil_append]); (with_reducible (repeat (first | exact Tk.here | apply Tk.there))); done) | fail) : p := h
theorem xG {p : Prop} (h : p := by first | ((repeat (first | exact Seg.e | apply Seg.t | apply Seg.s)); done) | fail) : p := h
theorem xE {p : Prop} (h : p := by first | ((repeat (first | exact SetAt.z | apply SetAt.s)); done) | fail) : p := h
theorem xP {p : Prop} (h : p := by first | ((repeat (first | exact Put.e | apply Put.t | apply Put.s)); done) | fail) : p := h
theorem xN {p : Prop} (h : p := by first | ((repeat (first | exact Nrm.nil | apply Nrm.cons)); done) | fail) : p := h
theorem xI {p : Prop} (h : p := by first | exact il0 | exact il1 | exact il2 | exact il3 | exact ic_succ _ | rfl | exact (Int.toNat_of_nonneg (by omega)).symm) : p := h
theorem xV {p : Prop} (h : p := by first | exact Src.kn (by assumption) | exact Src.ar xA | exact Src.vr xA | exact Src.sl xA | exact Src.ofV xA) : p := h
theorem xO {p : Prop} (h : p := by omega) : p := h
theorem xL {p : Prop} (h : p := by intro _; rfl) : p := h
theorem xK {p : Prop} (h : p := by intro _; kernel_rfl) : p := h
theorem xU {p : Prop} (h : p := by exact all_one _ (by intro _ _; rfl)) : p := h
theorem xD {p : Prop} (h : p := by first | ((repeat (first | exact Pick.nil | apply Pick.cons rfl)); done) | fail) : p := h
theorem xH {p : Prop} (h : p := by assumption) : p := h
theorem xF {p : Prop} (h : p := by exact fun _ _ => trivial) : p := h
theorem xZ {p : Prop} (h : p := by first | ((with_reducible (repeat (first | exact Sb.nil | apply Sb.cons | exact Tk.here | apply Tk.there))); done) | ((repeat (first | exact Sb.nil | apply Sb.cons | exact Tk.here | apply Tk.there)); done)) : p := h
end Go.Pm
