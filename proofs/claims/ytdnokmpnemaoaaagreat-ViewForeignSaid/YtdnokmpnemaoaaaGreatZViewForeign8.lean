/-
  Jj, Jk, Jm, Jn: merged.
-/
import Derived.Test.YtdnokmpnemaoaaaGreatZViewForeign7
namespace Go.Pm
set_option linter.unusedSimpArgs false
set_option linter.unusedVariables false
open Go.RowKit
section
variable {P : Program} {n : Nat} {W : World} {K : Hl} {F : Fp} {k : List It} {tm : TM} {L S M : List HP} {T t u : TypeId} {pos : String} {af : Array Edge} {gd : Option (Nat × Bool)} {ops : Array Oper} {rest nx : List Oper} {od : Option Tmp} {x y z : Operand} {i : Nat} {fn : Fn} {as_ bs : Array Operand} {ts : Array TypeId} {ps : Array (Nat × Operand)} {lo hi mx : Option Operand} {bb : Bool} {r : List Oper} {op : Op} {g : Nat × Bool} {c d : Code} {id : Nat} {dr : Bool} {l : List Oper} {H : Act → World → Prop}
theorem gL (h : JL P n W K F ops k r tm L) : JL P n W K F ops k r tm L := h
theorem gD (h : JD P n W K F ops k nx r tm S M) : JD P n W K F ops k nx r tm S M := h
theorem gL_gd (h : JL P n W K F ops k (⟨od, op, T, pos, af, some g⟩ :: rest) tm L) : JL P n W K F ops k (⟨od, op, T, pos, af, some g⟩ :: rest) tm L := h
theorem gD_gd (h : JD P n W K F ops k nx (⟨od, op, T, pos, af, some g⟩ :: rest) tm S M) : JD P n W K F ops k nx (⟨od, op, T, pos, af, some g⟩ :: rest) tm S M := h
theorem gJ_if (h : J P n W K F (.code (.cond x c d) :: k) tm L) : J P n W K F (.code (.cond x c d) :: k) tm L := h
theorem gL_convert (h : JL P n W K F ops k (⟨od, .convert t u x, T, pos, af, gd⟩ :: rest) tm L) : JL P n W K F ops k (⟨od, .convert t u x, T, pos, af, gd⟩ :: rest) tm L := h
theorem gD_convert (h : JD P n W K F ops k nx (⟨od, .convert t u x, T, pos, af, gd⟩ :: rest) tm S M) : JD P n W K F ops k nx (⟨od, .convert t u x, T, pos, af, gd⟩ :: rest) tm S M := h
theorem gL_load (h : JL P n W K F ops k (⟨od, .load t x, T, pos, af, gd⟩ :: rest) tm L) : JL P n W K F ops k (⟨od, .load t x, T, pos, af, gd⟩ :: rest) tm L := h
theorem gD_load (h : JD P n W K F ops k nx (⟨od, .load t x, T, pos, af, gd⟩ :: rest) tm S M) : JD P n W K F ops k nx (⟨od, .load t x, T, pos, af, gd⟩ :: rest) tm S M := h
theorem gL_store (h : JL P n W K F ops k (⟨od, .store t x y, T, pos, af, gd⟩ :: rest) tm L) : JL P n W K F ops k (⟨od, .store t x y, T, pos, af, gd⟩ :: rest) tm L := h
theorem gD_store (h : JD P n W K F ops k nx (⟨od, .store t x y, T, pos, af, gd⟩ :: rest) tm S M) : JD P n W K F ops k nx (⟨od, .store t x y, T, pos, af, gd⟩ :: rest) tm S M := h
theorem gL_lookup (h : JL P n W K F ops k (⟨od, .lookup t x y bb, T, pos, af, gd⟩ :: rest) tm L) : JL P n W K F ops k (⟨od, .lookup t x y bb, T, pos, af, gd⟩ :: rest) tm L := h
theorem gD_lookup (h : JD P n W K F ops k nx (⟨od, .lookup t x y bb, T, pos, af, gd⟩ :: rest) tm S M) : JD P n W K F ops k nx (⟨od, .lookup t x y bb, T, pos, af, gd⟩ :: rest) tm S M := h
theorem gD_mapUpdate (h : JD P n W K F ops k nx (⟨od, .mapUpdate t x y z, T, pos, af, gd⟩ :: rest) tm S M) : JD P n W K F ops k nx (⟨od, .mapUpdate t x y z, T, pos, af, gd⟩ :: rest) tm S M := h
theorem gL_makeMap (h : JL P n W K F ops k (⟨od, .makeMap t lo, T, pos, af, gd⟩ :: rest) tm L) : JL P n W K F ops k (⟨od, .makeMap t lo, T, pos, af, gd⟩ :: rest) tm L := h
theorem gL_bin_sub (h : JL P n W K F ops k (⟨od, .binOp .sub t x y u, T, pos, af, gd⟩ :: rest) tm L) : JL P n W K F ops k (⟨od, .binOp .sub t x y u, T, pos, af, gd⟩ :: rest) tm L := h
theorem gL_bin_shl (h : JL P n W K F ops k (⟨od, .binOp .shl t x y u, T, pos, af, gd⟩ :: rest) tm L) : JL P n W K F ops k (⟨od, .binOp .shl t x y u, T, pos, af, gd⟩ :: rest) tm L := h
theorem gL_bin_shr (h : JL P n W K F ops k (⟨od, .binOp .shr t x y u, T, pos, af, gd⟩ :: rest) tm L) : JL P n W K F ops k (⟨od, .binOp .shr t x y u, T, pos, af, gd⟩ :: rest) tm L := h
theorem gL_bin_eql (h : JL P n W K F ops k (⟨od, .binOp .eql t x y u, T, pos, af, gd⟩ :: rest) tm L) : JL P n W K F ops k (⟨od, .binOp .eql t x y u, T, pos, af, gd⟩ :: rest) tm L := h
theorem gL_bin_neq (h : JL P n W K F ops k (⟨od, .binOp .neq t x y u, T, pos, af, gd⟩ :: rest) tm L) : JL P n W K F ops k (⟨od, .binOp .neq t x y u, T, pos, af, gd⟩ :: rest) tm L := h
theorem gD_bin_neq (h : JD P n W K F ops k nx (⟨od, .binOp .neq t x y u, T, pos, af, gd⟩ :: rest) tm S M) : JD P n W K F ops k nx (⟨od, .binOp .neq t x y u, T, pos, af, gd⟩ :: rest) tm S M := h
theorem gL_c_append (h : JL P n W K F ops k (⟨od, .call ⟨.builtin .append, as_, ts⟩, T, pos, af, gd⟩ :: rest) tm L) : JL P n W K F ops k (⟨od, .call ⟨.builtin .append, as_, ts⟩, T, pos, af, gd⟩ :: rest) tm L := h
theorem gD_c_append (h : JD P n W K F ops k nx (⟨od, .call ⟨.builtin .append, as_, ts⟩, T, pos, af, gd⟩ :: rest) tm S M) : JD P n W K F ops k nx (⟨od, .call ⟨.builtin .append, as_, ts⟩, T, pos, af, gd⟩ :: rest) tm S M := h
theorem gL_c_len (h : JL P n W K F ops k (⟨od, .call ⟨.builtin .len, as_, ts⟩, T, pos, af, gd⟩ :: rest) tm L) : JL P n W K F ops k (⟨od, .call ⟨.builtin .len, as_, ts⟩, T, pos, af, gd⟩ :: rest) tm L := h
theorem gL_c_clear (h : JL P n W K F ops k (⟨od, .call ⟨.builtin .clear, as_, ts⟩, T, pos, af, gd⟩ :: rest) tm L) : JL P n W K F ops k (⟨od, .call ⟨.builtin .clear, as_, ts⟩, T, pos, af, gd⟩ :: rest) tm L := h
theorem gL_c_delete (h : JL P n W K F ops k (⟨od, .call ⟨.builtin .delete, as_, ts⟩, T, pos, af, gd⟩ :: rest) tm L) : JL P n W K F ops k (⟨od, .call ⟨.builtin .delete, as_, ts⟩, T, pos, af, gd⟩ :: rest) tm L := h
theorem gD_c_delete (h : JD P n W K F ops k nx (⟨od, .call ⟨.builtin .delete, as_, ts⟩, T, pos, af, gd⟩ :: rest) tm S M) : JD P n W K F ops k nx (⟨od, .call ⟨.builtin .delete, as_, ts⟩, T, pos, af, gd⟩ :: rest) tm S M := h
theorem gL_go (h : JL P n W K F ops k (⟨od, .call ⟨.value x, as_, ts⟩, T, pos, af, gd⟩ :: rest) tm L) : JL P n W K F ops k (⟨od, .call ⟨.value x, as_, ts⟩, T, pos, af, gd⟩ :: rest) tm L := h
theorem gD_go (h : JD P n W K F ops k nx (⟨od, .call ⟨.value x, as_, ts⟩, T, pos, af, gd⟩ :: rest) tm S M) : JD P n W K F ops k nx (⟨od, .call ⟨.value x, as_, ts⟩, T, pos, af, gd⟩ :: rest) tm S M := h
/-! A long region's text stands as two lists, appended. -/
theorem gL_app {x : Oper} {l m : List Oper} (h : JL P n W K F ops k (x :: List.append l m) tm L) : JL P n W K F ops k (List.append (x :: l) m) tm L := h
theorem gL_app0 {m : List Oper} (h : JL P n W K F ops k m tm L) : JL P n W K F ops k (List.append [] m) tm L := h
theorem gD_app {x : Oper} {l m : List Oper} (h : JD P n W K F ops k nx (x :: List.append l m) tm S M) : JD P n W K F ops k nx (List.append (x :: l) m) tm S M := h
theorem gD_app0 {m : List Oper} (h : JD P n W K F ops k nx m tm S M) : JD P n W K F ops k nx (List.append [] m) tm S M := h
end
end Go.Pm
namespace Go.Pm
set_option linter.unusedSimpArgs false
set_option linter.unusedVariables false
open Go.RowKit

section
variable {P : Program} {n : Nat} {W : World} {K : Hl} {F : Fp} {k : List It} {tm : TM} {L L' R S M : List HP} {T : TypeId} {pos : String} {af : Array Edge} {gd : Option (Nat × Bool)} {ops : Array Oper} {rest nx : List Oper} {d : Tmp}
variable {α : Type} {enc : α → List Value} {e : TypeId} {sz : Nat} {a : Option Addr} {m c : Nat} {es : List α} {w : World}

theorem Rdw.cell {b i : Nat} {cs : List Value} {v : Value} (h : Rdw K L w) (t : Tk L (pts b cs T) R) (hv : cs[i]? = some v) : w.cell? ⟨b, i, none⟩ = some v := by
  rw [(h.blk t).cell]; simpa using hv
theorem flat_take (hl : ∀ x, (enc x).length = sz) (es : List α) (j : Nat) (hj : j ≤ es.length) : (flat enc es).take (j * sz) = flat enc (es.take j) := by
  have h1 : flat enc es = flat enc (es.take j) ++ flat enc (es.drop j) := by rw [← flat_append, List.take_append_drop]
  rw [h1, List.take_append_of_le_length (by rw [flat_length hl]; simp [Nat.min_eq_left hj]), List.take_of_length_le (by rw [flat_length hl]; simp [Nat.min_eq_left hj])]

theorem Ow.arShape (H : Ow W K L w) (h : Tk L (Ar e sz enc (.slice a m c) es) R) : m = es.length ∧ m ≤ c ∧ c ≤ maxLen := by
  obtain ⟨_, a', c', he, h1, h2⟩ := Ow.slShape H h
  injection he with h3 h4 h5
  subst h4 h5
  exact ⟨rfl, h1, h2⟩
theorem Ow.arTake (H : Ow W K L w) (h : Tk L (Ar e sz enc (.slice a m c) es) R) (hl : ∀ x, (enc x).length = sz) (j : Nat) (hj : j ≤ es.length) : Ow W K (Ar e sz enc (.slice a j c) (es.take j) :: R) w := by
  obtain ⟨hm, hmc, hcm⟩ := H.arShape h
  refine (H.tk h).imp fun q hq => ?_
  have hlen : (es.take j).length = j := by simp; omega
  obtain ⟨h1, h2⟩ := hq
  show Sl e sz _ (es.take j).length _ q
  rw [hlen]
  refine ⟨by rw [flat_length hl, hlen], ?_⟩
  rcases h2 with ⟨h2, h3, h4⟩ | ⟨g, cap, cur, h2, h3, h4, h5, h6, h7⟩
  · injection h2 with h8 h9 h10
    subst h8 h10
    left
    have : j = 0 := by omega
    subst this
    exact ⟨rfl, rfl, h4⟩
  · injection h2 with h8 h9 h10
    subst h8 h10
    refine .inr ⟨g, c, cur, rfl, by omega, hcm, h5, ?_, h7⟩
    have h8 : cur.toList.take (j * sz) = (cur.toList.take (es.length * sz)).take (j * sz) := by
      rw [List.take_take, Nat.min_eq_left (Nat.mul_le_mul_right _ hj)]
    rw [h8, h6]
    exact flat_take hl es j hj

theorem slA_lt {b o l : Nat} (h : l < c) : slA (some ⟨b, o, none⟩) c l sz = some ⟨b, o + l * sz, none⟩ := by
  unfold slA
  rw [if_neg (by omega)]
  simp [addr_add_plain]

theorem ae_clear {od : Option Tmp} {t : TypeId} {x : Operand} {l b' q q' : Nat} {z : α} (hi : elemInfo P t = some (e, sz, b')) (hx : evT tm x = some (.slice (slA a c l sz) q q')) (hz : enc z = zeroC P e) (hz0 : zeroC P e ≠ []) (h1 : (zeroC P e).all (·.oneCell') = true) (hl : ∀ x, (enc x).length = sz) (hq : l + q = es.length) :
    AE P n K R [Ar e sz enc (.slice a m c) es] ⟨od, .call ⟨.builtin .clear, #[x], #[t]⟩, T, pos, af, gd⟩ (tget tm) (one (.tuple #[]) [Ar e sz enc (.slice a m c) (es.take l ++ List.replicate q z)]) := fun W K' w act next hK hf hO hn => by
  obtain ⟨hm, hmc, hcm⟩ := Ow.arShape hO .here
  subst hm
  obtain ⟨i, hu, hin, hsz, _⟩ := elemInfo_spec hi
  obtain ⟨zv, hzv, hzc⟩ : ∃ zv, i.zero = some zv ∧ zeroC P e = cellsL zv := by
    unfold zeroC at hz0 ⊢
    rw [hin] at hz0 ⊢
    dsimp only at hz0 ⊢
    cases hq : i.zero with
    | none => simp [hq] at hz0
    | some zv => exact ⟨zv, rfl, rfl⟩
  have hcl : cellsL zv = zv.cells.toList := by cases zv <;> rfl
  have hzl : zv.cells.size = sz := by
    have := hl z
    rw [hz, hzc, hcl] at this
    simpa using this
  have hsz0 : 0 < sz := by
    rcases Nat.eq_zero_or_pos sz with h0 | h0
    · exfalso
      have := hl z
      rw [hz, h0] at this
      exact hz0 (List.eq_nil_of_length_eq_zero this)
    · exact h0
  refine wpI_of_wp ?_
  unfold Oper.wp execOp
  by_cases hle : l = es.length
  · have hq0 : q = 0 := by omega
    subst hq0
    have hr : (Builtin.clear_ #[t] T #[.slice (slA a c l sz) 0 q']).run P w = .ok (.tuple #[]) w := by
      cases h9 : slA a c l sz <;> simp [Builtin.clear_, Sem.run_bind, run_underlying hu w]
    simp only [resolve, invoke, builtin, Sem.run_bind, Sem.run_pure, Result.andThen_ok, List.map_toArray, List.map_cons, List.map_nil, hf.eval hx, hr]
    refine hn _ _ w ⟨rfl, rfl⟩ ?_
    rw [hle]
    simpa using hO
  · have hlt : l < es.length := by omega
    obtain ⟨g, cur, rfl, H2, hcl2, hct, hnc, _⟩ := Ow.slOpen hO .here (by omega)
    have hzs : (Builtin.zeroCells zv.cells q).toList.length = q * sz := by simp [size_zeroCells, hzl]
    have hbd : l * sz + q * sz ≤ cur.length := by
      rw [← Nat.add_mul, hq, hcl2]
      exact Nat.mul_le_mul_right _ hnc
    have hth := (H2.blk .here).there (l * sz) (q * sz) (by simpa using hbd)
    have h1z : ∀ v ∈ (Builtin.zeroCells zv.cells q).toList, v.oneCell' = true := by
      intro v hv
      simp only [Builtin.zeroCells, Array.toList_map, List.mem_map] at hv
      obtain ⟨k, hk, rfl⟩ := hv
      have hlt2 := Nat.mod_lt k (show 0 < zv.cells.size by omega)
      rw [getElem!_pos zv.cells (k % zv.cells.size) hlt2]
      refine List.all_eq_true.1 h1 _ ?_
      rw [hzc, hcl]
      simp
    have hs := run_storeCells_cells (P := P) g (l * sz) (Builtin.zeroCells zv.cells q).toList 0 w (fun j hj => by simpa using (hth j (by omega)).1) (fun j hj => by simpa using (hth j (by omega)).2) h1z
    simp only [Nat.add_zero] at hs
    have hr : (Builtin.clear_ #[t] T #[.slice (slA (some ⟨g, 0, none⟩) c l sz) q q']).run P w = .ok (.tuple #[]) (w.setCells g (l * sz) (Builtin.zeroCells zv.cells q).toList) := by
      rw [slA_lt (by omega), Nat.zero_add]
      obtain ⟨m', hm'⟩ : ∃ m', q = m' + 1 := ⟨q - 1, by omega⟩
      rw [hm'] at hs ⊢
      simp [Builtin.clear_, Sem.run_bind, run_underlying hu w, zeroValue, typeInfo, hin, hzv, hs]
    simp only [resolve, invoke, builtin, Sem.run_bind, Sem.run_pure, Result.andThen_ok, List.map_toArray, List.map_cons, List.map_nil, hf.eval hx, hr]
    refine hn _ _ _ ⟨rfl, rfl⟩ ?_
    have H3 := H2.setCells (Builtin.zeroCells zv.cells q).toList (l * sz) .here (by omega)
    have hlen : (es.take l ++ List.replicate q z).length = es.length := by simp; omega
    have hx2 : (splice cur.toArray (l * sz) (Builtin.zeroCells zv.cells q).toList).toList.take (es.length * sz) = flat enc (es.take l ++ List.replicate q z) := by
      rw [← hlen]
      refine take_rows hl _ (by rw [hlen, Array.length_toList (xs := splice cur.toArray (l * sz) (Builtin.zeroCells zv.cells q).toList), splice_size]; simp; rw [hcl2]; exact Nat.mul_le_mul_right _ hnc) fun i hi => ?_
      have hi' : i < es.length := by rw [hlen] at hi; exact hi
      have e2 : (i + 1) * sz = i * sz + sz := Nat.succ_mul i sz
      have hsz4 : (i + 1) * sz ≤ es.length * sz := Nat.mul_le_mul_right _ hi'
      have hri := rows_of hl hct i hi'
      have hbd2 : es.length * sz ≤ cur.length := by rw [hcl2]; exact Nat.mul_le_mul_right _ hnc
      by_cases hil : i < l
      · have e3 : (i + 1) * sz ≤ l * sz := Nat.mul_le_mul_right _ hil
        rw [List.getElem_append_left (by simp; omega), rowOf_splice_lt (by rw [hzs]; omega) i hil, hri, List.getElem_take]
      · rw [List.getElem_append_right (by simp; omega), List.getElem_replicate]
        apply List.ext_getElem?
        intro j
        by_cases hj : j < sz
        · have e4 : l * sz ≤ i * sz := Nat.mul_le_mul_right _ (by omega)
          have e5 : l * sz + q * sz = es.length * sz := by rw [← Nat.add_mul, hq]
          rw [rowOf_get hj, Array.getElem?_toList (xs := splice cur.toArray (l * sz) (Builtin.zeroCells zv.cells q).toList), splice_get _ (l * sz) cur.toArray (i * sz + j) (by rw [hzs]; simpa using hbd), if_pos (by rw [hzs]; omega)]
          have e7 : i * sz + j - l * sz = (i - l) * sz + j := by rw [Nat.sub_mul]; omega
          have e6 : (i * sz + j - l * sz) % sz = j := by
            rw [e7, Nat.mul_comm, Nat.mul_add_mod, Nat.mod_eq_of_lt hj]
          have e8 : i * sz + j - l * sz < q * sz := by omega
          rw [hz, hzc, hcl]
          simp only [Builtin.zeroCells, Array.toList_map, List.getElem?_map, Array.toList_range, hzl]
          rw [List.getElem?_range e8]
          simp only [Option.map_some, e6]
          rw [getElem!_pos zv.cells j (by omega)]
          simp [hzl, hj]
        · rw [List.getElem?_eq_none (by unfold rowOf; rw [List.length_take]; omega), List.getElem?_eq_none (by rw [hl]; omega)]
    show Ow W K' (Sl e sz _ (es.take l ++ List.replicate q z).length _ :: R) _
    rw [hlen]
    exact H3.slShut (n := es.length) (cap := c) .here (by rw [Array.length_toList (xs := splice cur.toArray (l * sz) (Builtin.zeroCells zv.cells q).toList), splice_size]; simpa using hcl2) hx2 hnc hcm
theorem JL_clear {t : TypeId} {x : Operand} {l b' q q' : Nat} (z : α) (hi : elemInfo P t = some (e, sz, b')) (hx : evT tm x = some (.slice (slA a c l sz) q q')) (hm : Tk L (Ar e sz enc (.slice a m c) es) R) (hz : enc z = zeroC P e) (hz0 : zeroC P e ≠ []) (h1 : (zeroC P e).all (·.oneCell') = true) (hl : ∀ x, (enc x).length = sz) (hq : l + q = es.length)
    (hg : wantF ops ⟨none, .call ⟨.builtin .clear, #[x], #[t]⟩, T, pos, af, gd⟩ (tget tm) = some true) (h : JL P n W K F ops k rest tm (Ar e sz enc (.slice a m c) (es.take l ++ List.replicate q z) :: R)) : JL P n W K F ops k (⟨none, .call ⟨.builtin .clear, #[x], #[t]⟩, T, pos, af, gd⟩ :: rest) tm L :=
  JL_a0 rfl hg (.cons hm .nil) (ae_clear hi hx hz hz0 h1 hl hq) (by rintro _ _ ⟨rfl, rfl⟩; exact h)
end
end Go.Pm
namespace Go.Pm
set_option linter.unusedSimpArgs false
set_option linter.unusedVariables false
open Go.RowKit

def mp (k : IntKind) (b : Nat) (es : List (Int × Value)) : HP := fun h => ∃ ents clock, h = Hl.one b (.map ents clock) ∧ ents.toList.map (fun e => (e.key, e.val)) = es.map (fun p => (Value.int k p.1, p.2))
def alGet : List (Int × Value) → Int → Option Value
  | [], _ => none
  | (x, v) :: r, z => if x = z then some v else alGet r z
def alPut : List (Int × Value) → Int → Value → List (Int × Value)
  | [], z, v => [(z, v)]
  | (x, u) :: r, z, v => if x = z then (x, v) :: r else (x, u) :: alPut r z v
theorem alGet_put (es : List (Int × Value)) (z y : Int) (v : Value) : alGet (alPut es z v) y = if y = z then some v else alGet es y := by
  induction es with
  | nil => simp only [alPut, alGet]; by_cases h : z = y <;> simp [h, eq_comm]
  | cons p r ih =>
    obtain ⟨x, u⟩ := p
    simp only [alPut]
    by_cases hx : x = z
    · subst hx
      rw [if_pos rfl]
      simp only [alGet]
      by_cases h : x = y
      · simp [h]
      · rw [if_neg h, if_neg h, if_neg (Ne.symm h)]
    · rw [if_neg hx]
      simp only [alGet, ih]
      by_cases h : x = y
      · subst h; simp [hx]
      · simp [h]
def mapInfo (P : Program) (t : TypeId) : Option (IntKind × Value) := match P.underlying t with
  | some (.map key elem) => match P.underlying key, P.info? elem with
    | some (.int k), some i => match i.zero with
      | some z => some (k, z)
      | none => none
    | _, _ => none
  | _ => none
theorem mapInfo_spec {P : Program} {t : TypeId} {k : IntKind} {z : Value} (h : mapInfo P t = some (k, z)) : ∃ key elem i, P.underlying t = some (.map key elem) ∧ P.underlying key = some (.int k) ∧ P.info? elem = some i ∧ i.zero = some z := by
  unfold mapInfo at h
  split at h
  · rename_i key elem hu
    split at h
    · rename_i k' i hk hi
      split at h
      · rename_i z' hz
        simp only [Option.some.injEq, Prod.mk.injEq] at h
        obtain ⟨rfl, rfl⟩ := h
        exact ⟨key, elem, i, hu, hk, hi, hz⟩
      · cases h
    · cases h
  · cases h

inductive TabM (P : Program) : List (Nat × (IntKind × Value)) → Prop
  | nil : TabM P []
  | cons {p : Nat × (IntKind × Value)} {l : List (Nat × (IntKind × Value))} : mapInfo P p.1 = some p.2 → TabM P l → TabM P (p :: l)
def tabOkM (P : Program) (l : List (Nat × (IntKind × Value))) : Prop := TabM P l
theorem tabM {P : Program} {tab : List (Nat × (IntKind × Value))} {t : Nat} {x : IntKind × Value} (h : tabOkM P tab) (g : tabGet tab t = some x) : mapInfo P t = some x := by
  have hm := tabGet_mem g
  clear g
  unfold tabOkM at h
  induction h with
  | nil => cases hm
  | cons h1 _ ih =>
    rcases List.mem_cons.1 hm with e | e
    · rw [← e] at h1; exact h1
    · exact ih e

section
variable {P : Program} {n : Nat} {W : World} {K : Hl} {F : Fp} {k : List It} {tm : TM} {L L' R S M M' : List HP} {T : TypeId} {pos : String} {af : Array Edge} {gd : Option (Nat × Bool)} {ops : Array Oper} {rest nx : List Oper} {d : Tmp}

theorem findNow_al (kd : IntKind) (z : Int) : ∀ (ents : List MapEntry) (es : List (Int × Value)) (i : Nat), ents.map (fun e => (e.key, e.val)) = es.map (fun p => (Value.int kd p.1, p.2)) →
    (alGet es z = none ∧ Instr.findNow (.int kd) (.int kd z) ents i = some none) ∨ (∃ j v, alGet es z = some v ∧ Instr.findNow (.int kd) (.int kd z) ents i = some (some (i + j, v)) ∧ j < ents.length ∧ (ents[j]?).map (·.key) = some (.int kd z) ∧ ∀ u, es.length = ents.length ∧ (alPut es z u) = (es.set j (z, u)))
  | [], [], i, _ => .inl ⟨rfl, rfl⟩
  | [], p :: _, _, h => by simp at h
  | e :: ents, [], _, h => by simp at h
  | e :: ents, (x, v) :: es, i, h => by
    simp only [List.map_cons, List.cons.injEq, Prod.mk.injEq] at h
    obtain ⟨⟨h1, h2⟩, h3⟩ := h
    have hlen : es.length = ents.length := by have := congrArg List.length h3; simpa using this.symm
    by_cases hx : x = z
    · subst hx
      refine .inr ⟨0, v, by simp [alGet], ?_, by simp, by simp [h1], fun u => ⟨by simp [hlen], by simp [alPut]⟩⟩
      simp [Instr.findNow, Instr.sameNow, h1, h2]
    · have hx' : (z == x) = false := by simp [Ne.symm hx]
      have hstep : Instr.findNow (.int kd) (.int kd z) (e :: ents) i = Instr.findNow (.int kd) (.int kd z) ents (i + 1) := by
        simp [Instr.findNow, Instr.sameNow, h1, hx']
      rw [hstep]
      rcases findNow_al kd z ents es (i + 1) h3 with ⟨a, b⟩ | ⟨j, u, a, b, c, d, e⟩
      · exact .inl ⟨by simp [alGet, hx, a], b⟩
      · refine .inr ⟨j + 1, u, by simp [alGet, hx, a], by rw [b]; congr 3; omega, by simp [c], by simpa using d, fun w => ⟨by simp [hlen], ?_⟩⟩
        simp [alPut, hx, (e w).2]

theorem mp_obj {h : Hl} {b : Nat} {kd : IntKind} {es : List (Int × Value)} (hm : mp kd b es h) {w : World} (i : h.inn w) : ∃ ents clock, w.heap[b]? = some (.map ents clock) ∧ ents.toList.map (fun e => (e.key, e.val)) = es.map (fun p => (Value.int kd p.1, p.2)) := by
  obtain ⟨ents, clock, rfl, he⟩ := hm
  exact ⟨ents, clock, i b _ (by simp [Hl.one]), he⟩
theorem run_getObj {w : World} {b : Nat} {ents : Array MapEntry} {clock : Nat} (h : w.heap[b]? = some (.map ents clock)) : (getObj b).run P w = .ok (.map ents clock) w := by
  simp [getObj, Sem.run, h]
theorem run_checkKey {key : TypeId} {kd : IntKind} (hk : P.underlying key = some (.int kd)) (e : Bool) (z : Int) (w : World) : (Instr.checkKey e 10000 key (.int kd z)).run P w = .ok () w := by
  have : ∀ m, (Instr.checkKey e (m + 1) key (.int kd z)).run P w = .ok () w := fun m => by
    unfold Instr.checkKey
    simp [Sem.run_bind, run_underlying hk]
  exact this 9999
theorem run_findKey {key : TypeId} {kd : IntKind} (hk : P.underlying key = some (.int kd)) {z : Int} {es : List MapEntry} {r : Option (Nat × Value)} (h : Instr.findNow (.int kd) (.int kd z) es 0 = some r) (w : World) : (Instr.findKey key (.int kd z) es).run P w = .ok r w := by
  simp [Instr.findKey, Sem.run_bind, run_underlying hk, h]

def lookV (o : Option Value) (z : Value) (ok : Bool) : Value := match ok with
  | true => .tuple [o.getD z, .bool o.isSome].toArray
  | false => o.getD z
theorem pe_lookup {od : Option Tmp} {t : TypeId} {x y : Operand} {b : Nat} {kd : IntKind} {z : Int} {es : List (Int × Value)} {zv : Value} {ok : Bool} {v : Value} (hx : evT tm x = some (.map (some b))) (hy : evT tm y = some (.int kd z)) (ht : mapInfo P t = some (kd, zv)) (hm : Tk L (mp kd b es) R) (hq : lookV (alGet es z) zv ok = v) : PE P K L ⟨od, .lookup t x y ok, T, pos, af, gd⟩ (tget tm) v := fun ρ w ha hr => by
  subst hq
  have h1 := ha x (by simp [Op.operands]) _ hx
  have h2 := ha y (by simp [Op.operands]) _ hy
  obtain ⟨key, elem, i, hu, hk, hi, hz⟩ := mapInfo_spec ht
  obtain ⟨q, hq, hin⟩ := hr.tk hm
  obtain ⟨ents, clock, ho, he⟩ := mp_obj hq hin
  unfold execOp
  simp only [h1, h2]
  rcases findNow_al kd z ents.toList es 0 he with ⟨e1, e2⟩ | ⟨j, v', e1, e2, _⟩
  · simp only [Instr.lookup, Sem.run_bind, run_underlying hu, Result.andThen_ok, run_getObj ho, Sem.run_pure, run_checkKey hk, run_findKey hk e2, zeroValue, typeInfo, e1, lookV]
    cases ok <;> simp [hi, hz]
  · simp only [Instr.lookup, Sem.run_bind, run_underlying hu, Result.andThen_ok, run_getObj ho, Sem.run_pure, run_checkKey hk, run_findKey hk e2, e1, lookV]
    cases ok <;> simp
theorem pe_lookupK {od : Option Tmp} {t : TypeId} {x y : Operand} {b : Nat} {kd : IntKind} {z : Int} {es : List (Int × Value)} {zv : Value} {ok : Bool} {v : Value} (hx : evT tm x = some (.map (some b))) (hy : evT tm y = some (.int kd z)) (ht : mapInfo P t = some (kd, zv)) (hm : Kn K (fun w => ∃ h, mp kd b es h ∧ h.inn w)) (hq : lookV (alGet es z) zv ok = v) : PE P K L ⟨od, .lookup t x y ok, T, pos, af, gd⟩ (tget tm) v := fun ρ w ha hr => by
  subst hq
  have h1 := ha x (by simp [Op.operands]) _ hx
  have h2 := ha y (by simp [Op.operands]) _ hy
  obtain ⟨key, elem, i, hu, hk, hi, hz⟩ := mapInfo_spec ht
  obtain ⟨q, hq, hin⟩ := hm w hr.1
  obtain ⟨ents, clock, ho, he⟩ := mp_obj hq hin
  unfold execOp
  simp only [h1, h2]
  rcases findNow_al kd z ents.toList es 0 he with ⟨e1, e2⟩ | ⟨j, v', e1, e2, _⟩
  · simp only [Instr.lookup, Sem.run_bind, run_underlying hu, Result.andThen_ok, run_getObj ho, Sem.run_pure, run_checkKey hk, run_findKey hk e2, zeroValue, typeInfo, e1, lookV]
    cases ok <;> simp [hi, hz]
  · simp only [Instr.lookup, Sem.run_bind, run_underlying hu, Result.andThen_ok, run_getObj ho, Sem.run_pure, run_checkKey hk, run_findKey hk e2, e1, lookV]
    cases ok <;> simp
theorem Rdw.mp {kd : IntKind} {b : Nat} {es : List (Int × Value)} {w : World} (h : Rdw K L w) (t : Tk L (mp kd b es) R) : ∃ q, Pm.mp kd b es q ∧ q.inn w := h.tk t

theorem ae_mapSet {od : Option Tmp} {t : TypeId} {x y u : Operand} {b : Nat} {kd : IntKind} {z : Int} {es : List (Int × Value)} {zv v : Value} (hx : evT tm x = some (.map (some b))) (hy : evT tm y = some (.int kd z)) (hv : evT tm u = some v) (ht : mapInfo P t = some (kd, zv)) :
    AE P n K R [mp kd b es] ⟨od, .mapUpdate t x y u, T, pos, af, gd⟩ (tget tm) (one undef [mp kd b (alPut es z v)]) := fun W K' w a next hK hf hO hn => by
  obtain ⟨key, elem, i, hu, hk, hi, hz⟩ := mapInfo_spec ht
  obtain ⟨q, hq, hin⟩ := hO.part
  obtain ⟨ents, clock, ho, he⟩ := mp_obj hq hin
  have key2 : ∀ ents' clock', ents'.toList.map (fun e => (e.key, e.val)) = (alPut es z v).map (fun p => (Value.int kd p.1, p.2)) → Ow W K' (mp kd b (alPut es z v) :: R) { w with heap := w.heap.setIfInBounds b (.map ents' clock') } := fun ents' clock' he' => by
    refine Ow.change hO rfl ((Tp.refl _).same rfl rfl) rfl (by simp) (fun h hh ih => ?_)
    obtain ⟨en, cl, rfl, _⟩ := hh
    have hlt : b < w.heap.size := (Array.getElem?_eq_some_iff.1 ho).1
    refine ⟨⟨Hl.one b (.map ents' clock'), ⟨ents', clock', rfl, he'⟩, fun c o e => ?_, fun c hc => ?_⟩, fun c hl hc => ?_⟩
    · unfold Hl.one at e
      split at e
      · rename_i hcb; subst hcb; cases e
        simp [Array.getElem?_setIfInBounds, hlt]
      · cases e
    · left
      unfold Hl.one at hc ⊢
      split at hc <;> simp_all
    · have hcb : b ≠ c := fun e => by subst e; simp [Hl.one] at hc
      simp [Array.getElem?_setIfInBounds, hcb]
  refine wp_done (w' := { w with heap := w.heap.setIfInBounds b (.map (match Instr.findNow (.int kd) (.int kd z) ents.toList 0 with | some (some (j, _)) => ents.modify j fun e => { e with key := .int kd z, val := v } | _ => ents.push { key := .int kd z, val := v, born := clock }) (match Instr.findNow (.int kd) (.int kd z) ents.toList 0 with | some (some _) => clock | _ => clock + 1)) }) ?_ (hn undef _ _ ⟨rfl, rfl⟩ (key2 _ _ ?_))
  · unfold execOp
    simp only [hf.eval hx, hf.eval hy, hf.eval hv]
    rcases findNow_al kd z ents.toList es 0 he with ⟨e1, e2⟩ | ⟨j, u', e1, e2, e3, e4, _⟩
    · simp only [Instr.mapUpdate, Sem.run_bind, run_underlying hu, Result.andThen_ok, run_getObj ho, run_checkKey hk, run_findKey hk e2, e2]
      simp [setObj, Sem.run, ho]
    · have hold : ((ents[0 + j]?).map (·.key)).getD (.int kd z) = .int kd z := by
        rw [Nat.zero_add]
        have : (ents[j]?).map (·.key) = some (.int kd z) := by simpa using e4
        rw [this]; rfl
      have hsame : (Instr.keyThatStays (.int kd z) (.int kd z)).run P w = .ok (.int kd z) w := by
        have : ∀ m, Instr.sameBits m (.int kd z) (.int kd z) = true := fun m => by cases m <;> simp [Instr.sameBits]
        simp [Instr.keyThatStays, this]
      simp only [Instr.mapUpdate, Sem.run_bind, run_underlying hu, Result.andThen_ok, run_getObj ho, run_checkKey hk, run_findKey hk e2, e2, hold, hsame]
      simp [setObj, Sem.run, ho]
  · rcases findNow_al kd z ents.toList es 0 he with ⟨e1, e2⟩ | ⟨j, u', e1, e2, e3, e4, e5⟩
    · rw [e2]
      have : ∀ (l : List (Int × Value)), alGet l z = none → alPut l z v = l ++ [(z, v)] := by
        intro l
        induction l with
        | nil => intro _; rfl
        | cons p l ih =>
          intro h
          obtain ⟨x, u⟩ := p
          simp only [alGet] at h
          split at h
          · cases h
          · rename_i hx; simp [alPut, hx, ih h]
      rw [this es e1]
      simp [he]
    · rw [e2]
      dsimp only
      rw [Nat.zero_add, (e5 v).2]
      apply List.ext_getElem?
      intro q
      have hq2 := congrArg (·[q]?) he
      simp only [List.getElem?_map] at hq2
      simp only [List.getElem?_map, Array.getElem?_toList, Array.getElem?_modify, List.getElem?_set]
      by_cases hjq : j = q
      · subst hjq
        have hl2 := (e5 v).1
        have e6 : j < es.length := by rw [hl2]; exact e3
        simp only [if_pos rfl, if_pos e6]
        have : j < ents.size := by simpa using e3
        simp [Array.getElem?_eq_getElem this]
      · rw [if_neg hjq, if_neg hjq]
        simpa using hq2

theorem al_mapNew {od : Option Tmp} {t : TypeId} : AL P ⟨od, .makeMap t none, T, pos, af, gd⟩ (tget tm) (.map #[] 0) (fun b => .map (some b)) := fun ρ w ha => by
  unfold execOp
  simp [Instr.makeMap, Sem.run_bind, newObj, Sem.run]
theorem JL_mm {t : TypeId} {kd : IntKind} {zv : Value} (ht : mapInfo P t = some (kd, zv)) (hn : Nat.blt d n = true) (hg : wantF ops ⟨some d, .makeMap t none, T, pos, af, gd⟩ (tget tm) = some true) (h : ∀ b, JL P n W K F ops k rest ((d, .map (some b)) :: tm) (mp kd b [] :: L)) : JL P n W K F ops k (⟨some d, .makeMap t none, T, pos, af, gd⟩ :: rest) tm L :=
  JL_m rfl hn hg al_mapNew fun b => JL_heap (fun w H => H.imp fun q hq => ⟨#[], 0, hq, rfl⟩) (h b)
theorem JD_mapSet {t : TypeId} {x y u : Operand} {b : Nat} {kd : IntKind} {z : Int} {es : List (Int × Value)} {zv v : Value} (hx : evT tm x = some (.map (some b))) (hy : evT tm y = some (.int kd z)) (hv : evT tm u = some v) (ht : mapInfo P t = some (kd, zv)) (hm : Tk M (mp kd b es) R) (hg : wantF ops ⟨none, .mapUpdate t x y u, T, pos, af, gd⟩ (tget tm) = some true)
    (h : JD P n W K F ops k nx rest tm S (mp kd b (alPut es z v) :: R)) : JD P n W K F ops k nx (⟨none, .mapUpdate t x y u, T, pos, af, gd⟩ :: rest) tm S M :=
  JD_a0 rfl hg rfl (.cons hm .nil) (ae_mapSet hx hy hv ht) (by rintro _ _ ⟨rfl, rfl⟩; exact h)
theorem JD_lookM {t : TypeId} {x y : Operand} {b : Nat} {kd : IntKind} {z : Int} {es : List (Int × Value)} {zv : Value} {ok : Bool} (hx : evT tm x = some (.map (some b))) (hy : evT tm y = some (.int kd z)) (ht : mapInfo P t = some (kd, zv)) (hm : Tk M (mp kd b es) M') {v : Value} (hq : lookV (alGet es z) zv ok = v) (hg : wantF ops ⟨some d, .lookup t x y ok, T, pos, af, gd⟩ (tget tm) = some true)
    (h : JD P n W K F ops k nx rest ((d, v) :: tm) (mp kd b es :: S) M') : JD P n W K F ops k nx (⟨some d, .lookup t x y ok, T, pos, af, gd⟩ :: rest) tm S M := JD_pM rfl hg rfl hm (pe_lookup hx hy ht .here hq) h
end

/-! What some memory of the call's own is enough to know. -/
def has (φ : World → Prop) : HP := fun h => ∀ w, h.inn w → φ w
def noK : Hl := fun _ => none
theorem has_of {M : List HP} {φ : World → Prop} (h : ∀ w, Rdw noK M w → φ w) : ∀ k, sats M k → has φ k := by
  intro k s w i
  refine h w ⟨?_, k, s, ?_, i⟩
  · intro b o e
    exact nomatch e
  · intro b
    exact .inr rfl
theorem Rdw.has {K : Hl} {L R : List HP} {φ : World → Prop} {w : World} (h : Rdw K L w) (t : Tk L (Pm.has φ) R) : φ w := by
  obtain ⟨k, hk, i⟩ := h.tk t
  exact hk w i
theorem Ow.has {W : World} {K : Hl} {L R M : List HP} {w : World} {φ : World → Prop} (H : Ow W K L w) (t : Sb L M R) (h : ∀ w, Rdw noK M w → φ w) : Ow W K (Pm.has φ :: R) w := H.shut t (has_of h)
theorem Ow.hasTrue {W : World} {K : Hl} {L : List HP} {w : World} {φ : World → Prop} (H : Ow W K L w) (h : ∀ w, φ w) : Ow W K (Pm.has φ :: L) w := (Ow.satsNil H).imp fun _ _ w _ => h w

/-! Append onto an empty literal. -/
section
variable {P : Program} {n : Nat} {W : World} {K : Hl} {F : Fp} {k : List It} {tm : TM} {L L' R S M M' : List HP} {T : TypeId} {pos : String} {af : Array Edge} {gd : Option (Nat × Bool)} {ops : Array Oper} {rest nx : List Oper} {d : Tmp}
variable {α : Type} {enc : α → List Value} {t e : TypeId} {sz bytes m b : Nat} {s x : Operand} {v y : Value} {fs : List α}
theorem JL_appL (enc : α → List Value) {fs : List α} (hi : elemInfo P t = some (e, sz, bytes)) (hs : evT tm s = some (.slice (some ⟨b, 0, none⟩) 0 0)) (hx : evT tm x = some y) (hm : Tk L (pts b [] e) R) (hv : Src K R y sz m (flat enc fs)) (hok : elOk P t e sz bytes = true) (hl : ∀ x, (enc x).length = sz) (h1 : ∀ u ∈ flat enc fs, u.oneCell' = true) (hsz : m * bytes ≤ 140737488355328)
    (hn : Nat.blt d n = true) (hg : wantF ops ⟨some d, .call ⟨.builtin .append, #[s, x], #[t, t]⟩, T, pos, af, gd⟩ (tget tm) = some true) (h : ∀ ad c, m ≤ c → c ≤ maxLen → JL P n W K F ops k rest ((d, .slice ad m c) :: tm) (Ar e sz enc (.slice ad m c) fs :: R)) : JL P n W K F ops k (⟨some d, .call ⟨.builtin .append, #[s, x], #[t, t]⟩, T, pos, af, gd⟩ :: rest) tm L :=
  JL_a rfl hn hg (.cons hm .nil) (fun W' K' w a next hK hf hO hn => ae_app (es := []) (.ofOk hok) hs hx hv hl h1 (by simpa using hsz) W' K' w a next hK hf (Ow.arLit0 hO .here) hn) (by
    rintro _ _ ⟨ad, c, h2, h3, rfl, rfl⟩
    simp only [List.length_nil, Nat.zero_add, List.nil_append] at h2 ⊢
    exact h ad c h2 h3)
theorem JD_appL (enc : α → List Value) {fs : List α} (hi : elemInfo P t = some (e, sz, bytes)) (hs : evT tm s = some (.slice (some ⟨b, 0, none⟩) 0 0)) (hx : evT tm x = some y) (hm : Tk M (pts b [] e) R) (hv : Src K (R ++ S) y sz m (flat enc fs)) (hok : elOk P t e sz bytes = true) (hl : ∀ x, (enc x).length = sz) (h1 : ∀ u ∈ flat enc fs, u.oneCell' = true) (hsz : m * bytes ≤ 140737488355328)
    (hg : wantF ops ⟨some d, .call ⟨.builtin .append, #[s, x], #[t, t]⟩, T, pos, af, gd⟩ (tget tm) = some true) (h : ∀ ad c, m ≤ c → c ≤ maxLen → JD P n W K F ops k nx rest ((d, .slice ad m c) :: tm) S (Ar e sz enc (.slice ad m c) fs :: R)) : JD P n W K F ops k nx (⟨some d, .call ⟨.builtin .append, #[s, x], #[t, t]⟩, T, pos, af, gd⟩ :: rest) tm S M :=
  JD_a rfl hg rfl (.cons hm .nil) (fun W' K' w a next hK hf hO hn => ae_app (es := []) (.ofOk hok) hs hx hv hl h1 (by simpa using hsz) W' K' w a next hK hf (Ow.arLit0 hO .here) hn) (by
    rintro _ _ ⟨ad, c, h2, h3, rfl, rfl⟩
    simp only [List.length_nil, Nat.zero_add, List.nil_append] at h2 ⊢
    exact h ad c h2 h3)
end
end Go.Pm
namespace Go.Pm
set_option linter.unusedSimpArgs false
set_option linter.unusedVariables false
open Go.RowKit
variable {α : Type} {enc : α → List Value} {K : Hl} {L : List HP} {a : Option Addr} {c n sz : Nat} {es : List α}
theorem flat_drop (hl : ∀ x, (enc x).length = sz) (es : List α) (j : Nat) (hj : j ≤ es.length) : (flat enc es).drop (j * sz) = flat enc (es.drop j) := by
  have h : flat enc es = flat enc (es.take j) ++ flat enc (es.drop j) := by rw [← flat_append, List.take_append_drop]
  have h2 : (flat enc (es.take j)).length = j * sz := by rw [flat_length hl, List.length_take, Nat.min_eq_left hj]
  rw [h, ← h2, List.drop_left]
theorem Vw_drop {w : World} (h : Vw w (.slice a n c) sz n (flat enc es)) (hl : ∀ x, (enc x).length = sz) (hn : es.length = n) (k m : Nat) (hk : k ≤ n) (hm : m = n - k) : Vw w (.slice (slA a c k sz) m (c - k)) sz m (flat enc (es.drop k)) := by
  subst hm
  obtain ⟨a', cap, he, h1, h2, h3, h4, h5⟩ := h
  cases he
  have hlen : (es.drop k).length = n - k := by rw [List.length_drop, hn]
  unfold slA
  by_cases hck : c = k
  · rw [if_pos hck]
    refine ⟨a, c - k, rfl, by rw [flat_length hl, hlen], by omega, by omega, fun h => ⟨by have := (h4 h).1; omega, by omega⟩, fun hne => ?_⟩
    have hnil : es.drop k = [] := List.eq_nil_of_length_eq_zero (by omega)
    rw [hnil] at hne
    exact absurd rfl hne
  · rw [if_neg hck]
    refine ⟨_, c - k, rfl, by rw [flat_length hl, hlen], by omega, by omega, fun h => ?_, fun hne => ?_⟩
    · cases a with
      | none => have := h4 rfl; omega
      | some x => cases h
    · have hd := flat_drop hl es k (by omega)
      have hne' : flat enc es ≠ [] := by
        intro h
        rw [h] at hd
        exact hne (by rw [← hd]; simp)
      obtain ⟨b, off, hb, hc⟩ := h5 hne'
      subst hb
      refine ⟨b, off + k * sz, by rw [Option.map_some, addr_add_plain], fun j u hj => ?_⟩
      rw [← hd, List.getElem?_drop] at hj
      have := hc _ _ hj
      rwa [Nat.add_assoc]
theorem Vw_take' {w : World} (h : Vw w (.slice a n c) sz n (flat enc es)) (hl : ∀ x, (enc x).length = sz) (hn : es.length = n) (j : Nat) (hj : j ≤ n) : Vw w (.slice a j c) sz j (flat enc (es.take j)) := by
  obtain ⟨a', cap, he, h1, h2, h3, h4, h5⟩ := h
  cases he
  have hlen : (es.take j).length = j := by rw [List.length_take]; omega
  have hpre : flat enc es = flat enc (es.take j) ++ flat enc (es.drop j) := by rw [← flat_append, List.take_append_drop]
  refine ⟨a, c, rfl, by rw [flat_length hl, hlen], by omega, h3, fun h => ⟨by have := (h4 h).1; omega, (h4 h).2⟩, fun hne => ?_⟩
  have hne' : flat enc es ≠ [] := by
    intro h
    rw [hpre] at h
    exact hne (List.append_eq_nil_iff.1 h).1
  obtain ⟨b, off, hb, hc⟩ := h5 hne'
  refine ⟨b, off, hb, fun k u hk => hc k u ?_⟩
  rw [hpre, List.getElem?_append_left (List.getElem?_eq_some_iff.1 hk).1]
  exact hk
theorem Src.drop (h : Src K L (.slice a n c) sz n (flat enc es)) (hl : ∀ x, (enc x).length = sz) (hn : es.length = n) (k m : Nat) (hk : k ≤ n) (hm : m = n - k) : Src K L (.slice (slA a c k sz) m (c - k)) sz m (flat enc (es.drop k)) := fun w hr => Vw_drop (h w hr) hl hn k m hk hm
theorem Src.take (h : Src K L (.slice a n c) sz n (flat enc es)) (hl : ∀ x, (enc x).length = sz) (hn : es.length = n) (j : Nat) (hj : j ≤ n) : Src K L (.slice a j c) sz j (flat enc (es.take j)) := fun w hr => Vw_take' (h w hr) hl hn j hj
end Go.Pm
