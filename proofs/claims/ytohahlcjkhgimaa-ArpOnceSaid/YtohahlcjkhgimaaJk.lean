/-
  The walk in our own words, eleventh part: clear, prefixes of a slice of the call's own.
-/
import Derived.Test.YtohahlcjkhgimaaJj
namespace Go.Pm
set_option linter.unusedSimpArgs false
set_option linter.unusedVariables false
open Go.RowKit

section
variable {P : Program} {n : Nat} {W : World} {K : Hl} {F : Fp} {k : List It} {tm : TM} {L L' R S M : List HP} {T : TypeId} {pos : String} {af : Array Edge} {gd : Option (Nat × Bool)} {ops : Array Oper} {rest nx : List Oper} {d : Tmp}
variable {α : Type} {enc : α → List Value} {e : TypeId} {sz : Nat} {a : Option Addr} {m c : Nat} {es : List α} {w : World}

theorem Rdw.cell {b i : Nat} {cs : List Value} {v : Value} (h : Rdw K L w) (t : Tk L (pts b cs T) R) (hv : cs[i]? = some v) : w.cell? ⟨b, i, none⟩ = some v := by
  rw [(h.blk t).cell]; simpa using hv
theorem flat_take (hl : ∀ x, (enc x).length = sz) (es : List α) (j : Nat) (hj : j ≤ es.length) : (flat enc es).take (j * sz) = flat enc (es.take j) := by
  have h1 : flat enc es = flat enc (es.take j) ++ flat enc (es.drop j) := by rw [← flat_append, List.take_append_drop]
  rw [h1, List.take_append_of_le_length (by rw [flat_length hl]; simp [Nat.min_eq_left hj]), List.take_of_length_le (by rw [flat_length hl]; simp [Nat.min_eq_left hj])]

theorem Ow.arShape (H : Ow W K L w) (h : Tk L (Ar e sz enc (.slice a m c) es) R) : m = es.length ∧ m ≤ c ∧ c ≤ maxLen := by
  obtain ⟨_, a', c', he, h1, h2⟩ := Ow.slShape H h
  injection he with h3 h4 h5
  subst h4 h5
  exact ⟨rfl, h1, h2⟩
/-- The first j elements alone. -/
theorem Ow.arTake (H : Ow W K L w) (h : Tk L (Ar e sz enc (.slice a m c) es) R) (hl : ∀ x, (enc x).length = sz) (j : Nat) (hj : j ≤ es.length) : Ow W K (Ar e sz enc (.slice a j c) (es.take j) :: R) w := by
  obtain ⟨hm, hmc, hcm⟩ := H.arShape h
  refine (H.tk h).imp fun q hq => ?_
  have hlen : (es.take j).length = j := by simp; omega
  obtain ⟨h1, h2⟩ := hq
  show Sl e sz _ (es.take j).length _ q
  rw [hlen]
  refine ⟨by rw [flat_length hl, hlen], ?_⟩
  rcases h2 with ⟨h2, h3, h4⟩ | ⟨g, cap, cur, h2, h3, h4, h5, h6, h7⟩
  · injection h2 with h8 h9 h10
    subst h8 h10
    left
    have : j = 0 := by omega
    subst this
    exact ⟨rfl, rfl, h4⟩
  · injection h2 with h8 h9 h10
    subst h8 h10
    refine .inr ⟨g, c, cur, rfl, by omega, hcm, h5, ?_, h7⟩
    have h8 : cur.toList.take (j * sz) = (cur.toList.take (es.length * sz)).take (j * sz) := by
      rw [List.take_take, Nat.min_eq_left (Nat.mul_le_mul_right _ hj)]
    rw [h8, h6]
    exact flat_take hl es j hj

/-- What a slice expression from l on hands out, of a slice with elements behind l. -/
theorem slA_lt {b o l : Nat} (h : l < c) : slA (some ⟨b, o, none⟩) c l sz = some ⟨b, o + l * sz, none⟩ := by
  unfold slA
  rw [if_neg (by omega)]
  simp [addr_add_plain]

theorem ae_clear {od : Option Tmp} {t : TypeId} {x : Operand} {l b' q q' : Nat} {z : α} (hi : elemInfo P t = some (e, sz, b')) (hx : evT tm x = some (.slice (slA a c l sz) q q')) (hz : enc z = zeroC P e) (hz0 : zeroC P e ≠ []) (h1 : (zeroC P e).all (·.oneCell') = true) (hl : ∀ x, (enc x).length = sz) (hq : l + q = es.length) :
    AE P n K R [Ar e sz enc (.slice a m c) es] ⟨od, .call ⟨.builtin .clear, #[x], #[t]⟩, T, pos, af, gd⟩ (tget tm) (one (.tuple #[]) [Ar e sz enc (.slice a m c) (es.take l ++ List.replicate q z)]) := fun W K' w act next hK hf hO hn => by
  obtain ⟨hm, hmc, hcm⟩ := Ow.arShape hO .here
  subst hm
  obtain ⟨i, hu, hin, hsz, _⟩ := elemInfo_spec hi
  obtain ⟨zv, hzv, hzc⟩ : ∃ zv, i.zero = some zv ∧ zeroC P e = cellsL zv := by
    unfold zeroC at hz0 ⊢
    rw [hin] at hz0 ⊢
    dsimp only at hz0 ⊢
    cases hq : i.zero with
    | none => simp [hq] at hz0
    | some zv => exact ⟨zv, rfl, rfl⟩
  have hcl : cellsL zv = zv.cells.toList := by cases zv <;> rfl
  have hzl : zv.cells.size = sz := by
    have := hl z
    rw [hz, hzc, hcl] at this
    simpa using this
  have hsz0 : 0 < sz := by
    rcases Nat.eq_zero_or_pos sz with h0 | h0
    · exfalso
      have := hl z
      rw [hz, h0] at this
      exact hz0 (List.eq_nil_of_length_eq_zero this)
    · exact h0
  refine wpI_of_wp ?_
  unfold Oper.wp execOp
  by_cases hle : l = es.length
  · have hq0 : q = 0 := by omega
    subst hq0
    have hr : (Builtin.clear_ #[t] T #[.slice (slA a c l sz) 0 q']).run P w = .ok (.tuple #[]) w := by
      cases h9 : slA a c l sz <;> simp [Builtin.clear_, Sem.run_bind, run_underlying hu w]
    simp only [resolve, invoke, builtin, Sem.run_bind, Sem.run_pure, Result.andThen_ok, List.map_toArray, List.map_cons, List.map_nil, hf.eval hx, hr]
    refine hn _ _ w ⟨rfl, rfl⟩ ?_
    rw [hle]
    simpa using hO
  · have hlt : l < es.length := by omega
    obtain ⟨g, cur, rfl, H2, hcl2, hct, hnc, _⟩ := Ow.slOpen hO .here (by omega)
    have hzs : (Builtin.zeroCells zv.cells q).toList.length = q * sz := by simp [size_zeroCells, hzl]
    have hbd : l * sz + q * sz ≤ cur.length := by
      rw [← Nat.add_mul, hq, hcl2]
      exact Nat.mul_le_mul_right _ hnc
    have hth := (H2.blk .here).there (l * sz) (q * sz) (by simpa using hbd)
    have h1z : ∀ v ∈ (Builtin.zeroCells zv.cells q).toList, v.oneCell' = true := by
      intro v hv
      simp only [Builtin.zeroCells, Array.toList_map, List.mem_map] at hv
      obtain ⟨k, hk, rfl⟩ := hv
      have hlt2 := Nat.mod_lt k (show 0 < zv.cells.size by omega)
      rw [getElem!_pos zv.cells (k % zv.cells.size) hlt2]
      refine List.all_eq_true.1 h1 _ ?_
      rw [hzc, hcl]
      simp
    have hs := run_storeCells_cells (P := P) g (l * sz) (Builtin.zeroCells zv.cells q).toList 0 w (fun j hj => by simpa using (hth j (by omega)).1) (fun j hj => by simpa using (hth j (by omega)).2) h1z
    simp only [Nat.add_zero] at hs
    have hr : (Builtin.clear_ #[t] T #[.slice (slA (some ⟨g, 0, none⟩) c l sz) q q']).run P w = .ok (.tuple #[]) (w.setCells g (l * sz) (Builtin.zeroCells zv.cells q).toList) := by
      rw [slA_lt (by omega), Nat.zero_add]
      obtain ⟨m', hm'⟩ : ∃ m', q = m' + 1 := ⟨q - 1, by omega⟩
      rw [hm'] at hs ⊢
      simp [Builtin.clear_, Sem.run_bind, run_underlying hu w, zeroValue, typeInfo, hin, hzv, hs]
    simp only [resolve, invoke, builtin, Sem.run_bind, Sem.run_pure, Result.andThen_ok, List.map_toArray, List.map_cons, List.map_nil, hf.eval hx, hr]
    refine hn _ _ _ ⟨rfl, rfl⟩ ?_
    have H3 := H2.setCells (Builtin.zeroCells zv.cells q).toList (l * sz) .here (by omega)
    have hlen : (es.take l ++ List.replicate q z).length = es.length := by simp; omega
    have hx2 : (splice cur.toArray (l * sz) (Builtin.zeroCells zv.cells q).toList).toList.take (es.length * sz) = flat enc (es.take l ++ List.replicate q z) := by
      rw [← hlen]
      refine take_rows hl _ (by rw [hlen, Array.length_toList (xs := splice cur.toArray (l * sz) (Builtin.zeroCells zv.cells q).toList), splice_size]; simp; rw [hcl2]; exact Nat.mul_le_mul_right _ hnc) fun i hi => ?_
      have hi' : i < es.length := by rw [hlen] at hi; exact hi
      have e2 : (i + 1) * sz = i * sz + sz := Nat.succ_mul i sz
      have hsz4 : (i + 1) * sz ≤ es.length * sz := Nat.mul_le_mul_right _ hi'
      have hri := rows_of hl hct i hi'
      have hbd2 : es.length * sz ≤ cur.length := by rw [hcl2]; exact Nat.mul_le_mul_right _ hnc
      by_cases hil : i < l
      · have e3 : (i + 1) * sz ≤ l * sz := Nat.mul_le_mul_right _ hil
        rw [List.getElem_append_left (by simp; omega), rowOf_splice_lt (by rw [hzs]; omega) i hil, hri, List.getElem_take]
      · rw [List.getElem_append_right (by simp; omega), List.getElem_replicate]
        apply List.ext_getElem?
        intro j
        by_cases hj : j < sz
        · have e4 : l * sz ≤ i * sz := Nat.mul_le_mul_right _ (by omega)
          have e5 : l * sz + q * sz = es.length * sz := by rw [← Nat.add_mul, hq]
          rw [rowOf_get hj, Array.getElem?_toList (xs := splice cur.toArray (l * sz) (Builtin.zeroCells zv.cells q).toList), splice_get _ (l * sz) cur.toArray (i * sz + j) (by rw [hzs]; simpa using hbd), if_pos (by rw [hzs]; omega)]
          have e7 : i * sz + j - l * sz = (i - l) * sz + j := by rw [Nat.sub_mul]; omega
          have e6 : (i * sz + j - l * sz) % sz = j := by
            rw [e7, Nat.mul_comm, Nat.mul_add_mod, Nat.mod_eq_of_lt hj]
          have e8 : i * sz + j - l * sz < q * sz := by omega
          rw [hz, hzc, hcl]
          simp only [Builtin.zeroCells, Array.toList_map, List.getElem?_map, Array.toList_range, hzl]
          rw [List.getElem?_range e8]
          simp only [Option.map_some, e6]
          rw [getElem!_pos zv.cells j (by omega)]
          simp [hzl, hj]
        · rw [List.getElem?_eq_none (by unfold rowOf; rw [List.length_take]; omega), List.getElem?_eq_none (by rw [hl]; omega)]
    show Ow W K' (Sl e sz _ (es.take l ++ List.replicate q z).length _ :: R) _
    rw [hlen]
    exact H3.slShut (n := es.length) (cap := c) .here (by rw [Array.length_toList (xs := splice cur.toArray (l * sz) (Builtin.zeroCells zv.cells q).toList), splice_size]; simpa using hcl2) hx2 hnc hcm
theorem JL_clear {t : TypeId} {x : Operand} {l b' q q' : Nat} (z : α) (hi : elemInfo P t = some (e, sz, b')) (hx : evT tm x = some (.slice (slA a c l sz) q q')) (hm : Tk L (Ar e sz enc (.slice a m c) es) R) (hz : enc z = zeroC P e) (hz0 : zeroC P e ≠ []) (h1 : (zeroC P e).all (·.oneCell') = true) (hl : ∀ x, (enc x).length = sz) (hq : l + q = es.length)
    (hg : wantF ops ⟨none, .call ⟨.builtin .clear, #[x], #[t]⟩, T, pos, af, gd⟩ (tget tm) = some true) (h : JL P n W K F ops k rest tm (Ar e sz enc (.slice a m c) (es.take l ++ List.replicate q z) :: R)) : JL P n W K F ops k (⟨none, .call ⟨.builtin .clear, #[x], #[t]⟩, T, pos, af, gd⟩ :: rest) tm L :=
  JL_a0 rfl hg (.cons hm .nil) (ae_clear hi hx hz hz0 h1 hl hq) (by rintro _ _ ⟨rfl, rfl⟩; exact h)
end
end Go.Pm
