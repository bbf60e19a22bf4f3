/-
  A part with a capacity of its own; an append onto the beginning of what the tail is read from; a number of rows cut out.
-/
import Derived.Test.YtohahlcjkhgimaaJk
import Derived.Test.YtohahlcjkhgimaaJn
import Derived.Test.YtohahlcjkhgimaaJo
namespace Go.Pm
set_option linter.unusedSimpArgs false
set_option linter.unusedVariables false
open Go.RowKit
section
variable {P : Program} {n : Nat} {W : World} {K : Hl} {F : Fp} {k : List It} {tm : TM} {L L' R S M M' : List HP} {T : TypeId} {pos : String} {af : Array Edge} {gd : Option (Nat × Bool)} {ops : Array Oper} {rest nx : List Oper} {d : Tmp}
theorem pe_sl3 {od : Option Tmp} {t : TypeId} {x lo hi mx : Operand} {a : Option Addr} {m c l h u sz b' : Nat} {e : TypeId} {k1 k2 k3 : IntKind} {z1 z2 z3 : Int} (hx : evT tm x = some (.slice a m c)) (ht : elemInfo P t = some (e, sz, b'))
    (hlo : evT tm lo = some (.int k1 z1)) (hhi : evT tm hi = some (.int k2 z2)) (hmx : evT tm mx = some (.int k3 z3)) (e1 : z1 = (l : Int)) (e2 : z2 = (h : Int)) (e3 : z3 = (u : Int)) (h1 : l ≤ h) (h2 : h ≤ u) (h3 : u ≤ c) :
    PE P K L ⟨od, .slice t x (some lo) (some hi) (some mx), T, pos, af, gd⟩ (tget tm) (.slice (slA a u l sz) (h - l) (u - l)) := fun ρ w ha _ => by
  have g1 := ha x (by simp [Op.operands]) _ hx
  have g2 := ha lo (by simp [Op.operands]) _ hlo
  have g3 := ha hi (by simp [Op.operands]) _ hhi
  have g4 := ha mx (by simp [Op.operands]) _ hmx
  obtain ⟨inf, hu, hin, hsz, _⟩ := elemInfo_spec ht
  have e4 : (Instr.sliceBounds true m c (some (.int k1 z1)) (some (.int k2 z2)) (some (.int k3 z3))).run P w = .ok (l, h, u) w := by
    simp [Instr.sliceBounds, Sem.run_bind, run_bound e3 h3, run_bound e2 h2, run_bound e1 h1]
  unfold execOp
  simp only [g1, Option.map_some, g2, g3, g4]
  simp [Instr.sliceAt, Instr.slice, Sem.run_bind, run_underlying hu, e4, run_sz hin, hsz, slA]
variable {α : Type} {enc : α → List Value} {e : TypeId} {sz bytes : Nat} {a : Option Addr} {c : Nat} {es : List α}
/-- The tail moved down, in place. -/
theorem ae_appTail {od : Option Tmp} {t : TypeId} {s x : Operand} {m i j : Nat} (E : El P t e sz bytes) (hs : evT tm s = some (.slice a i c)) (hx : evT tm x = some (.slice (slA a c j sz) (m - j) (c - j))) (hl : ∀ x, (enc x).length = sz) (h1 : ∀ x, ∀ v ∈ enc x, v.oneCell' = true) (hij : i ≤ j) (hjm : j ≤ m) (h0 : 0 < m) :
    AE P n K R [Ar e sz enc (.slice a m c) es] ⟨od, .call ⟨.builtin .append, #[s, x], #[t, t]⟩, T, pos, af, gd⟩ (tget tm) (one (.slice a (i + (m - j)) c) [Ar e sz enc (.slice a m c) (es.take i ++ es.drop j ++ es.drop (i + (m - j)))]) := fun W K' w act next hK hf hO hn => by
  obtain ⟨hm, hmc, hcm⟩ := Ow.arShape hO .here
  subst hm
  obtain ⟨inf, z, hi, hz, hsize, hby, hzs⟩ := E.inf
  obtain ⟨g, cur, rfl, H2, hcl2, hct, hnc, _⟩ := Ow.slOpen hO .here (by omega)
  have hg : w.heap[g]? = some (.cells cur.toArray e (0, 0)) := H2.blk .here
  have hcur : ∀ q v, (flat enc es)[q]? = some v → cur[q]? = some v := fun q v h => by
    rw [← hct] at h
    rw [List.getElem?_take] at h
    split at h
    · exact h
    · cases h
  have hfl : (flat enc es).length = es.length * sz := flat_length hl es
  have hdr := flat_drop hl es j hjm
  have hnl : (flat enc (es.drop j)).length = (es.length - j) * sz := by rw [flat_length hl, List.length_drop]
  have hjs : (es.length - j) * sz + j * sz = es.length * sz := by rw [← Nat.add_mul]; congr 1; omega
  obtain ⟨ad, had, hnews⟩ : ∃ ad, slA (some ⟨g, 0, none⟩) c j sz = some ad ∧ ∀ q v, (flat enc (es.drop j))[q]? = some v → w.cell? (ad.add q) = some v := by
    by_cases hjc : j < c
    · refine ⟨⟨g, 0 + j * sz, none⟩, slA_lt hjc, fun q v h => ?_⟩
      rw [← hdr, List.getElem?_drop] at h
      have h2 := hcur _ _ h
      rw [Addr.add_lit]
      have hb : Blk w g cur.toArray e := H2.blk .here
      rw [show (0 + j * sz) + q = j * sz + q by omega]
      exact (hb.cell _).trans (by simpa using h2)
    · have hje : j = es.length := by omega
      refine ⟨⟨g, 0, none⟩, ?_, fun q v h => ?_⟩
      · unfold slA; rw [if_pos (by omega)]
      · rw [hje, List.drop_length] at h
        simp [flat] at h
  have h1' : ∀ u ∈ flat enc (es.drop j), u.oneCell' = true := fun u hu => by
    obtain ⟨y, _, hy⟩ := List.mem_flatMap.1 hu
    exact h1 y u hy
  have hsz0 := E.pos
  have hfit : i * sz + (flat enc (es.drop j)).length ≤ cur.length := by
    rw [hnl, hcl2, ← Nat.add_mul]
    exact Nat.mul_le_mul_right _ (by omega)
  have hr := run_append_room (P := P) w t T e inf E.sl hi g i c cur.toArray hg ad (es.length - j) (c - j) (flat enc (es.drop j)) (by rw [hnl, hsize]) hnews h1' (by omega) (by rw [hsize]; simpa using hfit)
  rw [hsize] at hr
  obtain ⟨cur', hcur'⟩ : ∃ cur', cur.take (i * sz) ++ flat enc (es.drop j) ++ cur.drop (i * sz + (flat enc (es.drop j)).length) = cur' := ⟨_, rfl⟩
  have hr2 : (Builtin.append_ #[t, t] T #[.slice (some ⟨g, 0, none⟩) i c, .slice (slA (some ⟨g, 0, none⟩) c j sz) (es.length - j) (c - j)]).run P w = .ok (.slice (some ⟨g, 0, none⟩) (i + (es.length - j)) c) (w.setRow g cur'.toArray) := by
    rw [had, hr, ← hcur']
  have hO2 : Only [g] w (w.setRow g cur'.toArray) := ⟨rfl, (Tp.refl w).same rfl rfl, rfl, by simp [World.setRow], fun q _ hq => setRow_other w g q _ (by simpa using hq)⟩
  have hB2 : Blk (w.setRow g cur'.toArray) g cur'.toArray e := setRow_heap w g cur.toArray _ e _ hg
  have H3 := H2.step (cs' := cur') .here hO2 hB2
  have hl' : cur'.length = c * sz := by
    rw [← hcur', List.length_append, List.length_append, List.length_take, List.length_drop]
    omega
  have hk : i + (es.length - j) ≤ es.length := by omega
  have hks : (i + (es.length - j)) * sz = i * sz + (es.length - j) * sz := Nat.add_mul ..
  have hct2 : cur'.take (es.length * sz) = flat enc (es.take i ++ es.drop j ++ es.drop (i + (es.length - j))) := by
    rw [flat_append, flat_append, ← hcur', hnl, ← hks]
    have hi1 : i * sz ≤ es.length * sz := Nat.mul_le_mul_right _ (by omega)
    have e1 : cur.take (i * sz) = flat enc (es.take i) := by
      rw [← flat_take hl es i (by omega), ← hct, List.take_take, Nat.min_eq_left hi1]
    have e2 : (cur.drop ((i + (es.length - j)) * sz)).take (es.length * sz - (i + (es.length - j)) * sz) = flat enc (es.drop (i + (es.length - j))) := by
      rw [← flat_drop hl es _ hk, ← hct, List.drop_take]
    rw [e1]
    have e3 : (flat enc (es.take i) ++ flat enc (es.drop j)).length = (i + (es.length - j)) * sz := by
      rw [List.length_append, flat_length hl, flat_length hl, List.length_take, List.length_drop, Nat.min_eq_left (by omega), ← Nat.add_mul]
    rw [List.take_append, e3, List.take_of_length_le (by rw [e3]; exact Nat.mul_le_mul_right _ hk), e2]
  refine wpI_of_wp ?_
  unfold Oper.wp execOp
  simp only [resolve, invoke, builtin, Sem.run_bind, Sem.run_pure, Result.andThen_ok, List.map_toArray, List.map_cons, List.map_nil, hf.eval hs, hf.eval hx, hr2]
  refine hn _ _ _ ⟨rfl, rfl⟩ ?_
  have hlen : (es.take i ++ es.drop j ++ es.drop (i + (es.length - j))).length = es.length := by simp; omega
  show Ow W K' (Sl e sz (.slice (some ⟨g, 0, none⟩) es.length c) (es.take i ++ es.drop j ++ es.drop (i + (es.length - j))).length _ :: R) _
  rw [hlen]
  exact Ow.slShut H3 .here hl' hct2 hmc hcm
theorem JL_appTail {t : TypeId} {s x : Operand} {m i j : Nat} (hi : elemInfo P t = some (e, sz, bytes)) (hok : elOk P t e sz bytes = true) (hs : evT tm s = some (.slice a i c)) (hx : evT tm x = some (.slice (slA a c j sz) (m - j) (c - j))) (hm : Tk L (Ar e sz enc (.slice a m c) es) R) (hl : ∀ x, (enc x).length = sz) (h1 : ∀ x, ∀ v ∈ enc x, v.oneCell' = true) (hij : i ≤ j) (hjm : j ≤ m) (h0 : 0 < m) (hn : Nat.blt d n = true) (hg : wantF ops ⟨some d, .call ⟨.builtin .append, #[s, x], #[t, t]⟩, T, pos, af, gd⟩ (tget tm) = some true)
    (h : JL P n W K F ops k rest ((d, .slice a (i + (m - j)) c) :: tm) (Ar e sz enc (.slice a m c) (es.take i ++ es.drop j ++ es.drop (i + (m - j))) :: R)) : JL P n W K F ops k (⟨some d, .call ⟨.builtin .append, #[s, x], #[t, t]⟩, T, pos, af, gd⟩ :: rest) tm L :=
  JL_a rfl hn hg (.cons hm .nil) (ae_appTail (.ofOk hok) hs hx hl h1 hij hjm h0) (by rintro _ _ ⟨rfl, rfl⟩; exact h)
theorem JD_appTail {t : TypeId} {s x : Operand} {m i j : Nat} (hi : elemInfo P t = some (e, sz, bytes)) (hok : elOk P t e sz bytes = true) (hs : evT tm s = some (.slice a i c)) (hx : evT tm x = some (.slice (slA a c j sz) (m - j) (c - j))) (hm : Tk M (Ar e sz enc (.slice a m c) es) R) (hl : ∀ x, (enc x).length = sz) (h1 : ∀ x, ∀ v ∈ enc x, v.oneCell' = true) (hij : i ≤ j) (hjm : j ≤ m) (h0 : 0 < m) (hg : wantF ops ⟨some d, .call ⟨.builtin .append, #[s, x], #[t, t]⟩, T, pos, af, gd⟩ (tget tm) = some true)
    (h : JD P n W K F ops k nx rest ((d, .slice a (i + (m - j)) c) :: tm) S (Ar e sz enc (.slice a m c) (es.take i ++ es.drop j ++ es.drop (i + (m - j))) :: R)) : JD P n W K F ops k nx (⟨some d, .call ⟨.builtin .append, #[s, x], #[t, t]⟩, T, pos, af, gd⟩ :: rest) tm S M :=
  JD_a rfl hg rfl (.cons hm .nil) (ae_appTail (.ofOk hok) hs hx hl h1 hij hjm h0) (by rintro _ _ ⟨rfl, rfl⟩; exact h)
end
end Go.Pm
