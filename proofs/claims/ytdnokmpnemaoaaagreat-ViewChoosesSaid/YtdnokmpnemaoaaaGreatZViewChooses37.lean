/-
  J6, Ru4, Ru5: merged.
-/
import Derived.Test.YtdnokmpnemaoaaaGreatZViewChooses36
import Derived.Laws.MakeOwn
import Derived.Laws.CopyRow
import Derived.Lib.AppendZerosOnto
namespace Go.Pm
set_option linter.unusedSimpArgs false
set_option linter.unusedVariables false
open Go.RowKit
section
variable {P : Program} {n : Nat} {W : World} {K : Hl} {F : Fp} {k : List It} {tm : TM} {L L' R S M M' : List HP} {T : TypeId} {pos : String} {af : Array Edge} {gd : Option (Nat × Bool)} {ops : Array Oper} {rest nx : List Oper} {d : Tmp}
variable {α : Type} {enc : α → List Value} {e : TypeId} {sz bytes : Nat} {a : Option Addr} {c : Nat} {es : List α}
theorem zero_cells {z : Array Value} {z0 : α} (h : enc z0 = z.toList) (hl : ∀ x, (enc x).length = sz) (h0 : 0 < sz) (m : Nat) : (Builtin.zeroCells z m).toList = flat enc (List.replicate m z0) := by
  have hzs : z.size = sz := by rw [← hl z0, h]; simp
  apply List.ext_getElem?
  intro q
  by_cases hq : q < m * sz
  · have hk : q / sz < m := (Nat.div_lt_iff_lt_mul h0).2 hq
    have hj : q % sz < sz := Nat.mod_lt _ h0
    have h2 := flat_get hl (List.replicate m z0) (q / sz) (q % sz) (by simpa using hk) hj
    rw [Nat.div_add_mod'] at h2
    rw [h2]
    simp only [List.getElem_replicate, h]
    have hq2 : q < m * z.size := by rw [hzs]; exact hq
    have hj2 : q % z.size < z.size := by rw [hzs]; exact hj
    simp [Builtin.zeroCells, hq2, hzs.symm, hj2]
  · have e1 : (Builtin.zeroCells z m).toList.length = m * sz := by simp [Builtin.zeroCells, hzs]
    have e2 : (flat enc (List.replicate m z0)).length = m * sz := by rw [flat_length hl]; simp
    rw [List.getElem?_eq_none (by omega), List.getElem?_eq_none (by omega)]
def zeroIs (P : Program) (e : TypeId) (cs : List Value) : Prop := (P.info? e).bind (fun i => i.zero.map (·.cells.toList)) = some cs
theorem al_mkP {od : Option Tmp} {t : TypeId} {x y : Operand} {m1 m : Nat} {z0 : α} (hx : evT tm x = some (.int .i64 m1)) (hy : evT tm y = some (.int .i64 m)) (E : El P t e sz bytes) (hz : ∀ i z, P.info? e = some i → i.zero = some z → enc z0 = z.cells.toList) (hl : ∀ x, (enc x).length = sz) (h1 : m1 ≤ m) (hb : m * bytes ≤ 140737488355328) (hm : m ≤ 140737488355328) : AL P ⟨od, .makeSlice t x y, T, pos, af, gd⟩ (tget tm) (.cells (flat enc (List.replicate m z0)).toArray e (0, 0)) (fun b => .slice (some ⟨b, 0, none⟩) m1 m) := fun ρ w ha => by
  have e1 := ha x (by simp [Op.operands]) _ hx
  have e2 := ha y (by simp [Op.operands]) _ hy
  obtain ⟨i, z, hi, hz2, hsize, hby, hzs⟩ := E.inf
  have hq := hz i z hi hz2
  have hb2 : ((i.bytes : Int)) * (m : Int) ≤ 281474976710656 := by
    have h : ((i.bytes * m : Nat) : Int) ≤ 281474976710656 := by rw [hby, Nat.mul_comm]; omega
    rwa [Int.natCast_mul] at h
  have h := run_make (P := P) w t e i z E.sl hi hz2 .i64 .i64 m1 m (by omega) (by omega) hb2 (by omega)
  rw [Int.toNat_natCast, Int.toNat_natCast] at h
  have h4 : madeCells z.cells (m * i.size) = (flat enc (List.replicate m z0)).toArray := by
    have h5 := zero_cells (enc := enc) (z := z.cells) (z0 := z0) hq hl E.pos m
    have h6 : madeCells z.cells (m * i.size) = Builtin.zeroCells z.cells m := by
      unfold madeCells Builtin.zeroCells
      rw [hsize, ← hl z0, hq]
      simp
    rw [h6, ← h5]
  rw [h4] at h
  unfold execOp
  simp only [e1, e2]
  simp [Sem.run_bind, h]
theorem ae_al {o : Oper} {f : TF} {x : Obj} {g : Nat → Value} (hp : AL P o f x g) : AE P n K R [] o f (fun v L' => ∃ b, v = g b ∧ L' = [ob b x]) := fun W K' w a next hK hf hO hn => wpI_value (hp a.eval w (hf.agree o)) (hn _ _ _ ⟨_, rfl, rfl⟩ (hO.al x))
theorem zeroIs_spec {cs : List Value} (h : zeroIs P e cs) : ∀ i z, P.info? e = some i → i.zero = some z → cs = z.cells.toList := fun i z hi hz => by
  unfold zeroIs at h
  rw [hi] at h
  simp only [Option.bind_some, hz, Option.map_some, Option.some.injEq] at h
  exact h.symm
theorem JL_mkP {t : TypeId} {x y : Operand} {m1 m : Nat} (z0 : α) (hi : elemInfo P t = some (e, sz, bytes)) (hok : elOk P t e sz bytes = true) (hx : evT tm x = some (.int .i64 m1)) (hy : evT tm y = some (.int .i64 m)) (hz : zeroIs P e (enc z0)) (hl : ∀ x, (enc x).length = sz) (h1 : m1 ≤ m) (hb : m * bytes ≤ 140737488355328) (hm : m ≤ 140737488355328)
    (hn : Nat.blt d n = true) (hg : wantF ops ⟨some d, .makeSlice t x y, T, pos, af, gd⟩ (tget tm) = some true) (h : ∀ g, JL P n W K F ops k rest ((d, .slice (some ⟨g, 0, none⟩) m1 m) :: tm) (pts g (flat enc (List.replicate m z0)) e :: L)) : JL P n W K F ops k (⟨some d, .makeSlice t x y, T, pos, af, gd⟩ :: rest) tm L :=
  JL_a rfl hn hg .nil (ae_al (al_mkP (enc := enc) (z0 := z0) hx hy (.ofOk hok) (zeroIs_spec hz) hl h1 hb hm)) (by
    rintro _ _ ⟨b, rfl, rfl⟩
    exact h b)
theorem Ow.arRow {w : World} {g m : Nat} {fs : List α} (H : Ow W K L w) (h : Tk L (pts g (Pm.flat enc fs) e) R) (hl : ∀ x, (enc x).length = sz) (hm : m ≤ fs.length) (hc : fs.length ≤ maxLen) : Ow W K (Ar e sz enc (.slice (some ⟨g, 0, none⟩) m fs.length) (fs.take m) :: R) w := by
  have hlen : (fs.take m).length = m := by rw [List.length_take]; omega
  show Ow W K (Sl e sz _ (fs.take m).length _ :: R) w
  rw [hlen]
  exact Ow.slShut H h (flat_length hl fs) (flat_take hl fs m hm) hm hc
/-! Copy. -/
theorem run_copyN (w : World) (dT sT ty elem : TypeId) (g o dLen dCap : Nat) (a : Addr) (sLen sCap : Nat) (cur : Array Value) (t : TypeId) (cs : List Value) (i : TypeInfo)
    (hu : P.underlying dT = some (.slice elem)) (hi : P.info? elem = some i)
    (hg : w.heap[g]? = some (.cells cur t (0, 0))) (hn : cs.length = Nat.min sLen dLen * i.size)
    (hsrc : ∀ j v, cs[j]? = some v → w.cell? (a.add j) = some v) (hfit : o + cs.length ≤ cur.size) (h1 : ∀ v ∈ cs, v.oneCell' = true) :
    (Builtin.copy_ #[dT, sT] ty #[.slice (some ⟨g, o, none⟩) dLen dCap, .slice (some a) sLen sCap]).run P w =
      .ok (goInt (Nat.min sLen dLen)) (w.setRow g (cur.toList.take o ++ cs ++ cur.toList.drop (o + cs.length)).toArray) := by
  have hl := run_firstCells_some (P := P) w i.size (Nat.min sLen dLen) a sLen sCap cs hn hsrc
  have hst := run_storeCells_at P g o t cs 0 cur w hg (by simpa using hfit) h1
  simp [Builtin.copy_, run_underlying hu, Builtin.lenOf, sizeOf, typeInfo, hi, hl, hst]
theorem ae_copyP {od : Option Tmp} {t t2 e' : TypeId} {x y : Operand} {g o dl dc sl sc : Nat} {ad da : Option Addr} {cs news : List Value} (hu : elemInfo P t = some (e', sz, bytes)) (hx : evT tm x = some (.slice da dl dc)) (hda : da = some ⟨g, o, none⟩) (hy : evT tm y = some (.slice ad sl sc)) (hv : ∀ w, Rdw K (pts g cs e :: R) w → ∃ b off, ad = some ⟨b, off, none⟩ ∧ ∀ j v, news[j]? = some v → w.cell? ⟨b, off + j, none⟩ = some v)
    (hl : news.length = min sl dl * sz) (hfit : o + news.length ≤ cs.length) (h1 : ∀ v ∈ news, v.oneCell' = true) :
    AE P n K R [pts g cs e] ⟨od, .call ⟨.builtin .copy, #[x, y], #[t, t2]⟩, T, pos, af, gd⟩ (tget tm) (one (.int .i64 (min sl dl : Nat)) [pts g (cs.take o ++ news ++ cs.drop (o + news.length)) e]) := fun W K' w act next hK hf hO hn => by
  subst hda
  obtain ⟨i, hu2, hi, hs, _⟩ := elemInfo_spec hu
  obtain ⟨b, off, rfl, hc⟩ := hv w ((Ow.rdw (M := []) hO).le hK)
  have hg : w.heap[g]? = some (.cells cs.toArray e (0, 0)) := Ow.blk hO .here
  have hr := fun ty => run_copyN (P := P) w t t2 ty e' g o dl dc ⟨b, off, none⟩ sl sc cs.toArray e news i hu2 hi hg (by rw [hs]; exact hl) (fun j v hj => by rw [Addr.add_lit]; exact hc j v hj) (by simpa using hfit) h1
  have hO2 : Only [g] w (w.setRow g (cs.take o ++ news ++ cs.drop (o + news.length)).toArray) := ⟨rfl, (Tp.refl w).same rfl rfl, rfl, by simp [World.setRow], fun q _ hq => setRow_other w g q _ (by simpa using hq)⟩
  have hB2 : Blk (w.setRow g (cs.take o ++ news ++ cs.drop (o + news.length)).toArray) g (cs.take o ++ news ++ cs.drop (o + news.length)).toArray e := setRow_heap w g cs.toArray _ e _ hg
  have H3 := Ow.step hO .here hO2 hB2
  refine wpI_of_wp ?_
  unfold Oper.wp execOp
  simp only [resolve, invoke, builtin, Sem.run_bind, Sem.run_pure, Result.andThen_ok, List.map_toArray, List.map_cons, List.map_nil, hf.eval hx, hf.eval hy, hr]
  exact hn _ _ _ ⟨rfl, rfl⟩ H3
theorem JL_copyP {t t2 e' : TypeId} {x y : Operand} {g o dl dc sl sc : Nat} {ad da : Option Addr} {cs : List Value} (news : List Value) (hu : elemInfo P t = some (e', sz, bytes)) (hx : evT tm x = some (.slice da dl dc)) (hda : da = some ⟨g, o, none⟩) (hm : Tk L (pts g cs e) R) (hy : evT tm y = some (.slice ad sl sc)) (hv : ∀ w, Rdw K (pts g cs e :: R) w → ∃ b off, ad = some ⟨b, off, none⟩ ∧ ∀ j v, news[j]? = some v → w.cell? ⟨b, off + j, none⟩ = some v)
    (hl : news.length = min sl dl * sz) (hfit : o + news.length ≤ cs.length) (h1 : ∀ v ∈ news, v.oneCell' = true) (hn : Nat.blt d n = true) (hg : wantF ops ⟨some d, .call ⟨.builtin .copy, #[x, y], #[t, t2]⟩, T, pos, af, gd⟩ (tget tm) = some true)
    (h : JL P n W K F ops k rest ((d, .int .i64 (min sl dl : Nat)) :: tm) (pts g (cs.take o ++ news ++ cs.drop (o + news.length)) e :: R)) : JL P n W K F ops k (⟨some d, .call ⟨.builtin .copy, #[x, y], #[t, t2]⟩, T, pos, af, gd⟩ :: rest) tm L :=
  JL_a rfl hn hg (.cons hm .nil) (ae_copyP hu hx hda hy hv hl hfit h1) (by rintro _ _ ⟨rfl, rfl⟩; exact h)
theorem JD_copyP {t t2 e' : TypeId} {x y : Operand} {g o dl dc sl sc : Nat} {ad da : Option Addr} {cs : List Value} (news : List Value) (hu : elemInfo P t = some (e', sz, bytes)) (hx : evT tm x = some (.slice da dl dc)) (hda : da = some ⟨g, o, none⟩) (hm : Tk M (pts g cs e) R) (hy : evT tm y = some (.slice ad sl sc)) (hv : ∀ w, Rdw K (pts g cs e :: (R ++ S)) w → ∃ b off, ad = some ⟨b, off, none⟩ ∧ ∀ j v, news[j]? = some v → w.cell? ⟨b, off + j, none⟩ = some v)
    (hl : news.length = min sl dl * sz) (hfit : o + news.length ≤ cs.length) (h1 : ∀ v ∈ news, v.oneCell' = true) (hg : wantF ops ⟨some d, .call ⟨.builtin .copy, #[x, y], #[t, t2]⟩, T, pos, af, gd⟩ (tget tm) = some true)
    (h : JD P n W K F ops k nx rest ((d, .int .i64 (min sl dl : Nat)) :: tm) S (pts g (cs.take o ++ news ++ cs.drop (o + news.length)) e :: R)) : JD P n W K F ops k nx (⟨some d, .call ⟨.builtin .copy, #[x, y], #[t, t2]⟩, T, pos, af, gd⟩ :: rest) tm S M :=
  JD_a rfl hg rfl (.cons hm .nil) (ae_copyP hu hx hda hy hv hl hfit h1) (by rintro _ _ ⟨rfl, rfl⟩; exact h)
/-! Append of a make onto nothing, no room. -/
theorem ae_apZ {od : Option Tmp} {t tn : TypeId} {s x : Operand} {c0 m : Nat} {y0 : Int} {ad : Option Addr} {z0 : α} (E : El P t e sz bytes) (htn : P.underlying tn = some (.int .i64)) (hs : evT tm s = some (.slice ad 0 c0)) (hx : evT tm x = some (.int .i64 y0)) (hy0 : y0 = (m : Int)) (hz : ∀ i z, P.info? e = some i → i.zero = some z → enc z0 = z.cells.toList) (hl : ∀ x, (enc x).length = sz) (h0 : c0 < m) (hb : m * bytes ≤ 140737488355328) (hm : m ≤ maxLen) (hm2 : m ≤ 140737488355328) :
    AE P n K R [] ⟨od, .call ⟨.builtin .append, #[s, x], #[t, tn]⟩, T, pos, af, gd⟩ (tget tm) (fun v L' => ∃ g G, m ≤ G ∧ G ≤ maxLen ∧ v = .slice (some ⟨g, 0, none⟩) m G ∧ L' = [pts g (flat enc (List.replicate G z0)) e]) := fun W K' w act next hK hf hO hn => by
  subst hy0
  obtain ⟨i, z, hi, hz2, hsize, hby, hzs⟩ := E.inf
  have hold : (Builtin.firstCells i.size 0 (.slice ad 0 c0)).run P w.drew = .ok ([] : List Value).toArray w.drew := by
    cases ad with
    | none => simp [Builtin.firstCells, loadCells]
    | some q => exact run_firstCells_some (P := P) w.drew i.size 0 q 0 c0 [] (by simp) (by simp)
  have hr := fun ty => Lib.run_append_grow_zeros (P := P) w t tn ty e i z .i64 .i64 E.sl htn hi hz2 ad 0 c0 [] hold m (by omega) (by rw [hsize]; exact E.pos) (by omega) (by omega) (by rw [hby]; omega) (by rw [hby, Nat.zero_add]; exact growslice_fits h0 hb)
  simp only [Nat.zero_add] at hr
  have g1 := grownCap_ge w m c0 e
  have g2 := grownCap_le_maxLen w m c0 e hm
  generalize hG : grownCap w m c0 e = G at hr g1 g2
  have hrow : (([] : List Value).toArray ++ Builtin.zeroCells z.cells m ++ Builtin.zeroCells z.cells (G - m)) = (flat enc (List.replicate G z0)).toArray := by
    apply Array.ext'
    simp only [Array.toList_append, zero_cells (enc := enc) (z0 := z0) (hz i z hi hz2) hl E.pos]
    rw [List.nil_append, ← flat_append]
    simp [show m + (G - m) = G by omega]
  rw [hrow] at hr
  refine wpI_of_wp ?_
  unfold Oper.wp execOp
  simp only [resolve, invoke, builtin, Sem.run_bind, Sem.run_pure, Result.andThen_ok, List.map_toArray, List.map_cons, List.map_nil, hf.eval hs, hf.eval hx, hr]
  exact hn _ _ _ ⟨w.heap.size, G, g1, g2, rfl, rfl⟩ ((Ow.drew hO).al _)
theorem JL_apZ {t tn : TypeId} {s x : Operand} {c0 m : Nat} {y0 : Int} {ad : Option Addr} (z0 : α) (hi : elemInfo P t = some (e, sz, bytes)) (hok : elOk P t e sz bytes = true) (htn : P.underlying tn = some (.int .i64)) (hs : evT tm s = some (.slice ad 0 c0)) (hx : evT tm x = some (.int .i64 y0)) (hy0 : y0 = (m : Int)) (hz : zeroIs P e (enc z0)) (hl : ∀ x, (enc x).length = sz) (h0 : c0 < m) (hb : m * bytes ≤ 140737488355328) (hm : m ≤ maxLen) (hm2 : m ≤ 140737488355328)
    (hn : Nat.blt d n = true) (hg : wantF ops ⟨some d, .call ⟨.builtin .append, #[s, x], #[t, tn]⟩, T, pos, af, gd⟩ (tget tm) = some true) (h : ∀ g G, m ≤ G → G ≤ maxLen → JL P n W K F ops k rest ((d, .slice (some ⟨g, 0, none⟩) m G) :: tm) (pts g (flat enc (List.replicate G z0)) e :: L)) : JL P n W K F ops k (⟨some d, .call ⟨.builtin .append, #[s, x], #[t, tn]⟩, T, pos, af, gd⟩ :: rest) tm L :=
  JL_a rfl hn hg .nil (ae_apZ (enc := enc) (.ofOk hok) htn hs hx hy0 (zeroIs_spec hz) hl h0 hb hm hm2) (by
    rintro _ _ ⟨g, G, h1, h2, rfl, rfl⟩
    exact h g G h1 h2)
/-! Append of a literal of one element where there is room. -/
theorem ae_apR {od : Option Tmp} {t T' : TypeId} {s x : Operand} {g b k0 N : Nat} {cs ys : List Value} {R' : List HP} (E : El P t e sz bytes) (hs : evT tm s = some (.slice (some ⟨g, 0, none⟩) k0 N)) (hx : evT tm x = some (.slice (some ⟨b, 0, none⟩) 1 1)) (hb : Tk R (pts b ys T') R') (hy : ys.length = sz) (h1 : ys.all (·.oneCell') = true) (hk : k0 < N) (hc : cs.length = N * sz) :
    AE P n K R [pts g cs e] ⟨od, .call ⟨.builtin .append, #[s, x], #[t, t]⟩, T, pos, af, gd⟩ (tget tm) (one (.slice (some ⟨g, 0, none⟩) (k0 + 1) N) [pts g (cs.take (k0 * sz) ++ ys ++ cs.drop (k0 * sz + sz)) e]) := fun W K' w act next hK hf hO hn => by
  obtain ⟨i, z, hi, hz, hsize, hby, hzs⟩ := E.inf
  have hg : w.heap[g]? = some (.cells cs.toArray e (0, 0)) := Ow.blk hO .here
  have hbb : Blk w b ys.toArray T' := Ow.blk hO (.there hb)
  have hfit : k0 * sz + ys.length ≤ cs.length := by
    rw [hy, hc, ← Nat.succ_mul]
    exact Nat.mul_le_mul_right _ hk
  have hr := run_append_room (P := P) w t T e i E.sl hi g k0 N cs.toArray hg ⟨b, 0, none⟩ 1 1 ys (by rw [hy, hsize]; omega) (fun q v h => by rw [Addr.add_lit, Nat.zero_add]; exact (hbb.cell q).trans (by simpa using h)) (List.all_eq_true.1 h1) (by omega) (by rw [hsize]; simpa using hfit)
  rw [hsize, hy] at hr
  have hr2 : (Builtin.append_ #[t, t] T #[.slice (some ⟨g, 0, none⟩) k0 N, .slice (some ⟨b, 0, none⟩) 1 1]).run P w = .ok (.slice (some ⟨g, 0, none⟩) (k0 + 1) N) (w.setRow g (cs.take (k0 * sz) ++ ys ++ cs.drop (k0 * sz + sz)).toArray) := hr
  have hO2 : Only [g] w (w.setRow g (cs.take (k0 * sz) ++ ys ++ cs.drop (k0 * sz + sz)).toArray) := ⟨rfl, (Tp.refl w).same rfl rfl, rfl, by simp [World.setRow], fun q _ hq => setRow_other w g q _ (by simpa using hq)⟩
  have hB2 : Blk (w.setRow g (cs.take (k0 * sz) ++ ys ++ cs.drop (k0 * sz + sz)).toArray) g (cs.take (k0 * sz) ++ ys ++ cs.drop (k0 * sz + sz)).toArray e := setRow_heap w g cs.toArray _ e _ hg
  have H3 := Ow.step hO .here hO2 hB2
  refine wpI_of_wp ?_
  unfold Oper.wp execOp
  simp only [resolve, invoke, builtin, Sem.run_bind, Sem.run_pure, Result.andThen_ok, List.map_toArray, List.map_cons, List.map_nil, hf.eval hs, hf.eval hx, hr2]
  exact hn _ _ _ ⟨rfl, rfl⟩ H3
theorem JD_apR {R' : List HP} {t T' : TypeId} {s x : Operand} {g b k0 N : Nat} {cs ys : List Value} (hi : elemInfo P t = some (e, sz, bytes)) (hok : elOk P t e sz bytes = true) (hs : evT tm s = some (.slice (some ⟨g, 0, none⟩) k0 N)) (hx : evT tm x = some (.slice (some ⟨b, 0, none⟩) 1 1)) (hm : Tk M (pts g cs e) R) (hb : Tk R (pts b ys T') R') (hy : ys.length = sz) (h1 : ys.all (·.oneCell') = true) (hk : k0 < N) (hc : cs.length = N * sz)
    (hg : wantF ops ⟨some d, .call ⟨.builtin .append, #[s, x], #[t, t]⟩, T, pos, af, gd⟩ (tget tm) = some true) (h : JD P n W K F ops k nx rest ((d, .slice (some ⟨g, 0, none⟩) (k0 + 1) N) :: tm) S (pts g (cs.take (k0 * sz) ++ ys ++ cs.drop (k0 * sz + sz)) e :: R)) : JD P n W K F ops k nx (⟨some d, .call ⟨.builtin .append, #[s, x], #[t, t]⟩, T, pos, af, gd⟩ :: rest) tm S M :=
  JD_a rfl hg rfl (.cons hm .nil) (ae_apR (.ofOk hok) hs hx (hb.app S) hy h1 hk hc) (by rintro _ _ ⟨rfl, rfl⟩; exact h)
theorem flat_put (hl : ∀ x, (enc x).length = sz) (q : List α) (z z0 : α) (r : Nat) : (flat enc (q ++ List.replicate (r + 1) z0)).take (q.length * sz) ++ enc z ++ (flat enc (q ++ List.replicate (r + 1) z0)).drop (q.length * sz + sz) = flat enc ((q ++ [z]) ++ List.replicate r z0) := by
  have h1 : (flat enc q).length = q.length * sz := flat_length hl q
  rw [flat_append, List.take_left' h1, ← List.drop_drop, flat_append, flat_append, flat_one, List.replicate_succ]
  have h2 : (flat enc q ++ flat enc (z0 :: List.replicate r z0)).drop (q.length * sz) = flat enc (z0 :: List.replicate r z0) := List.drop_left' h1
  have h3 : flat enc (z0 :: List.replicate r z0) = enc z0 ++ flat enc (List.replicate r z0) := rfl
  rw [h2, h3, List.drop_left' (hl z0)]
end
end Go.Pm
namespace Go.Proofs.YtdnokmpnemaoaaaGreat.C
set_option linter.unusedSimpArgs false
set_option linter.unusedVariables false
set_option maxRecDepth 20000
set_option maxHeartbeats 4000000
open Go.RowKit Go.Pm
theorem zd174Ru4 {p q : Prop} (k : p) (h : p → q := by intro hk; first | exact J_draw (id := 5) [0, 1, 2, 3, 4, 5, 6, 7] [8, 9] mixed xC xD xD hk | fail) : q := h k

def sg0 : Sg := ⟨false, none, 0, []⟩
theorem pclone_s (a : Option Addr) (c : Nat) (p : List Sg) (h8 : p.length ≤ 1000) (hsm : ∀ s ∈ p, SgN s) : Pact Tryz.prog 174 #[.slice a p.length c] (fun w => PathV w a c p) [] (fun u L' => ∃ (a' : Option Addr) (q : List Sg), u = .slice a' q.length q.length ∧ pN q = pN p ∧ L' = [Ar 87 2 sgC (.slice a' q.length q.length) q, has (fun w => ∀ s ∈ q, segV w s)]) := by
  refine pact Tryz.func174 rfl Tryz.ntmps174 rfl ?_
  intro W K hK
  have hv : Kn K (fun w => Vw w (.slice a p.length c) 2 p.length (flat sgC p)) := hK.imp fun _ h => h.vw
  (repeat' (first | (refine gL ?_; first | refine yL0 ?_ | (refine gL_makeSlice ?_; (refine JL_mkP (enc := sgC) (m1 := 0) sg0 (tabE etab_ok xR) xC xR xR (by unfold zeroIs; kernel_rfl) (by intro _; rfl) (by omega) (by omega) (by omega) xR xR ?_; intro g)) | refine yL ?_ | (refine yM ?_; intro _)) | (refine gD ?_; first | (refine yN ?_; try simp only [cAp, nAp]) | refine yD ?_ | (refine yE ?_; intro _) | (refine yB ?_; intro _ _ _ _)) | refine yJ ?_ | refine zd174Ru4 ?_ | (refine yI ?_ ?_ <;> intro _ <;> try exact xX) | (refine yK ?_ ?_ <;> intro hgb <;> first | subst hgb | fail_if_success have : type_of% hgb := rfl) | fail))
  refine J_loop (α := List Sg) [] (fun x => p.length - x.length) (fun x => x.length ≤ p.length ∧ pN x = pN (p.take x.length)) (fun x => [(3, .slice (some ⟨g, 0, none⟩) x.length p.length), (9, .slice a p.length c), (10, .int .i64 p.length), (11, .int .i64 x.length)])
    (fun x => [pts g (flat sgC (x ++ List.replicate (p.length - x.length) sg0)) 87, has (fun w => ∀ s ∈ x, segV w s)]) ⟨Nat.zero_le _, rfl⟩ ⟨rfl, rfl, rfl, rfl, trivial⟩ (fun w H => ?_) ?_
  · exact (Ow.hasTrue (φ := fun w => ∀ s ∈ ([] : List Sg), segV w s) H (by intro _ _ h; exact absurd h List.not_mem_nil)).sel (M := [pts g (flat sgC (List.replicate p.length sg0)) 87, has (fun w => ∀ s ∈ ([] : List Sg), segV w s)]) xZ
  rintro q ⟨hq, hsame⟩
  by_cases hlt : q.length < p.length
  · obtain ⟨s, hs⟩ : ∃ s, p[q.length]? = some s := ⟨_, List.getElem?_eq_getElem hlt⟩
    have hm := List.mem_of_getElem? hs
    have hsn1 := (hsm s hm).1
    obtain ⟨r, hr⟩ : ∃ r, p.length - q.length = r + 1 := ⟨p.length - q.length - 1, by omega⟩
    rw [hr]
    have hcl : (flat sgC (q ++ List.replicate (r + 1) sg0)).length = p.length * 2 := by
      rw [flat_length (sz := 2) (by intro _; rfl), List.length_append, List.length_replicate]
      omega
    (repeat' (first | (refine gL ?_; first | refine yL0 ?_ | refine yL ?_ | (refine yM ?_; intro _)) | (refine gD ?_; first | (refine yN ?_; try simp only [cAp, nAp]) | (refine gD_c_append ?_; (refine JD_apR (tabE etab_ok xR) xC xR xR xA xA xR xR hlt hcl xR ?_)) | refine yD ?_ | (refine gD_go ?_; (refine JD_goq (cloneU_s s.a s.c s.as_ hsn1) (hφ := (by (try simp only [cAp, nAp]); exact fun w hr => (hK w hr.1).segs s hm)) (h := ?_); rintro _ _ ⟨ad3, c3, rfl, rfl⟩; try simp only [cAp, nAp])) | (refine yE ?_; intro _) | (refine yB ?_; intro _ _ _ _)) | refine yJ ?_ | refine zd174Ru4 ?_ | (refine yI ?_ ?_ <;> intro _ <;> try exact xX) | (refine yK ?_ ?_ <;> intro hgb <;> first | subst hgb | fail_if_success have : type_of% hgb := rfl) | fail))
    refine J_again (q ++ [Sg.mk s.set ad3 c3 s.as_]) (by simp; omega) ⟨by simp; omega, ?_⟩ ⟨?_, rfl, rfl, ?_, trivial⟩ (fun w H => ?_)
    · simp only [List.length_append, List.length_cons, List.length_nil]
      rw [take_snoc hs]
      unfold pN at hsame ⊢
      rw [List.map_append, List.map_append, hsame]
      rfl
    · show some _ = some _
      simp
    · show some _ = some _
      simp
    · have hput := flat_put (enc := sgC) (sz := 2) (by intro _; rfl) q (Sg.mk s.set ad3 c3 s.as_) sg0 r
      have hsgc : sgC (Sg.mk s.set ad3 c3 s.as_) = [.bool s.set, .slice ad3 s.as_.length c3] := rfl
      rw [hsgc] at hput
      rw [hput] at H
      rw [show p.length - (q ++ [Sg.mk s.set ad3 c3 s.as_]).length = r by simp; omega]
      refine (Ow.has (M := [Ar 22 1 u32C (.slice ad3 s.as_.length c3) s.as_, has (fun w => ∀ s ∈ q, segV w s)]) (φ := fun w => ∀ x ∈ q ++ [Sg.mk s.set ad3 c3 s.as_], segV w x) H xZ ?_).sel xZ
      intro w hr x hx
      rcases List.mem_append.1 hx with hx | hx
      · exact hr.has (.there .here) x hx
      · obtain rfl := List.mem_singleton.1 hx
        exact Src.ar .here w hr
  · obtain hql : q.length = p.length := by omega
    rw [hql, List.take_length] at hsame
    rw [show p.length - q.length = 0 by omega, List.replicate_zero, List.append_nil]
    (repeat' (first | (refine gL ?_; first | refine yL0 ?_ | refine yL ?_ | (refine yM ?_; intro _)) | (refine gD ?_; first | (refine yN ?_; try simp only [cAp, nAp]) | refine yD ?_ | (refine yE ?_; intro _) | (refine yB ?_; intro _ _ _ _)) | refine yJ ?_ | refine zd174Ru4 ?_ | (refine yI ?_ ?_ <;> intro _ <;> try exact xX) | (refine yK ?_ ?_ <;> intro hgb <;> first | subst hgb | fail_if_success have : type_of% hgb := rfl) | fail))
    refine J_ret1 rfl (by rfl) fun w H => ⟨_, ⟨some ⟨g, 0, none⟩, q, by rw [hql], hsame, rfl⟩, ?_⟩
    have H2 := Ow.arRow (m := q.length) (sz := 2) H .here (by intro _; rfl) (Nat.le_refl _) (by unfold maxLen; omega)
    rw [List.take_length] at H2
    exact H2.sel xZ
theorem mul64_s (n : Nat) (h1 : 1 ≤ n) (h2 : n ≤ 10) : Pact Tryz.prog 190 #[.int .u64 1, .int .u64 n] (fun _ => True) [] (ret0 (.tuple #[.int .u64 0, .int .u64 n])) := by
  refine pact Tryz.func190 rfl Tryz.ntmps190 rfl ?_
  intro W K hK
  have a1 : bits .and .u64 1 4294967295 = 1 := by decide +kernel
  have a0 : bits .and .u64 0 4294967295 = 0 := by decide +kernel
  have an : bits .and .u64 (n : Int) 4294967295 = n := by
    have : n = 1 ∨ n = 2 ∨ n = 3 ∨ n = 4 ∨ n = 5 ∨ n = 6 ∨ n = 7 ∨ n = 8 ∨ n = 9 ∨ n = 10 := by omega
    rcases this with rfl | rfl | rfl | rfl | rfl | rfl | rfl | rfl | rfl | rfl <;> decide +kernel
  have s1 : (1 : Int) / 2 ^ 32 = 0 := by decide
  have s0 : (0 : Int) / 2 ^ 32 = 0 := by decide
  have sn : (n : Int) / 2 ^ 32 = 0 := by omega
  have m1 : IntKind.u64.wrap (1 * (n : Int)) = n := by rw [Int.one_mul]; exact w_u64 (by omega) (by omega)
  have m0 : IntKind.u64.wrap (0 * (n : Int)) = 0 := by rw [Int.zero_mul]; rfl
  have m2 : IntKind.u64.wrap (1 * 0) = 0 := rfl
  have m3 : IntKind.u64.wrap (0 * 0) = 0 := rfl
  have p0 : IntKind.u64.wrap (0 + 0) = 0 := rfl
  (repeat' (first | (refine gL ?_; first | refine yL0 ?_ | (refine gL_bin_and ?_; (first | refine JL_p rfl xR xR (pe_and xR xR a1) ?_ | refine JL_p rfl xR xR (pe_and xR xR an) ?_ | refine JL_p rfl xR xR (pe_and xR xR a0) ?_)) | (refine gL_bin_shr ?_; (first | (refine JL_p rfl xR xR (s1 ▸ pe_shr (a := 1) (m := 32) xR xR rfl (by decide)) ?_) | (refine JL_p rfl xR xR (s0 ▸ pe_shr (a := 0) (m := 32) xR xR rfl (by decide)) ?_) | (refine JL_p rfl xR xR (sn ▸ pe_shr (a := (n : Int)) (m := 32) xR xR rfl (by decide)) ?_))) | (refine gL_bin_mul ?_; (first | refine JL_p rfl xR xR (pe_mul xR xR m1) ?_ | refine JL_p rfl xR xR (pe_mul xR xR m0) ?_ | refine JL_p rfl xR xR (pe_mul xR xR m2) ?_ | refine JL_p rfl xR xR (pe_mul xR xR m3) ?_)) | (refine gL_bin_add ?_; (refine JL_p rfl xR xR (pe_add xR xR p0) ?_)) | refine yL ?_) | refine yJ ?_ | fail))
  exact J_ret2 rfl (by rfl) (by rfl) fun w H => ⟨[], ⟨rfl, rfl⟩, H.sel .nil⟩
theorem mul_s (n : Nat) (h1 : 1 ≤ n) (h2 : n ≤ 10) : Pact Tryz.prog 185 #[.int .u64 1, .int .u64 n] (fun _ => True) [] (ret0 (.tuple #[.int .u64 0, .int .u64 n])) := by
  refine pact Tryz.func185 rfl Tryz.ntmps185 rfl ?_
  intro W K hK
  (repeat' (first | (refine gL ?_; first | refine yL0 ?_ | refine yL ?_ | (refine gL_go ?_; (refine JL_goq (mul64_s n h1 h2) (hφ := xF) (h := ?_); rintro _ _ ⟨rfl, rfl⟩; try simp only [cAp, nAp]))) | refine yJ ?_ | (refine yI ?_ ?_ <;> intro _ <;> try exact xX) | (refine yK ?_ ?_ <;> intro hgb <;> first | subst hgb | fail_if_success have : type_of% hgb := rfl) | fail))
  exact J_ret2 rfl (by rfl) (by rfl) fun w H => ⟨[], ⟨rfl, rfl⟩, H.sel .nil⟩
theorem zd175Ru5 {p q : Prop} (k : p) (h : p → q := by intro hk; first | exact J_draw (id := 9) [0, 1, 2, 3, 4, 5, 6, 7] [8, 9] mixed xC xD xD hk | fail) : q := h k

def rowR (v : Int) (k n : Nat) : List Value := List.replicate k (.int .u32 v) ++ List.replicate (n - k) (.int .u32 0)
theorem rowR_len (v : Int) {k n : Nat} (h : k ≤ n) : (rowR v k n).length = n := by unfold rowR; simp; omega
theorem rowR_put (v : Int) {k n m : Nat} (h : k + m ≤ n) : (rowR v k n).take k ++ List.replicate m (.int .u32 v) ++ (rowR v k n).drop (k + (List.replicate m (Value.int .u32 v)).length) = rowR v (k + m) n := by
  unfold rowR
  rw [List.take_left' (by simp), List.length_replicate, ← List.drop_drop, List.drop_left' (by simp), List.drop_replicate, List.replicate_append_replicate]
  congr 2
  omega
theorem flat_u32 (l : List Int) : flat u32C l = l.map (Value.int .u32) := by
  induction l with
  | nil => rfl
  | cons a l ih => show [Value.int .u32 a] ++ flat u32C l = _; rw [ih]; rfl
theorem one_rep (v : Int) (m : Nat) : ∀ x ∈ List.replicate m (Value.int .u32 v), x.oneCell' = true := fun x hx => by
  rw [List.eq_of_mem_replicate hx]; rfl
theorem repeat_s (a : Option Addr) (c : Nat) (v : Int) (n : Nat) (h1 : 1 ≤ n) (h2 : n ≤ 10) : Pact Tryz.prog 175 #[.slice a 1 c, .int .i64 n] (fun w => Vw w (.slice a 1 c) 1 1 [.int .u32 v]) [] (fun u L' => ∃ a' : Option Addr, u = .slice a' n n ∧ L' = [Ar 22 1 u32C (.slice a' n n) (List.replicate n v)]) := by
  refine pact Tryz.func175 rfl Tryz.ntmps175 rfl ?_
  intro W K hK
  have hz : flat u32C (List.replicate n 0) = rowR v 0 n := by rw [flat_u32]; simp [rowR]
  (repeat' (first | (refine gL ?_; first | refine yL0 ?_ | (refine gL_makeSlice ?_; (refine JL_mkP (enc := u32C) (m1 := n) (m := n) (0 : Int) (tabE etab_ok xR) xC xR xR (by unfold zeroIs; kernel_rfl) (by intro _; rfl) (by omega) (by omega) (by omega) xR xR ?_; intro g; rw [hz])) | (refine gL_c_copy ?_; (refine JL_copyP [Value.int .u32 v] (tabE etab_ok xR) xR rfl xA xR (fun w hr => by obtain ⟨b, off, hb⟩ := Vw.addr (hK w hr.1) (by simp); subst hb; exact ⟨b, off, rfl, fun j u hj => (by obtain ⟨_, _, he, _, _, _, _, h5⟩ := hK w hr.1; cases he; obtain ⟨b', o', he2, h6⟩ := h5 (by simp); cases he2; exact h6 j u hj)⟩) (by simp; omega) (by rw [rowR_len v (Nat.zero_le _)]; simp; omega) (by intro x hx; obtain rfl := List.mem_singleton.1 hx; rfl) xR xR ?_)) | refine yL ?_ | (refine gL_go ?_; (refine JL_goq (mul_s n h1 h2) (hφ := xF) (h := ?_); rintro _ _ ⟨rfl, rfl⟩; try simp only [cAp, nAp]))) | (refine gD ?_; first | (refine yN ?_; try simp only [cAp, nAp]) | (refine gD_c_copy ?_; (refine JL_copyP [Value.int .u32 v] (tabE etab_ok xR) xR rfl xA xR (fun w hr => by obtain ⟨b, off, hb⟩ := Vw.addr (hK w hr.1) (by simp); subst hb; exact ⟨b, off, rfl, fun j u hj => (by obtain ⟨_, _, he, _, _, _, _, h5⟩ := hK w hr.1; cases he; obtain ⟨b', o', he2, h6⟩ := h5 (by simp); cases he2; exact h6 j u hj)⟩) (by simp; omega) (by rw [rowR_len v (Nat.zero_le _)]; simp; omega) (by intro x hx; obtain rfl := List.mem_singleton.1 hx; rfl) xR xR ?_)) | refine yD ?_) | refine yJ ?_ | refine zd175Ru5 ?_ | (refine yI ?_ ?_ <;> intro _ <;> try exact xX) | (refine yK ?_ ?_ <;> intro hgb <;> first | subst hgb | fail_if_success have : type_of% hgb := rfl) | fail))
  refine J_loop (α := Nat) 1 (fun k => n - k) (fun k => 1 ≤ k ∧ k ≤ n) (fun k => [(7, .slice (some ⟨g, 0, none⟩) n n), (8, .int .i64 k)]) (fun k => [pts g (rowR v k n) 22]) ⟨by omega, h1⟩ ⟨rfl, ?_, trivial⟩ (fun w H => ?_) ?_
  · show some _ = some _
    congr 2
    omega
  · have := rowR_put v (k := 0) (m := 1) (n := n) (by omega)
    simp only [List.take_zero, List.nil_append, Nat.zero_add, List.replicate_one] at this
    simp only [List.take_zero, List.nil_append, Nat.zero_add] at H
    rw [this] at H
    exact H.sel xZ
  rintro k ⟨hk1, hk2⟩
  by_cases hlt : k < n
  · obtain ⟨m, hm⟩ : ∃ m, min k (n - k) = m := ⟨_, rfl⟩
    have hm1 : 1 ≤ m := by omega
    have hmk : m ≤ k := by omega
    have hmn : k + m ≤ n := by omega
    have hput := rowR_put v hmn
    have hlen := rowR_len v hk2
    have hsrc : ∀ (R : List HP) (w : World), Rdw K (pts g (rowR v k n) 22 :: R) w → ∃ b off, (some ⟨g, 0, none⟩ : Option Addr) = some ⟨b, off, none⟩ ∧ ∀ (j : Nat) (u : Value), (List.replicate m (Value.int .u32 v))[j]? = some u → w.cell? ⟨b, off + j, none⟩ = some u := fun R w hr => ⟨g, 0, rfl, fun j u hj => by
      have hb := hr.blk .here
      have hj2 := (List.getElem?_eq_some_iff.1 hj).1
      rw [List.length_replicate] at hj2
      rw [Nat.zero_add]
      refine (hb.cell j).trans ?_
      rw [← hj, List.getElem?_replicate, if_pos hj2]
      unfold rowR
      rw [List.getElem?_toArray, List.getElem?_append_left (by rw [List.length_replicate]; omega), List.getElem?_replicate, if_pos (by omega)]⟩
    (repeat' (first | (refine gL ?_; first | refine yL0 ?_ | (refine gL_c_copy ?_; (refine JD_copyP (List.replicate m (Value.int .u32 v)) (tabE etab_ok xR) xR (slA_lt hlt) xA xR (hsrc _) (by rw [List.length_replicate]; omega) (by rw [hlen, List.length_replicate]; omega) (one_rep v m) xR ?_)) | refine yL ?_) | (refine gD ?_; first | (refine yN ?_; try simp only [cAp, nAp]) | (refine gD_c_copy ?_; (refine JD_copyP (List.replicate m (Value.int .u32 v)) (tabE etab_ok xR) xR (slA_lt hlt) xA xR (hsrc _) (by rw [List.length_replicate]; omega) (by rw [hlen, List.length_replicate]; omega) (one_rep v m) xR ?_)) | refine yD ?_) | refine yJ ?_ | refine zd175Ru5 ?_ | (refine yI ?_ ?_ <;> intro _ <;> try exact xX) | (refine yK ?_ ?_ <;> intro hgb <;> first | subst hgb | fail_if_success have : type_of% hgb := rfl) | fail))
    refine J_again (k + m) (by omega) ⟨by omega, by omega⟩ ⟨rfl, ?_, trivial⟩ (fun w H => ?_)
    · show some _ = some _
      congr 2
      omega
    · rw [show 0 + k * 1 = k by omega] at H
      rw [hput] at H
      exact H.sel xZ
  · obtain rfl : k = n := by omega
    (repeat' (first | (refine gL ?_; first | refine yL0 ?_ | refine yL ?_) | (refine gD ?_; first | (refine yN ?_; try simp only [cAp, nAp]) | refine yD ?_) | refine yJ ?_ | refine zd175Ru5 ?_ | (refine yI ?_ ?_ <;> intro _ <;> try exact xX) | (refine yK ?_ ?_ <;> intro hgb <;> first | subst hgb | fail_if_success have : type_of% hgb := rfl) | fail))
    refine J_ret1 rfl (by rfl) fun w H => ⟨_, ⟨some ⟨g, 0, none⟩, rfl, rfl⟩, ?_⟩
    have hrow : rowR v k k = flat u32C (List.replicate k v) := by rw [flat_u32]; simp [rowR]
    rw [hrow] at H
    have H2 := Ow.arRow (m := k) (sz := 1) H .here (by intro _; rfl) (by simp) (by unfold maxLen; simp; omega)
    have e1 : (List.replicate k v).length = k := List.length_replicate
    have e2 : (List.replicate k v).take k = List.replicate k v := List.take_of_length_le (by simp)
    rw [e1, e2] at H2
    exact H2.sel xZ
end Go.Proofs.YtdnokmpnemaoaaaGreat.C
