/-
  General lemmas of our own: slices of elements of several cells each: one element read, written, the rest cleared.
-/
import Derived.Test.YtohahlcjkhgimaaView
namespace Go.Pm
set_option linter.unusedSimpArgs false
set_option linter.unusedVariables false
open Go.RowKit

/-- The cells of the elements es, one behind the other, sz cells each. -/
def flat {α : Type} (f : α → List Value) (es : List α) : List Value := es.flatMap f
theorem flat_length {α : Type} {f : α → List Value} {sz : Nat} (hf : ∀ x, (f x).length = sz) (es : List α) : (flat f es).length = es.length * sz := by
  induction es with
  | nil => simp [flat]
  | cons e es ih => simp [flat, hf, Nat.succ_mul] at ih ⊢; omega
theorem flat_append {α : Type} (f : α → List Value) (es fs : List α) : flat f (es ++ fs) = flat f es ++ flat f fs := by simp [flat]
theorem flat_get {α : Type} {f : α → List Value} {sz : Nat} (hf : ∀ x, (f x).length = sz) : ∀ (es : List α) (k j : Nat) (hk : k < es.length) (_ : j < sz), (flat f es)[k * sz + j]? = (f es[k])[j]?
  | [], _, _, hk, _ => by simp at hk
  | e :: es, 0, j, _, hj => by
    rw [Nat.zero_mul, Nat.zero_add]
    show (f e ++ flat f es)[j]? = _
    rw [List.getElem?_append_left (by rw [hf]; exact hj)]
    rfl
  | e :: es, k + 1, j, hk, hj => by
    show (f e ++ flat f es)[(k + 1) * sz + j]? = _
    rw [List.getElem?_append_right (by rw [hf, Nat.succ_mul]; omega), hf, show (k + 1) * sz + j - sz = k * sz + j by rw [Nat.succ_mul]; omega]
    exact flat_get hf es k j (by simpa using hk) hj

/-- One element of a slice that can be read: its row of cells. -/
theorem Vw.row {α : Type} {f : α → List Value} {sz : Nat} (hf : ∀ x, (f x).length = sz) {w : World} {b off n cap : Nat} {es : List α} (h : Vw w (.slice (some ⟨b, off, none⟩) n cap) sz n (flat f es)) (hn : es.length = n) (k : Nat) (hk : k < es.length) : w.rangeAt b (off + k * sz) (f es[k]) := by
  intro j u hu
  have hj : j < sz := by
    have := (List.getElem?_eq_some_iff.1 hu).1
    rwa [hf] at this
  obtain ⟨a, c, he, h1, h2, h3, h4, h5⟩ := h
  cases he
  have h6 := flat_get hf es k j hk hj
  rw [hu] at h6
  obtain ⟨b', off', he, hc⟩ := h5 (by intro h0; rw [h0] at h6; simp at h6)
  cases he
  rw [Nat.add_assoc]
  exact hc _ _ h6

theorem Vw.addr {w : World} {a : Option Addr} {n cap sz : Nat} {xs : List Value} (h : Vw w (.slice a n cap) sz n xs) (hne : xs ≠ []) : ∃ b off, a = some ⟨b, off, none⟩ := by
  obtain ⟨a', c, he, h1, h2, h3, h4, h5⟩ := h
  cases he
  obtain ⟨b, off, rfl, _⟩ := h5 hne
  exact ⟨b, off, rfl⟩

section
variable {W : World} {K : Hl} {L R : List HP} {w w' : World} {e : TypeId} {sz n cap : Nat} {xs : List Value}

/-- A slice of the call's own with elements, laid open: its block. -/
theorem Ow.slOpen {a : Option Addr} (H : Ow W K L w) (h : Tk L (Sl e sz (.slice a n cap) n xs) R) (hn : n ≠ 0) : ∃ g cur, a = some ⟨g, 0, none⟩ ∧ Ow W K (pts g cur e :: R) w ∧ cur.length = cap * sz ∧ cur.take (n * sz) = xs ∧ n ≤ cap ∧ cap ≤ maxLen := by
  obtain ⟨k, ⟨h1, h2, hs, s, d', rfl⟩, d, i⟩ := (H.tk h).mem
  obtain ⟨hl, hs⟩ := hs
  rcases hs with ⟨_, h0, _⟩ | ⟨g, cap', cur, he, h3, h4, h5, h6, rfl⟩
  · exact (hn h0).elim
  · cases he
    refine ⟨g, cur.toList, rfl, ⟨H.os, H.tape, H.output, H.size, H.kn, _, ⟨_, h2, rfl, s, ?_, rfl⟩, ?_, ?_⟩, by simpa using h5, h6, h3, h4⟩
    all_goals simpa using by assumption

theorem Ow.slShut {g : Nat} {cur : List Value} (H : Ow W K L w) (h : Tk L (pts g cur e) R) (hl : cur.length = cap * sz) (hx : cur.take (n * sz) = xs) (hn : n ≤ cap) (hc : cap ≤ maxLen) : Ow W K (Sl e sz (.slice (some ⟨g, 0, none⟩) n cap) n xs :: R) w :=
  (H.tk h).imp fun k hk => ⟨by
    subst hx
    rw [List.length_take, hl]
    exact Nat.min_eq_left (Nat.mul_le_mul_right _ hn), .inr ⟨g, cap, cur.toArray, rfl, hn, hc, by simpa using hl, by simpa using hx, hk⟩⟩
end

/-- The row of element k. -/
def rowOf (sz : Nat) (cur : List Value) (k : Nat) : List Value := (cur.drop (k * sz)).take sz
theorem rowOf_get {sz : Nat} {cur : List Value} {k j : Nat} (hj : j < sz) : (rowOf sz cur k)[j]? = cur[k * sz + j]? := by
  simp [rowOf, List.getElem?_take, hj, List.getElem?_drop]
theorem rowOf_splice {sz : Nat} {cur vs : List Value} {i : Nat} (hv : vs.length = sz) (hi : (i + 1) * sz ≤ cur.length) (k : Nat) (hk : (k + 1) * sz ≤ cur.length) :
    rowOf sz (splice cur.toArray (i * sz) vs).toList k = if k = i then vs else rowOf sz cur k := by
  have hsz := splice_size vs (i * sz) cur.toArray
  have e1 : (i + 1) * sz = i * sz + sz := Nat.succ_mul i sz
  have e2 : (k + 1) * sz = k * sz + sz := Nat.succ_mul k sz
  apply List.ext_getElem?
  intro j
  by_cases hj : j < sz
  · rw [rowOf_get hj, Array.getElem?_toList, splice_get vs (i * sz) cur.toArray (k * sz + j) (by simp; omega)]
    by_cases hki : k = i
    · subst hki
      rw [if_pos (by omega), if_pos rfl, show k * sz + j - k * sz = j by omega]
    · rw [if_neg hki, rowOf_get hj, if_neg]
      · simp
      · rintro ⟨h1, h2⟩
        rcases Nat.lt_or_ge k i with h | h
        · have : (k + 1) * sz ≤ i * sz := Nat.mul_le_mul_right _ h
          omega
        · have : (i + 1) * sz ≤ k * sz := Nat.mul_le_mul_right _ (by omega)
          omega
  · have l1 : (rowOf sz (splice cur.toArray (i * sz) vs).toList k).length ≤ sz := by unfold rowOf; rw [List.length_take]; omega
    have l2 : (if k = i then vs else rowOf sz cur k).length ≤ sz := by split; omega; unfold rowOf; rw [List.length_take]; omega
    rw [List.getElem?_eq_none (by omega), List.getElem?_eq_none (by omega)]
theorem rowOf_splice_lt {sz : Nat} {cur vs : List Value} {i : Nat} (hi : i * sz + vs.length ≤ cur.length) (k : Nat) (hk : k < i) : rowOf sz (splice cur.toArray (i * sz) vs).toList k = rowOf sz cur k := by
  have e2 : (k + 1) * sz ≤ i * sz := Nat.mul_le_mul_right _ hk
  have e3 : (k + 1) * sz = k * sz + sz := Nat.succ_mul k sz
  apply List.ext_getElem?
  intro j
  by_cases hj : j < sz
  · rw [rowOf_get hj, rowOf_get hj, Array.getElem?_toList, splice_get vs (i * sz) cur.toArray (k * sz + j) (by simpa using hi), if_neg (by omega)]
    simp
  · have l1 : (rowOf sz (splice cur.toArray (i * sz) vs).toList k).length ≤ sz := by unfold rowOf; rw [List.length_take]; omega
    have l2 : (rowOf sz cur k).length ≤ sz := by unfold rowOf; rw [List.length_take]; omega
    rw [List.getElem?_eq_none (by omega), List.getElem?_eq_none (by omega)]
theorem rows_of {α : Type} {f : α → List Value} {sz : Nat} (hf : ∀ x, (f x).length = sz) {cur : List Value} {es : List α} (h : cur.take (es.length * sz) = flat f es) (k : Nat) (hk : k < es.length) : rowOf sz cur k = f es[k] := by
  have e2 : (k + 1) * sz ≤ es.length * sz := Nat.mul_le_mul_right _ hk
  have e3 : (k + 1) * sz = k * sz + sz := Nat.succ_mul k sz
  have hl : es.length * sz ≤ cur.length := by have := congrArg List.length h; rw [flat_length hf, List.length_take] at this; omega
  apply List.ext_getElem?
  intro j
  by_cases hj : j < sz
  · rw [rowOf_get hj, ← flat_get hf es k j hk hj, ← h, List.getElem?_take, if_pos (by omega)]
  · have l1 : (rowOf sz cur k).length ≤ sz := by unfold rowOf; rw [List.length_take]; omega
    rw [List.getElem?_eq_none (by omega), List.getElem?_eq_none (by rw [hf]; omega)]
theorem row_range {sz : Nat} {w : World} {b : Nat} {cur cs : List Value} {T : TypeId} {k : Nat} (h : Blk w b cur.toArray T) (hr : rowOf sz cur k = cs) (hl : cs.length = sz) : w.rangeAt b (k * sz) cs := by
  intro j u hu
  have hj : j < sz := by have := (List.getElem?_eq_some_iff.1 hu).1; omega
  rw [h.cell]
  subst hr
  rw [rowOf_get hj] at hu
  simpa using hu

/-- A prefix of the cells, by its rows. -/
theorem take_rows {α : Type} {f : α → List Value} {sz : Nat} (hf : ∀ x, (f x).length = sz) {cur : List Value} : ∀ (ys : List α), ys.length * sz ≤ cur.length → (∀ k (hk : k < ys.length), rowOf sz cur k = f ys[k]) → cur.take (ys.length * sz) = flat f ys := by
  intro ys hl h
  apply List.ext_getElem?
  intro j
  by_cases hj : j < ys.length * sz
  · have hs0 : 0 < sz := by rcases Nat.eq_zero_or_pos sz with h0 | h0; · subst h0; simp at hj
                            · exact h0
    have hk : j / sz < ys.length := Nat.div_lt_of_lt_mul (by rw [Nat.mul_comm]; exact hj)
    have hm : j % sz < sz := Nat.mod_lt _ hs0
    have he : j / sz * sz + j % sz = j := Nat.div_add_mod' j sz
    have h1 := flat_get hf ys (j / sz) (j % sz) hk hm
    rw [he] at h1
    rw [h1, ← h _ hk, rowOf_get hm, he, List.getElem?_take, if_pos hj]
  · rw [List.getElem?_eq_none (by rw [List.length_take]; omega), List.getElem?_eq_none (by rw [flat_length hf]; omega)]

/-- One element is written. -/
theorem wpList_stRow {P : Program} {ops : Array Oper} {rest : List Oper} {a : Act} {Q : Exit → Act → World → Prop} {W : World} {K : Hl} {L R : List HP} {w : World} (H : Ow W K L w) {dst : Option Tmp} {ty T T' : TypeId} {x y : Operand} {pos : String} {after : Array Edge} {gd : Option (Nat × Bool)} {b o : Nat} {cs vs : List Value}
    (hg : Region.wanted ⟨dst, .store ty x y, T, pos, after, gd⟩ (yielded ops a.tmps) = true) (hx : a.eval x = .pointer (some ⟨b, o, none⟩)) (hy : Ev a y (.agg vs.toArray)) (hm : Tk L (pts b cs T') R)
    (ht : rowTy P ty vs.length = true) (hl : o + vs.length ≤ cs.length) (h1 : vs.all (·.oneCell') = true) {a' : Act} (hp : Pt a dst undef a') (h : ∀ w', Ow W K (pts b (splice cs.toArray o vs).toList T' :: R) w' → wpList P ops Q rest a' w') : wpList P ops Q (⟨dst, .store ty x y, T, pos, after, gd⟩ :: rest) a w := by
  have hr : (P.info? ty).map (·.size) = some vs.length := by
    unfold rowTy at ht
    cases hu : P.underlying ty with
    | none => simp [hu] at ht
    | some d =>
      cases hi : P.info? ty with
      | none => simp [hu, hi] at ht
      | some i => simp [hu, hi] at ht; simp [ht.2]
  exact BigFrame.wpList_want hg fun N hN => wp_store_mid ty x y rfl b o vs.toArray hx hy.eq ((H.blk hm).there o _ (by simp; omega)) (by simpa using hr) (all_oneCell_toArray (by simpa using h1)) (hN _ _ (hp.eq ▸ h _ (by
    have := H.setCells vs o hm hl
    simpa using this)))

/-- A whole block's row is written, is read: its length reckoned. -/
theorem wpList_stW {P : Program} {ops : Array Oper} {rest : List Oper} {a : Act} {Q : Exit → Act → World → Prop} {W : World} {K : Hl} {L R : List HP} {w : World} (H : Ow W K L w) {dst : Option Tmp} {ty T T' : TypeId} {x y : Operand} {pos : String} {after : Array Edge} {gd : Option (Nat × Bool)} {b : Nat} {cs vs : List Value}
    (hg : Region.wanted ⟨dst, .store ty x y, T, pos, after, gd⟩ (yielded ops a.tmps) = true) (hx : a.eval x = .pointer (some ⟨b, 0, none⟩)) (hy : Ev a y (.agg vs.toArray)) (hm : Tk L (pts b cs T') R)
    (ht : rowTy P ty vs.length = true) (hl : vs.length = cs.length) (h1 : vs.all (·.oneCell') = true) {a' : Act} (hp : Pt a dst undef a') (h : ∀ w', Ow W K (pts b vs T' :: R) w' → wpList P ops Q rest a' w') : wpList P ops Q (⟨dst, .store ty x y, T, pos, after, gd⟩ :: rest) a w :=
  wpList_stRow H hg hx hy hm ht (by omega) h1 hp fun w' H' => h w' (by
    rw [splice_full cs.toArray vs (by simpa using hl)] at H'
    simpa using H')
theorem wpList_ldW {P : Program} {ops : Array Oper} {rest : List Oper} {a : Act} {Q : Exit → Act → World → Prop} {W : World} {K : Hl} {L R : List HP} {w : World} (H : Ow W K L w) {dst : Option Tmp} {ty T T' : TypeId} {x : Operand} {pos : String} {after : Array Edge} {gd : Option (Nat × Bool)} {b : Nat} {cs : List Value}
    (hg : Region.wanted ⟨dst, .load ty x, T, pos, after, gd⟩ (yielded ops a.tmps) = true) (hx : a.eval x = .pointer (some ⟨b, 0, none⟩)) (hm : Tk L (pts b cs T') R)
    (ht : rowTy P ty cs.length = true) {a' : Act} (hp : Pt a dst (.agg cs.toArray) a') (h : wpList P ops Q rest a' w) : wpList P ops Q (⟨dst, .load ty x, T, pos, after, gd⟩ :: rest) a w :=
  wpList_ldRow hg hx ht (by simpa using (H.blk hm).range) (hp.eq ▸ h)

/-- 'clear' of a slice. -/
theorem wpList_clear {P : Program} {ops : Array Oper} {rest : List Oper} {a : Act} {Q : Exit → Act → World → Prop} {W : World} {K : Hl} {L R : List HP} {w : World} (H : Ow W K L w) {dst : Option Tmp} {T T' t e : TypeId} {x : Operand} {pos : String} {after : Array Edge} {b o m c : Nat} {cs : List Value} {z : Value} {i : TypeInfo}
    (ht : P.underlying t = some (.slice e)) (hi : P.info? e = some i) (hz : i.zero = some z) (hx : Ev a x (.slice (some ⟨b, o, none⟩) m c)) (hm : Tk L (pts b cs T') R)
    (hl : o + m * z.cells.size ≤ cs.length) (h1 : ∀ u ∈ z.cells.toList, u.oneCell' = true) (h : ∀ w' vs, vs.length = m * z.cells.size → Ow W K (pts b (splice cs.toArray o vs).toList T' :: R) w' → wpList P ops Q rest (a.put dst (.tuple #[])) w') :
    wpList P ops Q (⟨dst, .call { callee := .builtin .clear, args := #[x], argTypes := #[t] }, T, pos, after, none⟩ :: rest) a w := by
  refine wpList_plain rfl fun N hN => ?_
  by_cases hm0 : m = 0
  · subst hm0
    have hr : (Builtin.clear_ #[t] T #[.slice (some ⟨b, o, none⟩) 0 c]).run P w = .ok (.tuple #[]) w := by
      simp [Builtin.clear_, Sem.run_bind, run_underlying ht w]
    unfold Oper.wp execOp
    simp only [resolve, invoke, builtin, Sem.run_bind, Sem.run_pure, Result.andThen_ok, List.map_toArray, List.map_cons, List.map_nil, hx.eq, hr]
    refine hN _ _ (h w [] (by simp) ?_)
    simpa [splice] using H.tk hm
  · have hzl : (Builtin.zeroCells z.cells m).toList.length = m * z.cells.size := by simp [size_zeroCells]
    have hth := (H.blk hm).there o (m * z.cells.size) (by simp; omega)
    have h1z : ∀ v ∈ (Builtin.zeroCells z.cells m).toList, v.oneCell' = true := by
      intro v hv
      simp only [Builtin.zeroCells, Array.toList_map, List.mem_map] at hv
      obtain ⟨k, hk, rfl⟩ := hv
      have hk' : k < m * z.cells.size := by simpa using hk
      have hpos : 0 < z.cells.size := by rcases Nat.eq_zero_or_pos z.cells.size with h0 | h0; · rw [h0] at hk'; simp at hk'
                                         · exact h0
      have hlt := Nat.mod_lt k hpos
      refine h1 _ ?_
      rw [getElem!_pos z.cells (k % z.cells.size) hlt]
      simp
    have hs := run_storeCells_cells (P := P) b o (Builtin.zeroCells z.cells m).toList 0 w (fun j hj => by simpa using (hth j (by omega)).1) (fun j hj => by simpa using (hth j (by omega)).2) h1z
    simp only [Nat.add_zero] at hs
    have hr : (Builtin.clear_ #[t] T #[.slice (some ⟨b, o, none⟩) m c]).run P w = .ok (.tuple #[]) (w.setCells b o (Builtin.zeroCells z.cells m).toList) := by
      obtain ⟨m', rfl⟩ : ∃ m', m = m' + 1 := ⟨m - 1, by omega⟩
      simp [Builtin.clear_, Sem.run_bind, run_underlying ht w, zeroValue, typeInfo, hi, hz, hs]
    unfold Oper.wp execOp
    simp only [resolve, invoke, builtin, Sem.run_bind, Sem.run_pure, Result.andThen_ok, List.map_toArray, List.map_cons, List.map_nil, hx.eq, hr]
    exact hN _ _ (h _ _ hzl (H.setCells _ o hm (by omega)))
end Go.Pm
