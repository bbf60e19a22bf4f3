/-
  General lemmas of our own on slices, over any program: a slice that is read (Vw), a slice of the call's own that is appended to (Bld).
-/
import Derived.Test.YtohahlcjkhgimaaBase
import Derived.Test.YtohahlcjkhgimaaArgs
import Derived.Laws.AppendOwnNone
import Derived.Laws.BytesArg
namespace Go.Pm
set_option linter.unusedSimpArgs false
set_option linter.unusedVariables false
open Go.RowKit

/-- The element type of a slice type: its number, how many cells and bytes an element has. -/
structure El (P : Program) (t e : TypeId) (size bytes : Nat) : Prop where
  sl : P.underlying t = some (.slice e)
  inf : ∃ i z, P.info? e = some i ∧ i.zero = some z ∧ i.size = size ∧ i.bytes = bytes ∧ z.cells.size = size
  pos : 0 < size
  bpos : 0 < bytes

theorem El.mk' {P : Program} {t e : TypeId} {size bytes : Nat} {z : Value} (sl : P.underlying t = some (.slice e)) (h : (P.info? e).map (fun i => (i.zero, i.size, i.bytes)) = some (some z, size, bytes)) (hz : z.cells.size = size) (pos : 0 < size) (bpos : 0 < bytes) : El P t e size bytes := by
  obtain ⟨i, h1, h2, h3, h4⟩ := info_parts h
  exact ⟨sl, ⟨i, z, h1, h2, h3, h4, hz⟩, pos, bpos⟩

/-- The slice v has n elements; their cells are xs. -/
def Vw (w : World) (v : Value) (sz n : Nat) (xs : List Value) : Prop :=
  ∃ a cap, v = .slice a n cap ∧ xs.length = n * sz ∧ n ≤ cap ∧ cap ≤ maxLen ∧ (a = none → n = 0 ∧ cap = 0) ∧ (xs ≠ [] → ∃ b off, a = some ⟨b, off, none⟩ ∧ ∀ j u, xs[j]? = some u → w.cell? ⟨b, off + j, none⟩ = some u)

theorem Vw.nil (w : World) (sz : Nat) : Vw w (.slice none 0 0) sz 0 [] := ⟨none, 0, rfl, by simp, Nat.le_refl _, by simp [maxLen], fun _ => ⟨rfl, rfl⟩, fun h => (h rfl).elim⟩

theorem Vw.keep {w w' : World} {v : Value} {sz n : Nat} {xs : List Value} {bs : List Nat} (h : Vw w v sz n xs) (ho : Only bs w w') (hb : ∀ b, v.ownBlock = some b → b ∉ bs) : Vw w' v sz n xs := by
  obtain ⟨a, cap, rfl, h1, h2, h3, h4, h5⟩ := h
  refine ⟨a, cap, rfl, h1, h2, h3, h4, fun hne => ?_⟩
  obtain ⟨b, off, rfl, hc⟩ := h5 hne
  refine ⟨b, off, rfl, fun j u hu => ?_⟩
  have := hc j u hu
  rw [ho.cell (World.block_lt_of_cell? w _ this) (hb b rfl)]
  exact this

theorem Vw.only {w w' : World} {v : Value} {sz n : Nat} {xs : List Value} (h : Vw w v sz n xs) (ho : Only [] w w') : Vw w' v sz n xs := h.keep ho (by simp)

theorem own_vw {w : World} {base : Nat} {e : TypeId} {sz : Nat} {v : Value} {n : Nat} {xs : List Value} (h : w.ownsRow base e sz v n xs) : Vw w v sz n xs := by
  obtain ⟨hl, h⟩ := h
  rcases h with ⟨rfl, rfl⟩ | ⟨g, cap, cur, rfl, hb, hg, hnc, hcm, hcs, ht⟩
  · exact ⟨none, 0, rfl, hl, Nat.le_refl _, by simp [maxLen], fun _ => ⟨rfl, rfl⟩, fun hne => (hne (by simpa using hl)).elim⟩
  · refine ⟨_, cap, rfl, hl, hnc, hcm, (fun h => by cases h), (fun _ => ⟨g, 0, rfl, fun j u hu => ?_⟩)⟩
    have hb2 : Blk w g cur e := hg
    rw [Nat.zero_add, hb2.cell]
    rw [← ht, List.getElem?_take] at hu
    split at hu
    · simpa using hu
    · cases hu

/-- What a literal (a buildSlice) just laid. -/
theorem Vw.lit (w : World) (cs : Array Value) (e : TypeId) (n : Nat) (hs : cs.size = n) (hm : n ≤ maxLen) : Vw (w.alloc (.cells cs e)) (.slice (some ⟨w.heap.size, 0, none⟩) n n) 1 n cs.toList := by
  refine ⟨_, n, rfl, by simpa using hs, Nat.le_refl _, hm, (fun h => by cases h), (fun _ => ⟨w.heap.size, 0, rfl, fun j u hu => ?_⟩)⟩
  rw [Nat.zero_add, (Blk.new w cs e).cell]
  simpa using hu

theorem own_keep {w w' : World} {bs : List Nat} {base : Nat} {e : TypeId} {sz : Nat} {v : Value} {n : Nat} {xs : List Value} (h : w.ownsRow base e sz v n xs) (ho : Only bs w w') (hb : ∀ b, v.ownBlock = some b → b ∉ bs) : w'.ownsRow base e sz v n xs := by
  refine ⟨h.1, ?_⟩
  rcases h.2 with hn | ⟨g, cap, cur, rfl, hbg, hg, rest⟩
  · exact .inl hn
  · refine .inr ⟨g, cap, cur, rfl, hbg, ?_, rest⟩
    rw [ho.block g (Array.getElem?_eq_some_iff.1 hg).1 (hb g rfl)]
    exact hg

theorem own_mono {w : World} {base base' : Nat} {e : TypeId} {sz : Nat} {v : Value} {n : Nat} {xs : List Value} (h : w.ownsRow base e sz v n xs) (hb : ∀ g, v.ownBlock = some g → base' ≤ g) : w.ownsRow base' e sz v n xs := by
  refine ⟨h.1, ?_⟩
  rcases h.2 with hn | ⟨g, cap, cur, rfl, hbg, rest⟩
  · exact .inl hn
  · exact .inr ⟨g, cap, cur, rfl, hb g rfl, rest⟩

/-- A new array that a literal or a make laid. -/
theorem own_lit {w : World} {base : Nat} {e : TypeId} {sz : Nat} (cs : Array Value) (n : Nat) (hb : base ≤ w.heap.size) (hm : n ≤ maxLen) (hs : cs.size = n * sz) :
    (w.alloc (.cells cs e)).ownsRow base e sz (.slice (some ⟨w.heap.size, 0, none⟩) n n) n cs.toList :=
  World.ownsRow_lit w cs n hb hm hs

/-- What appending leaves: the new slice, its cells; only the old one's block may have changed; the new one lies there or in a new block. -/
structure Bld (e : TypeId) (sz base : Nat) (w w' : World) (v v' : Value) (n : Nat) (xs : List Value) : Prop where
  own : w'.ownsRow base e sz v' n xs
  only : Only v.ownBlock.toList w w'
  lies : v'.ownBlock = v.ownBlock ∨ ∀ g, v'.ownBlock = some g → w.heap.size ≤ g

theorem Bld.refl {e : TypeId} {sz base : Nat} {w : World} {v : Value} {n : Nat} {xs : List Value} (h : w.ownsRow base e sz v n xs) : Bld e sz base w w v v n xs := ⟨h, Only.refl _ _, .inl rfl⟩

theorem Bld.trans {e : TypeId} {sz base : Nat} {a b c : World} {v v1 v2 : Value} {n n2 : Nat} {xs xs2 : List Value} (h : Bld e sz base a b v v1 n xs) (k : Bld e sz base b c v1 v2 n2 xs2) : Bld e sz base a c v v2 n2 xs2 := by
  refine ⟨k.own, h.only.trans k.only ?_, ?_⟩
  · intro x hx
    rcases h.lies with h1 | h1
    · rw [h1] at hx; exact .inl hx
    · exact .inr (h1 x (by simpa using hx))
  · rcases k.lies with h1 | h1
    · rw [h1]; exact h.lies
    · exact .inr (fun g hg => Nat.le_trans h.only.size (h1 g hg))

/-- A literal was laid first. -/
theorem Bld.alloced {e : TypeId} {sz base : Nat} {w w' : World} {o : Obj} {v v' : Value} {n : Nat} {xs : List Value} (h : Bld e sz base (w.alloc o) w' v v' n xs) : Bld e sz base w w' v v' n xs := by
  refine ⟨h.own, ((Only.refl _ w).alloc o).then h.only, ?_⟩
  rcases h.lies with h1 | h1
  · exact .inl h1
  · refine .inr (fun g hg => ?_)
    have := h1 g hg
    simp at this
    omega

theorem Bld.drewn {e : TypeId} {sz base : Nat} {w w' : World} {q : Nat} {v v' : Value} {n : Nat} {xs : List Value} (h : Bld e sz base (w.drewN q) w' v v' n xs) : Bld e sz base w w' v v' n xs :=
  ⟨h.own, ((Only.refl _ w).drewN q).then h.only, h.lies⟩

theorem Bld.drewd {e : TypeId} {sz base : Nat} {w w' : World} {v v' : Value} {n : Nat} {xs : List Value} (h : Bld e sz base w.drew w' v v' n xs) : Bld e sz base w w' v v' n xs :=
  ⟨h.own, ((Only.refl _ w).drew).then h.only, h.lies⟩

/-- Other memory is as it was, whatever block it is. -/
theorem Bld.keepOnly {e : TypeId} {sz base : Nat} {w w' : World} {v v' : Value} {n : Nat} {xs : List Value} (h : Bld e sz base w w' v v' n xs) (hb : ∀ g, v.ownBlock = some g → base ≤ g) {W : World} (hW : Only [] W w) (hB : W.heap.size ≤ base) : Only [] W w' :=
  hW.trans h.only (fun x hx => .inr (Nat.le_trans hB (hb x (by simpa using hx))))

theorem own_ge {w : World} {base : Nat} {e : TypeId} {sz : Nat} {v : Value} {n : Nat} {xs : List Value} (h : w.ownsRow base e sz v n xs) : ∀ g, v.ownBlock = some g → base ≤ g := fun g hg => (h.lt g hg).1
theorem own_lt {w : World} {base : Nat} {e : TypeId} {sz : Nat} {v : Value} {n : Nat} {xs : List Value} (h : w.ownsRow base e sz v n xs) : ∀ g, v.ownBlock = some g → g < w.heap.size := fun g hg => (h.lt g hg).2

/-- The run of an append onto a slice of the call's own, of what a slice with an address has. -/
theorem run_app {P : Program} {w : World} {t e : TypeId} {size bytes : Nat} (E : El P t e size bytes) (ty : TypeId) {base : Nat} {v : Value} {n : Nat} {xs : List Value} (hown : w.ownsRow base e size v n xs)
    (ad : Addr) (m c : Nat) (news : List Value) (hl : news.length = m * size) (hnews : ∀ j u, news[j]? = some u → w.cell? (ad.add j) = some u) (h1 : ∀ u ∈ news, u.oneCell' = true)
    (hbytes : (n + m) * bytes ≤ 140737488355328) (hbase : base ≤ w.heap.size) :
    ∃ v' w', (Builtin.append_ #[t, t] ty #[v, .slice (some ad) m c]).run P w = .ok v' w' ∧ Bld e size base w w' v v' (n + m) (xs ++ news) := by
  obtain ⟨i, z, hi, hz, hsize, hby, hzs⟩ := E.inf
  have hb := E.bpos
  have h63 : n + m ≤ maxLen := by
    have : n + m ≤ (n + m) * bytes := Nat.le_mul_of_pos_right _ hb
    unfold maxLen
    omega
  obtain ⟨v', w', hr, ho, hg, _⟩ := run_append_own (P := P) w base t ty e i z size bytes E.sl hi hz hsize hby hzs E.pos v n xs hown ad m c news hl hnews h1 h63 hbytes hbase
  suffices key : w.drawn ≤ w'.drawn ∧ (v'.ownBlock = v.ownBlock ∨ ∀ g, v'.ownBlock = some g → w.heap.size ≤ g) from ⟨v', w', hr, ho, ⟨hg.os, ⟨hg.tape, key.1⟩, hg.output, hg.size, fun k hk hn => hg.block k hk (fun he => hn (by simp [← he]))⟩, key.2⟩
  subst hsize
  rcases hown.2 with ⟨rfl, rfl⟩ | ⟨g, cap, cur, rfl, hbg, hgg, hnc, hcm, hcs, htake⟩
  · by_cases hm : m = 0
    · subst hm
      have hx : xs = [] := List.eq_nil_of_length_eq_zero (by simpa using hown.1)
      subst hx
      have hn : news = [] := List.eq_nil_of_length_eq_zero (by simpa using hl)
      subst hn
      simp [Builtin.append_, run_underlying E.sl, sizeOf, typeInfo, hi, Builtin.lenOf, Builtin.firstCells, loadCells, loadCellsFrom] at hr
      exact ⟨Nat.le_of_eq (congrArg World.drawn hr.2), .inl (by rw [← hr.1])⟩
    · have hr2 := run_append_nil (P := P) w t ty e i z E.sl hi hz ad m c news hl hnews (by omega) (by unfold maxLen at h63; omega) (by rw [hby]; have hq := hbytes; simp only [Nat.zero_add] at hq; omega)
      rw [hr] at hr2
      simp only [Result.ok.injEq] at hr2
      refine ⟨by rw [hr2.2]; exact Nat.le_succ _, .inr (fun g hg => ?_)⟩
      rw [hr2.1] at hg
      simp [Value.ownBlock] at hg
      omega
  · by_cases hroom : n + m ≤ cap
    · have hfit : n * i.size + news.length ≤ cur.size := by rw [hl, hcs, ← Nat.add_mul]; exact Nat.mul_le_mul_right _ hroom
      have hr2 := run_append_room (P := P) w t ty e i E.sl hi g n cap cur hgg ad m c news hl hnews h1 hroom hfit
      rw [hr] at hr2
      simp only [Result.ok.injEq] at hr2
      exact ⟨by rw [hr2.2]; exact Nat.le_refl _, .inl (by rw [hr2.1]; rfl)⟩
    · have holds : ∀ j u, xs[j]? = some u → w.cell? ((⟨g, 0, none⟩ : Addr).add j) = some u := hown.cells (g := g) rfl
      have hr2 := run_append_grow (P := P) w t ty e i z E.sl hi hz ⟨g, 0, none⟩ n cap xs hown.1 holds ad m c news hl hnews (by omega) (by unfold maxLen at h63; omega) (growslice_fits (by omega) (by rw [hby]; exact hbytes))
      rw [hr] at hr2
      simp only [Result.ok.injEq] at hr2
      refine ⟨by rw [hr2.2]; exact Nat.le_succ _, .inr (fun g' hg' => ?_)⟩
      rw [hr2.1] at hg'
      simp [Value.ownBlock] at hg'
      omega

/-- An append onto a slice of the call's own, of a slice that can be read. -/
theorem wpList_app {P : Program} {w : World} {ops : Array Oper} {rest : List Oper} {o : Oper} {a : Act} {Q : Exit → Act → World → Prop} {t e : TypeId} {size bytes : Nat} (E : El P t e size bytes) (hgd : o.guard = none) (s x : Operand)
    (ho : o.op = .call { callee := .builtin .append, args := #[s, x], argTypes := #[t, t] })
    {base : Nat} {v y : Value} {n m : Nat} {xs news : List Value} (hs : a.eval s = v) (hx : a.eval x = y) (hown : w.ownsRow base e size v n xs) (hv : Vw w y size m news) (h1 : ∀ u ∈ news, u.oneCell' = true)
    (hbytes : (n + m) * bytes ≤ 140737488355328) (hbase : base ≤ w.heap.size)
    (h : ∀ v' w', Bld e size base w w' v v' (n + m) (xs ++ news) → wpList P ops Q rest (a.put o.dst v') w') : wpList P ops Q (o :: rest) a w := by
  obtain ⟨ad, cap, rfl, hl, hnc, hcm, hnn, hvv⟩ := hv
  cases ad with
  | none =>
    obtain ⟨rfl, rfl⟩ := hnn rfl
    have hn : news = [] := List.eq_nil_of_length_eq_zero (by simpa using hl)
    subst hn
    obtain ⟨i, z, hi, _⟩ := E.inf
    refine wpList_append_own_none hgd s x t ho base e i size E.sl hi v n xs hs hown hx ?_
    exact h v w (by simpa using Bld.refl hown)
  | some ad =>
    have hcells : ∀ j u, news[j]? = some u → w.cell? (ad.add j) = some u := by
      intro j u hu
      obtain ⟨b, off, he, hc⟩ := hvv (by rintro rfl; simp at hu)
      cases he
      rw [addr_add_plain]
      exact hc j u hu
    obtain ⟨v', w', hr, hb⟩ := run_app E o.type hown ad m cap news hl hcells h1 hbytes hbase
    refine wpList_plain hgd fun K hK => ?_
    unfold Oper.wp execOp
    simp only [ho, resolve, invoke, builtin, Sem.run_bind, Sem.run_pure, Result.andThen_ok, List.map_toArray, List.map_cons, List.map_nil, hs, hx, hr]
    exact hK _ _ (h v' w' hb)

/-- The same at a step of a region that draws its order. -/
theorem step_app {P : Program} {w : World} {ops : Array Oper} {o : Oper} {a : Act} {K : Act → World → Prop} {Q : Exit → Act → World → Prop} {X : Prop} {t e : TypeId} {size bytes : Nat} (E : El P t e size bytes) (hgd : o.guard = none) (s x : Operand)
    (ho : o.op = .call { callee := .builtin .append, args := #[s, x], argTypes := #[t, t] })
    {base : Nat} {v y : Value} {n m : Nat} {xs news : List Value} (hs : a.eval s = v) (hx : a.eval x = y) (hown : w.ownsRow base e size v n xs) (hv : Vw w y size m news) (h1 : ∀ u ∈ news, u.oneCell' = true)
    (hbytes : (n + m) * bytes ≤ 140737488355328) (hbase : base ≤ w.heap.size)
    (h : ∀ v' w', Bld e size base w w' v v' (n + m) (xs ++ news) → K (a.put o.dst v') w') :
    if Region.wanted o (yielded ops a.tmps) = true then Oper.wp P o a w K Q else X := by
  have hw : Region.wanted o (yielded ops a.tmps) = true := by simp [Region.wanted, hgd]
  rw [if_pos hw]
  obtain ⟨ad, cap, rfl, hl, hnc, hcm, hnn, hvv⟩ := hv
  cases ad with
  | none =>
    obtain ⟨rfl, rfl⟩ := hnn rfl
    have hn : news = [] := List.eq_nil_of_length_eq_zero (by simpa using hl)
    subst hn
    obtain ⟨i, z, hi, _⟩ := E.inf
    have hrun := run_append_owned_none (P := P) (w := w) base t o.type e i size E.sl hi v n xs hown
    unfold Oper.wp execOp
    simp only [ho, resolve, invoke, builtin, Sem.run_bind, Sem.run_pure, Result.andThen_ok, List.map_toArray, List.map_cons, List.map_nil, hs, hx, hrun]
    exact h v w (by simpa using Bld.refl hown)
  | some ad =>
    have hcells : ∀ j u, news[j]? = some u → w.cell? (ad.add j) = some u := by
      intro j u hu
      obtain ⟨b, off, he, hc⟩ := hvv (by rintro rfl; simp at hu)
      cases he
      rw [addr_add_plain]
      exact hc j u hu
    obtain ⟨v', w', hr, hb⟩ := run_app E o.type hown ad m cap news hl hcells h1 hbytes hbase
    unfold Oper.wp execOp
    simp only [ho, resolve, invoke, builtin, Sem.run_bind, Sem.run_pure, Result.andThen_ok, List.map_toArray, List.map_cons, List.map_nil, hs, hx, hr]
    exact h v' w' hb

/-- A function that appends to a slice of the call's own and hands it back. -/
def RetBld (e : TypeId) (sz base : Nat) (w : World) (v : Value) (n : Nat) (xs : List Value) (r : Ending) (w' : World) : Prop := ∃ v', r = .returned v' ∧ Bld e sz base w w' v v' n xs

theorem wraps_i64 (n : Int) (h₀ : 0 ≤ n) (h₁ : n < 2 ^ 62) : IntKind.i64.wrap n = n := IntWalk.i64_in n (by omega)
theorem wraps_u32 (n : Int) (h₀ : 0 ≤ n) (h₁ : n < 2 ^ 32) : IntKind.u32.wrap n = n := by
  have : IntKind.u32.wrap n = n % 4294967296 := rfl
  omega
/-- x or y, where x lies wholly below y's lowest bit. -/
theorem or_low (i : Nat) (x y : Int) (hx0 : 0 ≤ x) (hx : x < 2 ^ i) (hy0 : 0 ≤ y) (hy : y % 2 ^ i = 0) (hx1 : x < 2 ^ 62) (hy1 : y < 2 ^ 62) : bits .or .i64 x y = x + y := by
  have h := bits_join .i64 62 (by decide) wraps_i64 i y x hy0 hy hy1 hx0 hx hx1
  obtain ⟨a, rfl⟩ := Int.eq_ofNat_of_zero_le hx0
  obtain ⟨b, rfl⟩ := Int.eq_ofNat_of_zero_le hy0
  rw [(bits_nat .i64 62 (by decide) wraps_i64 b a (by exact_mod_cast hy1) (by exact_mod_cast hx1)).2, Nat.or_comm] at h
  rw [(bits_nat .i64 62 (by decide) wraps_i64 a b (by exact_mod_cast hx1) (by exact_mod_cast hy1)).2, h]
  omega
/-- x or y, where y lies wholly below x's lowest bit. -/
theorem or_high (i : Nat) (x y : Int) (hx0 : 0 ≤ x) (hx : x % 2 ^ i = 0) (hy0 : 0 ≤ y) (hy : y < 2 ^ i) (hx1 : x < 2 ^ 62) (hy1 : y < 2 ^ 62) : bits .or .i64 x y = x + y :=
  bits_join .i64 62 (by decide) wraps_i64 i x y hx0 hx hx1 hy0 hy hy1
theorem or_high32 (i : Nat) (x y : Int) (hx0 : 0 ≤ x) (hx : x % 2 ^ i = 0) (hy0 : 0 ≤ y) (hy : y < 2 ^ i) (hx1 : x < 2 ^ 32) (hy1 : y < 2 ^ 32) : bits .or .u32 x y = x + y :=
  bits_join .u32 32 (by decide) wraps_u32 i x y hx0 hx hx1 hy0 hy hy1
theorem and_mask (i : Nat) (hi : i ≤ 62) (x : Int) (h0 : 0 ≤ x) (h1 : x < 2 ^ 62) : bits .and .i64 x (2 ^ i - 1) = x % 2 ^ i :=
  bits_mask .i64 62 (by decide) wraps_i64 i hi x h0 h1

/-! Bytes: numbers of kind u8. -/
def bys (l : List Int) : List Value := l.map (Value.int .u8)
theorem bys_append (l m : List Int) : bys (l ++ m) = bys l ++ bys m := List.map_append
theorem bys_length (l : List Int) : (bys l).length = l.length := List.length_map _
theorem bys_one (l : List Int) : ∀ u ∈ bys l, u.oneCell' = true := by
  intro u hu
  obtain ⟨_, _, rfl⟩ := List.mem_map.1 hu
  rfl
def Byte (l : List Int) : Prop := ∀ n ∈ l, 0 ≤ n ∧ n < 256

theorem Byte.append {l m : List Int} (hl : Byte l) (hm : Byte m) : Byte (l ++ m) := by
  intro n hn
  rcases List.mem_append.1 hn with h | h
  · exact hl n h
  · exact hm n h

theorem strOfNums_inj {l m : List Int} (hl : Byte l) (hm : Byte m) : strOfNums l = strOfNums m ↔ l = m := by
  constructor
  · intro h
    have h2 : (strOfNums l).data.toList = (strOfNums m).data.toList := by rw [h]
    rw [strOfNums_data, strOfNums_data] at h2
    have back : ∀ k : List Int, Byte k → (k.map fun n => UInt8.ofNat n.toNat).map (fun u => ((u.toNat : Nat) : Int)) = k := by
      intro k hk
      rw [List.map_map]
      refine (List.map_congr_left (g := id) fun n hn => ?_).trans (List.map_id k)
      have := hk n hn
      simp [UInt8.toNat_ofNat]
      omega
    rw [← back l hl, h2, back m hm]
  · rintro rfl; rfl

/-- string(b) of a slice of bytes that can be read. -/
theorem run_string {P : Program} {w : World} {src e dst : TypeId} {v : Value} {n : Nat} {l : List Int} (hs : P.underlying src = some (.slice e)) (he : P.underlying e = some (.int .u8)) (hd : P.underlying dst = some .string)
    (h : Vw w v 1 n (bys l)) : (convert src dst v).run P w = .ok (.string (strOfNums l)) w := by
  obtain ⟨ad, cap, rfl, hl, _, _, hnn, hv⟩ := h
  rw [bys_length, Nat.mul_one] at hl
  by_cases hne : bys l = []
  · have hl0 : l = [] := by simpa [bys] using hne
    subst hl0
    cases ad with
    | none => exact run_convert_bytes_nil w src e hs he _ _ dst hd
    | some a =>
      have hn : n = 0 := by simpa using hl.symm
      subst hn
      rw [run_convert_bytes_string w src dst e _ 0 cap hs he hd, run_bytesToString w a 0 cap [] (by simp [loadCells, loadCellsFrom])]
      rfl
  · obtain ⟨b, off, rfl, hc⟩ := hv hne
    refine run_convert_bytes_arg w src e hs he b off n cap l hl (fun i hi => ?_) dst hd
    refine hc i _ ?_
    simp [bys, List.getD, List.getElem?_eq_getElem (show i < l.length by omega)]

/-- A slice of bytes that can be read. -/
def VwB (w : World) (v : Value) (l : List Int) : Prop := Vw w v 1 l.length (bys l)
/-- A slice of bytes of the call's own, of element type e, in blocks from base on. -/
def OwnB (e : TypeId) (w : World) (base : Nat) (v : Value) (l : List Int) : Prop := w.ownsRow base e 1 v l.length (bys l)
def BldB (e : TypeId) (base : Nat) (w w' : World) (v v' : Value) (l : List Int) : Prop := Bld e 1 base w w' v v' l.length (bys l)
def RetB (e : TypeId) (base : Nat) (w : World) (v : Value) (l : List Int) (r : Ending) (w' : World) : Prop := ∃ v', r = .returned v' ∧ BldB e base w w' v v' l

theorem OwnB.vw {e : TypeId} {w : World} {base : Nat} {v : Value} {l : List Int} (h : OwnB e w base v l) : VwB w v l := own_vw h
theorem OwnB.ge {e : TypeId} {w : World} {base : Nat} {v : Value} {l : List Int} (h : OwnB e w base v l) : ∀ g, v.ownBlock = some g → base ≤ g := own_ge h
theorem OwnB.lt {e : TypeId} {w : World} {base : Nat} {v : Value} {l : List Int} (h : OwnB e w base v l) : ∀ g, v.ownBlock = some g → g < w.heap.size := own_lt h
theorem OwnB.keep {e : TypeId} {w w' : World} {bs : List Nat} {base : Nat} {v : Value} {l : List Int} (h : OwnB e w base v l) (ho : Only bs w w') (hb : ∀ b, v.ownBlock = some b → b ∉ bs) : OwnB e w' base v l := own_keep h ho hb
theorem OwnB.alloc {e : TypeId} {w : World} {base : Nat} {v : Value} {l : List Int} (h : OwnB e w base v l) (o : Obj) : OwnB e (w.alloc o) base v l := World.ownsRow.alloc h o
theorem OwnB.only {e : TypeId} {w w' : World} {base : Nat} {v : Value} {l : List Int} (h : OwnB e w base v l) (ho : Only [] w w') : OwnB e w' base v l := own_keep h ho (by simp)
theorem OwnB.nil (e : TypeId) (w : World) (base : Nat) : OwnB e w base (.slice none 0 0) [] := World.ownsRow_nil w base e 1
theorem OwnB.lit {e : TypeId} {w : World} {base : Nat} (l : List Int) (cs : Array Value) (n : Nat) (hc : cs = (bys l).toArray) (hn : n = l.length) (hb : base ≤ w.heap.size) (hm : n ≤ maxLen) :
    OwnB e (w.alloc (.cells cs e)) base (.slice (some ⟨w.heap.size, 0, none⟩) n n) l := by
  subst hc hn
  have := own_lit (e := e) (base := base) (w := w) (sz := 1) (bys l).toArray l.length hb hm (by simp [bys_length])
  simpa [OwnB] using this
theorem VwB.lit {w : World} {e : TypeId} (l : List Int) (cs : Array Value) (n : Nat) (hc : cs = (bys l).toArray) (hn : n = l.length) (hm : n ≤ maxLen) :
    VwB (w.alloc (.cells cs e)) (.slice (some ⟨w.heap.size, 0, none⟩) n n) l := (OwnB.lit l cs n hc hn (Nat.zero_le _) hm).vw
theorem VwB.litAt {w : World} {e : TypeId} (l : List Int) {cs : Array Value} {n g : Nat} (hc : cs = (bys l).toArray) (hn : n = l.length) (hm : n ≤ maxLen) (hg : g = w.heap.size) :
    VwB (w.alloc (.cells cs e)) (.slice (some ⟨g, 0, none⟩) n n) l := by subst hg; exact VwB.lit l cs n hc hn hm
theorem OwnB.litAt {e : TypeId} {w : World} {base : Nat} (l : List Int) {cs : Array Value} {n g : Nat} (hc : cs = (bys l).toArray) (hn : n = l.length) (hb : base ≤ w.heap.size) (hm : n ≤ maxLen) (hg : g = w.heap.size) :
    OwnB e (w.alloc (.cells cs e)) base (.slice (some ⟨g, 0, none⟩) n n) l := by subst hg; exact OwnB.lit l cs n hc hn hb hm
theorem VwB.nil (w : World) : VwB w (.slice none 0 0) [] := Vw.nil w 1
theorem VwB.keep {w w' : World} {bs : List Nat} {v : Value} {l : List Int} (h : VwB w v l) (ho : Only bs w w') (hb : ∀ b, v.ownBlock = some b → b ∉ bs) : VwB w' v l := Vw.keep h ho hb
theorem VwB.only {w w' : World} {v : Value} {l : List Int} (h : VwB w v l) (ho : Only [] w w') : VwB w' v l := Vw.only h ho

theorem OwnB.drew {e : TypeId} {w : World} {base : Nat} {v : Value} {l : List Int} (h : OwnB e w base v l) : OwnB e w.drew base v l := h
theorem OwnB.drewN {e : TypeId} {w : World} {base : Nat} {v : Value} {l : List Int} (h : OwnB e w base v l) (n : Nat) : OwnB e (w.drewN n) base v l := h
theorem VwB.drew {w : World} {v : Value} {l : List Int} (h : VwB w v l) : VwB w.drew v l := h
theorem VwB.drewN {w : World} {v : Value} {l : List Int} (h : VwB w v l) (n : Nat) : VwB (w.drewN n) v l := h
theorem BldB.own {e : TypeId} {base : Nat} {w w' : World} {v v' : Value} {l : List Int} (h : BldB e base w w' v v' l) : OwnB e w' base v' l := Bld.own h
theorem BldB.only {e : TypeId} {base : Nat} {w w' : World} {v v' : Value} {l : List Int} (h : BldB e base w w' v v' l) : Only v.ownBlock.toList w w' := Bld.only h
theorem BldB.lies {e : TypeId} {base : Nat} {w w' : World} {v v' : Value} {l : List Int} (h : BldB e base w w' v v' l) : v'.ownBlock = v.ownBlock ∨ ∀ g, v'.ownBlock = some g → w.heap.size ≤ g := Bld.lies h
theorem BldB.refl {e : TypeId} {base : Nat} {w : World} {v : Value} {l : List Int} (h : OwnB e w base v l) : BldB e base w w v v l := Bld.refl h
theorem BldB.trans {e : TypeId} {base : Nat} {a b c : World} {v v1 v2 : Value} {l m : List Int} (h : BldB e base a b v v1 l) (k : BldB e base b c v1 v2 m) : BldB e base a c v v2 m := Bld.trans h k
theorem BldB.alloced {e : TypeId} {base : Nat} {w w' : World} {o : Obj} {v v' : Value} {l : List Int} (h : BldB e base (w.alloc o) w' v v' l) : BldB e base w w' v v' l := Bld.alloced h
theorem BldB.drewn {e : TypeId} {base : Nat} {w w' : World} {q : Nat} {v v' : Value} {l : List Int} (h : BldB e base (w.drewN q) w' v v' l) : BldB e base w w' v v' l := Bld.drewn h
theorem BldB.drewd {e : TypeId} {base : Nat} {w w' : World} {v v' : Value} {l : List Int} (h : BldB e base w.drew w' v v' l) : BldB e base w w' v v' l := Bld.drewd h
/-- Behind an append, seen from an elder world W of which nothing has changed: still nothing has, where the slice was made behind W. -/
theorem BldB.since {e : TypeId} {base : Nat} {W w w' : World} {v v' : Value} {l k : List Int} (h : BldB e base w w' v v' l) (ho : OwnB e w base v k) (hW : Only [] W w) (hB : W.heap.size ≤ base) : Only [] W w' :=
  hW.trans h.only (fun x hx => .inr (Nat.le_trans hB (ho.ge x (by simpa using hx))))

/-- A function that hands back a new slice of bytes and leaves all else alone. -/
def FreshB (e : TypeId) (W : World) (l : List Int) (r : Ending) (w' : World) : Prop := ∃ v, r = .returned v ∧ OwnB e w' W.heap.size v l ∧ Only [] W w'

theorem wpList_appB {P : Program} {w : World} {ops : Array Oper} {rest : List Oper} {o : Oper} {a : Act} {Q : Exit → Act → World → Prop} {t e : TypeId} (E : El P t e 1 1) (hgd : o.guard = none) (s x : Operand)
    (ho : o.op = .call { callee := .builtin .append, args := #[s, x], argTypes := #[t, t] })
    {base : Nat} {v y : Value} {l m : List Int} (hs : a.eval s = v) (hx : a.eval x = y) (hown : OwnB e w base v l) (hv : VwB w y m)
    (hbytes : l.length + m.length ≤ 140737488355328) (hbase : base ≤ w.heap.size)
    (h : ∀ v' w', BldB e base w w' v v' (l ++ m) → wpList P ops Q rest (a.put o.dst v') w') : wpList P ops Q (o :: rest) a w :=
  wpList_app E hgd s x ho hs hx hown hv (bys_one m) (by omega) hbase (fun v' w' hb => h v' w' (by unfold BldB; rw [bys_append, List.length_append]; exact hb))

theorem step_appB {P : Program} {w : World} {ops : Array Oper} {o : Oper} {a : Act} {K : Act → World → Prop} {Q : Exit → Act → World → Prop} {X : Prop} {t e : TypeId} (E : El P t e 1 1) (hgd : o.guard = none) (s x : Operand)
    (ho : o.op = .call { callee := .builtin .append, args := #[s, x], argTypes := #[t, t] })
    {base : Nat} {v y : Value} {l m : List Int} (hs : a.eval s = v) (hx : a.eval x = y) (hown : OwnB e w base v l) (hv : VwB w y m)
    (hbytes : l.length + m.length ≤ 140737488355328) (hbase : base ≤ w.heap.size)
    (h : ∀ v' w', BldB e base w w' v v' (l ++ m) → K (a.put o.dst v') w') :
    if Region.wanted o (yielded ops a.tmps) = true then Oper.wp P o a w K Q else X :=
  step_app E hgd s x ho hs hx hown hv (bys_one m) (by omega) hbase (fun v' w' hb => h v' w' (by unfold BldB; rw [bys_append, List.length_append]; exact hb))

end Go.Pm
