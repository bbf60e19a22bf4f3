/-
  Orders, and one taken away: plain laws.
-/
import Derived.Test.YtgocmihmgnllcaaB13
import Derived.Test.YtgocmihmgnllcaaJn
namespace Go.Proofs.Ytgocmihmgnllcaa
set_option linter.unusedSimpArgs false
set_option linter.unusedVariables false
open Go.RowKit Go.Pm




/-- The first k are numbered. -/
def numL (k : Nat) (ds : List Cd) : List Cd := ds.zipIdx.map fun p => if p.2 < k then { p.1 with peer := (p.2 : Int) + 1 } else p.1
theorem numL_len (k : Nat) (ds : List Cd) : (numL k ds).length = ds.length := by simp [numL]
theorem numL_get (k : Nat) (ds : List Cd) (i : Nat) : (numL k ds)[i]? = (ds[i]?).map fun d => if i < k then { d with peer := (i : Int) + 1 } else d := by
  simp only [numL, List.getElem?_map, List.getElem?_zipIdx]
  cases ds[i]? <;> simp
theorem numL_0 (ds : List Cd) : numL 0 ds = ds := by
  apply List.ext_getElem?
  intro i
  rw [numL_get]
  cases ds[i]? <;> rfl
theorem numL_set {k : Nat} {ds : List Cd} {x : Cd} (h : (numL k ds)[k]? = some x) : (numL k ds).set k { x with peer := (k : Int) + 1 } = numL (k + 1) ds := by
  apply List.ext_getElem?
  intro i
  rw [List.getElem?_set, numL_get, numL_get, numL_len]
  rw [numL_get] at h
  by_cases hi : k = i
  · subst hi
    cases hd : ds[k]? with
    | none => rw [hd] at h; cases h
    | some d =>
      rw [hd] at h
      simp only [Option.map_some, Nat.lt_irrefl, if_false, Option.some.injEq] at h
      subst h
      have := (List.getElem?_eq_some_iff.1 hd).1
      simp [this]
  · rw [if_neg hi]
    congr 1
    funext d
    by_cases h1 : i < k
    · rw [if_pos h1, if_pos (by omega)]
    · rw [if_neg h1, if_neg (by omega)]
theorem numL_mem {k : Nat} {ds : List Cd} {x : Cd} (h : x ∈ numL k ds) : ∃ d ∈ ds, ∃ p : Int, x = { d with peer := p } ∧ (p = d.peer ∨ 0 ≤ p ∧ p ≤ ds.length) := by
  obtain ⟨i, hi⟩ := List.mem_iff_getElem?.1 h
  rw [numL_get] at hi
  cases hd : ds[i]? with
  | none => rw [hd] at hi; cases hi
  | some d =>
    rw [hd] at hi
    simp only [Option.map_some, Option.some.injEq] at hi
    subst hi
    have := (List.getElem?_eq_some_iff.1 hd).1
    refine ⟨d, List.mem_of_getElem? hd, if i < k then (i : Int) + 1 else d.peer, ?_, ?_⟩
    · by_cases h1 : i < k <;> simp [h1]
    · by_cases h1 : i < k
      · right
        rw [if_pos h1]
        omega
      · left
        rw [if_neg h1]
theorem numL_n {k : Nat} {ds : List Cd} (hl : ds.length ≤ 1000000) (h : ∀ d ∈ ds, CdN d) : ∀ x ∈ numL k ds, CdN x := by
  intro x hx
  obtain ⟨d, hd, p, rfl, hp⟩ := numL_mem hx
  have := h d hd
  refine ⟨?_, this.as_, this.id, this.addr, this.origin, this.med, this.loc⟩
  rcases hp with hp | hp
  · subst hp; exact this.peer
  · show I64 p
    unfold I64
    omega
theorem numL_v {k : Nat} {ds : List Cd} {w : World} (h : candsV ds w) : candsV (numL k ds) w := by
  intro x hx
  obtain ⟨d, hd, p, rfl, _⟩ := numL_mem hx
  exact h d hd
theorem candsV.sub {xs ys : List Cd} {w : World} (h : candsV ys w) (hs : ∀ x ∈ xs, x ∈ ys) : candsV xs w := fun x hx => h x (hs x hx)
theorem numL_peer {ds : List Cd} {i : Nat} {x : Cd} (h : (numL ds.length ds)[i]? = some x) : x.peer = i + 1 := by
  rw [numL_get] at h
  cases hd : ds[i]? with
  | none => rw [hd] at h; cases h
  | some d =>
    rw [hd] at h
    simp only [Option.map_some, Option.some.injEq] at h
    have := (List.getElem?_eq_some_iff.1 hd).1
    rw [if_pos this] at h
    subst h
    rfl

/-! Orders. -/
/-- The same candidates. -/
def SameC (es fs : List On) : Prop := ∀ c : Cd, (∃ o ∈ es, o.c = c) ↔ ∃ o ∈ fs, o.c = c
theorem beat_c {k : Int} (h : k ≠ 8) (hk : 1 ≤ k ∧ k ≤ 8) {x y o p : On} (hx : x.c = y.c) (ho : o.c = p.c) : beat k x o ↔ beat k y p := by
  unfold beat
  repeat' split
  all_goals first | (rw [hx, ho]; done) | (exfalso; omega)
theorem step_same {k : Int} (hk : 1 ≤ k ∧ k ≤ 7) {es fs : List On} (h : SameC es fs) : SameC (stepL k es) (stepL k fs) := by
  have half : ∀ {es fs : List On}, SameC es fs → ∀ c, (∃ o ∈ stepL k es, o.c = c) → ∃ o ∈ stepL k fs, o.c = c := by
    intro es fs h c ⟨o, ho, hc⟩
    obtain ⟨h1, h2⟩ := (mem_stepL _ _ _).1 ho
    obtain ⟨p, hp, hpc⟩ := (h c).1 ⟨o, h1, hc⟩
    refine ⟨p, (mem_stepL _ _ _).2 ⟨hp, fun y hy hb => ?_⟩, hpc⟩
    obtain ⟨x, hx, hxc⟩ := (h y.c).2 ⟨y, hy, rfl⟩
    exact h2 x hx ((beat_c (by omega) (by omega) hxc (hc.trans hpc.symm)).2 hb)
  exact fun c => ⟨half h c, half (fun c => (h c).symm) c⟩
theorem steps_same : ∀ (n : Nat) {es fs : List On}, n ≤ 7 → SameC es fs → SameC (stepsN n es) (stepsN n fs)
  | 0, _, _, _, h => h
  | n + 1, _, _, hn, h => step_same (by omega) (steps_same n (by omega) h)
theorem ones_same {cs ds : List Cd} (h : ∀ c, c ∈ cs ↔ c ∈ ds) : SameC (onesL cs) (onesL ds) := by
  have key : ∀ (cs : List Cd) (c : Cd), (∃ o ∈ onesL cs, o.c = c) ↔ c ∈ cs := by
    intro cs c
    constructor
    · rintro ⟨o, ho, rfl⟩
      exact (onesL_mem ho).1
    · intro hc
      obtain ⟨i, hi⟩ := List.mem_iff_getElem?.1 hc
      refine ⟨⟨c, i⟩, ?_, rfl⟩
      unfold onesL
      refine List.mem_map.2 ⟨(c, i), ?_, rfl⟩
      rw [List.mem_iff_getElem?]
      exact ⟨i, by rw [List.getElem?_zipIdx, hi]; simp⟩
  intro c
  rw [key, key, h]
theorem onesL_get {cs : List Cd} {o : On} (h : o ∈ onesL cs) : ∃ k : Nat, o.at_ = k ∧ cs[k]? = some o.c := by
  obtain ⟨p, hp, rfl⟩ := List.mem_map.1 h
  have := List.mem_zipIdx hp
  simp at this
  exact ⟨p.2, rfl, by rw [this.2, List.getElem?_eq_getElem this.1]⟩
/-- The one that is picked. -/
theorem pick_one {cs : List Cd} (h : cs ≠ []) : ∃ k : Nat, ∃ x, (leftL cs 8).head?.getD (-1) = k ∧ k < cs.length ∧ cs[k]? = some x ∧ ∃ o ∈ stepsN 7 (onesL cs), o.c = x := by
  have hs : leftL cs 8 = (stepsN 8 (onesL cs)).map On.at_ := rfl
  have h1 := stepsN_ne 8 _ (onesL_ne h)
  rw [hs]
  cases hq : stepsN 8 (onesL cs) with
  | nil => exact absurd hq h1
  | cons o r =>
    have ho : o ∈ stepsN 8 (onesL cs) := by rw [hq]; exact List.mem_cons_self ..
    obtain ⟨k, e1, e2⟩ := onesL_get (stepsN_sub 8 _ o ho)
    exact ⟨k, o.c, by simp [e1], (List.getElem?_eq_some_iff.1 e2).1, e2, o, stepL_sub _ _ o ho, rfl⟩
theorem peer7 {es : List On} {o x : On} (ho : o ∈ stepsN 7 es) (hx : x ∈ stepsN 7 es) : o.c.peer = x.c.peer := by
  have h4 : stepsN 7 es = stepL (7 : Nat) (stepsN 6 es) := rfl
  rw [h4] at ho hx
  have a1 := ((mem_stepL _ _ _).1 ho).2 x ((mem_stepL _ _ _).1 hx).1
  have a2 := ((mem_stepL _ _ _).1 hx).2 o ((mem_stepL _ _ _).1 ho).1
  simp [beat] at a1 a2
  omega
theorem pick_same {cs ds : List Cd} (h : ∀ c, c ∈ cs ↔ c ∈ ds) {o x : On} (ho : o ∈ stepsN 7 (onesL cs)) (hx : x ∈ stepsN 7 (onesL ds)) : o.c.peer = x.c.peer := by
  obtain ⟨y, hy, e⟩ := (steps_same 7 (by omega) (ones_same h) x.c).2 ⟨x, hx, rfl⟩
  rw [← e]
  exact peer7 ho hy
/-- Two orders of the same candidates: who is picked is told by the same peer. -/
theorem pick_peers {cs ds : List Cd} (hne : cs ≠ []) (h : ∀ c, c ∈ cs ↔ c ∈ ds) : ∃ (k j : Nat) (x y : Cd), (leftL cs 8).head?.getD (-1) = k ∧ (leftL ds 8).head?.getD (-1) = j ∧ cs[k]? = some x ∧ ds[j]? = some y ∧ x.peer = y.peer := by
  have hne2 : ds ≠ [] := by
    rintro rfl
    cases cs with
    | nil => exact hne rfl
    | cons c _ => exact absurd ((h c).1 (List.mem_cons_self ..)) List.not_mem_nil
  obtain ⟨k, x, e1, _, e2, o, ho, rfl⟩ := pick_one hne
  obtain ⟨j, y, f1, _, f2, p, hp, rfl⟩ := pick_one hne2
  exact ⟨k, j, o.c, p.c, e1, f1, e2, f2, pick_same h ho hp⟩
end Go.Proofs.Ytgocmihmgnllcaa
