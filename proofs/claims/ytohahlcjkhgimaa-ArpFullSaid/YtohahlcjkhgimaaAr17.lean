/-
  A cache that learns more and more: the last thirty-two.
-/
import Derived.Test.YtohahlcjkhgimaaAr10
namespace Go.Proofs.Ytohahlcjkhgimaa
set_option linter.unusedSimpArgs false
set_option linter.unusedVariables false
set_option maxRecDepth 20000
set_option maxHeartbeats 4000000
open Go.RowKit Go.Pm Go.Sort

theorem among_s (x : Int) (n : Nat) (h1 : 1 ≤ n) (h2 : n ≤ 1000000) (hx : I64 x) : Pact Try.prog 12 #[.int .i64 x, .int .i64 n] (fun _ => True) [] (fun v L' => ∃ k : Nat, v = .int .i64 k ∧ k < n ∧ L' = []) := by
  refine pact Try.func12 rfl Try.ntmps12 rfl ?_
  intro W K _
  unfold I64 at hx
  (repeat' (first | ((with_reducible apply gJ); (first | refine J_seq ?_ | refine J_reg ?_ | refine J_skip ?_ | refine J_block ?_ | refine J_blk ?_ | refine J_exit rfl ?_ | refine J_goto rfl ?_ | ((with_reducible apply gJ_if); (first | refine J_ift rfl ?_ | refine J_iff rfl ?_ | (refine J_if xR ?_ ?_ <;> intro _ <;> (try (exfalso; first | contradiction | omega))) | (refine J_ifb xR ?_ ?_ <;> (intro hgb; subst hgb)) | (refine J_ifb xR ?_ ?_ <;> intro _) | fail)) | refine J_label ?_ | fail)) | ((with_reducible apply gL); (first | refine JL_nil ?_ | refine L_move ?_ | refine L_assign ?_ | refine L_bin_lss ?_ | refine L_bin_rem ?_ | refine L_convert_i64 ?_ | refine L_convert_u64 ?_ | refine L_convert_r ?_ | fail)) | fail))
  have h3 : 0 ≤ x % 18446744073709551616 % (n : Int) := Int.emod_nonneg _ (by omega)
  have h4 : x % 18446744073709551616 % (n : Int) < n := Int.emod_lt_of_pos _ (by omega)
  refine J_ret1 rfl (by rfl) fun w H => ⟨_, ⟨(x % 18446744073709551616 % (n : Int)).toNat, ?_, by omega, rfl⟩, H.sel .nil⟩
  rw [w_i64 (by omega) (by omega), Int.toNat_of_nonneg h3]
/-- The one that is least stands first. -/
theorem least_eq {es : Kl} {a : Int} (ha : a ∈ es.map (·.1)) (h : ∀ b ∈ es.map (·.1), b ≠ a → Go.Proofs.ltOf (cmpF es) a b = true) : least es = a := by
  unfold least
  have hm : a ∈ srt es (es.map (·.1)) := srt_mem.2 ha
  have tr : ∀ a b c : Int, (!(Go.Proofs.ltOf (cmpF es)) b a) = true → (!(Go.Proofs.ltOf (cmpF es)) c b) = true → (!(Go.Proofs.ltOf (cmpF es)) c a) = true := fun a b c h1 h2 => by
    simp only [Bool.not_eq_true'] at *
    exact (swoF es).ntrans c b a h2 h1
  have to : ∀ a b : Int, ((!(Go.Proofs.ltOf (cmpF es)) b a) || (!(Go.Proofs.ltOf (cmpF es)) a b)) = true := fun a b => by
    rw [ltF, ltF]
    simp only [Bool.or_eq_true, Bool.not_eq_true', decide_eq_false_iff_not]
    omega
  have hp := List.pairwise_mergeSort tr to (es.map (·.1))
  have hmm : ∀ x, x ∈ srt es (es.map (·.1)) → x ∈ es.map (·.1) := fun x => srt_mem.1
  unfold srt at hm hmm ⊢
  generalize (es.map (·.1)).mergeSort (fun x y => !(Go.Proofs.ltOf (cmpF es)) y x) = l at hp hm hmm ⊢
  rcases l with _ | ⟨x, l⟩
  · cases hm
  · show x = a
    by_cases hx : x = a
    · exact hx
    · rcases List.mem_cons.1 hm with e | e
      · exact e.symm
      · have h1 := (List.pairwise_cons.1 hp).1 a e
        rw [h x (hmm x (List.mem_cons_self ..)) hx] at h1
        cases h1
def ent (s i : Nat) : Int × Kw := (100 + (i : Int), (⟨2, i, 0, 0, 0, 0⟩, (i : Int) * s + 1000))
def esK (s k : Nat) : Kl := (List.range' (k - 32) (min k 32)).map (ent s)
def stK (s k : Nat) : Ca := ⟨1000, 5, ((k - 1 : Nat) : Int) * s, esK s k, [], []⟩
theorem mul_le (i s : Nat) (hi : i ≤ 50) (hs : s ≤ 2) : 0 ≤ (i : Int) * s ∧ (i : Int) * s ≤ 100 := by
  obtain rfl | rfl | rfl : s = 0 ∨ s = 1 ∨ s = 2 := by omega
  all_goals omega
theorem esK_mem {s k : Nat} {p : Int × Kw} (hp : p ∈ esK s k) : ∃ i, i < k ∧ k ≤ i + 32 ∧ p = ent s i := by
  obtain ⟨i, hi, rfl⟩ := List.mem_map.1 hp
  rw [List.mem_range'_1] at hi
  exact ⟨i, by omega, by omega, rfl⟩
theorem esK_ko (s k : Nat) : Ko (esK s k) := by
  unfold Ko esK
  rw [List.map_map]
  refine List.pairwise_map.2 (List.Pairwise.imp ?_ (List.nodup_range' (step := 1)))
  intro i j hij h
  have : (100 + (i : Int)) = 100 + (j : Int) := h
  omega
theorem esK_len (s k : Nat) : (esK s k).length = min k 32 := by simp [esK]
theorem esK_in {s k i : Nat} (h1 : i < k) (h2 : k ≤ i + 32) : ent s i ∈ esK s k := List.mem_map.2 ⟨i, by rw [List.mem_range'_1]; omega, rfl⟩
theorem esK_get {s k i : Nat} (h1 : i < k) (h2 : k ≤ i + 32) : getO (esK s k) (100 + (i : Int)) = some (⟨2, i, 0, 0, 0, 0⟩, (i : Int) * s + 1000) := (esK_ko s k).get (esK_in h1 h2)
theorem esK_not {s k i : Nat} (h : ¬ (i < k ∧ k ≤ i + 32)) : (100 + (i : Int)) ∉ (esK s k).map (·.1) := fun hm => by
  obtain ⟨p, hp, e⟩ := List.mem_map.1 hm
  obtain ⟨j, h1, h2, rfl⟩ := esK_mem hp
  have : (100 + (j : Int)) = 100 + (i : Int) := e
  omega
theorem esK_least {s k : Nat} (hk : 32 ≤ k) (hk2 : k ≤ 50) (hs : s ≤ 2) : least (esK s k) = 100 + ((k - 32 : Nat) : Int) := by
  refine least_eq (List.mem_map.2 ⟨_, esK_in (i := k - 32) (by omega) (by omega), rfl⟩) ?_
  intro b hb hne
  obtain ⟨p, hp, rfl⟩ := List.mem_map.1 hb
  obtain ⟨j, h1, h2, rfl⟩ := esK_mem hp
  have e1 : unt (esK s k) (100 + ((k - 32 : Nat) : Int)) = ((k - 32 : Nat) : Int) * s + 1000 := by unfold unt; rw [esK_get (by omega) (by omega)]
  have e2 : unt (esK s k) (ent s j).1 = (j : Int) * s + 1000 := by show unt _ (100 + (j : Int)) = _; unfold unt; rw [esK_get h1 h2]
  have hne2 : (100 + (j : Int)) ≠ 100 + ((k - 32 : Nat) : Int) := hne
  rw [ltF, e1, e2]
  refine decide_eq_true ?_
  show _ ∨ (_ ∧ 100 + ((k - 32 : Nat) : Int) < 100 + (j : Int))
  obtain rfl | rfl | rfl : s = 0 ∨ s = 1 ∨ s = 2 := by omega
  all_goals omega
theorem esK_del {s k : Nat} (hk : 32 ≤ k) : del (esK s k) (100 + ((k - 32 : Nat) : Int)) = (List.range' (k - 31) 31).map (ent s) := by
  have e1 : esK s k = ent s (k - 32) :: (List.range' (k - 31) 31).map (ent s) := by
    unfold esK
    have : min k 32 = 31 + 1 := by omega
    rw [this, List.range'_succ, List.map_cons]
    have : k - 32 + 1 = k - 31 := by omega
    rw [this]
  rw [e1]
  unfold del
  rw [List.filter_cons]
  rw [if_neg (by simp [ent])]
  refine List.filter_eq_self.2 fun p hp => ?_
  obtain ⟨i, hi, rfl⟩ := List.mem_map.1 hp
  rw [List.mem_range'_1] at hi
  refine decide_eq_true ?_
  show (100 + (i : Int)) ≠ _
  omega
theorem learnK {s k : Nat} (hk : k < 50) (hs : s ≤ 2) : learnC (stK s k) ((k : Int) * s) (100 + (k : Int)) ⟨2, k, 0, 0, 0, 0⟩ = stK s (k + 1) := by
  have h1 : live (esK s k) ((k : Int) * s) = esK s k := List.filter_eq_self.2 fun p hp => by
    obtain ⟨i, _, _, rfl⟩ := esK_mem hp
    have := mul_le k s (by omega) hs
    have := mul_le i s (by omega) hs
    refine decide_eq_true ?_
    show _ ≤ (i : Int) * s + 1000
    omega
  have h2 : del (esK s k) (100 + (k : Int)) = esK s k := del_none (esK_not (by omega))
  unfold learnC
  show (⟨1000, 5, (k : Int) * s, fit (del (live (esK s k) ((k : Int) * s)) (100 + (k : Int))) ++ [ent s k], [], []⟩ : Ca) = _
  rw [h1, h2]
  have h3 : fit (esK s k) ++ [ent s k] = esK s (k + 1) := by
    unfold fit
    rw [esK_len]
    split
    · rename_i h
      rw [esK_least (by omega) (by omega) hs, esK_del (by omega)]
      unfold esK
      have e1 : min (k + 1) 32 = 31 + 1 := by omega
      have e2 : k + 1 - 32 = k - 31 := by omega
      have e3 : k - 31 + 1 * 31 = k := by omega
      have e4 : List.range' (k - 31) (31 + 1) = List.range' (k - 31) 31 ++ [k] := by rw [List.range'_concat (n := 31), e3]
      rw [e1, e2, e4, List.map_append]
      rfl
    · rename_i h
      unfold esK
      have e1 : min (k + 1) 32 = k + 1 := by omega
      have e2 : k + 1 - 32 = 0 := by omega
      have e3 : min k 32 = k := by omega
      have e4 : k - 32 = 0 := by omega
      have e5 : 0 + 1 * k = k := by omega
      have e6 : List.range' 0 (k + 1) = List.range' 0 k ++ [k] := by rw [List.range'_concat (n := k), e5]
      rw [e1, e2, e3, e4, e6, List.map_append]
      rfl
  rw [h3]
  rfl
theorem stK_ok {s k : Nat} (hk : k ≤ 50) (hs : s ≤ 2) : CaOk (stK s k) := by
  have := mul_le (k - 1) s (by omega) hs
  refine ⟨⟨by show (1 : Int) ≤ 1000; omega, by show (1000 : Int) ≤ _; omega⟩, ⟨by show (1 : Int) ≤ 5; omega, by show (5 : Int) ≤ _; omega⟩, ?_, esK_ko s k, .nil, ?_, Nat.zero_le _⟩
  · show 0 ≤ ((k - 1 : Nat) : Int) * s ∧ ((k - 1 : Nat) : Int) * s ≤ _
    omega
  · show (esK s k).length ≤ 32
    rw [esK_len]; omega
theorem findK {s k i : Nat} (hk : k ≤ 50) (hs : s ≤ 2) (hi : i < k) : findR (stK s k) 0 (100 + (i : Int)) = if k ≤ i + 32 then (⟨2, i, 0, 0, 0, 0⟩, true) else (mc0, false) := by
  have h1 := mul_le (k - 1) s (by omega) hs
  have h2 := mul_le i s (by omega) hs
  unfold findR
  split
  · rename_i h
    by_cases hc : k ≤ i + 32
    · have : getO (esK s k) (100 + (i : Int)) = none := h
      rw [esK_get hi hc] at this
      cases this
    · rw [if_neg hc]
  · rename_i q h
    have h' : getO (esK s k) (100 + (i : Int)) = some q := h
    by_cases hc : k ≤ i + 32
    · rw [esK_get hi hc] at h'
      cases h'
      rw [if_pos hc]
      show (if max 0 (((k - 1 : Nat) : Int) * s) ≤ (i : Int) * s + 1000 then _ else _) = _
      rw [if_pos (by omega)]
    · rw [getO_none (esK_not (fun h3 => hc h3.2))] at h'
      cases h'
end Go.Proofs.Ytohahlcjkhgimaa
