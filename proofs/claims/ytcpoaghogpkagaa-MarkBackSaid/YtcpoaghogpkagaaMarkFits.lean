/-
  Package mark: which lengths a kind may have.
-/
import Derived.Test.YtcpoaghogpkagaaRows
import Derived.Test.YtcpoaghogpkagaaRead
import Derived.WalkSpells
import Derived.WalkLawsBesides
namespace Go.Proofs.Ytcpoaghogpkagaa
set_option linter.unusedSimpArgs false
set_option linter.unusedVariables false
open Go.RowKit Go.Pm

theorem bytesEl : El Try.prog 22 5 1 1 := El.mk' (z := .int .u8 0) Try.underlying22 (by kernel_rfl) rfl (by omega) (by omega)

def least (k : Int) : Int := if k = 1 then 29 else if k = 2 then 23 else if k = 3 then 21 else if k = 4 then 19 else if k = 5 then 23 else 0
def most (k : Int) : Int := if k = 1 then 4096 else if k = 2 then 4096 else if k = 3 then 4096 else if k = 4 then 19 else if k = 5 then 23 else 0
def known (k : Int) : Bool := decide (1 ≤ k ∧ k ≤ 5)
def fitsB (k n : Int) : Bool := known k && decide (least k ≤ n ∧ n ≤ most k)

theorem lengths_any (k : Int) (w : World) :
    Calls Try.prog 28 #[.int .i64 k] w fun e w' => e = .returned (.tuple #[.int .i64 (least k), .int .i64 (most k), .bool (known k)]) ∧ w = w' := by
  by_cases h : 1 ≤ k ∧ k ≤ 5
  · have hk : k = 1 ∨ k = 2 ∨ k = 3 ∨ k = 4 ∨ k = 5 := by omega
    clear h
    rcases hk with rfl | rfl | rfl | rfl | rfl
    all_goals
      go_enter Try.func28, Try.ntmps28
      go_wp2
      go_ret3
      exact ⟨rfl, rfl⟩
  · have h1 : (k == 1) = false := by simp; omega
    have h2 : (k == 2) = false := by simp; omega
    have h3 : (k == 3) = false := by simp; omega
    have h4 : (k == 4) = false := by simp; omega
    have h5 : (k == 5) = false := by simp; omega
    have H : Hid (least k = 0 ∧ most k = 0 ∧ known k = false) := by
      refine ⟨?_, ?_, ?_⟩
      · unfold least; repeat (rw [if_neg (by omega)])
      · unfold most; repeat (rw [if_neg (by omega)])
      · unfold known; exact decide_eq_false h
    clear h
    go_enter Try.func28, Try.ntmps28
    go_wp2
    go_ret3
    exact ⟨by rw [H.out.1, H.out.2.1, H.out.2.2]; rfl, rfl⟩

theorem fits_any (k n : Int) (w : World) :
    Calls Try.prog 21 #[.int .i64 k, .int .i64 n] w fun e w' => e = .returned (.bool (fitsB k n)) ∧ w = w' := by
  by_cases hk : known k = true
  · have H : Hid (fitsB k n = decide (least k ≤ n ∧ n ≤ most k)) := by unfold Hid fitsB; rw [hk]; rfl
    go_enter Try.func21, Try.ntmps21
    go_wp2_with fail
    refine (lengths_any k _).mono ?_
    rintro e w1 ⟨rfl, rfl⟩
    rw [hk]
    clear hk
    go_wp2
    all_goals
      go_ret
      refine ⟨ret_bool ?_, rfl⟩
      rw [H.out]
      first | rfl | (simp_all; done) | (simp; omega) | go_show
  · have hk' : known k = false := by simpa using hk
    have H : Hid (fitsB k n = false) := by unfold Hid fitsB; rw [hk']; rfl
    clear hk
    go_enter Try.func21, Try.ntmps21
    go_wp2_with fail
    refine (lengths_any k _).mono ?_
    rintro e w1 ⟨rfl, rfl⟩
    rw [hk']
    clear hk'
    go_wp2
    go_ret
    exact ⟨by rw [H.out]; rfl, rfl⟩

/-- The document's own test. -/
def rightB (k n : Int) : Bool := decide (19 ≤ n ∧ n ≤ 4096) && (if k = 1 then decide (29 ≤ n) else if k = 2 then decide (23 ≤ n) else if k = 3 then decide (21 ≤ n) else if k = 4 then decide (n = 19) else if k = 5 then decide (n = 23) else false)
theorem rightB_eq (k n : Int) : rightB k n = fitsB k n := by
  unfold rightB fitsB known least most
  by_cases h : 1 ≤ k ∧ k ≤ 5
  · have hk : k = 1 ∨ k = 2 ∨ k = 3 ∨ k = 4 ∨ k = 5 := by omega
    rcases hk with rfl | rfl | rfl | rfl | rfl
    all_goals
      simp
      rw [Bool.eq_iff_iff]
      simp
      omega
  · have h1 : k ≠ 1 := by omega
    have h2 : k ≠ 2 := by omega
    have h3 : k ≠ 3 := by omega
    have h4 : k ≠ 4 := by omega
    have h5 : k ≠ 5 := by omega
    simp [h1, h2, h3, h4, h5, h]

theorem rright_any (k n : Int) (w : World) :
    Calls Try.prog 24 #[.int .i64 k, .int .i64 n] w fun e w' => e = .returned (.bool (rightB k n)) ∧ w = w' := by
  by_cases hn : 19 ≤ n ∧ n ≤ 4096
  · obtain ⟨n1, n2⟩ := hn
    by_cases h : 1 ≤ k ∧ k ≤ 5
    · have hk : k = 1 ∨ k = 2 ∨ k = 3 ∨ k = 4 ∨ k = 5 := by omega
      clear h
      rcases hk with rfl | rfl | rfl | rfl | rfl
      all_goals
        go_enter Try.func24, Try.ntmps24
        go_wp2
        all_goals
          go_ret
          refine ⟨ret_bool ?_, rfl⟩
          simp [rightB, n1, n2] <;> rfl
    · have h1 : (k == 1) = false := by simp; omega
      have h2 : (k == 2) = false := by simp; omega
      have h3 : (k == 3) = false := by simp; omega
      have h4 : (k == 4) = false := by simp; omega
      have h5 : (k == 5) = false := by simp; omega
      have H : Hid (rightB k n = false) := by
        unfold Hid rightB
        simp only [beq_eq_false_iff_ne] at h1 h2 h3 h4 h5
        simp [h1, h2, h3, h4, h5]
      clear h
      go_enter Try.func24, Try.ntmps24
      go_wp2
      go_ret
      exact ⟨by rw [H.out]; rfl, rfl⟩
  · have H : Hid (rightB k n = false) := by unfold Hid rightB; rw [decide_eq_false hn]; rfl
    by_cases h19 : n < 19
    · clear hn
      go_enter Try.func24, Try.ntmps24
      go_wp2
      go_ret
      exact ⟨by rw [H.out]; rfl, rfl⟩
    · have h40 : 4096 < n := by omega
      clear hn
      go_enter Try.func24, Try.ntmps24
      go_wp2
      go_ret
      exact ⟨by rw [H.out]; rfl, rfl⟩
end Go.Proofs.Ytcpoaghogpkagaa
