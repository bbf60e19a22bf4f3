/-
  Layer 17: plain facts on streams in pieces; a number among others.
-/
import Derived.Test.YtcpoaghogpkagaaMarkFeeds
import Derived.Test.YtcpoaghogpkagaaMarkBuilds
namespace Go.Proofs.Ytcpoaghogpkagaa
set_option linter.unusedSimpArgs false
set_option linter.unusedVariables false
open Go.RowKit Go.Pm


theorem parses_app {l : List Int} {ms : List (Int × List Int)} {f : Option (Int × List Int)} {r : List Int} (h : Parses l ms f r) (q : List Int) :
    (f = none → ∀ ms2 f2 r2, Parses (r ++ q) ms2 f2 r2 → Parses (l ++ q) (ms ++ ms2) f2 r2) ∧ (∀ g, f = some g → Parses (l ++ q) ms (some g) []) := by
  induction h with
  | short l h => exact ⟨fun _ ms2 f2 r2 h => h, by simp⟩
  | wait l h hf hn => exact ⟨fun _ ms2 f2 r2 h => h, by simp⟩
  | bad l f h hf =>
    refine ⟨by simp, fun g hg => ?_⟩
    cases hg
    exact .bad _ _ (by simp; omega) (by rw [take_app _ _ _ h]; exact hf)
  | msg l n ms f r h hn hl hf hr ih =>
    have e1 : at_ (l ++ q) 18 = at_ l 18 := at_app _ _ _ (by omega)
    have e2 : lenOf (l ++ q) = n := by
      have : lenOf (l ++ q) = lenOf l := by unfold lenOf; rw [at_app _ _ _ (by omega), at_app _ _ _ (by omega)]
      rw [this, hn]
    have e3 : (l ++ q).take n = l.take n := take_app _ _ _ hl
    have e4 : (l ++ q).drop n = l.drop n ++ q := List.drop_append_of_le_length hl
    have e5 : checkF ((l ++ q).take 19) = none := by rw [take_app _ _ _ (by omega)]; exact hf
    have key : ∀ ms2 f2 r2, Parses (l.drop n ++ q) ms2 f2 r2 → Parses (l ++ q) ((at_ l 18, (l.take n).drop 19) :: ms2) f2 r2 := fun ms2 f2 r2 hp => by
      have := Parses.msg (l ++ q) n ms2 f2 r2 h e2 (by simp; omega) e5 (by rw [e4]; exact hp)
      rwa [e1, e3] at this
    exact ⟨fun hf0 ms2 f2 r2 hp => key _ _ _ (ih.1 hf0 ms2 f2 r2 hp), fun g hg => key _ _ _ (ih.2 g hg)⟩

theorem parses_unique {l : List Int} {ms ms' : List (Int × List Int)} {f f' : Option (Int × List Int)} {r r' : List Int} (h : Parses l ms f r) (h' : Parses l ms' f' r') : ms = ms' ∧ f = f' ∧ r = r' := by
  induction h generalizing ms' f' r' with
  | short l h =>
    rcases h'.inv with ⟨_, rfl, rfl, rfl⟩ | ⟨_, _, h2, _⟩ | ⟨h2, _⟩ | ⟨n, _, h2, _, h3, _⟩
    · exact ⟨rfl, rfl, rfl⟩
    all_goals omega
  | bad l f h hf =>
    rcases h'.inv with ⟨h2, _⟩ | ⟨s, d, _, h2, rfl, rfl, rfl⟩ | ⟨_, h2, _⟩ | ⟨n, _, _, _, _, h2, _⟩
    · omega
    · rw [hf] at h2; cases h2; exact ⟨rfl, rfl, rfl⟩
    all_goals rw [hf] at h2; cases h2
  | wait l h hf hn =>
    rcases h'.inv with ⟨h2, _⟩ | ⟨s, d, _, h2, _⟩ | ⟨_, _, _, rfl, rfl, rfl⟩ | ⟨n, _, _, h2, h3, _⟩
    · omega
    · rw [hf] at h2; cases h2
    · exact ⟨rfl, rfl, rfl⟩
    · omega
  | msg l n ms f r h hn hl hf hr ih =>
    rcases h'.inv with ⟨h2, _⟩ | ⟨s, d, _, h2, _⟩ | ⟨_, _, h2, _⟩ | ⟨n', ms2, _, h2, _, _, h3, rfl⟩
    · omega
    · rw [hf] at h2; cases h2
    · omega
    · obtain rfl : n' = n := by omega
      obtain ⟨rfl, rfl, rfl⟩ := ih h3
      exact ⟨rfl, rfl, rfl⟩

/-- One more piece. -/
theorem parses_more {l q : List Int} {ms : List (Int × List Int)} {f : Option (Int × List Int)} {r : List Int} (h : Parses l ms f r) {ms2 : List (Int × List Int)} {f2 : Option (Int × List Int)} {r2 : List Int} {ok d : Bool} (hd : f.isSome = true → r = [])
    (ho : Outcome r f.isSome q ms2 f2 r2 ok d) : Parses (l ++ q) (ms ++ ms2) (if f.isSome then f else f2) r2 ∧ d = (if f.isSome then f else f2).isSome ∧ ok = (!f.isSome && f2.isNone) := by
  rcases ho with ⟨h1, hp, rfl, rfl⟩ | ⟨h1, h2, rfl, rfl, rfl, rfl, rfl⟩
  · cases f with
    | some g => simp at h1
    | none => exact ⟨(parses_app h q).1 rfl _ _ _ hp, by simp, by simp⟩
  · cases f with
    | none => simp at h1
    | some g => simpa using (parses_app h q).2 g rfl

theorem among_any (w : World) (k n : Int) (hn : 1 ≤ n) (hn2 : n ≤ 9223372036854775807) : Calls Try.prog 20 #[.int .i64 k, .int .i64 n] w fun e w' => (∃ v : Nat, e = .returned (.int .i64 v) ∧ (v : Int) < n) ∧ w = w' := by
  have h1 : ¬ n < 1 := by omega
  go_enter Try.func20, Try.ntmps20
  go_wp2_with fail
  have hu : 0 ≤ IntKind.u64.wrap k := by show 0 ≤ k % 18446744073709551616; omega
  have h2 : 0 ≤ (IntKind.u64.wrap k).tmod n := Int.tmod_nonneg _ hu
  have h3 : (IntKind.u64.wrap k).tmod n < n := Int.tmod_lt_of_pos _ (by omega)
  obtain ⟨v, hv⟩ := Int.eq_ofNat_of_zero_le h2
  rw [hv] at h3 ⊢
  have hw : wrap64 (v : Int) = v := by unfold wrap64; omega
  rw [hw]
  go_ret
  exact ⟨⟨v, rfl, h3⟩, rfl⟩

/-- A part of a slice, wherever a slice expression says that it lies. -/
theorem vwB_part {w : World} {qa A : Option Addr} {n qc s k n' C : Nat} {q : List Int} (h : VwB w (.slice qa n qc) q) (hA : A = qa.map (fun x => x.add s) ∨ (A = qa ∧ (s = 0 ∨ k = 0))) (hn : n' = k) (hk : s + k ≤ n) (hC : k ≤ C) (hC2 : C ≤ qc) : VwB w (.slice A n' C) ((q.drop s).take k) := by
  subst hn
  obtain ⟨a, cap, he, h1, h2, h3, h4, h5⟩ := h
  cases he
  have hl : ((q.drop s).take n').length = n' := by simp; omega
  refine ⟨A, C, by rw [hl], by simp [bys_length], by rw [hl]; exact hC, by omega, fun hA0 => ?_, fun hne => ?_⟩
  · have : qa = none := by
      rcases hA with h | ⟨h, _⟩
      · rw [h] at hA0; simpa using hA0
      · rw [← h]; exact hA0
    have := h4 this
    rw [hl]
    omega
  · have hn0 : n' ≠ 0 := by rintro rfl; simp [bys] at hne
    obtain ⟨b, off, rfl, hc⟩ := h5 (by intro h0; have := congrArg List.length h0; simp [bys_length] at this; subst this; simp at hk; omega)
    have hA' : A = some ⟨b, off + s, none⟩ := by
      rcases hA with h | ⟨h, h0⟩
      · rw [h]; simp [addr_add_plain]
      · rcases h0 with h0 | h0
        · rw [h, h0]; rfl
        · exact (hn0 h0).elim
    refine ⟨b, off + s, hA', fun j u hu => ?_⟩
    have hj : j < n' := by
      have := (List.getElem?_eq_some_iff.1 hu).1
      rw [bys_length, hl] at this
      exact this
    have : (bys q)[s + j]? = some u := by
      rw [← hu]
      simp [bys, List.getElem?_take, hj, List.getElem?_drop]
    rw [Nat.add_assoc]
    exact hc _ _ this

theorem byte_take {l : List Int} (h : Byte l) (k : Nat) : Byte (l.take k) := fun n hn => h n (List.take_subset _ _ hn)
end Go.Proofs.Ytcpoaghogpkagaa
