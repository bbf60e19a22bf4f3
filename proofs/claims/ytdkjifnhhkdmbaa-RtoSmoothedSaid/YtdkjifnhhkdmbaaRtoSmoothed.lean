/-
  RtoSmoothed: for every list of integers the law returns true and leaves its arguments alone (no condition).
-/
import Derived.Test.YtdkjifnhhkdmbaaRtoWorks
import Derived.Test.YtdkjifnhhkdmbaaArgs
import Derived.ShutString
namespace Go.Proofs.Ytdkjifnhhkdmbaa
open Go.RowKit Go.Pm


def SmoothAt (lo hi : Int) (x : Est) : Prop := (x.any = false ∧ x = Est.zero) ∨ (x.any = true ∧ 8 * lo ≤ x.s ∧ x.s ≤ 8 * hi + 7)

theorem SmoothAt.step {lo hi r : Int} {x : Est} (h : SmoothAt lo hi x) (h0 : lo ≤ r) (h1 : r ≤ hi) (g0 : lo ≤ lo) : SmoothAt lo hi (x.step r) ∧ lo ≤ (x.step r).s / 8 ∧ (x.step r).s / 8 ≤ hi := by
  obtain ⟨s, v, t, a⟩ := x
  rcases h with ⟨h2, h3⟩ | ⟨h2, h3, h4⟩
  · cases h3
    exact ⟨.inr ⟨rfl, by simp [Est.step, Est.zero]; omega, by simp [Est.step, Est.zero]; omega⟩, by simp [Est.step, Est.zero]; omega, by simp [Est.step, Est.zero]; omega⟩
  · dsimp only at h2 h3 h4
    subst h2
    have e : (Est.step ⟨s, v, t, true⟩ r).s = s + (r - s / 8) := rfl
    exact ⟨.inr ⟨rfl, by rw [e]; omega, by rw [e]; omega⟩, by rw [e]; omega, by rw [e]; omega⟩

theorem SmoothAt.wider {lo hi lo' hi' : Int} {x : Est} (h : SmoothAt lo hi x) (h0 : lo' ≤ lo) (h1 : hi ≤ hi') : SmoothAt lo' hi' x := by
  rcases h with h | ⟨a, b, c⟩
  · exact .inl h
  · exact .inr ⟨a, by omega, by omega⟩

set_option maxHeartbeats 400000 in
theorem smoothed_walk (a : Option Addr) (len cap : Nat) (hl : len ≤ cap) (hm : cap ≤ maxLen) (w : World)
    (hz : len = 0 ∨ ∃ (b off : Nat) (zs : Nat → Int), a = some ⟨b, off, none⟩ ∧ b < w.heap.size ∧ ∀ i, i < len → w.cell? ⟨b, off + i, none⟩ = some (.int .i64 (zs i)) ∧ -9223372036854775808 ≤ zs i ∧ zs i ≤ 9223372036854775807) :
    Calls Try.prog 4 #[.slice a len cap] w fun e w' => e = .returned (.bool true) ∧ Only [] w w' := by
  unfold maxLen at hm
  have HZ := Lib.hid hz; clear hz
  go_enter Try.func4, Try.ntmps4
  go_wp2_with fail
  refine (works_any _).mono ?_
  rintro e w1 ⟨rfl, ho1⟩
  go_wp2_with fail
  refine (new_any _).mono ?_
  rintro e w2 ⟨rfl, hb2, ho2⟩
  go_wp2_with fail
  have hle := ho1.size
  have HO : Only [] w w2 := ho1.then ho2
  generalize hB : w1.heap.size = B at *
  clear hB ho1 ho2
  go_loopw [4, 5, 6] (fun lo hi i wr => ∃ k : Nat, k ≤ len ∧ k ≤ 100 ∧ i = .int .i64 k ∧ ∃ (x : Est) (l h : Int), lo = .int .i64 l ∧ hi = .int .i64 h ∧ 0 ≤ l ∧ l ≤ 100000 ∧ 0 ≤ h ∧ h ≤ 100000 ∧ Blk wr B x.cells 43 ∧ x.Ok ∧ SmoothAt l h x ∧ Only [] w wr) (fun _ _ i _ => 101 - (intOf i).toNat)
  case atStart => exact ⟨0, by omega, by omega, rfl, Est.zero, 100000, 0, rfl, rfl, by omega, by omega, by omega, by omega, hb2, Est.zero_ok, .inl ⟨rfl, rfl⟩, HO⟩
  case round =>
    obtain ⟨k, hk, hk2, rfl, x, l, h, rfl, rfl, hl0, hl1, hh0, hh1, hb, hx, hs, hoo⟩ := hrel
    have HO2 := Lib.hid hoo; clear hoo HO
    have HB := Lib.hid hb; clear hb hb2
    by_cases hlt : k < len
    · by_cases hlt2 : k < 100
      · obtain ⟨b, off, zs, rfl, hbl, hzs⟩ := HZ.out.resolve_left (by omega)
        obtain ⟨hc, hz0, hz1⟩ := hzs k hlt
        have hc' : wr.cell? ⟨b, off + k, none⟩ = some (.int .i64 (zs k)) := (HO2.out.cell hbl (by simp) _).trans hc
        generalize zs k = z at *
        clear hc hzs
        have hBl := HB.out.lt
        go_wp2_with fail
        refine (among_any z 100001 _ (by omega) (by omega) hz0 hz1).mono ?_
        rintro e w3 ⟨rfl, rfl⟩
        obtain ⟨r0, r1⟩ := amongI_bd z 100001 (by omega)
        generalize amongI z 100001 = r at *
        have HS : Hid (∀ l' h' : Int, l' ≤ l → l' ≤ r → h ≤ h' → r ≤ h' → SmoothAt l' h' (x.step r) ∧ l' ≤ (x.step r).s / 8 ∧ (x.step r).s / 8 ≤ h') :=
          fun l' h' a b c d => SmoothAt.step (hs.wider a c) b d (Int.le_refl _)
        have HX2 := Lib.hid (Est.step_ok hx r0 (by omega))
        clear hs
        have hs0 := HX2.out.s0
        have hs1 := HX2.out.s1
        obtain ⟨_, g2, g3⟩ := HS.out (min l r) (max h r) (by omega) (by omega) (by omega) (by omega)
        go_wp2_with (fail)
        all_goals
          refine (measure_any _ _ _ hx r HB.out r0 (by omega)).mono ?_
          rintro e w4 ⟨rfl, hb4, ho4⟩
          go_wp2_with fail
          refine (state_any _ _ _ hb4).mono ?_
          rintro e w5 ⟨rfl, n5, rfl⟩
          dsimp only
          go_wp2_with fail
          exact ⟨⟨k + 1, by omega, by omega, by go_num, x.step r, _, _, rfl, rfl, by omega, by omega, by omega, by omega, hb4.drewN _, HX2.out, (HS.out _ _ (by omega) (by omega) (by omega) (by omega)).1, (HO2.out.trans ho4 (by simp; omega)).drewN _⟩, by simp [intOf]; omega⟩
      · go_wp2_with fail
        go_ret
        exact ⟨rfl, HO2.out⟩
    · go_wp2_with fail
      go_ret
      exact ⟨rfl, HO2.out⟩


namespace rtoSmoothed
theorem walk {W : World} (n0 : Nat) {a0 : Option Addr} {l0 c0 : Nat} (g0 : Rd Try.prog W n0 30 [.slice a0 l0 c0]) :
    Calls Try.prog 4 #[.slice a0 l0 c0] W fun e w' => e = .returned (.bool true) ∧ Only [] W w' := by
  obtain ⟨h1, h2, h3⟩ := g0.ints Try.underlying30 Try.underlying3 (by kernel_rfl)
  exact smoothed_walk a0 l0 c0 h1 h2 W h3
end rtoSmoothed
namespace rtoSmoothed
open Go.ChangeShapes Go.WideShapes Go.ChangeAt
set_option linter.unusedVariables false

theorem own : ownKnob Try.prog.godebug = none := by kernel_rfl
theorem laidOut : laidOutB Try.prog = true := by kernel_rfl

set_option maxRecDepth 100000 in
theorem lifted (os : Os) (started : os.Started) (H : Type) (enc : TypeId × Value → H) :
    ReturnsInHanded {} Try.checked os 4 .any (Rows.rtoSmoothedSpec.pre6 enc Try.prog Try.f4 Rows.rtoSmoothedRow.domain false) (Rows.rtoSmoothedSpec.post enc Try.prog Try.f4 false true false false) := by
  refine returnsInHanded_of_change (C := Try.checked) own started (by kernel_rfl) Try.func4
    (ChangeSpec.witness6 (enc := enc) (C := Try.checked) false ⟨#[], #[.slice none 0 0], []⟩ 8 (by kernel_rfl) (by kernel_rfl) (by kernel_rfl) (by kernel_rfl)) ?_
  intro W base args ds gs before hval0 hW hcnd hreach
  have hval : ∀ (j : Nat) t v, Try.f4.params[j]? = some t → args[j]? = some v → Value.okWide Try.prog W .any base t v := hval0
  have hW' := hW
  obtain ⟨p, q, hA0, hV, rfl, hfz, hnd⟩ := hW
  have hA : DataW.TrodAll enc Try.prog W 0 (fun _ => true) true Try.f4.params.toList args.toList ds p := hA0
  rw [Try.params4] at hA hval
  obtain ⟨v0, vs0, d0, ds0, p0, q0, hargs, rfl, rfl, h0, r0⟩ := trodAll_cons hA
  obtain ⟨rfl, rfl, rfl⟩ := trodAll_nil r0
  obtain rfl : args = #[v0] := by cases args; simp_all
  obtain ⟨rfl, rfl⟩ := trodVars_none hV
  have k0 := h0
  have lt0 : ∀ x ∈ p0, x.block < W.heap.size := by obtain ⟨m, hm⟩ := k0; exact DataW.trod_lt m _ _ _ hm
  obtain ⟨n0, g0⟩ := Rd.ofTrod' h0
  obtain ⟨a0, l0, c0, rfl⟩ := okWide_slice Try.underlying30 (hval 0 30 v0 rfl rfl)
  refine (walk n0 g0).mono fun e W' ⟨he, hg⟩ => ?_
  subst he
  have bel := hg.belowNil
  exact ⟨_, rfl, _, _, _, [], _, [], hW', trodAll_mk1 (shut_bool Try.underlying4 _), (trodAll_cons_mk (Below.trod laidOut (by kernel_rfl) (of_decide_eq_true (by kernel_rfl)) k0 bel lt0) trodAll_mk0), rfl, bel.frame _, fun h => by cases h⟩

theorem over : Rows.rtoSmoothedRow.holds Try.pinned (OpenSpec.ofChange Rows.rtoSmoothedSpec) :=
  OpenClaim.holds_of_wide 4 Try.f4 rfl rfl rfl rfl rfl rfl rfl ⟨rfl, rfl, rfl, rfl, rfl⟩ rfl rfl rfl rfl rfl (by kernel_rfl) Try.func4 (by kernel_rfl)
    (of_decide_eq_true (by kernel_rfl)) (by unfold Func.isWrapper; first | (rw [if_pos (by decide +kernel)]; kernel_rfl) | (rw [if_neg (by decide +kernel)]; exact ⟨rfl, rfl⟩))
    (fun os started H enc _ => lifted os started H enc)

/-- The statement. -/
theorem proved : Rows.RtoSmoothedSaid := over
#print axioms proved
end rtoSmoothed
end Go.Proofs.Ytdkjifnhhkdmbaa
