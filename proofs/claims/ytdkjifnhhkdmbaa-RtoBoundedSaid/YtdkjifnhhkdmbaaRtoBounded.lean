/-
  RtoBounded: for every list of acts the law returns true and leaves its arguments alone (no condition).
-/
import Derived.Test.YtdkjifnhhkdmbaaRtoWorks
import Derived.Test.YtdkjifnhhkdmbaaArgs
import Derived.ShutString
namespace Go.Proofs.Ytdkjifnhhkdmbaa
open Go.RowKit Go.Pm


theorem clamp_bd (w : Int) : 5 ≤ clamp w ∧ clamp w ≤ 600 := by unfold clamp; split <;> (try split) <;> omega
theorem clamp_mono {w v : Int} (h : w ≤ v) : clamp w ≤ clamp v := by unfold clamp; split <;> split <;> (try split) <;> (try split) <;> omega
theorem up_mono (k : Nat) : ∀ (w : Int), 0 ≤ w → up k w ≤ up (k + 1) w := by
  induction k with
  | zero => intro w h; simp only [up]; split <;> omega
  | succ k ih =>
    intro w h
    rw [up, up]
    split
    · exact ih _ (by omega)
    · exact Int.le_refl _
theorem up_le (k : Nat) : ∀ (w : Int), 0 ≤ w → w ≤ up k w := by
  induction k with
  | zero => intro w h; exact Int.le_refl _
  | succ k ih => intro w h; exact Int.le_trans (ih w h) (up_mono k w h)
theorem Est.base0 {x : Est} (h : x.Ok) : 0 ≤ x.base := by
  have := h.s0
  unfold Est.base
  split
  · split <;> omega
  · omega
theorem Est.wait_back {x : Est} (h : x.Ok) : x.wait ≤ x.back.wait := by
  unfold Est.back
  split
  case isFalse => exact Int.le_refl _
  unfold Est.wait
  have := h.t0
  rw [show ({ x with t := x.t + 1 } : Est).t.toNat = x.t.toNat + 1 by dsimp; omega]
  exact clamp_mono (up_mono _ _ (Est.base0 h))
theorem Est.wait_good {x : Est} (h : x.Ok) : Est.wait { x with t := 0 } ≤ x.wait := by
  have h2 := up_le x.t.toNat x.base (Est.base0 h)
  exact clamp_mono h2
theorem Est.good_ok {x : Est} (h : x.Ok) : Est.Ok { x with t := 0 } := ⟨h.s0, h.s1, h.v0, h.v1, by dsimp; omega, by dsimp; omega⟩
set_option maxHeartbeats 800000 in
theorem bounded_walk (a : Option Addr) (len cap : Nat) (hl : len ≤ cap) (hm : cap ≤ maxLen) (w : World)
    (hz : len = 0 ∨ ∃ (b off : Nat) (zs : Nat → Int × Int), a = some ⟨b, off, none⟩ ∧ b < w.heap.size ∧ ∀ i, i < len → w.cell? ⟨b, off + i * 2, none⟩ = some (.int .i64 (zs i).1) ∧ w.cell? ⟨b, off + i * 2 + 1, none⟩ = some (.int .i64 (zs i).2) ∧
      -9223372036854775808 ≤ (zs i).1 ∧ (zs i).1 ≤ 9223372036854775807 ∧ -9223372036854775808 ≤ (zs i).2 ∧ (zs i).2 ≤ 9223372036854775807) :
    Calls Try.prog 6 #[.slice a len cap] w fun e w' => e = .returned (.bool true) ∧ Only [] w w' := by
  unfold maxLen at hm
  have HZ := Lib.hid hz; clear hz
  go_enter Try.func6, Try.ntmps6
  go_wp2_with fail
  refine (works_any _).mono ?_
  rintro e w1 ⟨rfl, ho1⟩
  go_wp2_with fail
  refine (new_any _).mono ?_
  rintro e w2 ⟨rfl, hb2, ho2⟩
  go_wp2_with fail
  have hle := ho1.size
  have HO : Only [] w w2 := ho1.then ho2
  generalize hB : w1.heap.size = B at *
  clear hB ho1 ho2
  go_loopw [4] (fun i wr => ∃ k : Nat, k ≤ len ∧ k ≤ 100 ∧ i = .int .i64 k ∧ ∃ (x : Est), Blk wr B x.cells 43 ∧ x.Ok ∧ Only [] w wr) (fun i _ => 101 - (intOf i).toNat)
  case atStart => exact ⟨0, by omega, by omega, rfl, Est.zero, hb2, Est.zero_ok, HO⟩
  case round =>
    obtain ⟨k, hk, hk2, rfl, x, hb, hx, hoo⟩ := hrel
    have HO2 := Lib.hid hoo; clear hoo HO
    have HB := Lib.hid hb; clear hb hb2
    by_cases hlt : k < len
    · by_cases hlt2 : k < 100
      · obtain ⟨b, off, zs, rfl, hbl, hzs⟩ := HZ.out.resolve_left (by omega)
        obtain ⟨hc, hd, hz0, hz1, hz2, hz3⟩ := hzs k hlt
        have hbB : b ≠ B := by omega
        have HC : Hid (∀ W : World, Only [B] wr W → W.cell? ⟨b, off + k * 2, none⟩ = some (.int .i64 (zs k).1) ∧ W.cell? ⟨b, off + k * 2 + 1, none⟩ = some (.int .i64 (zs k).2)) := fun W hW =>
          ⟨(hW.cell (Nat.lt_of_lt_of_le hbl HO2.out.size) (by simpa using hbB) _).trans ((HO2.out.cell hbl (by simp) _).trans hc), (hW.cell (Nat.lt_of_lt_of_le hbl HO2.out.size) (by simpa using hbB) _).trans ((HO2.out.cell hbl (by simp) _).trans hd)⟩
        generalize (zs k).1 = z at *
        generalize (zs k).2 = r at *
        clear hc hd hzs HZ
        obtain ⟨hw0, hw1⟩ := clamp_bd (up x.t.toNat x.base)
        have ht0 := hx.t0
        have ht1 := hx.t1
        have hB1 := HB.out.lt
        obtain ⟨m0, m1⟩ := amongI_bd z 6 (by omega)
        generalize hW : clamp (up x.t.toNat x.base) = wt at *
        have HW : Hid (x.wait = wt) := hW
        clear hW
        generalize hT : x.t = T at *
        have HT : Hid (x.t = T) := hT
        have hcode : (x.backCode = 0 ∧ T < 8) ∨ (x.backCode = 4 ∧ ¬ T < 8) := by
          unfold Est.backCode
          by_cases h : x.t < 8
          · exact .inl ⟨if_pos h, by omega⟩
          · exact .inr ⟨if_neg h, by omega⟩
        clear hT
        have HBK := Lib.hid (Est.wait_back hx)
        have HGD := Lib.hid (Est.wait_good hx)
        generalize hM : amongI z 6 = m at *
        have HM := Lib.hid hM; clear hM
        go_wp2_with fail
        refine (wait_any _ _ _ HB.out hx).mono ?_
        rintro e w3 ⟨rfl, n3, rfl⟩
        rw [HW.out]
        go_wp2_with fail
        refine (tries_any _ _ _ (HB.out.drewN _)).mono ?_
        rintro e w3 ⟨rfl, rfl⟩
        rw [HT.out]
        go_wp2_with fail
        refine (tries_any _ _ _ (HB.out.drewN _)).mono ?_
        rintro e w3 ⟨rfl, rfl⟩
        rw [HT.out]
        have hc1 := (HC.out _ ((Only.refl _ _).drewN n3)).1
        have hc2 := (HC.out _ ((Only.refl _ _).drewN n3)).2
        go_wp2_with fail
        refine (among_any z 6 _ (by omega) (by omega) hz0 hz1).mono ?_
        rintro e w3 ⟨rfl, rfl⟩
        rw [HM.out]
        go_wp2_with fail
        all_goals
          first
          | (refine (tries_any _ _ _ (HB.out.drewN _)).mono ?_
             rintro e w3 ⟨rfl, rfl⟩
             rw [HT.out]
             go_wp2_with fail
             refine (back_all _ _ _ hx (HB.out.drewN _)).mono ?_
             rintro e w4 ⟨rfl, hb4, ho4⟩
             rcases hcode with ⟨hcd, hT8⟩ | ⟨hcd, hT8⟩
             all_goals
               rw [hcd]
               have HCD := Lib.hid hcd; clear hcd
               go_wp2_with fail
               refine (wait_any _ _ _ hb4 (Est.back_ok hx)).mono ?_
               rintro e w5 ⟨rfl, n5, rfl⟩
               have hbk : wt ≤ x.back.wait := by rw [← HW.out]; exact HBK.out
               generalize hWB : Est.wait x.back = wb at *
               clear hWB
               go_wp2_with fail
               exact ⟨⟨k + 1, by omega, by omega, by go_num, x.back, hb4.drewN _, Est.back_ok hx, ((HO2.out.drewN _).trans ho4 (by simp; omega)).drewN _⟩, by simp [intOf]; omega⟩)
          | (refine (good_any _ _ _ (HB.out.drewN _)).mono ?_
             rintro e w4 ⟨rfl, hb4, ho4⟩
             go_wp2_with fail
             refine (wait_any _ _ _ hb4 (Est.good_ok hx)).mono ?_
             rintro e w5 ⟨rfl, n5, rfl⟩
             have hgd : Est.wait { x with t := 0 } ≤ wt := by rw [← HW.out]; exact HGD.out
             generalize hWB : Est.wait { x with t := 0 } = wb at *
             clear hWB
             go_wp2_with fail
             exact ⟨⟨k + 1, by omega, by omega, by go_num, { x with t := 0 }, hb4.drewN _, Est.good_ok hx, ((HO2.out.drewN _).trans ho4 (by simp; omega)).drewN _⟩, by simp [intOf]; omega⟩)
          | (refine (measure_all _ _ _ hx r (HB.out.drewN _)).mono ?_
             rintro e w4 ⟨rfl, hb4, ho4⟩
             go_wp2_with fail
             exact ⟨⟨k + 1, by omega, by omega, by go_num, x.meas r, hb4, Est.meas_ok hx r, (HO2.out.drewN _).trans ho4 (by simp; omega)⟩, by simp [intOf]; omega⟩)
      · go_wp2_with fail
        go_ret
        exact ⟨rfl, HO2.out⟩
    · go_wp2_with fail
      go_ret
      exact ⟨rfl, HO2.out⟩

namespace rtoBounded
theorem walk {W : World} (n0 : Nat) {a0 : Option Addr} {l0 c0 : Nat} (g0 : Rd Try.prog W n0 34 [.slice a0 l0 c0]) :
    Calls Try.prog 6 #[.slice a0 l0 c0] W fun e w' => e = .returned (.bool true) ∧ Only [] W w' := by
  obtain ⟨h1, h2, h3⟩ := g0.pairs Try.underlying34 Try.underlying39 (by kernel_rfl) rfl rfl Try.underlying3 Try.underlying3 (by kernel_rfl) (by kernel_rfl)
  exact bounded_walk a0 l0 c0 h1 h2 W h3
end rtoBounded
namespace rtoBounded
open Go.ChangeShapes Go.WideShapes Go.ChangeAt
set_option linter.unusedVariables false

theorem own : ownKnob Try.prog.godebug = none := by kernel_rfl
theorem laidOut : laidOutB Try.prog = true := by kernel_rfl

set_option maxRecDepth 100000 in
theorem lifted (os : Os) (started : os.Started) (H : Type) (enc : TypeId × Value → H) :
    ReturnsInHanded {} Try.checked os 6 .any (Rows.rtoBoundedSpec.pre6 enc Try.prog Try.f6 Rows.rtoBoundedRow.domain false) (Rows.rtoBoundedSpec.post enc Try.prog Try.f6 false true false false) := by
  refine returnsInHanded_of_change (C := Try.checked) own started (by kernel_rfl) Try.func6
    (ChangeSpec.witness6 (enc := enc) (C := Try.checked) false ⟨#[], #[.slice none 0 0], []⟩ 8 (by kernel_rfl) (by kernel_rfl) (by kernel_rfl) (by kernel_rfl)) ?_
  intro W base args ds gs before hval0 hW hcnd hreach
  have hval : ∀ (j : Nat) t v, Try.f6.params[j]? = some t → args[j]? = some v → Value.okWide Try.prog W .any base t v := hval0
  have hW' := hW
  obtain ⟨p, q, hA0, hV, rfl, hfz, hnd⟩ := hW
  have hA : DataW.TrodAll enc Try.prog W 0 (fun _ => true) true Try.f6.params.toList args.toList ds p := hA0
  rw [Try.params6] at hA hval
  obtain ⟨v0, vs0, d0, ds0, p0, q0, hargs, rfl, rfl, h0, r0⟩ := trodAll_cons hA
  obtain ⟨rfl, rfl, rfl⟩ := trodAll_nil r0
  obtain rfl : args = #[v0] := by cases args; simp_all
  obtain ⟨rfl, rfl⟩ := trodVars_none hV
  have k0 := h0
  have lt0 : ∀ x ∈ p0, x.block < W.heap.size := by obtain ⟨m, hm⟩ := k0; exact DataW.trod_lt m _ _ _ hm
  obtain ⟨n0, g0⟩ := Rd.ofTrod' h0
  obtain ⟨a0, l0, c0, rfl⟩ := okWide_slice Try.underlying34 (hval 0 34 v0 rfl rfl)
  refine (walk n0 g0).mono fun e W' ⟨he, hg⟩ => ?_
  subst he
  have bel := hg.belowNil
  exact ⟨_, rfl, _, _, _, [], _, [], hW', trodAll_mk1 (shut_bool Try.underlying4 _), (trodAll_cons_mk (Below.trod laidOut (by kernel_rfl) (of_decide_eq_true (by kernel_rfl)) k0 bel lt0) trodAll_mk0), rfl, bel.frame _, fun h => by cases h⟩

theorem over : Rows.rtoBoundedRow.holds Try.pinned (OpenSpec.ofChange Rows.rtoBoundedSpec) :=
  OpenClaim.holds_of_wide 6 Try.f6 rfl rfl rfl rfl rfl rfl rfl ⟨rfl, rfl, rfl, rfl, rfl⟩ rfl rfl rfl rfl rfl (by kernel_rfl) Try.func6 (by kernel_rfl)
    (of_decide_eq_true (by kernel_rfl)) (by unfold Func.isWrapper; first | (rw [if_pos (by decide +kernel)]; kernel_rfl) | (rw [if_neg (by decide +kernel)]; exact ⟨rfl, rfl⟩))
    (fun os started H enc _ => lifted os started H enc)

/-- The statement. -/
theorem proved : Rows.RtoBoundedSaid := over
#print axioms proved
end rtoBounded
end Go.Proofs.Ytdkjifnhhkdmbaa
