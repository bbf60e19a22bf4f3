/-
  RtoPlays: for every list of acts the law returns true and leaves its arguments alone (no condition).
-/
import Derived.Test.YtdkjifnhhkdmbaaRtoWorks
import Derived.Test.YtdkjifnhhkdmbaaRtoRef
import Derived.Test.YtdkjifnhhkdmbaaArgs
import Derived.ShutString
import Derived.Deep.RegionHeld3
namespace Go.Proofs.Ytdkjifnhhkdmbaa
open Go.RowKit Go.Pm


set_option maxRecDepth 100000 in
set_option maxHeartbeats 1000000 in
theorem plays_walk (a : Option Addr) (len cap : Nat) (hl : len ≤ cap) (hm : cap ≤ maxLen) (w : World)
    (hz : len = 0 ∨ ∃ (b off : Nat) (zs : Nat → Int × Int), a = some ⟨b, off, none⟩ ∧ b < w.heap.size ∧ ∀ i, i < len → w.cell? ⟨b, off + i * 2, none⟩ = some (.int .i64 (zs i).1) ∧ w.cell? ⟨b, off + i * 2 + 1, none⟩ = some (.int .i64 (zs i).2) ∧
      -9223372036854775808 ≤ (zs i).1 ∧ (zs i).1 ≤ 9223372036854775807 ∧ -9223372036854775808 ≤ (zs i).2 ∧ (zs i).2 ≤ 9223372036854775807) :
    Calls Try.prog 5 #[.slice a len cap] w fun e w' => e = .returned (.bool true) ∧ Only [] w w' := by
  unfold maxLen at hm
  have HZ := Lib.hid hz; clear hz
  go_enter Try.func5, Try.ntmps5
  go_wp2_with fail
  refine (new_any _).mono ?_
  rintro e w2 ⟨rfl, hb2, ho2⟩
  go_wp2_with fail
  have hsz := hb2.lt
  have HO : Only [] w (w2.alloc (.cells #[.int .i64 0, .int .i64 0, .int .i64 0, .bool false] 37)) := ho2.alloc _
  have hy2 : Blk (w2.alloc (.cells #[.int .i64 0, .int .i64 0, .int .i64 0, .bool false] 37)) w2.heap.size Est.zero.rcells 37 := Blk.new _ _ _
  have hx2 := hb2.alloc (.cells #[.int .i64 0, .int .i64 0, .int .i64 0, .bool false] 37)
  generalize w2.alloc (.cells #[.int .i64 0, .int .i64 0, .int .i64 0, .bool false] 37) = w3 at *
  generalize hC : w2.heap.size = C at *
  have hB0 : w.heap.size ≤ w.heap.size := Nat.le_refl _
  generalize hB : w.heap.size = B at hb2 hsz hx2 hB0 ⊢
  clear hC hb2 ho2
  have HBs := Lib.hid hB; clear hB
  go_loopw [5] (fun i wr => ∃ k : Nat, k ≤ len ∧ k ≤ 100 ∧ i = .int .i64 k ∧ ∃ (x : Est), Blk wr B x.cells 43 ∧ Blk wr C x.rcells 37 ∧ x.Ok ∧ Only [] w wr) (fun i _ => 101 - (intOf i).toNat)
  case atStart => exact ⟨0, by omega, by omega, rfl, Est.zero, hx2, hy2, Est.zero_ok, HO⟩
  case round =>
    obtain ⟨k, hk, hk2, rfl, x, hb, hy, hx, hoo⟩ := hrel
    have HO2 := Lib.hid hoo; clear hoo HO
    have HB := Lib.hid hb; clear hb hx2
    have HY := Lib.hid hy; clear hy hy2
    by_cases hlt : k < len
    · by_cases hlt2 : k < 100
      · obtain ⟨b, off, zs, rfl, hbl, hzs⟩ := HZ.out.resolve_left (by omega)
        obtain ⟨hc, hd, hz0, hz1, hz2, hz3⟩ := hzs k hlt
        have hb1 := HBs.out
        have hwB : w.heap.size ≤ B := by omega
        have hbr := HO2.out.size
        have hbl1 : b < wr.heap.size := by omega
        have hbB : b ≠ B := by omega
        have hbC : b ≠ C := by omega
        have hBC : B ≠ C := by omega
        have hc1 : wr.cell? ⟨b, off + k * 2, none⟩ = some (.int .i64 (zs k).1) := (HO2.out.cell hbl (by simp) _).trans hc
        have hc2 : wr.cell? ⟨b, off + k * 2 + 1, none⟩ = some (.int .i64 (zs k).2) := (HO2.out.cell hbl (by simp) _).trans hd
        generalize (zs k).1 = z at *
        generalize (zs k).2 = r at *
        clear hc hd hzs HZ hb1
        obtain ⟨m0, m1⟩ := amongI_bd z 6 (by omega)
        generalize hM : amongI z 6 = m at *
        have HM := Lib.hid hM; clear hM
        go_wp2_with fail
        refine (among_any z 6 _ (by omega) (by omega) hz0 hz1).mono ?_
        rintro e w3 ⟨rfl, rfl⟩
        rw [HM.out]
        go_wp2_with fail
        all_goals
          first
          | (refine (back_all _ _ _ hx HB.out).mono ?_
             rintro e w4 ⟨rfl, hb4, ho4⟩
             have hy4 := HY.out.keep ho4 (by simp; omega)
             go_wp2_with fail
             refine (rback_all _ _ _ hx hy4).mono ?_
             rintro e w5 ⟨rfl, hy5, ho5⟩
             have hb5 := hb4.keep ho5 (by simp; omega)
             have FX : ∃ X : Est, Blk w5 B X.cells 43 ∧ Blk w5 C X.rcells 37 ∧ X.Ok ∧ Only [] w w5 :=
               ⟨x.back, hb5, hy5, Est.back_ok hx, (HO2.out.trans ho4 (by simp; omega)).trans ho5 (by simp; omega)⟩
             clear hb4 hb5 hy4 hy5 ho4 ho5)
          | (refine (good_any _ _ _ HB.out).mono ?_
             rintro e w4 ⟨rfl, hb4, ho4⟩
             have hy4 := HY.out.keep ho4 (by simp; omega)
             have h2 := Est.r2 hy4
             have f2 := hy4.free 2
             have FX : ∃ X : Est, Blk (w4.setCell ⟨C, 2, none⟩ (.int .i64 0)) B X.cells 43 ∧ Blk (w4.setCell ⟨C, 2, none⟩ (.int .i64 0)) C X.rcells 37 ∧ X.Ok ∧ Only [] w (w4.setCell ⟨C, 2, none⟩ (.int .i64 0)) :=
               ⟨{ x with t := 0 }, hb4.setOther _ _ hBC, hy4.set 2 _, ⟨hx.s0, hx.s1, hx.v0, hx.v1, by dsimp; omega, by dsimp; omega⟩, (HO2.out.trans ho4 (by simp; omega)).setCell (.inr (by omega)) _ _⟩
             have FX2 := Lib.hid FX; clear FX hy4 hb4 ho4
             go_wp2_with fail
             have FX := FX2.out; clear FX2
             generalize w4.setCell ⟨C, 2, none⟩ (.int .i64 0) = w5 at *
             clear h2 f2)
          | (go_region_held3 (fun W => W.cell? ⟨b, off + k * 2 + 1, none⟩ = some (.int .i64 r)) (first | assumption | exact hc2)
               (first
                 | (go_at_call 11; refine (measure_all _ _ _ hx r (by exact HB.out)).mono ?_; rintro e w4 ⟨rfl, hb4, ho4⟩; have hs4 : w4.cell? ⟨b, off + k * 2 + 1, none⟩ = some (.int .i64 r) := (ho4.cell hbl1 (by simp; omega) (off + k * 2 + 1)).trans hc2)
                 | (go_at_call 17; refine (rmeasure_all _ _ _ hx r (Blk.keep (by exact HY.out) ho4 (by simp; omega))).mono ?_; rintro e w5 ⟨rfl, hy5, ho5⟩; have hs5 : w5.cell? ⟨b, off + k * 2 + 1, none⟩ = some (.int .i64 r) := (ho5.cell (Nat.lt_of_lt_of_le hbl1 ho4.size) (by simp; omega) (off + k * 2 + 1)).trans hs4))
             have FX : ∃ X : Est, Blk w5 B X.cells 43 ∧ Blk w5 C X.rcells 37 ∧ X.Ok ∧ Only [] w w5 :=
               ⟨x.meas r, hb4.keep ho5 (by simp; omega), hy5, Est.meas_ok hx r, (HO2.out.drew.trans ho4 (by simp; omega)).trans ho5 (by simp; omega)⟩
             clear hb4 hy5 ho4 ho5 hs4 hs5)
          obtain ⟨X, hXB, hXY, hXO, hXo⟩ := FX
          have HXB := Lib.hid hXB
          have HXY := Lib.hid hXY
          have HXo := Lib.hid hXo
          have y0 := Est.r0 hXY
          have y1 := Est.r1 hXY
          have y2 := Est.r2 hXY
          clear hXB hXY hXo
          go_wp2_with fail
          refine (state_any _ _ _ HXB.out).mono ?_
          rintro e w6 ⟨rfl, n6, hw6⟩
          dsimp only
          have hXB := HXB.out.drewN n6
          have hXY := HXY.out.drewN n6
          have hXo := HXo.out.drewN n6
          rw [← hw6] at hXB hXY hXo
          clear HXB HXY HXo y0 y1 y2 hw6
          have y0 := Est.r0 hXY
          have y1 := Est.r1 hXY
          have y2 := Est.r2 hXY
          have HXB := Lib.hid hXB
          have HXY := Lib.hid hXY
          have HXo := Lib.hid hXo
          clear hXB hXY hXo
          go_wp2_with fail
          go_quiet (first
            | (go_at_call 12; refine Calls.quiet_of (wait_any _ _ _ ?_ hXO); exact HXB.out)
            | (go_at_call 18; refine Calls.quiet_of (rwait_any _ _ _ ?_ hXO); exact HXY.out)
            | (go_at_call 19; refine Calls.quiet_of_same ((tries_any _ _ X ?_).mono fun e w' h => ⟨h.1, h.2.symm⟩); exact HXB.out))
          go_wp2_with fail
          exact ⟨⟨k + 1, by omega, by omega, by go_num, X, HXB.out, HXY.out, hXO, HXo.out.drewN _⟩, by simp [intOf]; omega⟩
      · go_wp2_with fail
        refine (works_any _).mono ?_
        rintro e w4 ⟨rfl, ho4⟩
        go_wp2_with fail
        go_ret
        exact ⟨rfl, HO2.out.then ho4⟩
    · go_wp2_with fail
      refine (works_any _).mono ?_
      rintro e w4 ⟨rfl, ho4⟩
      go_wp2_with fail
      go_ret
      exact ⟨rfl, HO2.out.then ho4⟩

namespace rtoPlays
theorem walk {W : World} (n0 : Nat) {a0 : Option Addr} {l0 c0 : Nat} (g0 : Rd Try.prog W n0 34 [.slice a0 l0 c0]) :
    Calls Try.prog 5 #[.slice a0 l0 c0] W fun e w' => e = .returned (.bool true) ∧ Only [] W w' := by
  obtain ⟨h1, h2, h3⟩ := g0.pairs Try.underlying34 Try.underlying39 (by kernel_rfl) rfl rfl Try.underlying3 Try.underlying3 (by kernel_rfl) (by kernel_rfl)
  exact plays_walk a0 l0 c0 h1 h2 W h3
end rtoPlays
namespace rtoPlays
open Go.ChangeShapes Go.WideShapes Go.ChangeAt
set_option linter.unusedVariables false

theorem own : ownKnob Try.prog.godebug = none := by kernel_rfl
theorem laidOut : laidOutB Try.prog = true := by kernel_rfl

set_option maxRecDepth 100000 in
theorem lifted (os : Os) (started : os.Started) (H : Type) (enc : TypeId × Value → H) :
    ReturnsInHanded {} Try.checked os 5 .any (Rows.rtoPlaysSpec.pre6 enc Try.prog Try.f5 Rows.rtoPlaysRow.domain false) (Rows.rtoPlaysSpec.post enc Try.prog Try.f5 false true false false) := by
  refine returnsInHanded_of_change (C := Try.checked) own started (by kernel_rfl) Try.func5
    (ChangeSpec.witness6 (enc := enc) (C := Try.checked) false ⟨#[], #[.slice none 0 0], []⟩ 8 (by kernel_rfl) (by kernel_rfl) (by kernel_rfl) (by kernel_rfl)) ?_
  intro W base args ds gs before hval0 hW hcnd hreach
  have hval : ∀ (j : Nat) t v, Try.f5.params[j]? = some t → args[j]? = some v → Value.okWide Try.prog W .any base t v := hval0
  have hW' := hW
  obtain ⟨p, q, hA0, hV, rfl, hfz, hnd⟩ := hW
  have hA : DataW.TrodAll enc Try.prog W 0 (fun _ => true) true Try.f5.params.toList args.toList ds p := hA0
  rw [Try.params5] at hA hval
  obtain ⟨v0, vs0, d0, ds0, p0, q0, hargs, rfl, rfl, h0, r0⟩ := trodAll_cons hA
  obtain ⟨rfl, rfl, rfl⟩ := trodAll_nil r0
  obtain rfl : args = #[v0] := by cases args; simp_all
  obtain ⟨rfl, rfl⟩ := trodVars_none hV
  have k0 := h0
  have lt0 : ∀ x ∈ p0, x.block < W.heap.size := by obtain ⟨m, hm⟩ := k0; exact DataW.trod_lt m _ _ _ hm
  obtain ⟨n0, g0⟩ := Rd.ofTrod' h0
  obtain ⟨a0, l0, c0, rfl⟩ := okWide_slice Try.underlying34 (hval 0 34 v0 rfl rfl)
  refine (walk n0 g0).mono fun e W' ⟨he, hg⟩ => ?_
  subst he
  have bel := hg.belowNil
  exact ⟨_, rfl, _, _, _, [], _, [], hW', trodAll_mk1 (shut_bool Try.underlying4 _), (trodAll_cons_mk (Below.trod laidOut (by kernel_rfl) (of_decide_eq_true (by kernel_rfl)) k0 bel lt0) trodAll_mk0), rfl, bel.frame _, fun h => by cases h⟩

theorem over : Rows.rtoPlaysRow.holds Try.pinned (OpenSpec.ofChange Rows.rtoPlaysSpec) :=
  OpenClaim.holds_of_wide 5 Try.f5 rfl rfl rfl rfl rfl rfl rfl ⟨rfl, rfl, rfl, rfl, rfl⟩ rfl rfl rfl rfl rfl (by kernel_rfl) Try.func5 (by kernel_rfl)
    (of_decide_eq_true (by kernel_rfl)) (by unfold Func.isWrapper; first | (rw [if_pos (by decide +kernel)]; kernel_rfl) | (rw [if_neg (by decide +kernel)]; exact ⟨rfl, rfl⟩))
    (fun os started H enc _ => lifted os started H enc)

/-- The statement. -/
theorem proved : Rows.RtoPlaysSaid := over
#print axioms proved
end rtoPlays
end Go.Proofs.Ytdkjifnhhkdmbaa
