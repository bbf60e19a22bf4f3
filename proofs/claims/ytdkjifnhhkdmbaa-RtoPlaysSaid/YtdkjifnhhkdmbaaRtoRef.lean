/-
  The reference of layer 13 (pointsmanref13): what its functions do, told of the same estimate.
-/
import Derived.Test.YtdkjifnhhkdmbaaRto
namespace Go.Proofs.Ytdkjifnhhkdmbaa
open Go.RowKit Go.Pm


def Est.rcells (x : Est) : Array Value := #[.int .i64 x.s, .int .i64 x.v, .int .i64 x.t, .bool x.any]
theorem Est.r0 {w : World} {b : Nat} {x : Est} (h : Blk w b x.rcells 37) : w.cell? ⟨b, 0, none⟩ = some (.int .i64 x.s) := by rw [h.cell]; rfl
theorem Est.r1 {w : World} {b : Nat} {x : Est} (h : Blk w b x.rcells 37) : w.cell? ⟨b, 1, none⟩ = some (.int .i64 x.v) := by rw [h.cell]; rfl
theorem Est.r2 {w : World} {b : Nat} {x : Est} (h : Blk w b x.rcells 37) : w.cell? ⟨b, 2, none⟩ = some (.int .i64 x.t) := by rw [h.cell]; rfl
theorem Est.r3 {w : World} {b : Nat} {x : Est} (h : Blk w b x.rcells 37) : w.cell? ⟨b, 3, none⟩ = some (.bool x.any) := by rw [h.cell]; rfl

def cut600 (w : Int) : Int := if w < 600 then w else 600
def rup : Nat → Int → Int
  | 0, w => w
  | k + 1, w => rup k (cut600 (2 * w))
theorem rup_600 (k : Nat) : rup k 600 = 600 := by
  induction k with
  | zero => rfl
  | succ k ih => simpa [rup, cut600] using ih
theorem clamp_600 : clamp 600 = 600 := by decide
theorem clamp_big {w : Int} (h : ¬ w < 600) : clamp w = 600 := by unfold clamp; omega
theorem up_big (k : Nat) {w : Int} (h : ¬ w < 600) : up k w = w := up_ge k w h
theorem rup_cut (k : Nat) : ∀ w : Int, clamp (up k w) = clamp (rup k (cut600 w)) := by
  induction k with
  | zero => intro w; simp only [up, rup, cut600]; split <;> simp only [clamp] <;> omega
  | succ k ih =>
    intro w
    by_cases h : w < 600
    · rw [up_lt _ _ h, ih, rup, show cut600 w = w from if_pos h]
    · rw [up_big _ h, show cut600 w = 600 from if_neg h, rup_600, clamp_600, clamp_big h]
theorem rup_up (k : Nat) (w : Int) : clamp (rup k w) = clamp (up k w) := by
  cases k with
  | zero => rfl
  | succ k =>
    rw [rup, ← rup_cut]
    by_cases h : w < 600
    · rw [up_lt _ _ h]
    · rw [up_big k (by omega : ¬ 2 * w < 600), up_big _ h, clamp_big h, clamp_big (by omega : ¬ 2 * w < 600)]
theorem rup_succ (k : Nat) : ∀ w : Int, rup (k + 1) w = cut600 (2 * rup k w) := by
  induction k with
  | zero => intro w; rfl
  | succ k ih => intro w; rw [rup, ih, rup]

theorem rback_all (b : Nat) (w : World) (x : Est) (hx : x.Ok) (hb : Blk w b x.rcells 37) :
    Calls Try.prog 15 #[.pointer (some ⟨b, 0, none⟩)] w fun e w' => e = .returned (.int .i64 x.backCode) ∧ Blk w' b (Est.rcells x.back) 37 ∧ Only [b] w w' := by
  have ht0 := hx.t0
  have ht1 := hx.t1
  have h2 := Est.r2 hb
  have f2 := hb.free 2
  have HB := Lib.hid hb; clear hb hx
  by_cases h : x.t < 8
  · rw [show x.backCode = 0 from if_pos h, show x.back = { x with t := x.t + 1 } from if_pos h]
    have e1 : (x.t == 8) = false := by simp; omega
    go_enter Try.func15, Try.ntmps15
    go_wp2
    go_ret
    exact ⟨rfl, HB.out.set 2 _, (Only.refl _ _).setCell (by simp) _ _⟩
  · rw [show x.backCode = 4 from if_neg h, show x.back = x from if_neg h]
    have e1 : (x.t == 8) = true := by simp; omega
    go_enter Try.func15, Try.ntmps15
    go_wp2
    go_ret
    exact ⟨rfl, HB.out, Only.refl _ _⟩

theorem rmeasure_bad (b : Nat) (w : World) (r : Int) (hr : r < 0 ∨ 100000 < r) :
    Calls Try.prog 17 #[.pointer (some ⟨b, 0, none⟩), .int .i64 r] w fun e w' => e = .returned (.int .i64 2) ∧ w = w' := by
  rcases hr with hr | hr
  all_goals
    go_enter Try.func17, Try.ntmps17
    go_wp2
    go_ret
    exact ⟨rfl, rfl⟩

theorem rmeasure_any (b : Nat) (w : World) (x : Est) (hx : x.Ok) (r : Int) (hb : Blk w b x.rcells 37) (hr0 : 0 ≤ r) (hr : r ≤ 100000) :
    Calls Try.prog 17 #[.pointer (some ⟨b, 0, none⟩), .int .i64 r] w fun e w' => e = .returned (.int .i64 0) ∧ Blk w' b (Est.rcells (x.step r)) 37 ∧ Only [b] w w' := by
  obtain ⟨s, v, t, a⟩ := x
  obtain ⟨hs0, hs, hv0, hv, _, _⟩ := hx
  dsimp only at *
  have h0 := Est.r0 hb
  have h1 := Est.r1 hb
  have h3 := Est.r3 hb
  have f0 := hb.free 0
  have f1 := hb.free 1
  have f3 := hb.free 3
  have HB := Lib.hid hb; clear hb
  cases a with
  | false =>
    have H2 := Lib.hid (show 4 * r / 2 = 2 * r by omega)
    go_enter Try.func17, Try.ntmps17
    go_wp2
    go_ret
    refine ⟨rfl, ?_, (((Only.refl _ _).setCell (by simp) _ _).setCell (by simp) _ _).setCell (by simp) _ _⟩
    have h5 := ((HB.out.set 0 (.int .i64 (8 * r))).set 1 (.int .i64 (2 * r))).set 3 (.bool true)
    simp only [Est.step, Bool.false_eq_true, if_false, H2.out]
    exact h5
  | true =>
    have hv4 : 0 ≤ v / 4 ∧ v / 4 ≤ v := by omega
    by_cases hd : s / 8 - r < 0
    · have HA := Lib.hid (show v + (absI (s / 8 - r) - v / 4) = v - v / 4 + -(s / 8 - r) by rw [show absI (s / 8 - r) = -(s / 8 - r) from if_pos (by omega)]; omega)
      have HC := Lib.hid (show s + (r - s / 8) = s - s / 8 + r by omega)
      go_enter Try.func17, Try.ntmps17
      go_wp2
      go_region
      go_wp2
      go_region
      go_wp2
      go_ret
      refine ⟨rfl, ?_, ((((Only.refl _ _).setCell (by simp) _ _).setCell (by simp) _ _).drew).drew⟩
      simp only [Est.step, if_true, HA.out, HC.out]
      exact ((HB.out.set 1 _).set 0 _).drew.drew
    · have HA := Lib.hid (show v + (absI (s / 8 - r) - v / 4) = v - v / 4 + (s / 8 - r) by rw [show absI (s / 8 - r) = s / 8 - r from if_neg (by omega)]; omega)
      have HC := Lib.hid (show s + (r - s / 8) = s - s / 8 + r by omega)
      go_enter Try.func17, Try.ntmps17
      go_wp2
      go_region
      go_wp2
      go_region
      go_wp2
      go_ret
      refine ⟨rfl, ?_, ((((Only.refl _ _).setCell (by simp) _ _).setCell (by simp) _ _).drew).drew⟩
      simp only [Est.step, if_true, HA.out, HC.out]
      exact ((HB.out.set 1 _).set 0 _).drew.drew

theorem rmeasure_all (b : Nat) (w : World) (x : Est) (hx : x.Ok) (r : Int) (hb : Blk w b x.rcells 37) :
    Calls Try.prog 17 #[.pointer (some ⟨b, 0, none⟩), .int .i64 r] w fun e w' => e = .returned (.int .i64 (measCode r)) ∧ Blk w' b (Est.rcells (x.meas r)) 37 ∧ Only [b] w w' := by
  by_cases h : 0 ≤ r ∧ r ≤ 100000
  · rw [show measCode r = 0 from if_pos h, show x.meas r = x.step r from if_pos h]
    exact rmeasure_any b w x hx r hb h.1 h.2
  · rw [show measCode r = 2 from if_neg h, show x.meas r = x from if_neg h]
    exact (rmeasure_bad b w r (by omega)).mono fun e w' ⟨he, hw⟩ => ⟨he, hw ▸ hb, hw ▸ Only.refl _ _⟩

set_option maxHeartbeats 400000 in
theorem rwait_walk (b : Nat) (w : World) (s v : Int) (T : Nat) (a : Bool) (F : Int) (HF : Hid (clamp (rup T (Est.base ⟨s, v, T, a⟩)) = F)) (h0 : w.cell? ⟨b, 0, none⟩ = some (.int .i64 s)) (h1 : w.cell? ⟨b, 1, none⟩ = some (.int .i64 v))
    (h2 : w.cell? ⟨b, 2, none⟩ = some (.int .i64 T)) (h3 : w.cell? ⟨b, 3, none⟩ = some (.bool a)) (hs0 : 0 ≤ s) (hs : s ≤ 800000) (hv0 : 0 ≤ v) (hv : v ≤ 400000) (ht : T ≤ 8) :
    Calls Try.prog 18 #[.pointer (some ⟨b, 0, none⟩)] w fun e w' => e = .returned (.int .i64 F) ∧ ∃ n, w' = w.drewN n := by
  have HE : Hid (∀ x : Int, (a = false → x = 30) → (a = true → x = s / 8 + (if v ≤ 1 then 1 else v)) → clamp (rup (T - 0) x) = F) := by
    intro x h5 h6
    rw [← HF.out]
    unfold Est.base
    cases a
    · rw [h5 rfl]; rfl
    · rw [h6 rfl]; rfl
  clear HF
  cases a
  all_goals
    go_enter Try.func18, Try.ntmps18
    go_wp2_with fail
    try go_region
    all_goals try go_wp2
    all_goals
      go_loop [3, 4] (fun x i => ∃ (k : Nat) (y : Int), k ≤ T ∧ i = .int .i64 k ∧ x = .int .i64 y ∧ 0 ≤ y ∧ y ≤ 2000000 ∧ Hid (clamp (rup (T - k) y) = F)) (fun _ i => 9 - (intOf i).toNat)
      case atStart =>
        refine ⟨0, _, by omega, rfl, rfl, ?_, ?_, HE.out _ ?_ ?_⟩
        · omega
        · omega
        · simp
        · first | (intro h; cases h; done) | (intro _; rw [if_neg (by omega)]) | (intro _; rw [if_pos (by omega)])
      case round =>
        obtain ⟨k, y, hk, rfl, rfl, hy0, hy1, HY⟩ := hrel
        by_cases hlt : k < T
        · have HS : Hid (∀ z : Int, z = cut600 (2 * y) → clamp (rup (T - (k + 1)) z) = F) := by
            rintro z rfl
            have := HY.out
            rw [show T - k = (T - (k + 1)) + 1 by omega, rup] at this
            exact this
          clear HY HE
          go_wp2
          all_goals
            go_round
            case rel => exact ⟨k + 1, _, by omega, by go_num, rfl, by omega, by omega, HS.out _ (by unfold cut600; omega)⟩
            case measure => simp [intOf]; omega
        · have HS : Hid (clamp y = F) := by
            have := HY.out
            rw [show T - k = 0 by omega] at this
            exact this
          clear HY HE
          go_wp2
          all_goals
            go_ret
            exact ⟨ret_int (by rw [← HS.out]; simp only [clamp]; omega), by first | exact ⟨0, rfl⟩ | exact ⟨1, rfl⟩⟩

theorem rwait_any (b : Nat) (w : World) (x : Est) (h : Blk w b x.rcells 37) (hx : x.Ok) :
    Calls Try.prog 18 #[.pointer (some ⟨b, 0, none⟩)] w fun e w' => e = .returned (.int .i64 x.wait) ∧ ∃ n, w' = w.drewN n := by
  have ht := hx.t0
  have ht1 := hx.t1
  have h2 := Est.r2 h
  have e : ((x.t.toNat : Nat) : Int) = x.t := by omega
  rw [← e] at h2
  refine rwait_walk b w x.s x.v x.t.toNat x.any _ ?_ (Est.r0 h) (Est.r1 h) h2 (Est.r3 h) hx.s0 hx.s1 hx.v0 hx.v1 (by omega)
  show clamp _ = _
  rw [e, rup_up]
  rfl
end Go.Proofs.Ytdkjifnhhkdmbaa
