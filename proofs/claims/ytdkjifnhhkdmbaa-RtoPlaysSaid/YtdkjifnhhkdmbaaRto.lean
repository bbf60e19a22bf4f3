/-
  Package rto: what its functions do, each walked once.
-/
import Derived.Test.YtdkjifnhhkdmbaaRows
import Derived.Test.YtdkjifnhhkdmbaaBase
import Derived.WalkKit
import Derived.WalkSpells
import Derived.WalkLawsBesides
import Derived.Deep.QuietTactic
import Derived.BigQuiet
import Derived.Lib.Hide
namespace Go.Proofs.Ytdkjifnhhkdmbaa
open Go.RowKit Go.Pm


/-- An estimate: what is smoothed, how much it varies, how often it is backed off, whether anything was measured. -/
structure Est where
  s : Int
  v : Int
  t : Int
  any : Bool

def Est.cells (x : Est) : Array Value := #[.int .i64 x.s, .int .i64 x.v, .int .i64 x.t, .bool x.any, .bool true]
structure Est.Ok (x : Est) : Prop where
  s0 : 0 ≤ x.s
  s1 : x.s ≤ 800000
  v0 : 0 ≤ x.v
  v1 : x.v ≤ 400000
  t0 : 0 ≤ x.t
  t1 : x.t ≤ 8

def Est.zero : Est := ⟨0, 0, 0, false⟩
theorem Est.zero_ok : Est.zero.Ok := ⟨by decide, by decide, by decide, by decide, by decide, by decide⟩

def absI (d : Int) : Int := if d < -d then -d else d
def Est.step (x : Est) (r : Int) : Est :=
  if x.any then ⟨x.s + (r - x.s / 8), x.v + (absI (x.s / 8 - r) - x.v / 4), x.t, true⟩ else ⟨8 * r, 4 * r / 2, x.t, true⟩
theorem Est.step_ok {x : Est} (h : x.Ok) {r : Int} (h0 : 0 ≤ r) (h1 : r ≤ 100000) : (x.step r).Ok := by
  obtain ⟨a, b, c, d, e, f⟩ := h
  unfold Est.step absI
  split
  · split <;> exact ⟨by dsimp; omega, by dsimp; omega, by dsimp; omega, by dsimp; omega, by dsimp; omega, by dsimp; omega⟩
  · exact ⟨by dsimp; omega, by dsimp; omega, by dsimp; omega, by dsimp; omega, by dsimp; omega, by dsimp; omega⟩

/-- What is waited without backing off. -/
def Est.base (x : Est) : Int := if x.any then x.s / 8 + (if x.v ≤ 1 then 1 else x.v) else 30
def up : Nat → Int → Int
  | 0, w => w
  | k + 1, w => if w < 600 then up k (2 * w) else w
def clamp (w : Int) : Int := if w < 5 then 5 else if w < 600 then w else 600
def Est.wait (x : Est) : Int := clamp (up x.t.toNat x.base)

theorem is_any (b : Nat) (w : World) (m : Bool) (h : w.cell? ⟨b, 4, none⟩ = some (.bool m)) :
    Calls Try.prog 20 #[.pointer (some ⟨b, 0, none⟩)] w fun e w' => e = .returned (.bool m) ∧ w = w' := by
  go_enter Try.func20, Try.ntmps20
  go_wp2
  go_ret
  exact ⟨rfl, rfl⟩

theorem up_zero (w : Int) : up 0 w = w := rfl
theorem up_lt (k : Nat) (w : Int) (h : w < 600) : up (k + 1) w = up k (2 * w) := by simp [up, h]
theorem up_ge (k : Nat) (w : Int) (h : ¬ w < 600) : up k w = w := by
  cases k with
  | zero => rfl
  | succ k => simp [up, h]

set_option maxHeartbeats 800000 in
/-- The body from the label on: what is left to double, and the wait so far. -/
theorem wait_walk (b : Nat) (w : World) (s v t : Int) (a : Bool) (F : Int) (HF : Hid (clamp (up t.toNat (Est.base ⟨s, v, t, a⟩)) = F)) (h0 : w.cell? ⟨b, 0, none⟩ = some (.int .i64 s)) (h1 : w.cell? ⟨b, 1, none⟩ = some (.int .i64 v))
    (h2 : w.cell? ⟨b, 2, none⟩ = some (.int .i64 t)) (h3 : w.cell? ⟨b, 3, none⟩ = some (.bool a)) (h : w.cell? ⟨b, 4, none⟩ = some (.bool true)) (hs0 : 0 ≤ s) (hs : s ≤ 800000) (hv0 : 0 ≤ v) (hv : v ≤ 400000) (ht0 : 0 ≤ t) (ht : t ≤ 8) :
    Calls Try.prog 12 #[.pointer (some ⟨b, 0, none⟩)] w fun e w' => e = .returned (.int .i64 F) ∧ ∃ n, w' = w.drewN n := by
  obtain ⟨T, rfl⟩ := Int.eq_ofNat_of_zero_le ht0
  rw [Int.toNat_natCast] at HF
  cases a
  all_goals
    go_enter Try.func12, Try.ntmps12
    go_wp2_with fail
    refine wp_scope_label 0 (fun a' w' => (∃ n, w' = w.drewN n) ∧ ∃ (k : Nat) (x : Int), (∃ uf : Nat → Value, a' = { tmps := #[.pointer (some ⟨b, 0, none⟩), uf 1, uf 2, .int .i64 x, .int .i64 k, uf 5, uf 6, uf 7, uf 8, uf 9, uf 10, uf 11, uf 12, uf 13, uf 14, uf 15, uf 16, uf 17, uf 18, uf 19, uf 20, uf 21, uf 22, uf 23, uf 24, uf 25, uf 26, uf 27, uf 28, uf 29, uf 30, uf 31, uf 32, uf 33, uf 34, uf 35, uf 36, uf 37, uf 38, uf 39], defers := [] }) ∧ k ≤ 8 ∧ 0 ≤ x ∧ x ≤ 2000000 ∧ Hid (clamp (up k x) = F)) (fun a' _ => (intOf (a'.tmps.getD 4 undef)).toNat) rfl rfl ?_ ?_
    · intro _ _
      go_wp2_with (go_at_call 20; refine (is_any _ _ _ h).mono ?_; rintro e w' ⟨rfl, rfl⟩)
      intro _ _
      go_quiet (fail)
      go_wp2
      intro _ _
      go_wp2
      try go_region
      all_goals try go_wp2
      all_goals
        intro _ _
        go_step3
        go_wp2
        refine ⟨⟨_, rfl⟩, T, _, ex_frame rfl, ?_, ?_, ?_, ?_⟩
        · omega
        · omega
        · omega
        · unfold Hid
          rw [← HF.out]
          simp only [Est.base]
          first | rfl | (rw [if_pos trivial, if_neg (by omega)]) | (rw [if_pos trivial, if_pos (by omega)])
    · rintro a' w' ⟨⟨n, rfl⟩, k, x, ⟨uf, rfl⟩, hk, hx0, hx1, HX⟩
      intro _ _
      by_cases hc : 0 < k ∧ x < 600
      · obtain ⟨hk0, hx6⟩ := hc
        obtain ⟨k, rfl⟩ : ∃ j, k = j + 1 := ⟨k - 1, by omega⟩
        go_wp2
        go_step3
        refine ⟨rfl, ⟨⟨n, rfl⟩, k, x * 2, ex_frame rfl, by omega, by omega, by omega, by rw [Hid, Int.mul_comm, ← up_lt _ _ hx6]; exact HX.out⟩, ?_⟩
        · simp [intOf]
      · by_cases hk0 : 0 < k
        · have hx6 : ¬ x < 600 := fun h => hc ⟨hk0, h⟩
          clear hc
          have HX2 := Lib.hid (up_ge k _ hx6)
          go_wp2
          simp only [Exit.jump]
          go_ret
          exact ⟨ret_int (by rw [← HX.out, HX2.out]; simp only [clamp]; omega), n, rfl⟩
        · clear hc
          have hk1 : k = 0 := by omega
          subst hk1
          go_wp2
          all_goals
            simp only [Exit.jump]
            go_ret
            exact ⟨ret_int (by rw [← HX.out, up_zero]; simp only [clamp]; omega), n, rfl⟩

theorem Est.c0 {w : World} {b : Nat} {x : Est} (h : Blk w b x.cells 43) : w.cell? ⟨b, 0, none⟩ = some (.int .i64 x.s) := by rw [h.cell]; rfl
theorem Est.c1 {w : World} {b : Nat} {x : Est} (h : Blk w b x.cells 43) : w.cell? ⟨b, 1, none⟩ = some (.int .i64 x.v) := by rw [h.cell]; rfl
theorem Est.c2 {w : World} {b : Nat} {x : Est} (h : Blk w b x.cells 43) : w.cell? ⟨b, 2, none⟩ = some (.int .i64 x.t) := by rw [h.cell]; rfl
theorem Est.c3 {w : World} {b : Nat} {x : Est} (h : Blk w b x.cells 43) : w.cell? ⟨b, 3, none⟩ = some (.bool x.any) := by rw [h.cell]; rfl
theorem Est.c4 {w : World} {b : Nat} {x : Est} (h : Blk w b x.cells 43) : w.cell? ⟨b, 4, none⟩ = some (.bool true) := by rw [h.cell]; rfl

theorem wait_any (b : Nat) (w : World) (x : Est) (h : Blk w b x.cells 43) (hx : x.Ok) :
    Calls Try.prog 12 #[.pointer (some ⟨b, 0, none⟩)] w fun e w' => e = .returned (.int .i64 x.wait) ∧ ∃ n, w' = w.drewN n :=
  wait_walk b w x.s x.v x.t x.any _ rfl (Est.c0 h) (Est.c1 h) (Est.c2 h) (Est.c3 h) (Est.c4 h) hx.s0 hx.s1 hx.v0 hx.v1 hx.t0 hx.t1

theorem new_any (w : World) :
    Calls Try.prog 9 #[] w fun e w' => e = .returned (.pointer (some ⟨w.heap.size, 0, none⟩)) ∧ Blk w' w.heap.size Est.zero.cells 43 ∧ Only [] w w' := by
  go_enter Try.func9, Try.ntmps9
  go_wp2
  go_ret
  exact ⟨rfl, Blk.new _ _ _, (Only.refl _ _).alloc _⟩

theorem state_any (b : Nat) (w : World) (x : Est) (hb : Blk w b x.cells 43) :
    Calls Try.prog 13 #[.pointer (some ⟨b, 0, none⟩)] w fun e w' => e = .returned (.tuple #[.int .i64 x.s, .int .i64 x.v]) ∧ ∃ n, w' = w.drewN n := by
  have h0 := Est.c0 hb
  have h1 := Est.c1 hb
  have h := Est.c4 hb
  clear hb
  go_enter Try.func13, Try.ntmps13
  go_wp2_with (go_at_call 20; refine (is_any _ _ _ h).mono ?_; rintro e w' ⟨rfl, rfl⟩)
  go_quiet (fail)
  go_wp2
  go_ret2
  exact ⟨rfl, _, rfl⟩

theorem tries_any (b : Nat) (w : World) (x : Est) (hb : Blk w b x.cells 43) :
    Calls Try.prog 19 #[.pointer (some ⟨b, 0, none⟩)] w fun e w' => e = .returned (.int .i64 x.t) ∧ w = w' := by
  have h2 := Est.c2 hb
  have h := Est.c4 hb
  clear hb
  go_enter Try.func19, Try.ntmps19
  go_wp2_with (go_at_call 20; refine (is_any _ _ _ h).mono ?_; rintro e w' ⟨rfl, rfl⟩)
  go_ret
  exact ⟨rfl, rfl⟩

theorem good_any (b : Nat) (w : World) (x : Est) (hb : Blk w b x.cells 43) :
    Calls Try.prog 16 #[.pointer (some ⟨b, 0, none⟩)] w fun e w' => e = .returned (.tuple #[]) ∧ Blk w' b (Est.cells { x with t := 0 }) 43 ∧ Only [b] w w' := by
  have h2 := Est.c2 hb
  have f2 := hb.free 2
  have h := Est.c4 hb
  have HB := Lib.hid hb; clear hb
  go_enter Try.func16, Try.ntmps16
  go_wp2_with (go_at_call 20; refine (is_any _ _ _ h).mono ?_; rintro e w' ⟨rfl, rfl⟩)
  go_end0
  exact ⟨rfl, HB.out.set 2 _, (Only.refl _ _).setCell (by simp) _ _⟩

theorem back_any (b : Nat) (w : World) (x : Est) (hx : x.Ok) (hb : Blk w b x.cells 43) (ht : x.t < 8) :
    Calls Try.prog 14 #[.pointer (some ⟨b, 0, none⟩)] w fun e w' => e = .returned (.int .i64 0) ∧ Blk w' b (Est.cells { x with t := x.t + 1 }) 43 ∧ Only [b] w w' := by
  have e1 : (x.t == 8) = false := by simp; omega
  have ht0 := hx.t0
  have h2 := Est.c2 hb
  have f2 := hb.free 2
  have h := Est.c4 hb
  have HB := Lib.hid hb; clear hb hx
  go_enter Try.func14, Try.ntmps14
  go_wp2_with (go_at_call 20; refine (is_any _ _ _ h).mono ?_; rintro e w' ⟨rfl, rfl⟩)
  go_ret
  exact ⟨rfl, HB.out.set 2 _, (Only.refl _ _).setCell (by simp) _ _⟩

theorem back_full (b : Nat) (w : World) (x : Est) (hb : Blk w b x.cells 43) (ht : x.t = 8) :
    Calls Try.prog 14 #[.pointer (some ⟨b, 0, none⟩)] w fun e w' => e = .returned (.int .i64 4) ∧ w = w' := by
  have e1 : (x.t == 8) = true := by simp; omega
  have h2 := Est.c2 hb
  have h := Est.c4 hb
  clear hb ht
  go_enter Try.func14, Try.ntmps14
  go_wp2_with (go_at_call 20; refine (is_any _ _ _ h).mono ?_; rintro e w' ⟨rfl, rfl⟩)
  go_ret
  exact ⟨rfl, rfl⟩

theorem measure_bad (b : Nat) (w : World) (x : Est) (r : Int) (hb : Blk w b x.cells 43) (hr : r < 0 ∨ 100000 < r) :
    Calls Try.prog 11 #[.pointer (some ⟨b, 0, none⟩), .int .i64 r] w fun e w' => e = .returned (.int .i64 2) ∧ w = w' := by
  have h := Est.c4 hb
  clear hb
  rcases hr with hr | hr
  all_goals
    go_enter Try.func11, Try.ntmps11
    go_wp2_with (go_at_call 20; refine (is_any _ _ _ h).mono ?_; rintro e w' ⟨rfl, rfl⟩)
    go_ret
    exact ⟨rfl, rfl⟩

theorem measure_first (b : Nat) (w : World) (s v t r : Int) (hb : Blk w b (Est.cells ⟨s, v, t, false⟩) 43) (hr0 : 0 ≤ r) (hr : r ≤ 100000) :
    Calls Try.prog 11 #[.pointer (some ⟨b, 0, none⟩), .int .i64 r] w fun e w' => e = .returned (.int .i64 0) ∧ Blk w' b (Est.cells ⟨8 * r, 4 * r / 2, t, true⟩) 43 ∧ Only [b] w w' := by
  have h0 := Est.c0 hb
  have h1 := Est.c1 hb
  have h3 := Est.c3 hb
  have h := Est.c4 hb
  have f0 := hb.free 0
  have f1 := hb.free 1
  have f3 := hb.free 3
  have HB := Lib.hid hb; clear hb
  go_enter Try.func11, Try.ntmps11
  go_wp2_with (go_at_call 20; refine (is_any _ _ _ h).mono ?_; rintro e w' ⟨rfl, rfl⟩)
  go_ret
  exact ⟨rfl, ((HB.out.set 0 _).set 1 _).set 3 _, (((Only.refl _ _).setCell (by simp) _ _).setCell (by simp) _ _).setCell (by simp) _ _⟩

theorem measure_more (b : Nat) (w : World) (x : Est) (hx : x.Ok) (ha : x.any = true) (r : Int) (hb : Blk w b x.cells 43) (hr0 : 0 ≤ r) (hr : r ≤ 100000) :
    Calls Try.prog 11 #[.pointer (some ⟨b, 0, none⟩), .int .i64 r] w fun e w' => e = .returned (.int .i64 0) ∧ Blk w' b (Est.cells (x.step r)) 43 ∧ Only [b] w w' := by
  obtain ⟨s, v, t, a⟩ := x
  obtain ⟨hs0, hs, hv0, hv, _, _⟩ := hx
  dsimp only at *
  subst ha
  have h0 := Est.c0 hb
  have h1 := Est.c1 hb
  have h3 := Est.c3 hb
  have h := Est.c4 hb
  have f0 := hb.free 0
  have f1 := hb.free 1
  have HB := Lib.hid hb; clear hb
  by_cases hd : s / 8 - r < -(s / 8 - r)
  · have HA := Lib.hid (show absI (s / 8 - r) = -(s / 8 - r) from if_pos hd)
    go_enter Try.func11, Try.ntmps11
    go_wp2_with (go_at_call 20; refine (is_any _ _ _ h).mono ?_; rintro e w' ⟨rfl, rfl⟩)
    go_region
    go_wp2
    go_region
    go_wp2
    go_ret
    refine ⟨rfl, ?_, ((((Only.refl _ _).setCell (by simp) _ _).setCell (by simp) _ _).drew).drew⟩
    simp only [Est.step, if_true, HA.out]
    exact ((HB.out.set 1 _).set 0 _).drew.drew
  · have HA := Lib.hid (show absI (s / 8 - r) = s / 8 - r from if_neg hd)
    go_enter Try.func11, Try.ntmps11
    go_wp2_with (go_at_call 20; refine (is_any _ _ _ h).mono ?_; rintro e w' ⟨rfl, rfl⟩)
    go_region
    go_wp2
    go_region
    go_wp2
    go_ret
    refine ⟨rfl, ?_, ((((Only.refl _ _).setCell (by simp) _ _).setCell (by simp) _ _).drew).drew⟩
    simp only [Est.step, if_true, HA.out]
    exact ((HB.out.set 1 _).set 0 _).drew.drew

theorem measure_any (b : Nat) (w : World) (x : Est) (hx : x.Ok) (r : Int) (hb : Blk w b x.cells 43) (hr0 : 0 ≤ r) (hr : r ≤ 100000) :
    Calls Try.prog 11 #[.pointer (some ⟨b, 0, none⟩), .int .i64 r] w fun e w' => e = .returned (.int .i64 0) ∧ Blk w' b (Est.cells (x.step r)) 43 ∧ Only [b] w w' := by
  cases ha : x.any with
  | true => exact measure_more b w x hx ha r hb hr0 hr
  | false =>
    obtain ⟨s, v, t, a⟩ := x
    dsimp only at ha
    subst ha
    exact measure_first b w s v t r hb hr0 hr

/-- A measure, whatever it is: what is told, and what stays. -/
def Est.meas (x : Est) (r : Int) : Est := if 0 ≤ r ∧ r ≤ 100000 then x.step r else x
def measCode (r : Int) : Int := if 0 ≤ r ∧ r ≤ 100000 then 0 else 2
theorem Est.meas_ok {x : Est} (h : x.Ok) (r : Int) : (x.meas r).Ok := by
  unfold Est.meas
  split
  · exact Est.step_ok h (by omega) (by omega)
  · exact h

theorem measure_all (b : Nat) (w : World) (x : Est) (hx : x.Ok) (r : Int) (hb : Blk w b x.cells 43) :
    Calls Try.prog 11 #[.pointer (some ⟨b, 0, none⟩), .int .i64 r] w fun e w' => e = .returned (.int .i64 (measCode r)) ∧ Blk w' b (Est.cells (x.meas r)) 43 ∧ Only [b] w w' := by
  by_cases h : 0 ≤ r ∧ r ≤ 100000
  · rw [show measCode r = 0 from if_pos h, show x.meas r = x.step r from if_pos h]
    exact measure_any b w x hx r hb h.1 h.2
  · rw [show measCode r = 2 from if_neg h, show x.meas r = x from if_neg h]
    exact (measure_bad b w x r hb (by omega)).mono fun e w' ⟨he, hw⟩ => ⟨he, hw ▸ hb, hw ▸ Only.refl _ _⟩

def Est.back (x : Est) : Est := if x.t < 8 then { x with t := x.t + 1 } else x
def Est.backCode (x : Est) : Int := if x.t < 8 then 0 else 4
theorem Est.back_ok {x : Est} (h : x.Ok) : x.back.Ok := by
  unfold Est.back
  split
  · exact ⟨h.s0, h.s1, h.v0, h.v1, by have := h.t0; dsimp; omega, by dsimp; omega⟩
  · exact h

theorem back_all (b : Nat) (w : World) (x : Est) (hx : x.Ok) (hb : Blk w b x.cells 43) :
    Calls Try.prog 14 #[.pointer (some ⟨b, 0, none⟩)] w fun e w' => e = .returned (.int .i64 x.backCode) ∧ Blk w' b (Est.cells x.back) 43 ∧ Only [b] w w' := by
  by_cases h : x.t < 8
  · rw [show x.backCode = 0 from if_pos h, show x.back = { x with t := x.t + 1 } from if_pos h]
    exact back_any b w x hx hb h
  · rw [show x.backCode = 4 from if_neg h, show x.back = x from if_neg h]
    exact (back_full b w x hb (by have := hx.t1; omega)).mono fun e w' ⟨he, hw⟩ => ⟨he, hw ▸ hb, hw ▸ Only.refl _ _⟩

/-! An estimate that no call made: the nil pointer, or the zero value. -/
theorem is_nil (w : World) : Calls Try.prog 20 #[.pointer none] w fun e w' => e = .returned (.bool false) ∧ w = w' := by
  go_enter Try.func20, Try.ntmps20
  go_wp2
  go_ret
  exact ⟨rfl, rfl⟩

def NoEst (w : World) (p : Value) : Prop := Calls Try.prog 20 #[p] w fun e w' => e = .returned (.bool false) ∧ w = w'

theorem void_measure (w : World) (p : Value) (hp : NoEst w p) (r : Int) : Calls Try.prog 11 #[p, .int .i64 r] w fun e w' => e = .returned (.int .i64 1) ∧ w = w' := by
  go_enter Try.func11, Try.ntmps11
  go_wp2_with (go_at_call 20; refine (show Calls _ _ _ _ _ from hp).mono ?_; rintro e w' ⟨rfl, rfl⟩)
  go_ret
  exact ⟨rfl, rfl⟩

theorem void_back (w : World) (p : Value) (hp : NoEst w p) : Calls Try.prog 14 #[p] w fun e w' => e = .returned (.int .i64 1) ∧ w = w' := by
  go_enter Try.func14, Try.ntmps14
  go_wp2_with (go_at_call 20; refine (show Calls _ _ _ _ _ from hp).mono ?_; rintro e w' ⟨rfl, rfl⟩)
  go_ret
  exact ⟨rfl, rfl⟩

theorem void_tries (w : World) (p : Value) (hp : NoEst w p) : Calls Try.prog 19 #[p] w fun e w' => e = .returned (.int .i64 0) ∧ w = w' := by
  go_enter Try.func19, Try.ntmps19
  go_wp2_with (go_at_call 20; refine (show Calls _ _ _ _ _ from hp).mono ?_; rintro e w' ⟨rfl, rfl⟩)
  go_ret
  exact ⟨rfl, rfl⟩

theorem void_good (w : World) (p : Value) (hp : NoEst w p) : Calls Try.prog 16 #[p] w fun e w' => e = .returned (.tuple #[]) ∧ w = w' := by
  go_enter Try.func16, Try.ntmps16
  go_wp2_with (go_at_call 20; refine (show Calls _ _ _ _ _ from hp).mono ?_; rintro e w' ⟨rfl, rfl⟩)
  go_end0
  exact ⟨rfl, rfl⟩

theorem void_state (w : World) (p : Value) (hp : NoEst w p) : Calls Try.prog 13 #[p] w fun e w' => e = .returned (.tuple #[.int .i64 0, .int .i64 0]) ∧ w = w' := by
  go_enter Try.func13, Try.ntmps13
  go_wp2_with (go_at_call 20; refine (show Calls _ _ _ _ _ from hp).mono ?_; rintro e w' ⟨rfl, rfl⟩)
  go_ret2
  exact ⟨rfl, rfl⟩

theorem void_wait (w : World) (p : Value) (hp : NoEst w p) : Calls Try.prog 12 #[p] w fun e w' => e = .returned (.int .i64 0) ∧ w = w' := by
  go_enter Try.func12, Try.ntmps12
  go_wp2_with fail
  refine wp_scope_straight ?_
  go_wp2_with (go_at_call 20; refine (show Calls _ _ _ _ _ from hp).mono ?_; rintro e w' ⟨rfl, rfl⟩)
  rw [Exit.noGoto_ret]
  go_ret
  exact ⟨rfl, rfl⟩

/-! base.Among, at a number of 1 to the greatest. -/
def amongI (x n : Int) : Int := (x % 18446744073709551616) % n

theorem amongI_bd (x n : Int) (h : 1 ≤ n) : 0 ≤ amongI x n ∧ amongI x n < n := by
  unfold amongI
  exact ⟨Int.emod_nonneg _ (by omega), Int.emod_lt_of_pos _ (by omega)⟩

theorem among_eq (x n : Int) (hn : 1 ≤ n) (hn' : n ≤ 9223372036854775807) : wrap64 ((IntKind.u64.wrap x).tmod n) = amongI x n := by
  have h1 : IntKind.u64.wrap x = x % 18446744073709551616 := rfl
  rw [h1, Int.tmod_eq_emod_of_nonneg (by omega)]
  have h2 := amongI_bd x n hn
  unfold amongI at *
  simp only [wrap64]
  omega

theorem among_any (x n : Int) (w : World) (hn : 1 ≤ n) (hn' : n ≤ 9223372036854775807) (hx : -9223372036854775808 ≤ x) (hx' : x ≤ 9223372036854775807) :
    Calls Try.prog 10 #[.int .i64 x, .int .i64 n] w fun e w' => e = .returned (.int .i64 (amongI x n)) ∧ w = w' := by
  have H := Lib.hid (among_eq x n hn hn')
  go_enter Try.func10, Try.ntmps10
  go_wp2
  go_ret
  exact ⟨ret_int H.out, rfl⟩
end Go.Proofs.Ytdkjifnhhkdmbaa
