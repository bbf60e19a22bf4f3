/-
  MarkVoid: for all bytes the law returns true and leaves its argument alone (no condition).
-/
import Derived.Test.YtcpoaghogpkagaaMarkWorks
import Derived.ShutString
namespace Go.Proofs.Ytcpoaghogpkagaa
open Go.RowKit Go.Pm


set_option maxHeartbeats 1000000 in
theorem void_walk (W : World) (v : Value) :
    Calls Try.prog 7 #[v] W fun e w' => e = .returned (.bool true) ∧ Only [] W w' := by
  go_enter Try.func7, Try.ntmps7
  go_wp2_with fail
  refine (works_any _).mono ?_
  rintro e w1 ⟨rfl, hw1⟩
  have HW1 := Lib.hid hw1
  clear hw1
  go_wp2_with fail
  refine (feed_nil _ _).mono ?_
  rintro e w2 ⟨rfl, hw2⟩
  have hs2 := (Blk.new w1 #[.slice none 0 0, .bool false, .bool false] 56).keep hw2 (by simp)
  have HS2 := Lib.hid hs2
  have HW2 := Lib.hid (((Only.refl [] w1).alloc (.cells #[.slice none 0 0, .bool false, .bool false] 56)).then hw2)
  clear hw2 hs2
  go_wp2_with fail
  refine (feed_unmade _ _ _ _ false (HS2.out.alloc _)).mono ?_
  rintro e w3 ⟨rfl, hw3⟩
  have hs3 := (HS2.out.alloc _).keep hw3 (by simp)
  have hf3 := (Blk.new w2 #[.int .i64 0, .int .i64 0, .slice none 0 0] 38).keep hw3 (by simp)
  have HS3 := Lib.hid hs3
  have HF3 := Lib.hid hf3
  have HW3 := Lib.hid (((Only.refl [] w2).alloc (.cells #[.int .i64 0, .int .i64 0, .slice none 0 0] 38)).then hw3)
  clear hw3 hs3 hf3
  go_wp2_with fail
  have B1 := HS3.out
  have B2 := HF3.out
  have B3 := (HW1.out.then HW2.out).then HW3.out
  refine world_abs (fun w' => Only [] W w' ∧ Blk w' w1.heap.size #[.slice none 0 0, .bool false, .bool false] 56 ∧ Blk w' w2.heap.size #[.int .i64 0, .int .i64 0, .slice none 0 0] 38 ∧ Blk w' w3.heap.size #[.int .i64 0, .int .i64 0, .slice none 0 0] 38) ⟨?_, ?_, ?_, ?_⟩ ?_
  · (repeat (first | with_reducible exact Only.refl _ _ | with_reducible assumption | with_reducible apply Only.drew | with_reducible apply Only.drewN | with_reducible apply Only.alloc | (refine Only.setCell ?_ (by first | (left; simp; done) | (right; omega)) _ _)))
  · (apply blk_cast; (case h => (repeat (first | with_reducible assumption | (with_reducible apply blk_newAt; (first | omega | (simp; done) | (simp; omega))) | with_reducible apply Blk.set | with_reducible apply Blk.drewN | with_reducible apply Blk.drew | with_reducible apply Blk.alloc | (with_reducible apply Blk.setOther; (case hc => first | omega | (simp; omega)))))); (case e => (first | (simp; done) | rfl)))
  · (apply blk_cast; (case h => (repeat (first | with_reducible assumption | (with_reducible apply blk_newAt; (first | omega | (simp; done) | (simp; omega))) | with_reducible apply Blk.set | with_reducible apply Blk.drewN | with_reducible apply Blk.drew | with_reducible apply Blk.alloc | (with_reducible apply Blk.setOther; (case hc => first | omega | (simp; omega)))))); (case e => (first | (simp; done) | rfl)))
  · (apply blk_cast; (case h => (repeat (first | with_reducible assumption | (with_reducible apply blk_newAt; (first | omega | (simp; done) | (simp; omega))) | with_reducible apply Blk.set | with_reducible apply Blk.drewN | with_reducible apply Blk.drew | with_reducible apply Blk.alloc | (with_reducible apply Blk.setOther; (case hc => first | omega | (simp; omega)))))); (case e => (first | (simp; done) | rfl)))
  rintro w4 ⟨hw4, hs4, hf4, hg4⟩
  have f0 : w4.cell? ⟨w2.heap.size, 0, none⟩ = some (.int .i64 0) := (hf4.cell 0).trans rfl
  have g0 : w4.cell? ⟨w3.heap.size, 0, none⟩ = some (.int .i64 0) := (hg4.cell 0).trans rfl
  have HW4 := Lib.hid hw4
  have HS4 := Lib.hid hs4
  clear hw4 hs4 hf4 hg4 B1 B2 B3
  go_quiet (first
    | (go_at_call_of 19 (Value.pointer none); exact calls_still _ rfl (held_nil _))
    | (go_at_call 19; exact calls_still _ rfl (held_any _ _ _ _ _ [] (HS4.out.drewN _) (VwB.nil _))))
  go_wp2_with fail
  go_ret
  exact ⟨rfl, HW4.out.drewN _⟩

namespace markVoid
theorem walk {W : World} (n0 : Nat) {a0 : Option Addr} {l0 c0 : Nat} (g0 : Rd Try.prog W n0 22 (Value.slice a0 l0 c0).cells.toList) :
    Calls Try.prog 7 #[.slice a0 l0 c0] W fun e w' => e = .returned (.bool true) ∧ Only [] W w' := void_walk W _
end markVoid
namespace markVoid
open Go.ChangeShapes Go.WideShapes Go.ChangeAt
set_option linter.unusedVariables false

theorem own : ownKnob Try.prog.godebug = none := by kernel_rfl
theorem laidOut : laidOutB Try.prog = true := by kernel_rfl

set_option maxRecDepth 100000 in
theorem lifted (os : Os) (started : os.Started) (H : Type) (enc : TypeId × Value → H) :
    ReturnsInHanded {} Try.checked os 7 .any (Rows.markVoidSpec.pre6 enc Try.prog Try.f7 Rows.markVoidRow.domain false) (Rows.markVoidSpec.post enc Try.prog Try.f7 false true false false) := by
  refine returnsInHanded_of_change (C := Try.checked) own started (by kernel_rfl) Try.func7
    (ChangeSpec.witness6 (enc := enc) (C := Try.checked) false ⟨#[], #[.slice none 0 0], []⟩ 8 (by kernel_rfl) (by kernel_rfl) (by kernel_rfl) (by kernel_rfl)) ?_
  intro W base args ds gs before hval0 hW hcnd hreach
  have hval : ∀ (j : Nat) t v, Try.f7.params[j]? = some t → args[j]? = some v → Value.okWide Try.prog W .any base t v := hval0
  have hW' := hW
  obtain ⟨p, q, hA0, hV, rfl, hfz, hnd⟩ := hW
  have hA : DataW.TrodAll enc Try.prog W 0 (fun _ => true) true Try.f7.params.toList args.toList ds p := hA0
  rw [Try.params7] at hA hval
  obtain ⟨v0, vs0, d0, ds0, p0, q0, hargs, rfl, rfl, h0, r0⟩ := trodAll_cons hA
  obtain ⟨rfl, rfl, rfl⟩ := trodAll_nil r0
  obtain rfl : args = #[v0] := by cases args; simp_all
  obtain ⟨rfl, rfl⟩ := trodVars_none hV
  have k0 := h0
  have lt0 : ∀ x ∈ p0, x.block < W.heap.size := by obtain ⟨m, hm⟩ := k0; exact DataW.trod_lt m _ _ _ hm
  obtain ⟨n0, g0⟩ := Rd.ofTrod' h0
  obtain ⟨a0, l0, c0, rfl⟩ := okWide_slice Try.underlying22 (hval 0 22 v0 rfl rfl)
  refine (walk n0 g0).mono fun e W' ⟨he, hg⟩ => ?_
  subst he
  have bel := hg.belowNil
  exact ⟨_, rfl, _, _, _, [], _, [], hW', trodAll_mk1 (shut_bool Try.underlying4 _), (trodAll_cons_mk (Below.trod laidOut (by kernel_rfl) (of_decide_eq_true (by kernel_rfl)) k0 bel lt0) trodAll_mk0), rfl, bel.frame _, fun h => by cases h⟩

theorem over : Rows.markVoidRow.holds Try.pinned (OpenSpec.ofChange Rows.markVoidSpec) :=
  OpenClaim.holds_of_wide 7 Try.f7 rfl rfl rfl rfl rfl rfl rfl ⟨rfl, rfl, rfl, rfl, rfl⟩ rfl rfl rfl rfl rfl (by kernel_rfl) Try.func7 (by kernel_rfl)
    (of_decide_eq_true (by kernel_rfl)) (by unfold Func.isWrapper; first | (rw [if_pos (by decide +kernel)]; kernel_rfl) | (rw [if_neg (by decide +kernel)]; exact ⟨rfl, rfl⟩))
    (fun os started H enc _ => lifted os started H enc)

/-- The statement. -/
theorem proved : Rows.MarkVoidSaid := over
#print axioms proved
end markVoid
end Go.Proofs.Ytcpoaghogpkagaa
