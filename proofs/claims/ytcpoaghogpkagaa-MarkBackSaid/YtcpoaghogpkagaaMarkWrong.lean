/-
  The document's answer of layer 17: what is wrong with a head.
-/
import Derived.Test.YtcpoaghogpkagaaMarkNext
import Derived.BigRegion
namespace Go.Proofs.Ytcpoaghogpkagaa
set_option linter.unusedSimpArgs false
set_option linter.unusedVariables false
open Go.RowKit Go.Pm


/-- The document's test of a head says what check says. -/
def WrongAs (W : World) (h : List Int) (e : Ending) (w' : World) : Prop :=
  match checkF h with
  | none => e = .returned (.tuple #[.agg #[.int .i64 0, .int .i64 0, .slice none 0 0], .bool false]) ∧ Only [] W w'
  | some (s, d) => ∃ dv, e = .returned (.tuple #[.agg #[.int .i64 1, .int .i64 s, dv], .bool true]) ∧ OwnB 5 w' W.heap.size dv d ∧ Only [] W w'

theorem take_at (h : List Int) (i : Nat) (hi : i < h.length) : h.take (i + 1) = h.take i ++ [at_ h i] := by
  rw [List.take_succ_eq_append_getElem hi]
  simp [at_, List.getD, List.getElem?_eq_getElem hi]

set_option maxRecDepth 100000 in
set_option maxHeartbeats 2000000 in
theorem wrong_any (W w : World) (hW : Only [] W w) (v : Value) (h : List Int) (hv : VwB W v h) (hb : Byte h) (hl : h.length = 19) :
    Calls Try.prog 27 #[v] w (WrongAs w h) := by
  have HV := Lib.hid (hv.only hW)
  obtain ⟨b, off, c, hvv, h1, h2, hlt, -⟩ := (hv.only hW).open (by intro h0; rw [h0] at hl; simp at hl)
  subst hvv
  have HL := Lib.hid hl
  rw [hl] at HV h1 ⊢
  have HB := Lib.hid hb
  have r16 := at_range hb 16
  have r17 := at_range hb 17
  have r18 := at_range hb 18
  have HCF : Hid (checkF h = if h.take 16 ≠ List.replicate 16 255 then some (1, []) else if at_ h 16 * 256 + at_ h 17 < 19 ∨ 4096 < at_ h 16 * 256 + at_ h 17 then some (2, [at_ h 16, at_ h 17]) else
    if known (at_ h 18) = false then some (3, [at_ h 18]) else if fitsB (at_ h 18) (at_ h 16 * 256 + at_ h 17) then none else some (2, [at_ h 16, at_ h 17])) := rfl
  unfold maxLen at h2
  clear hv hW hb hl
  go_enter Try.func27, Try.ntmps27
  go_wp2_with fail
  refine world_abs (fun w' => Only [] w w' ∧ Blk w' w.heap.size #[.int .i64 0, .int .i64 0, .slice none 0 0] 38) ⟨?_, ?_⟩ ?_
  · (repeat (first | with_reducible exact Only.refl _ _ | with_reducible assumption | with_reducible apply Only.drew | with_reducible apply Only.drewN | with_reducible apply Only.alloc | (refine Only.setCell ?_ (by first | (left; simp; done) | (right; omega)) _ _)))
  · (apply blk_cast; (case h => (repeat (first | with_reducible assumption | (with_reducible apply blk_newAt; (first | omega | (simp; done) | (simp; omega))) | with_reducible apply Blk.set | with_reducible apply Blk.drewN | with_reducible apply Blk.drew | with_reducible apply Blk.alloc | (with_reducible apply Blk.setOther; (case hc => first | omega | (simp; omega)))))); (case e => (first | (simp; done) | rfl)))
  rintro w1 ⟨hw1, hR1⟩
  have HV1 := Lib.hid (HV.out.only hw1)
  have HC : Hid (∀ i, i < 19 → w1.cell? ⟨b, off + i, none⟩ = some (.int .u8 (at_ h i))) := fun i hi => at_cell HV1.out i (by rw [HL.out]; exact hi)
  have c16 := HC.out 16 (by omega)
  have c17 := HC.out 17 (by omega)
  have c18 := HC.out 18 (by omega)
  have hlt1 : b < w1.heap.size := by have := hw1.size; omega
  have hlr := hR1.lt
  (have r0 : (w1).cell? ⟨w.heap.size, 0, none⟩ = some (.int .i64 0) := ((hR1).cell 0).trans rfl; have r1 : (w1).cell? ⟨w.heap.size, 1, none⟩ = some (.int .i64 0) := ((hR1).cell 1).trans rfl; have r2 : (w1).cell? ⟨w.heap.size, 2, none⟩ = some (.slice none 0 0) := ((hR1).cell 2).trans rfl)
  (have rf0 := (hR1).free 0; have rf1 := (hR1).free 1; have rf2 := (hR1).free 2)
  have HW1 := Lib.hid hw1
  have HR1 := Lib.hid hR1
  clear hw1 hR1 HV
  go_loop [4] (fun t => ∃ i : Nat, i ≤ 16 ∧ t = .int .i64 i ∧ Hid (h.take i = List.replicate i 255)) (fun t => 16 - (intOf t).toNat)
  case atStart => exact ⟨0, Nat.zero_le _, rfl, rfl⟩
  case round =>
    obtain ⟨i, hi, rfl, HI⟩ := hrel
    by_cases hlt16 : i < 16
    · have ci := HC.out i (by omega)
      have ri := at_range HB.out i
      by_cases h255 : at_ h i = 255
      · rw [h255] at ci
        have HN : Hid (h.take (i + 1) = List.replicate (i + 1) 255) := by
          unfold Hid
          rw [take_at h i (by rw [HL.out]; omega), HI.out, h255, List.replicate_succ']
        clear h255 ri c16 c17 c18
        go_wp2_with fail
        go_round
        case rel => exact ⟨i + 1, by omega, by go_num, HN⟩
        case measure => simp [intOf]; omega
      · have HCF2 : Hid (checkF h = some (1, [])) := by
          unfold Hid
          rw [HCF.out, if_pos ?_]
          intro h16
          apply h255
          have : (h.take 16)[i]? = some 255 := by rw [h16, List.getElem?_replicate, if_pos hlt16]
          rw [List.getElem?_take, if_pos hlt16] at this
          simp [at_, List.getD, this]
        have hne : (at_ h i != 255) = true := by simpa using h255
        generalize at_ h i = z at *
        clear h255 c16 c17 c18
        go_wp2_with fail
        have q1 := HW1.out
        have q2 := HR1.out
        refine world_abs (fun w' => Only [] w w' ∧ Blk w' w.heap.size #[.int .i64 1, .int .i64 1, .slice none 0 0] 38) ⟨?_, ?_⟩ ?_
        · (repeat (first | with_reducible exact Only.refl _ _ | with_reducible assumption | with_reducible apply Only.drew | with_reducible apply Only.drewN | with_reducible apply Only.alloc | (refine Only.setCell ?_ (by first | (left; simp; done) | (right; omega)) _ _)))
        · (apply blk_cast; (case h => (repeat (first | with_reducible assumption | (with_reducible apply blk_newAt; (first | omega | (simp; done) | (simp; omega))) | with_reducible apply Blk.set | with_reducible apply Blk.drewN | with_reducible apply Blk.drew | with_reducible apply Blk.alloc | (with_reducible apply Blk.setOther; (case hc => first | omega | (simp; omega)))))); (case e => (first | (simp; done) | rfl)))
        rintro w9 ⟨hO, hX⟩
        refine bodyPost_ret (v := .tuple #[.agg #[.int .i64 1, .int .i64 1, .slice none 0 0], .bool true]) ?_ rfl ?_
        · simp [results, Try.results27, loadVar_blk hX (.struct _) 38 Try.underlying38 rfl rfl, Act.put, asAddr, Sem.run_bind]
        · unfold WrongAs
          rw [HCF2.out]
          exact ⟨_, rfl, OwnB.nil _ _ _, hO⟩
    · obtain rfl : i = 16 := by omega
      have HCF2 : Hid (checkF h = if at_ h 16 * 256 + at_ h 17 < 19 ∨ 4096 < at_ h 16 * 256 + at_ h 17 then some (2, [at_ h 16, at_ h 17]) else
        if known (at_ h 18) = false then some (3, [at_ h 18]) else if fitsB (at_ h 18) (at_ h 16 * 256 + at_ h 17) then none else some (2, [at_ h 16, at_ h 17])) := by
        unfold Hid
        rw [HCF.out, if_neg (by simpa using HI.out)]
      clear HCF HI
      generalize at_ h 16 = x at *
      generalize at_ h 17 = y at *
      generalize at_ h 18 = k at *
      obtain ⟨x0, x1⟩ := r16
      obtain ⟨y0, y1⟩ := r17
      obtain ⟨k0, k1⟩ := r18
      go_wp2_with fail
      go_quiet (fail)
      have hW2 := HW1.out.drewN nq
      have hR2 := HR1.out.drewN nq
      rw [← World.cell?_drewN (n := nq)] at c16 c17 c18
      clear r0 r1 r2 rf0 rf1 rf2 HW1 HR1 HV1 HC
      generalize w1.drewN nq = w2 at *
      (have r0 : (w2).cell? ⟨w.heap.size, 0, none⟩ = some (.int .i64 0) := ((hR2).cell 0).trans rfl; have r1 : (w2).cell? ⟨w.heap.size, 1, none⟩ = some (.int .i64 0) := ((hR2).cell 1).trans rfl; have r2 : (w2).cell? ⟨w.heap.size, 2, none⟩ = some (.slice none 0 0) := ((hR2).cell 2).trans rfl)
      (have rf0 := (hR2).free 0; have rf1 := (hR2).free 1; have rf2 := (hR2).free 2)
      have hlr2 := hR2.lt
      have HW1 := Lib.hid hW2
      have HR1 := Lib.hid hR2
      clear hW2 hR2
      rw [show 256 * x = x * 256 by omega]
      by_cases hn : x * 256 + y < 19 ∨ 4096 < x * 256 + y
      · have HC2 : Hid (checkF h = some (2, [x, y])) := by unfold Hid; rw [HCF2.out, if_pos hn]
        rcases hn with hn | hn
        all_goals
          go_wp2_with fail
          go_region
          all_goals
            (try go_wp2_with fail)
            have q1 := HW1.out
            have q2 := HR1.out
            refine world_abs (fun w' => Only [] w w' ∧ Blk w' w.heap.size #[.int .i64 1, .int .i64 2, .slice (some ⟨w2.heap.size, 0, none⟩) 2 2] 38 ∧ Blk w' w2.heap.size #[.int .u8 x, .int .u8 y] 5) ⟨?_, ?_, ?_⟩ ?_
            · (repeat (first | with_reducible exact Only.refl _ _ | with_reducible assumption | with_reducible apply Only.drew | with_reducible apply Only.drewN | with_reducible apply Only.alloc | (refine Only.setCell ?_ (by first | (left; simp; done) | (right; omega)) _ _)))
            · (apply blk_cast; (case h => (repeat (first | with_reducible assumption | (with_reducible apply blk_newAt; (first | omega | (simp; done) | (simp; omega))) | with_reducible apply Blk.set | with_reducible apply Blk.drewN | with_reducible apply Blk.drew | with_reducible apply Blk.alloc | (with_reducible apply Blk.setOther; (case hc => first | omega | (simp; omega)))))); (case e => (first | (simp; done) | rfl)))
            · (apply blk_cast; (case h => (repeat (first | with_reducible assumption | (with_reducible apply blk_newAt; (first | omega | (simp; done) | (simp; omega))) | with_reducible apply Blk.set | with_reducible apply Blk.drewN | with_reducible apply Blk.drew | with_reducible apply Blk.alloc | (with_reducible apply Blk.setOther; (case hc => first | omega | (simp; omega)))))); (case e => (first | (simp; done) | rfl)))
            rintro w9 ⟨hO, hX, hD⟩
            refine bodyPost_ret (v := .tuple #[.agg #[.int .i64 1, .int .i64 2, .slice (some ⟨w2.heap.size, 0, none⟩) 2 2], .bool true]) ?_ rfl ?_
            · simp [results, Try.results27, loadVar_blk hX (.struct _) 38 Try.underlying38 rfl rfl, Act.put, asAddr, Sem.run_bind]
            · unfold WrongAs
              rw [HC2.out]
              exact ⟨_, rfl, OwnB.ofBlk hD (by have := HW1.out.size; omega) rfl rfl (by decide), hO⟩
      · have hn1 : 19 ≤ x * 256 + y := by omega
        have hn2 : x * 256 + y ≤ 4096 := by omega
        have HC3 : Hid (checkF h = if known k = false then some (3, [k]) else if fitsB k (x * 256 + y) then none else some (2, [x, y])) := by unfold Hid; rw [HCF2.out, if_neg hn]
        clear hn HCF2
        by_cases hk : k < 1 ∨ 5 < k
        · have HC2 : Hid (checkF h = some (3, [k])) := by unfold Hid; rw [HC3.out, if_pos (by unfold known; simp; omega)]
          rcases hk with hk | hk
          all_goals
            go_wp2_with fail
            have q1 := HW1.out
            have q2 := HR1.out
            refine world_abs (fun w' => Only [] w w' ∧ Blk w' w.heap.size #[.int .i64 1, .int .i64 3, .slice (some ⟨w2.heap.size, 0, none⟩) 1 1] 38 ∧ Blk w' w2.heap.size #[.int .u8 k] 5) ⟨?_, ?_, ?_⟩ ?_
            · (repeat (first | with_reducible exact Only.refl _ _ | with_reducible assumption | with_reducible apply Only.drew | with_reducible apply Only.drewN | with_reducible apply Only.alloc | (refine Only.setCell ?_ (by first | (left; simp; done) | (right; omega)) _ _)))
            · (apply blk_cast; (case h => (repeat (first | with_reducible assumption | (with_reducible apply blk_newAt; (first | omega | (simp; done) | (simp; omega))) | with_reducible apply Blk.set | with_reducible apply Blk.drewN | with_reducible apply Blk.drew | with_reducible apply Blk.alloc | (with_reducible apply Blk.setOther; (case hc => first | omega | (simp; omega)))))); (case e => (first | (simp; done) | rfl)))
            · (apply blk_cast; (case h => (repeat (first | with_reducible assumption | (with_reducible apply blk_newAt; (first | omega | (simp; done) | (simp; omega))) | with_reducible apply Blk.set | with_reducible apply Blk.drewN | with_reducible apply Blk.drew | with_reducible apply Blk.alloc | (with_reducible apply Blk.setOther; (case hc => first | omega | (simp; omega)))))); (case e => (first | (simp; done) | rfl)))
            rintro w9 ⟨hO, hX, hD⟩
            refine bodyPost_ret (v := .tuple #[.agg #[.int .i64 1, .int .i64 3, .slice (some ⟨w2.heap.size, 0, none⟩) 1 1], .bool true]) ?_ rfl ?_
            · simp [results, Try.results27, loadVar_blk hX (.struct _) 38 Try.underlying38 rfl rfl, Act.put, asAddr, Sem.run_bind]
            · unfold WrongAs
              rw [HC2.out]
              exact ⟨_, rfl, OwnB.ofBlk hD (by have := HW1.out.size; omega) rfl rfl (by decide), hO⟩
        · have hk1 : 1 ≤ k := by omega
          have hk5 : k ≤ 5 := by omega
          have HC4 : Hid (checkF h = if fitsB k (x * 256 + y) then none else some (2, [x, y])) := by unfold Hid; rw [HC3.out, if_neg (by unfold known; simp; omega)]
          clear hk HC3
          go_wp2_with fail
          refine (rright_any k _ _).mono ?_
          rintro e w5 ⟨rfl, rfl⟩
          rw [rightB_eq]
          cases hq : fitsB k (x * 256 + y)
          · have HC2 : Hid (checkF h = some (2, [x, y])) := by unfold Hid; rw [HC4.out, hq]; rfl
            clear hq
            go_wp2_with fail
            go_region
            all_goals
              (try go_wp2_with fail)
              have q1 := HW1.out
              have q2 := HR1.out
              refine world_abs (fun w' => Only [] w w' ∧ Blk w' w.heap.size #[.int .i64 1, .int .i64 2, .slice (some ⟨w2.heap.size, 0, none⟩) 2 2] 38 ∧ Blk w' w2.heap.size #[.int .u8 x, .int .u8 y] 5) ⟨?_, ?_, ?_⟩ ?_
              · (repeat (first | with_reducible exact Only.refl _ _ | with_reducible assumption | with_reducible apply Only.drew | with_reducible apply Only.drewN | with_reducible apply Only.alloc | (refine Only.setCell ?_ (by first | (left; simp; done) | (right; omega)) _ _)))
              · (apply blk_cast; (case h => (repeat (first | with_reducible assumption | (with_reducible apply blk_newAt; (first | omega | (simp; done) | (simp; omega))) | with_reducible apply Blk.set | with_reducible apply Blk.drewN | with_reducible apply Blk.drew | with_reducible apply Blk.alloc | (with_reducible apply Blk.setOther; (case hc => first | omega | (simp; omega)))))); (case e => (first | (simp; done) | rfl)))
              · (apply blk_cast; (case h => (repeat (first | with_reducible assumption | (with_reducible apply blk_newAt; (first | omega | (simp; done) | (simp; omega))) | with_reducible apply Blk.set | with_reducible apply Blk.drewN | with_reducible apply Blk.drew | with_reducible apply Blk.alloc | (with_reducible apply Blk.setOther; (case hc => first | omega | (simp; omega)))))); (case e => (first | (simp; done) | rfl)))
              rintro w9 ⟨hO, hX, hD⟩
              refine bodyPost_ret (v := .tuple #[.agg #[.int .i64 1, .int .i64 2, .slice (some ⟨w2.heap.size, 0, none⟩) 2 2], .bool true]) ?_ rfl ?_
              · simp [results, Try.results27, loadVar_blk hX (.struct _) 38 Try.underlying38 rfl rfl, Act.put, asAddr, Sem.run_bind]
              · unfold WrongAs
                rw [HC2.out]
                exact ⟨_, rfl, OwnB.ofBlk hD (by have := HW1.out.size; omega) rfl rfl (by decide), hO⟩
          · have HC2 : Hid (checkF h = none) := by unfold Hid; rw [HC4.out, hq]; rfl
            clear hq
            go_wp2_with fail
            have q1 := HW1.out
            have q2 := HR1.out
            refine world_abs (fun w' => Only [] w w' ∧ Blk w' w.heap.size #[.int .i64 0, .int .i64 0, .slice none 0 0] 38) ⟨?_, ?_⟩ ?_
            · (repeat (first | with_reducible exact Only.refl _ _ | with_reducible assumption | with_reducible apply Only.drew | with_reducible apply Only.drewN | with_reducible apply Only.alloc | (refine Only.setCell ?_ (by first | (left; simp; done) | (right; omega)) _ _)))
            · (apply blk_cast; (case h => (repeat (first | with_reducible assumption | (with_reducible apply blk_newAt; (first | omega | (simp; done) | (simp; omega))) | with_reducible apply Blk.set | with_reducible apply Blk.drewN | with_reducible apply Blk.drew | with_reducible apply Blk.alloc | (with_reducible apply Blk.setOther; (case hc => first | omega | (simp; omega)))))); (case e => (first | (simp; done) | rfl)))
            rintro w9 ⟨hO, hX⟩
            refine bodyPost_ret (v := .tuple #[.agg #[.int .i64 0, .int .i64 0, .slice none 0 0], .bool false]) ?_ rfl ?_
            · simp [results, Try.results27, loadVar_blk hX (.struct _) 38 Try.underlying38 rfl rfl, Act.put, asAddr, Sem.run_bind]
            · unfold WrongAs
              rw [HC2.out]
              exact ⟨rfl, hO⟩
end Go.Proofs.Ytcpoaghogpkagaa
