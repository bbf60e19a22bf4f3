/-
  Package mark: check.
-/
import Derived.Test.YtcpoaghogpkagaaMarkBuild
import Derived.Deep.QuietTactic
import Derived.BigQuiet
namespace Go.Proofs.Ytcpoaghogpkagaa
set_option linter.unusedSimpArgs false
set_option linter.unusedVariables false
open Go.RowKit Go.Pm


def at_ (h : List Int) (i : Nat) : Int := h.getD i 0
def lenOf (h : List Int) : Int := at_ h 16 * 256 + at_ h 17
def checkF (h : List Int) : Option (Int × List Int) :=
  if h.take 16 ≠ List.replicate 16 255 then some (1, []) else if lenOf h < 19 ∨ 4096 < lenOf h then some (2, [at_ h 16, at_ h 17]) else
  if known (at_ h 18) = false then some (3, [at_ h 18]) else if fitsB (at_ h 18) (lenOf h) then none else some (2, [at_ h 16, at_ h 17])

def CheckAs (W : World) (h : List Int) (e : Ending) (w' : World) : Prop :=
  match checkF h with
  | none => e = .returned (.tuple #[.agg #[.int .i64 0, .int .i64 0, .slice none 0 0], .bool true]) ∧ Only [] W w'
  | some (s, d) => ∃ dv, e = .returned (.tuple #[.agg #[.int .i64 1, .int .i64 s, dv], .bool false]) ∧ OwnB 5 w' W.heap.size dv d ∧ Only [] W w'

set_option maxRecDepth 20000 in
set_option maxHeartbeats 1000000 in
theorem check_any (W w : World) (hW : Only [] W w) (v : Value) (h : List Int) (hv : VwB W v h) (hb : Byte h) (hl : h.length = 19) :
    Calls Try.prog 25 #[v] w (CheckAs w h) := by
  have HV := Lib.hid (hv.only hW)
  obtain ⟨b, off, c, hvv, h1, h2, hlt, hc⟩ := (hv.only hW).open (by intro h0; rw [h0] at hl; simp at hl)
  have c16 := hc 16 (by omega)
  have c17 := hc 17 (by omega)
  have c18 := hc 18 (by omega)
  have e16 : h[16]'(by omega) = at_ h 16 := by simp [at_, List.getD, List.getElem?_eq_getElem (show 16 < h.length by omega)]
  have e17 : h[17]'(by omega) = at_ h 17 := by simp [at_, List.getD, List.getElem?_eq_getElem (show 17 < h.length by omega)]
  have e18 : h[18]'(by omega) = at_ h 18 := by simp [at_, List.getD, List.getElem?_eq_getElem (show 18 < h.length by omega)]
  have b16 := hb.at 16 (by omega)
  have b17 := hb.at 17 (by omega)
  have b18 := hb.at 18 (by omega)
  rw [e16] at c16 b16
  rw [e17] at c17 b17
  rw [e18] at c18 b18
  have HB := Lib.hid hb
  have HLEN : Hid (lenOf h = at_ h 16 * 256 + at_ h 17) := rfl
  have HOR := Lib.hid (or_high 8 (at_ h 16 * 256) (at_ h 17) (by omega) (by omega) b17.1 (by omega) (by omega) (by omega))
  have HCF : Hid (checkF h = if h.take 16 ≠ List.replicate 16 255 then some (1, []) else if lenOf h < 19 ∨ 4096 < lenOf h then some (2, [at_ h 16, at_ h 17]) else
    if known (at_ h 18) = false then some (3, [at_ h 18]) else if fitsB (at_ h 18) (lenOf h) then none else some (2, [at_ h 16, at_ h 17])) := rfl
  generalize at_ h 16 = x at *
  generalize at_ h 17 = y at *
  generalize at_ h 18 = k at *
  subst hvv
  rw [hl] at HV h1
  have HP16 := Lib.hid (HV.out.pre (k := 16) (by omega))
  have h16 : Hid ((Try.prog.info? 59).map (·.size) = some 16) := by unfold Hid; kernel_rfl
  obtain ⟨x0, x1⟩ := b16
  obtain ⟨y0, y1⟩ := b17
  obtain ⟨k0, k1⟩ := b18
  unfold maxLen at h2
  clear hc hv hW e16 e17 e18 hb
  rw [hl]
  clear hl
  go_enter Try.func25, Try.ntmps25
  go_wp2_with fail
  refine wp_scope_label 0 (fun a' w' => ∃ gf : Nat, (∃ uf : Nat → Value, a' = { tmps := #[uf 0, uf 1, .pointer (some ⟨w.heap.size, 0, none⟩), uf 3, uf 4, .pointer (some ⟨gf, 0, none⟩), .int .i64 (x * 256 + y), uf 7, uf 8, uf 9, uf 10, uf 11, uf 12, uf 13, uf 14, uf 15, uf 16, uf 17, uf 18, uf 19, uf 20, uf 21, uf 22, uf 23, uf 24, uf 25, uf 26, uf 27, uf 28, uf 29, uf 30, uf 31, uf 32, uf 33, uf 34, uf 35, uf 36, uf 37, uf 38, uf 39, uf 40, uf 41, uf 42, uf 43, uf 44, uf 45, uf 46, uf 47, uf 48, uf 49, uf 50, uf 51, uf 52, uf 53, uf 54, uf 55, uf 56, uf 57, uf 58, uf 59, uf 60, uf 61, uf 62, uf 63, uf 64, uf 65, uf 66], defers := [] }) ∧ w.heap.size < gf ∧ Only [] w w' ∧ Blk w' w.heap.size #[.int .i64 0, .int .i64 0, .slice none 0 0] 38 ∧ Blk w' gf #[.int .i64 1, .int .i64 0, .slice none 0 0] 38 ∧ checkF h = some (2, [x, y])) (fun _ _ => 0) rfl rfl ?_ ?_
  · intro N hN
    go_wp2_with fail
    refine (ones_any _).mono ?_
    rintro e w1 ⟨rfl, hw1⟩
    have hO1 := ((Only.refl [] w).alloc (.cells #[.int .i64 0, .int .i64 0, .slice none 0 0] 38)).then hw1
    have hF := (Blk.new w #[.int .i64 0, .int .i64 0, .slice none 0 0] 38).keep hw1 (by simp)
    rw [← hO1.cell hlt (by simp)] at c16 c17 c18
    have hlt1 : b < w1.heap.size := by have := hO1.size; omega
    have HO1 := Lib.hid hO1
    have HF1 := Lib.hid hF
    clear hw1 hO1 hF
    go_wp2_with (refine wpList_store_blk (by rfl) 59 _ _ (by rfl) (by rfl) (by rfl) (Blk.new w1 _ _) h16.out (by simp [onesC, fill_size]) (by simp [onesC, fill]; decide) ?_; intro w2 hb2 ho2; have HB2 := Lib.hid hb2; have hO2 := ((Only.refl [] w1).alloc (.cells #[.int .u8 0, .int .u8 0, .int .u8 0, .int .u8 0, .int .u8 0, .int .u8 0, .int .u8 0, .int .u8 0, .int .u8 0, .int .u8 0, .int .u8 0, .int .u8 0, .int .u8 0, .int .u8 0, .int .u8 0, .int .u8 0] 59)).trans ho2 (fun x hx => .inr (by simp at hx; omega)); rw [← hO2.cell hlt1 (by simp)] at c16 c17 c18; have HO2 := Lib.hid hO2; have hlt2 : b < w2.heap.size := (by have := hO2.size; omega); clear hb2 ho2 hO2)
    intro N hN
    go_wp2_with fail
    intro N hN
    go_wp2_with fail
    go_quiet (fail)
    rw [HOR.out]
    go_wp2_with fail
    have hz1 : w.heap.size < w1.heap.size := by have := HF1.out.lt; omega
    have hz2 : w1.heap.size < w2.heap.size := by have := HB2.out.lt; omega
    refine world_abs (fun w' => Only [] w w' ∧ Only [] w2 w' ∧ Blk w' w.heap.size #[.int .i64 0, .int .i64 0, .slice none 0 0] 38 ∧ Blk w' w1.heap.size onesC 59 ∧ Blk w' w2.heap.size #[.int .i64 1, .int .i64 0, .slice none 0 0] 38 ∧ w'.cell? ⟨b, off + 18, none⟩ = some (.int .u8 k)) ⟨?_, ?_, ?_, ?_, ?_, ?_⟩ ?_
    · have := HO1.out.then HO2.out
      (repeat (first | with_reducible exact Only.refl _ _ | with_reducible assumption | with_reducible apply Only.drew | with_reducible apply Only.drewN | with_reducible apply Only.alloc | (refine Only.setCell ?_ (by first | (left; simp; done) | (right; omega)) _ _)))
    · (repeat (first | with_reducible exact Only.refl _ _ | with_reducible assumption | with_reducible apply Only.drew | with_reducible apply Only.drewN | with_reducible apply Only.alloc | (refine Only.setCell ?_ (by first | (left; simp; done) | (right; omega)) _ _)))
    · have := HF1.out.keep HO2.out (by simp)
      (apply blk_cast; (case h => (repeat (first | with_reducible assumption | (with_reducible apply blk_newAt; (first | omega | (simp; done) | (simp; omega))) | with_reducible apply Blk.set | with_reducible apply Blk.drewN | with_reducible apply Blk.drew | with_reducible apply Blk.alloc | (with_reducible apply Blk.setOther; (case hc => first | omega | (simp; omega)))))); (case e => (first | (simp; done) | rfl)))
    · have := HB2.out
      (apply blk_cast; (case h => (repeat (first | with_reducible assumption | (with_reducible apply blk_newAt; (first | omega | (simp; done) | (simp; omega))) | with_reducible apply Blk.set | with_reducible apply Blk.drewN | with_reducible apply Blk.drew | with_reducible apply Blk.alloc | (with_reducible apply Blk.setOther; (case hc => first | omega | (simp; omega)))))); (case e => (first | (simp; done) | rfl)))
    · (apply blk_cast; (case h => (repeat (first | with_reducible assumption | (with_reducible apply blk_newAt; (first | omega | (simp; done) | (simp; omega))) | with_reducible apply Blk.set | with_reducible apply Blk.drewN | with_reducible apply Blk.drew | with_reducible apply Blk.alloc | (with_reducible apply Blk.setOther; (case hc => first | omega | (simp; omega)))))); (case e => (first | (simp; done) | rfl)))
    · exact ((((Only.refl [] w2).alloc _).drewN _).cell hlt2 (by simp) _).trans c18
    rintro w3 ⟨hw3, hw23, hF, hM, hf, d18⟩
    have hz3 : w2.heap.size < w3.heap.size := hf.lt
    have HP3 := Lib.hid (HP16.out.only hw3)
    have HM3 := Lib.hid (VwB.ofBlk hM onesC_eq rfl (by decide))
    have HY16 : Hid (Byte (h.take 16)) := fun n hn => HB.out n (List.take_subset _ _ hn)
    have HYO : Hid (Byte (List.replicate 16 (255 : Int))) := by unfold Hid Byte; decide
    (have fF0 := (hF).free 0; have fF1 := (hF).free 1; have fF2 := (hF).free 2)
    (have ff0 := (hf).free 0; have ff1 := (hf).free 1; have ff2 := (hf).free 2)
    (have gF0 : (w3).cell? ⟨w.heap.size, 0, none⟩ = some (.int .i64 0) := ((hF).cell 0).trans rfl; have gF1 : (w3).cell? ⟨w.heap.size, 1, none⟩ = some (.int .i64 0) := ((hF).cell 1).trans rfl; have gF2 : (w3).cell? ⟨w.heap.size, 2, none⟩ = some (.slice none 0 0) := ((hF).cell 2).trans rfl)
    (have gf0 : (w3).cell? ⟨w2.heap.size, 0, none⟩ = some (.int .i64 1) := ((hf).cell 0).trans rfl; have gf1 : (w3).cell? ⟨w2.heap.size, 1, none⟩ = some (.int .i64 0) := ((hf).cell 1).trans rfl; have gf2 : (w3).cell? ⟨w2.heap.size, 2, none⟩ = some (.slice none 0 0) := ((hf).cell 2).trans rfl)
    have HW3 := Lib.hid hw3
    have HF3 := Lib.hid hF
    have Hf3 := Lib.hid hf
    clear hw3 hw23 hF hM hf HO1 HO2 HF1 HB2 c16 c17 c18
    intro N hN
    go_wp2_with fail
    intro N hN
    go_wp2_with fail
    have hc16 : (16 : Int) ≤ (c : Int) := by omega
    have hcc : c ≤ 9223372036854775807 := by omega
    go_quiet ((go_at_call 30; exact calls_still _ rfl (equal_any w3 _ (by (repeat (first | with_reducible exact Only.refl _ _ | with_reducible assumption | with_reducible apply Only.drew | with_reducible apply Only.drewN | with_reducible apply Only.alloc | (refine Only.setCell ?_ (by first | (left; simp; done) | (right; omega)) _ _)))) _ _ _ _ HP3.out HM3.out HY16.out HYO.out)))
    have hW4 := HW3.out.drewN nq
    have hF4 := HF3.out.drewN nq
    have hf4 := Hf3.out.drewN nq
    clear gF0 gF1 gF2 gf0 gf1 gf2 fF0 fF1 fF2 ff0 ff1 ff2 d18 HP3 HM3 HW3 HF3 Hf3
    generalize w3.drewN nq = w4 at *
    (have fF0 := (hF4).free 0; have fF1 := (hF4).free 1; have fF2 := (hF4).free 2)
    (have ff0 := (hf4).free 0; have ff1 := (hf4).free 1; have ff2 := (hf4).free 2)
    (have gF0 : (w4).cell? ⟨w.heap.size, 0, none⟩ = some (.int .i64 0) := ((hF4).cell 0).trans rfl; have gF1 : (w4).cell? ⟨w.heap.size, 1, none⟩ = some (.int .i64 0) := ((hF4).cell 1).trans rfl; have gF2 : (w4).cell? ⟨w.heap.size, 2, none⟩ = some (.slice none 0 0) := ((hF4).cell 2).trans rfl)
    (have gf0 : (w4).cell? ⟨w2.heap.size, 0, none⟩ = some (.int .i64 1) := ((hf4).cell 0).trans rfl; have gf1 : (w4).cell? ⟨w2.heap.size, 1, none⟩ = some (.int .i64 0) := ((hf4).cell 1).trans rfl; have gf2 : (w4).cell? ⟨w2.heap.size, 2, none⟩ = some (.slice none 0 0) := ((hf4).cell 2).trans rfl)
    have hz4 : w2.heap.size < w4.heap.size := hf4.lt
    have hz5 : w.heap.size < w4.heap.size := hF4.lt
    have HW4 := Lib.hid hW4
    have HF4 := Lib.hid hF4
    have Hf4 := Lib.hid hf4
    clear hW4 hF4 hf4
    by_cases h16e : h.take 16 = List.replicate 16 255
    · have hs : sameB (h.take 16) (List.replicate 16 255) = true := decide_eq_true h16e
      have hs2 : sameB (h.take 16) [255, 255, 255, 255, 255, 255, 255, 255, 255, 255, 255, 255, 255, 255, 255, 255] = true := hs
      have HCF2 : Hid (checkF h = if lenOf h < 19 ∨ 4096 < lenOf h then some (2, [x, y]) else if known k = false then some (3, [k]) else if fitsB k (lenOf h) then none else some (2, [x, y])) := by
        unfold Hid
        rw [HCF.out, if_neg (by simpa using h16e)]
      rw [hs, hs2]
      clear hs hs2 h16e
      rw [HLEN.out] at HCF2
      clear HCF
      go_wp2_with fail
      by_cases hn : x * 256 + y < 19 ∨ 4096 < x * 256 + y
      · have HJ : Hid (checkF h = some (2, [x, y])) := by unfold Hid; rw [HCF2.out, if_pos hn]
        rcases hn with hn | hn
        all_goals
          intro N hN
          go_wp2_with fail
          go_step3
          exact then_goto ⟨w2.heap.size, ex_frame rfl, by omega, HW4.out, HF4.out, Hf4.out, HJ.out⟩
      · have hn1 : 19 ≤ x * 256 + y := by omega
        have hn2 : x * 256 + y ≤ 4096 := by omega
        have HC3 : Hid (checkF h = if known k = false then some (3, [k]) else if fitsB k (x * 256 + y) then none else some (2, [x, y])) := by unfold Hid; rw [HCF2.out, if_neg hn]
        clear hn HCF2
        intro N hN
        go_wp2_with fail
        intro N hN
        go_wp2_with fail
        refine (lengths_any k _).mono ?_
        rintro e w5 ⟨rfl, rfl⟩
        by_cases hk : known k = false
        · rw [hk]
          have HCF2 : Hid (checkF h = some (3, [k])) := by unfold Hid; rw [HC3.out, if_pos hk]
          go_wp2_with fail
          have q1 := HW4.out
          have q2 := HF4.out
          have q3 := Hf4.out
          simp only [Exit.jump]
          refine world_abs (fun w' => Only [] w w' ∧ Blk w' w.heap.size #[.int .i64 1, .int .i64 3, .slice (some ⟨w4.heap.size, 0, none⟩) 1 1] 38 ∧ Blk w' w4.heap.size #[.int .u8 k] 5) ⟨?_, ?_, ?_⟩ ?_
          · (repeat (first | with_reducible exact Only.refl _ _ | with_reducible assumption | with_reducible apply Only.drew | with_reducible apply Only.drewN | with_reducible apply Only.alloc | (refine Only.setCell ?_ (by first | (left; simp; done) | (right; omega)) _ _)))
          · (apply blk_cast; (case h => (repeat (first | with_reducible assumption | (with_reducible apply blk_newAt; (first | omega | (simp; done) | (simp; omega))) | with_reducible apply Blk.set | with_reducible apply Blk.drewN | with_reducible apply Blk.drew | with_reducible apply Blk.alloc | (with_reducible apply Blk.setOther; (case hc => first | omega | (simp; omega)))))); (case e => (first | (simp; done) | rfl)))
          · (apply blk_cast; (case h => (repeat (first | with_reducible assumption | (with_reducible apply blk_newAt; (first | omega | (simp; done) | (simp; omega))) | with_reducible apply Blk.set | with_reducible apply Blk.drewN | with_reducible apply Blk.drew | with_reducible apply Blk.alloc | (with_reducible apply Blk.setOther; (case hc => first | omega | (simp; omega)))))); (case e => (first | (simp; done) | rfl)))
          rintro w9 ⟨hO, hX, hD⟩
          refine bodyPost_ret (v := .tuple #[.agg #[.int .i64 1, .int .i64 3, .slice (some ⟨w4.heap.size, 0, none⟩) 1 1], .bool false]) ?_ rfl ?_
          · simp [results, Try.results25, loadVar_blk hX (.struct _) 38 Try.underlying38 rfl rfl, asAddr, Sem.run_bind]
          · unfold CheckAs
            rw [HCF2.out]
            exact ⟨_, rfl, OwnB.ofBlk hD (by first | omega | (have := HW4.out.size; omega)) rfl rfl (by decide), hO⟩
        · have hk' : known k = true := by simpa using hk
          rw [hk']
          have HC4 : Hid (checkF h = if fitsB k (x * 256 + y) then none else some (2, [x, y])) := by unfold Hid; rw [HC3.out, if_neg hk]
          clear hk hk' HC3
          go_wp2_with fail
          intro N hN
          go_wp2_with fail
          refine (fits_any k _ _).mono ?_
          rintro e w5 ⟨rfl, rfl⟩
          cases hq : fitsB k (x * 256 + y)
          · have HJ : Hid (checkF h = some (2, [x, y])) := by unfold Hid; rw [HC4.out, hq]; rfl
            clear hq
            go_wp2_with fail
            intro N hN
            go_step3
            exact hN _ _ ⟨w2.heap.size, ex_frame rfl, by omega, HW4.out, HF4.out, Hf4.out, HJ.out⟩
          · have HCF2 : Hid (checkF h = none) := by unfold Hid; rw [HC4.out, hq]; rfl
            clear hq
            go_wp2_with fail
            have q1 := HW4.out
            have q2 := HF4.out
            have q3 := Hf4.out
            simp only [Exit.jump]
            refine world_abs (fun w' => Only [] w w' ∧ Blk w' w.heap.size #[.int .i64 0, .int .i64 0, .slice none 0 0] 38) ⟨?_, ?_⟩ ?_
            · (repeat (first | with_reducible exact Only.refl _ _ | with_reducible assumption | with_reducible apply Only.drew | with_reducible apply Only.drewN | with_reducible apply Only.alloc | (refine Only.setCell ?_ (by first | (left; simp; done) | (right; omega)) _ _)))
            · (apply blk_cast; (case h => (repeat (first | with_reducible assumption | (with_reducible apply blk_newAt; (first | omega | (simp; done) | (simp; omega))) | with_reducible apply Blk.set | with_reducible apply Blk.drewN | with_reducible apply Blk.drew | with_reducible apply Blk.alloc | (with_reducible apply Blk.setOther; (case hc => first | omega | (simp; omega)))))); (case e => (first | (simp; done) | rfl)))
            rintro w9 ⟨hO, hX⟩
            refine bodyPost_ret (v := .tuple #[.agg #[.int .i64 0, .int .i64 0, .slice none 0 0], .bool true]) ?_ rfl ?_
            · simp [results, Try.results25, loadVar_blk hX (.struct _) 38 Try.underlying38 rfl rfl, asAddr, Sem.run_bind]
            · unfold CheckAs
              rw [HCF2.out]
              exact ⟨rfl, hO⟩
    · have hs : sameB (h.take 16) (List.replicate 16 255) = false := decide_eq_false h16e
      have hs2 : sameB (h.take 16) [255, 255, 255, 255, 255, 255, 255, 255, 255, 255, 255, 255, 255, 255, 255, 255] = false := hs
      have HCF2 : Hid (checkF h = some (1, [])) := by
        unfold Hid
        rw [HCF.out, if_pos (by simpa using h16e)]
      rw [hs, hs2]
      clear hs hs2 h16e
      go_wp2_with fail
      have q1 := HW4.out
      have q2 := HF4.out
      have q3 := Hf4.out
      simp only [Exit.jump]
      refine world_abs (fun w' => Only [] w w' ∧ Blk w' w.heap.size #[.int .i64 1, .int .i64 1, .slice none 0 0] 38) ⟨?_, ?_⟩ ?_
      · (repeat (first | with_reducible exact Only.refl _ _ | with_reducible assumption | with_reducible apply Only.drew | with_reducible apply Only.drewN | with_reducible apply Only.alloc | (refine Only.setCell ?_ (by first | (left; simp; done) | (right; omega)) _ _)))
      · (apply blk_cast; (case h => (repeat (first | with_reducible assumption | (with_reducible apply blk_newAt; (first | omega | (simp; done) | (simp; omega))) | with_reducible apply Blk.set | with_reducible apply Blk.drewN | with_reducible apply Blk.drew | with_reducible apply Blk.alloc | (with_reducible apply Blk.setOther; (case hc => first | omega | (simp; omega)))))); (case e => (first | (simp; done) | rfl)))
      rintro w9 ⟨hO, hX⟩
      refine bodyPost_ret (v := .tuple #[.agg #[.int .i64 1, .int .i64 1, .slice none 0 0], .bool false]) ?_ rfl ?_
      · simp [results, Try.results25, loadVar_blk hX (.struct _) 38 Try.underlying38 rfl rfl, asAddr, Sem.run_bind]
      · unfold CheckAs
        rw [HCF2.out]
        exact ⟨_, rfl, OwnB.nil _ _ _, hO⟩
  · rintro a' wl ⟨gf, ⟨uf, rfl⟩, hlt2, hw, hF, hf, hcf⟩
    have HCF2 := Lib.hid hcf
    (have fF0 := (hF).free 0; have fF1 := (hF).free 1; have fF2 := (hF).free 2)
    (have ff0 := (hf).free 0; have ff1 := (hf).free 1; have ff2 := (hf).free 2)
    (have gF0 : (wl).cell? ⟨w.heap.size, 0, none⟩ = some (.int .i64 0) := ((hF).cell 0).trans rfl; have gF1 : (wl).cell? ⟨w.heap.size, 1, none⟩ = some (.int .i64 0) := ((hF).cell 1).trans rfl; have gF2 : (wl).cell? ⟨w.heap.size, 2, none⟩ = some (.slice none 0 0) := ((hF).cell 2).trans rfl)
    (have gf0 : (wl).cell? ⟨gf, 0, none⟩ = some (.int .i64 1) := ((hf).cell 0).trans rfl; have gf1 : (wl).cell? ⟨gf, 1, none⟩ = some (.int .i64 0) := ((hf).cell 1).trans rfl; have gf2 : (wl).cell? ⟨gf, 2, none⟩ = some (.slice none 0 0) := ((hf).cell 2).trans rfl)
    have hz4 : gf < wl.heap.size := hf.lt
    have hz5 : w.heap.size < wl.heap.size := hF.lt
    have HW4 := Lib.hid hw
    have HF4 := Lib.hid hF
    have Hf4 := Lib.hid hf
    clear hw hF hf hcf
    intro N hN
    go_wp2_with fail
    rw [show (x * 256 + y) / 256 = x by omega, show y % 256 = y by omega]
    have q1 := HW4.out
    have q2 := HF4.out
    have q3 := Hf4.out
    simp only [Exit.jump]
    refine world_abs (fun w' => Only [] w w' ∧ Blk w' w.heap.size #[.int .i64 1, .int .i64 2, .slice (some ⟨wl.heap.size, 0, none⟩) 2 2] 38 ∧ Blk w' wl.heap.size #[.int .u8 x, .int .u8 y] 5) ⟨?_, ?_, ?_⟩ ?_
    · (repeat (first | with_reducible exact Only.refl _ _ | with_reducible assumption | with_reducible apply Only.drew | with_reducible apply Only.drewN | with_reducible apply Only.alloc | (refine Only.setCell ?_ (by first | (left; simp; done) | (right; omega)) _ _)))
    · (apply blk_cast; (case h => (repeat (first | with_reducible assumption | (with_reducible apply blk_newAt; (first | omega | (simp; done) | (simp; omega))) | with_reducible apply Blk.set | with_reducible apply Blk.drewN | with_reducible apply Blk.drew | with_reducible apply Blk.alloc | (with_reducible apply Blk.setOther; (case hc => first | omega | (simp; omega)))))); (case e => (first | (simp; done) | rfl)))
    · (apply blk_cast; (case h => (repeat (first | with_reducible assumption | (with_reducible apply blk_newAt; (first | omega | (simp; done) | (simp; omega))) | with_reducible apply Blk.set | with_reducible apply Blk.drewN | with_reducible apply Blk.drew | with_reducible apply Blk.alloc | (with_reducible apply Blk.setOther; (case hc => first | omega | (simp; omega)))))); (case e => (first | (simp; done) | rfl)))
    rintro w9 ⟨hO, hX, hD⟩
    refine bodyPost_ret (v := .tuple #[.agg #[.int .i64 1, .int .i64 2, .slice (some ⟨wl.heap.size, 0, none⟩) 2 2], .bool false]) ?_ rfl ?_
    · simp [results, Try.results25, loadVar_blk hX (.struct _) 38 Try.underlying38 rfl rfl, asAddr, Sem.run_bind]
    · unfold CheckAs
      rw [HCF2.out]
      exact ⟨_, rfl, OwnB.ofBlk hD (by first | omega | (have := HW4.out.size; omega)) rfl rfl (by decide), hO⟩
end Go.Proofs.Ytcpoaghogpkagaa
