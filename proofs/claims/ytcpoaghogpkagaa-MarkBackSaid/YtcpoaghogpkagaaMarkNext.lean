/-
  Package mark: next.
-/
import Derived.Test.YtcpoaghogpkagaaMarkCheck
namespace Go.Proofs.Ytcpoaghogpkagaa
set_option linter.unusedSimpArgs false
set_option linter.unusedVariables false
open Go.RowKit Go.Pm


theorem at_range {l : List Int} (h : Byte l) (i : Nat) : 0 ≤ at_ l i ∧ at_ l i < 256 := by
  unfold at_
  by_cases hi : i < l.length
  · simpa [List.getD, List.getElem?_eq_getElem hi] using h.at i hi
  · simp [List.getD, List.getElem?_eq_none (Nat.le_of_not_lt hi)]
theorem at_cell {w : World} {b off n c : Nat} {l : List Int} (h : VwB w (.slice (some ⟨b, off, none⟩) n c) l) (i : Nat) (hi : i < l.length) : w.cell? ⟨b, off + i, none⟩ = some (.int .u8 (at_ l i)) := by
  obtain ⟨b', off', c', he, _, _, _, hc⟩ := h.open (by rintro rfl; simp at hi)
  cases he
  rw [hc i hi]
  simp [at_, List.getD, List.getElem?_eq_getElem hi]

def NextYes (W : World) (sp : Nat) (vb : Value) (m d : Bool) (l : List Int) (n : Nat) (e : Ending) (w' : World) : Prop :=
  ∃ mv vb', e = .returned (.tuple #[.agg #[.int .i64 (at_ l 18), mv], .bool true]) ∧ OwnB 5 w' W.heap.size mv ((l.take n).drop 19) ∧ Blk w' sp #[vb', .bool m, .bool d] 56 ∧ VwB w' vb' (l.drop n) ∧ vb'.ownBlock = vb.ownBlock ∧ Only [sp] W w'

set_option maxRecDepth 20000 in
set_option maxHeartbeats 1000000 in
theorem next_no (w : World) (sp : Nat) (vb : Value) (m d : Bool) (l : List Int) (hs : Blk w sp #[vb, .bool m, .bool d] 56) (hv : VwB w vb l) (hb : Byte l) (h19 : 19 ≤ l.length) (hn : (l.length : Int) < lenOf l) :
    Calls Try.prog 26 #[.pointer (some ⟨sp, 0, none⟩)] w fun e w' => e = .returned (.tuple #[.agg #[.int .i64 0, .slice none 0 0], .bool false]) ∧ Only [] w w' := by
  obtain ⟨b, off, c, rfl, h1, h2, hlt, -⟩ := hv.open (by intro h0; rw [h0] at h19; simp at h19)
  have c16 := at_cell hv 16 (by omega)
  have c17 := at_cell hv 17 (by omega)
  have r16 := at_range hb 16
  have r17 := at_range hb 17
  have HOR := Lib.hid (or_high 8 (at_ l 16 * 256) (at_ l 17) (by omega) (by omega) r17.1 (by omega) (by omega) (by omega))
  have hn' : (l.length : Int) < at_ l 16 * 256 + at_ l 17 := hn
  generalize at_ l 16 = x at *
  generalize at_ l 17 = y at *
  generalize l.length = L at *
  obtain ⟨x0, x1⟩ := r16
  obtain ⟨y0, y1⟩ := r17
  have s0 : w.cell? ⟨sp, 0, none⟩ = some (.slice (some ⟨b, off, none⟩) L c) := (hs.cell 0).trans rfl
  have hls := hs.lt
  unfold maxLen at h2
  clear hv hb hn hs
  go_enter Try.func26, Try.ntmps26
  go_wp2_with fail
  go_quiet (fail)
  rw [HOR.out]
  go_wp2_with fail
  refine world_abs (fun w' => Only [] w w' ∧ Blk w' w.heap.size #[.int .i64 0, .slice none 0 0] 53) ⟨?_, ?_⟩ ?_
  · (repeat (first | with_reducible exact Only.refl _ _ | with_reducible assumption | with_reducible apply Only.drew | with_reducible apply Only.drewN | with_reducible apply Only.alloc | (refine Only.setCell ?_ (by first | (left; simp; done) | (right; omega)) _ _)))
  · (apply blk_cast; (case h => (repeat (first | with_reducible assumption | (with_reducible apply blk_newAt; (first | omega | (simp; done) | (simp; omega))) | with_reducible apply Blk.set | with_reducible apply Blk.drewN | with_reducible apply Blk.drew | with_reducible apply Blk.alloc | (with_reducible apply Blk.setOther; (case hc => first | omega | (simp; omega)))))); (case e => (first | (simp; done) | rfl)))
  rintro w9 ⟨hO, hX⟩
  refine bodyPost_ret (v := .tuple #[.agg #[.int .i64 0, .slice none 0 0], .bool false]) ?_ rfl ⟨rfl, hO⟩
  simp [results, Try.results26, loadVar_blk hX (.struct _) 53 Try.underlying53 rfl rfl, asAddr, Sem.run_bind]

set_option maxRecDepth 20000 in
set_option maxHeartbeats 1000000 in
theorem next_yes (w : World) (sp : Nat) (vb : Value) (m d : Bool) (l : List Int) (n : Nat) (hs : Blk w sp #[vb, .bool m, .bool d] 56) (hv : VwB w vb l) (hb : Byte l) (h19 : 19 ≤ n) (hne : vb.ownBlock ≠ some sp) (hn : lenOf l = n) (hnl : n ≤ l.length) :
    Calls Try.prog 26 #[.pointer (some ⟨sp, 0, none⟩)] w (NextYes w sp vb m d l n) := by
  obtain ⟨b, off, c, rfl, h1, h2, hlt, -⟩ := hv.open (by intro h0; rw [h0] at hnl; simp at hnl; omega)
  have c16 := at_cell hv 16 (by omega)
  have c17 := at_cell hv 17 (by omega)
  have c18 := at_cell hv 18 (by omega)
  have r16 := at_range hb 16
  have r17 := at_range hb 17
  have r18 := at_range hb 18
  have HOR := Lib.hid (or_high 8 (at_ l 16 * 256) (at_ l 17) (by omega) (by omega) r17.1 (by omega) (by omega) (by omega))
  have hn' : at_ l 16 * 256 + at_ l 17 = n := hn
  have HN := Lib.hid hn'
  have HP := Lib.hid (hv.cut (i := 19) (k := n - 19) (k' := n - 19) (c := c - 19) (m := (l.drop 19).take (n - 19)) rfl (by omega) rfl rfl)
  have HQ := Lib.hid (hv.cut (i := n) (k := l.length - n) (k' := l.length - n) (c := c - n) (m := l.drop n) (by rw [List.take_of_length_le (by simp)]) (by omega) rfl rfl)
  have hspw : sp < w.heap.size := hs.lt
  have hbw : b < w.heap.size := hlt
  have HDT : Hid ((l.drop 19).take (n - 19) = (l.take n).drop 19) := by unfold Hid; rw [List.drop_take]
  have hsb : sp ≠ b := by rintro rfl; exact hne rfl
  generalize hk : at_ l 18 = k at *
  have HKE := Lib.hid hk
  clear hn hn' hk
  generalize at_ l 16 = x at *
  generalize at_ l 17 = y at *
  have hLL : l.length ≤ 9223372036854775807 := by unfold maxLen at h2; omega
  generalize hL : l.length = L at *
  have HL := Lib.hid hL
  clear hL
  obtain ⟨x0, x1⟩ := r16
  obtain ⟨y0, y1⟩ := r17
  obtain ⟨k0, k1⟩ := r18
  have s0 : w.cell? ⟨sp, 0, none⟩ = some (.slice (some ⟨b, off, none⟩) L c) := (hs.cell 0).trans rfl
  have hls := hs.lt
  have HS := Lib.hid hs
  unfold maxLen at h2
  clear hv hb hs hne
  go_enter Try.func26, Try.ntmps26
  go_wp2_with fail
  go_quiet (fail)
  rw [HOR.out, HN.out]
  go_wp2_with fail
  refine world_abs (fun w' => Only [] w w' ∧ Blk w' w.heap.size #[.int .i64 0, .slice none 0 0] 53 ∧ Blk w' sp #[.slice (some ⟨b, off, none⟩) L c, .bool m, .bool d] 56 ∧ w'.cell? ⟨b, off + 18, none⟩ = some (.int .u8 k)) ⟨?_, ?_, ?_, ?_⟩ ?_
  · (repeat (first | with_reducible exact Only.refl _ _ | with_reducible assumption | with_reducible apply Only.drew | with_reducible apply Only.drewN | with_reducible apply Only.alloc | (refine Only.setCell ?_ (by first | (left; simp; done) | (right; omega)) _ _)))
  · (apply blk_cast; (case h => (repeat (first | with_reducible assumption | (with_reducible apply blk_newAt; (first | omega | (simp; done) | (simp; omega))) | with_reducible apply Blk.set | with_reducible apply Blk.drewN | with_reducible apply Blk.drew | with_reducible apply Blk.alloc | (with_reducible apply Blk.setOther; (case hc => first | omega | (simp; omega)))))); (case e => (first | (simp; done) | rfl)))
  · have := HS.out
    (apply blk_cast; (case h => (repeat (first | with_reducible assumption | (with_reducible apply blk_newAt; (first | omega | (simp; done) | (simp; omega))) | with_reducible apply Blk.set | with_reducible apply Blk.drewN | with_reducible apply Blk.drew | with_reducible apply Blk.alloc | (with_reducible apply Blk.setOther; (case hc => first | omega | (simp; omega)))))); (case e => (first | (simp; done) | rfl)))
  · exact (((Only.refl [] w).alloc _).drewN _).cell hlt (by simp) _ |>.trans c18
  rintro w2 ⟨hw2, hM, hS2, d18⟩
  have e0 : w2.cell? ⟨sp, 0, none⟩ = some (.slice (some ⟨b, off, none⟩) L c) := (hS2.cell 0).trans rfl
  have hls2 := hS2.lt
  have hlt2 : b < w2.heap.size := by have := hw2.size; omega
  have hlm := hM.lt
  have HP2 := Lib.hid (HP.out.only hw2)
  have HQ2 := Lib.hid (HQ.out.only hw2)
  have HW2 := Lib.hid hw2
  have HM2 := Lib.hid hM
  have HS2 := Lib.hid hS2
  have hL2 : n - 19 ≤ 140737488355328 := by have := HN.out; omega
  have HLP := Lib.hid HP.out.size.1
  clear hw2 hM hS2 s0 c16 c17 c18 HP HQ HS hls hlt
  have hn19 : (19 : Int) ≤ (n : Int) := by omega
  have hnL : (n : Int) ≤ (L : Int) := by omega
  have hLc : (L : Int) ≤ (c : Int) := by omega
  have hnc : (n : Int) ≤ (c : Int) := by omega
  have hL18 : (18 : Int) < (L : Int) := by omega
  go_cut [5] (fun s5 wx => ∃ (g : Nat) (mv : Value), s5 = .pointer (some ⟨g, 0, none⟩) ∧ w2.heap.size ≤ g ∧ Blk wx g #[.int .i64 k, mv] 53 ∧ OwnB 5 wx w2.heap.size mv ((l.take n).drop 19) ∧ Only [] w2 wx)
  case first =>
    by_cases hc : c = 19
    all_goals
      have hp := HP2.out
      simp only [hc, if_true, if_false, Nat.sub_self] at hp
      have HPP := Lib.hid hp
      clear hp
      try have hn19' : (n : Int) ≤ 19 := by omega
      have hwk : IntKind.i64.wrap k = k := IntWalk.i64_in _ (by omega)
      have hk1 : ∀ (i j : Nat) (v : Value) (X : World), (X.setCell ⟨w2.heap.size, j, none⟩ v).cell? ⟨sp, i, none⟩ = X.cell? ⟨sp, i, none⟩ := fun i j v X => World.cell?_of_block (w := X) (heap_setCell X w2.heap.size j v sp (by omega))
      have hk2 : ∀ (i j : Nat) (v : Value) (X : World), (X.setCell ⟨w2.heap.size, j, none⟩ v).cell? ⟨b, i, none⟩ = X.cell? ⟨b, i, none⟩ := fun i j v X => World.cell?_of_block (w := X) (heap_setCell X w2.heap.size j v b (by omega))
      go_region_held3 (fun W => W.cell? ⟨sp, 0, none⟩ = some (.slice (some ⟨b, off, none⟩) L c) ∧ W.cell? ⟨b, off + 18, none⟩ = some (.int .u8 k)) (first | go_keep | (simp only [World.cell?_drew, hk1, hk2]; exact ⟨k1, k2⟩))
        (first
          | (go_at_call 31; (with_reducible refine (clone_any w2 (w2.alloc (Obj.cells #[.int .i64 0, .slice none 0 0] 53)).drew _ _ HPP.out (by (repeat (first | with_reducible exact Only.refl _ _ | with_reducible assumption | with_reducible apply Only.drew | with_reducible apply Only.drewN | with_reducible apply Only.alloc | (refine Only.setCell ?_ (by first | (left; simp; done) | (right; omega)) _ _)))) (by rw [HLP.out]; omega)).mono ?_); rintro e w3 ⟨mv, rfl, ho, hw⟩; obtain ⟨ma, mc, hmv, q1, q2⟩ := ho.vw.shape; rw [HLP.out] at hmv; subst hmv; have HO := Lib.hid ho; clear ho q1 q2; have hw' : Only [] w2 w3 := Only.then (by (repeat (first | with_reducible exact Only.refl _ _ | with_reducible assumption | with_reducible apply Only.drew | with_reducible apply Only.drewN | with_reducible apply Only.alloc | (refine Only.setCell ?_ (by first | (left; simp; done) | (right; omega)) _ _)))) hw; have k1 : w3.cell? ⟨sp, 0, none⟩ = some (.slice (some ⟨b, off, none⟩) L c) := (hw'.cell hls2 (by simp) _).trans e0; have k2 : w3.cell? ⟨b, off + 18, none⟩ = some (.int .u8 k) := (hw'.cell hlt2 (by simp) _).trans d18; have hg : Blk w3 w2.heap.size #[.int .i64 0, .slice none 0 0] 53 := ((Blk.new w2 _ _).drew).keep hw (by simp); (have g0 : (w3).cell? ⟨w2.heap.size, 0, none⟩ = some (.int .i64 0) := ((hg).cell 0).trans rfl; have g1 : (w3).cell? ⟨w2.heap.size, 1, none⟩ = some (.slice none 0 0) := ((hg).cell 1).trans rfl); (have fg0 := (hg).free 0; have fg1 := (hg).free 1); have HG := Lib.hid hg; clear hg)
          | (go_at_call 31; (with_reducible refine (clone_any w2 _ _ _ HPP.out (by (repeat (first | with_reducible exact Only.refl _ _ | with_reducible assumption | with_reducible apply Only.drew | with_reducible apply Only.drewN | with_reducible apply Only.alloc | (refine Only.setCell ?_ (by first | (left; simp; done) | (right; omega)) _ _)))) (by rw [HLP.out]; omega)).mono ?_); rintro e w3 ⟨mv, rfl, ho, hw⟩; obtain ⟨ma, mc, hmv, q1, q2⟩ := ho.vw.shape; rw [HLP.out] at hmv; subst hmv; have HO := Lib.hid ho; clear ho q1 q2; have hw' : Only [] w2 w3 := Only.then (by (repeat (first | with_reducible exact Only.refl _ _ | with_reducible assumption | with_reducible apply Only.drew | with_reducible apply Only.drewN | with_reducible apply Only.alloc | (refine Only.setCell ?_ (by first | (left; simp; done) | (right; omega)) _ _)))) hw; have k1 : w3.cell? ⟨sp, 0, none⟩ = some (.slice (some ⟨b, off, none⟩) L c) := (hw'.cell hls2 (by simp) _).trans e0; have k2 : w3.cell? ⟨b, off + 18, none⟩ = some (.int .u8 k) := (hw'.cell hlt2 (by simp) _).trans d18))
      · go_wp2_with fail
        go_meet
        refine ⟨w3.heap.size, _, rfl, hw'.size, Blk.new _ _ _, ?_, hw'.alloc _⟩
        rw [← HDT.out]
        exact (own_mono HO.out (fun g hg => HO.out.ge g hg)).alloc _
      · go_wp2_with fail
        go_meet
        have hG := HG.out
        refine ⟨w2.heap.size, .slice ma (n - 19) mc, rfl, Nat.le_refl _, ?_, ?_, ?_⟩
        · (apply blk_cast; (case h => (repeat (first | with_reducible assumption | (with_reducible apply blk_newAt; (first | omega | (simp; done) | (simp; omega))) | with_reducible apply Blk.set | with_reducible apply Blk.drewN | with_reducible apply Blk.drew | with_reducible apply Blk.alloc | (with_reducible apply Blk.setOther; (case hc => first | omega | (simp; omega)))))); (case e => (first | (simp; done) | rfl)))
        · rw [← HDT.out]
          have ho := HO.out
          have hne : ∀ g, (Value.slice ma (n - 19) mc).ownBlock = some g → g ∉ [w2.heap.size] := fun g hg => by have := ho.ge g hg; simp at this ⊢; omega
          refine own_mono (OwnB.keep ho ((((Only.refl [w2.heap.size] w3).setCell (by simp) _ _).setCell (by simp) _ _)) hne) (fun g hg => by have := ho.ge g hg; simp at this; omega)
        · (repeat (first | with_reducible exact Only.refl _ _ | with_reducible assumption | with_reducible apply Only.drew | with_reducible apply Only.drewN | with_reducible apply Only.alloc | (refine Only.setCell ?_ (by first | (left; simp; done) | (right; omega)) _ _)))
  case rest =>
    rename World => w4
    obtain ⟨g, mv, rfl, hg, hG, ho, hw4⟩ := hcut
    obtain ⟨ma, mc, hmv, q1, q2⟩ := ho.vw.shape
    have hS4 := HS2.out.keep hw4 (by simp)
    have hM4 := HM2.out.keep hw4 (by simp)
    have s0 : w4.cell? ⟨sp, 0, none⟩ = some (.slice (some ⟨b, off, none⟩) L c) := (hS4.cell 0).trans rfl
    have f0 := hS4.free 0
    have g0 : w4.cell? ⟨g, 0, none⟩ = some (.int .i64 k) := (hG.cell 0).trans rfl
    have g1 : w4.cell? ⟨g, 1, none⟩ = some mv := (hG.cell 1).trans rfl
    have hls4 := hS4.lt
    have HO := Lib.hid ho
    have HG := Lib.hid hG
    have HW4 := Lib.hid hw4
    have HS4 := Lib.hid hS4
    have HM4 := Lib.hid hM4
    have HQ4 := Lib.hid (HQ2.out.only hw4)
    have hgs : g ≠ sp := by omega
    have hws : w.heap.size ≠ sp := by omega
    have hgw : g ≠ w.heap.size := by omega
    (have m0 : (w4).cell? ⟨w.heap.size, 0, none⟩ = some (.int .i64 0) := ((hM4).cell 0).trans rfl; have m1 : (w4).cell? ⟨w.heap.size, 1, none⟩ = some (.slice none 0 0) := ((hM4).cell 1).trans rfl)
    (have fm0 := (hM4).free 0; have fm1 := (hM4).free 1)
    subst hmv
    have hsw4 := HW4.out.size
    have hsw2 := HW2.out.size
    clear ho hG hw4 hS4 hM4 HP2 HQ2 e0 d18 q1 q2
    have hO4 : Only [sp] w w4 := (HW2.out.then HW4.out).ofNil
    have HO4 := Lib.hid hO4
    clear hO4
    by_cases hcn : c = n
    all_goals
      go_wp2_with fail
      have B1 := HS4.out
      have B2 := HM4.out
      have B3 := HO4.out
      have B4 := HO.out
      have B5 := HQ4.out
      have hml : ((l.take n).drop 19).length = min n l.length - 19 := by simp
      have hne1 : ∀ x, (Value.slice ma ((l.take n).drop 19).length mc).ownBlock = some x → x ∉ [sp, w.heap.size] := fun x hx => by have := HO.out.ge x hx; simp; omega
      have hne2 : ∀ x, (Value.slice (if c = n then some ⟨b, off, none⟩ else some ⟨b, off + n, none⟩) (L - n) (c - n)).ownBlock = some x → x ∉ [sp, w.heap.size] := fun x hx => by
        rw [ownBlock_if] at hx
        cases hx
        simp
        omega
      refine world_abs (fun w' => Only [sp] w w' ∧ Only [sp, w.heap.size] w4 w' ∧ Blk w' sp #[.slice (if c = n then some ⟨b, off, none⟩ else some ⟨b, off + n, none⟩) (L - n) (c - n), .bool m, .bool d] 56 ∧ Blk w' w.heap.size #[.int .i64 k, .slice ma ((l.take n).drop 19).length mc] 53) ⟨?_, ?_, ?_, ?_⟩ ?_
      · (repeat (first | with_reducible exact Only.refl _ _ | with_reducible assumption | with_reducible apply Only.drew | with_reducible apply Only.drewN | with_reducible apply Only.alloc | (refine Only.setCell ?_ (by first | (left; simp; done) | (right; omega)) _ _)))
      · repeat (first | exact Only.refl _ _ | (refine Only.setCell ?_ (.inl (by simp)) _ _))
      · apply blk_cast
        case h => (repeat (first | with_reducible assumption | with_reducible apply Blk.set | (with_reducible apply Blk.setOther; (case hc => omega))))
        case e => simp [hcn]
      · rw [hml]
        apply blk_cast
        case h => (repeat (first | with_reducible assumption | with_reducible apply Blk.set | (with_reducible apply Blk.setOther; (case hc => omega))))
        case e => simp
      rintro w9 ⟨hO9, hO94, hS9, hM9⟩
      refine bodyPost_ret (v := .tuple #[.agg #[.int .i64 k, .slice ma ((l.take n).drop 19).length mc], .bool true]) ?_ rfl ?_
      · simp [results, Try.results26, loadVar_blk hM9 (.struct _) 53 Try.underlying53 rfl rfl, asAddr, Sem.run_bind]
      · refine ⟨_, _, by rw [HKE.out], own_mono (OwnB.keep B4 hO94 hne1) (fun x hx => by have := B4.ge x hx; omega), hS9, VwB.keep B5 hO94 hne2, ?_, hO9⟩
        rw [ownBlock_if]
        rfl
end Go.Proofs.Ytcpoaghogpkagaa
