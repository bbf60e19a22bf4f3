/-
  Package open: can and Build.
-/
import Derived.Test.YtdbahaajgedgkaaOpenPut
import Derived.Deep.DeepCutAuto
import Derived.Deep.RegionHeld3
namespace Go.Proofs.Ytdbahaajgedgkaa
open Go.RowKit Go.Pm


def capM (o : Opn) : List Int := if o.multi then [1, 4, 0, 1, 0, 1] else []
def capR (o : Opn) : List Int := if o.refresh then [2, 0] else []
def capG (o : Opn) : List Int := if o.graceful then [64, 6] ++ be16 (o.time + flagI o.restarts 32768) ++ [0, 1, 1, flagI o.keeps 128] else []
def capF (o : Opn) : List Int := if o.four then [65, 4] ++ be32 o.sys else []

theorem boxed (w : World) (o : Opn) {wx : World} (h : Only [] (w.alloc (.cells o.cells 25)) wx) : Blk wx w.heap.size o.cells 25 := (Blk.new w o.cells 25).keep h (by simp)

theorem or_flag (t : Int) (r : Bool) (h0 : 0 ≤ t) (h1 : t ≤ 4095) : bits .or .i64 t (flagI r 32768) = t + flagI r 32768 := by
  cases r
  · exact or_low 15 t 0 h0 (by omega) (by decide) (by decide) (by omega) (by decide)
  · exact or_low 15 t 32768 h0 (by omega) (by decide) (by decide) (by omega) (by decide)

set_option maxHeartbeats 1000000 in
theorem can_any (w : World) (o : Opn) (hf : o.Fits) (ht : 0 ≤ o.time ∧ o.time ≤ 4095) :
    Calls Try.prog 15 #[.agg o.cells] w fun e w' => ∃ v, e = .returned v ∧ OwnB 5 w' (w.heap.size + 1) v (capM o ++ capR o ++ capG o ++ capF o) ∧ Only [] w w' := by
  have HW : Hid (∀ wx, Only [] (w.alloc (.cells o.cells 25)) wx → Blk wx w.heap.size o.cells 25 ∧ w.heap.size + 1 ≤ wx.heap.size) := fun wx h => ⟨boxed w o h, by have := h.size; simpa using this⟩
  have HR : Hid (Only [] (w.alloc (.cells o.cells 25)) (w.alloc (.cells o.cells 25))) := Only.refl _ _
  have HF := Lib.hid hf; clear hf
  have HT := Lib.hid ht; clear ht
  have c3 : (w.alloc (.cells o.cells 25)).cell? ⟨w.heap.size, 3, none⟩ = some (.bool o.multi) := by rw [(Blk.new w o.cells 25).cell]; rfl
  go_enter Try.func15, Try.ntmps15
  go_upto_if 5 with fail
  go_cut [3] (fun b wx => OwnB 5 wx (w.heap.size + 1) b (capM o) ∧ Only [] (w.alloc (.cells o.cells 25)) wx)
  case first =>
    cases hm : o.multi
    · have H1 := Lib.hid (show capM o = [] by simp [capM, hm])
      go_wp2_with fail
      go_meet
      exact ⟨by rw [H1.out]; exact OwnB.nil _ _ _, HR.out⟩
    · have H1 := Lib.hid (show capM o = [1, 4] ++ be32 65537 by simp [capM, hm, be32])
      go_wp2_with (at_builtin; (refine wpList_appB bytesEl rfl _ _ rfl rfl rfl (OwnB.nil _ _ (w.heap.size + 1)) (VwB.litAt [1, 4] rfl rfl (by decide) (by simp)) (by simp) (by simp) ?_); intro v' w' hb')
      refine (put32_any _ _ _ _ hb'.own 65537 (by omega) (by omega) (by simp) (by have := hb'.only.size; simp at this; omega)).mono ?_
      rintro e w2 ⟨v2, rfl, hb2⟩
      go_wp2_with fail
      go_meet
      refine ⟨by rw [H1.out]; exact hb2.own, ?_⟩
      exact hb2.since hb'.own (hb'.alloced.since (OwnB.nil _ _ _) HR.out (by simp)) (by simp)
  case rest =>
    obtain ⟨ho1, hw1⟩ := hcut
    have c5 : wc.cell? ⟨w.heap.size, 5, none⟩ = some (.bool o.refresh) := by rw [(HW.out _ hw1).1.cell]; rfl
    have hsz := (HW.out _ hw1).2
    have HO1 := Lib.hid ho1; clear ho1
    have HW1 := Lib.hid hw1; clear hw1
    have HL1 := Lib.hid (show (capM o).length ≤ 6 by unfold capM; split <;> simp)
    go_upto_if 11 with fail
    go_cut [3] (fun b wx => OwnB 5 wx (w.heap.size + 1) b (capM o ++ capR o) ∧ Only [] (w.alloc (.cells o.cells 25)) wx)
    case first =>
      cases hm : o.refresh
      · have H1 := Lib.hid (show capR o = [] by simp [capR, hm])
        go_wp2_with fail
        go_meet
        exact ⟨by rw [H1.out, List.append_nil]; exact HO1.out, HW1.out⟩
      · have H1 := Lib.hid (show capR o = [2, 0] by simp [capR, hm])
        go_wp2_with (at_builtin; refine wpList_appB bytesEl rfl _ _ rfl rfl rfl (HO1.out.alloc _) (VwB.litAt [2, 0] rfl rfl (by decide) (by simp)) (by have := HL1.out; simp; omega) (by simp; omega) ?_; intro v' w' hb')
        go_meet
        exact ⟨by rw [H1.out]; exact hb'.own, hb'.alloced.since HO1.out HW1.out (by simp)⟩
    case rest =>
      obtain ⟨ho2, hw2⟩ := hcut
      have hsz2 := (HW.out _ hw2).2
      have hbx := (HW.out _ hw2).1
      have c6 : wc.cell? ⟨w.heap.size, 6, none⟩ = some (.bool o.graceful) := by rw [hbx.cell]; rfl
      have c7 : wc.cell? ⟨w.heap.size, 7, none⟩ = some (.int .i64 o.time) := by rw [hbx.cell]; rfl
      have c8 : wc.cell? ⟨w.heap.size, 8, none⟩ = some (.bool o.restarts) := by rw [hbx.cell]; rfl
      clear hbx
      have HO2 := Lib.hid ho2; clear ho2
      have HW2 := Lib.hid hw2; clear hw2
      have HL2 := Lib.hid (show (capM o ++ capR o).length ≤ 8 by have := HL1.out; simp; unfold capR; split <;> simp <;> omega)
      generalize hL2 : capM o ++ capR o = L2 at *
      have HQ2 := Lib.hid hL2; clear hL2
      go_upto_if 16 with fail
      go_cut [3] (fun b wx => OwnB 5 wx (w.heap.size + 1) b (L2 ++ capG o) ∧ Only [] (w.alloc (.cells o.cells 25)) wx)
      case first =>
        cases hm : o.graceful
        · have H1 := Lib.hid (show capG o = [] by simp [capG, hm])
          go_wp2_with fail
          go_meet
          exact ⟨by rw [H1.out, List.append_nil]; exact HO2.out, HW2.out⟩
        · have H1 := Lib.hid (show capG o = [64, 6] ++ be16 (o.time + flagI o.restarts 32768) ++ [0, 1, 1, flagI o.keeps 128] by simp [capG, hm])
          go_wp2_with fail
          have hfr : ∀ wx v v' l, BldB 5 (w.heap.size + 1) wx wx v v' l → True := fun _ _ _ _ _ => trivial
          clear hfr
          have hfl : flagI o.restarts 32768 = 0 ∨ flagI o.restarts 32768 = 32768 := by unfold flagI; cases o.restarts <;> simp
          have HFL := Lib.hid hfl; clear hfl
          have ht0 := HT.out.1
          have ht1 := HT.out.2
          go_region_held3 (fun W => W.cell? ⟨w.heap.size, 7, none⟩ = some (.int .i64 o.time) ∧ W.cell? ⟨w.heap.size, 8, none⟩ = some (.bool o.restarts)) (first | assumption | go_keep)
            (first
              | (refine step_appB bytesEl rfl _ _ rfl rfl rfl (HO2.out.alloc _).drew (VwB.litAt [64, 6] rfl rfl (by decide) (by simp)).drew (by have := HL2.out; simp; omega) (by simp; omega) ?_; intro v' w' hb'; have hS : w'.cell? ⟨w.heap.size, 7, none⟩ = some (.int .i64 o.time) ∧ w'.cell? ⟨w.heap.size, 8, none⟩ = some (.bool o.restarts) := by
                  have hq := HW.out w' (by exact hb'.drewd.alloced.since (HO2.out) (HW2.out) (by simp))
                  exact ⟨by rw [hq.1.cell]; rfl, by rw [hq.1.cell]; rfl⟩)
              | (go_at_call 23; refine (flag_any _ o.restarts 32768).mono ?_; rintro e w2 ⟨rfl, rfl⟩; have hq : True := trivial)
              | (go_at_call 14; rw [or_flag _ o.restarts ht0 ht1]; refine (put16_any _ _ _ _ hb'.own (o.time + flagI o.restarts 32768) (by have := HFL.out; omega) (by have := HFL.out; omega) (by have := HL2.out; simp; omega) (by have := hb'.only.size; simp at this; omega)).mono ?_; rintro e w3 ⟨v3, rfl, hb3⟩; have hS3 : w3.cell? ⟨w.heap.size, 7, none⟩ = some (.int .i64 o.time) ∧ w3.cell? ⟨w.heap.size, 8, none⟩ = some (.bool o.restarts) := by
                  have hq := HW.out w3 (hb3.since hb'.own (hb'.drewd.alloced.since (HO2.out) (HW2.out) (by simp)) (by simp))
                  exact ⟨by rw [hq.1.cell]; rfl, by rw [hq.1.cell]; rfl⟩))
          have hw3 := hb3.since hb'.own (hb'.drewd.alloced.since (HO2.out) (HW2.out) (by simp)) (by simp)
          have c9 : w3.cell? ⟨w.heap.size, 9, none⟩ = some (.bool o.keeps) := by rw [(HW.out _ hw3).1.cell]; rfl
          have hs3 := (HW.out _ hw3).2
          have HW3 := Lib.hid hw3; clear hw3
          go_wp2_with fail
          refine (flag_any _ o.keeps 128).mono ?_
          rintro e w4 ⟨rfl, rfl⟩
          have hkp : 0 ≤ flagI o.keeps 128 ∧ flagI o.keeps 128 ≤ 255 := by unfold flagI; split <;> omega
          obtain ⟨hk0, hk1⟩ := hkp
          go_wp2_with (at_builtin; refine wpList_appB bytesEl rfl _ _ rfl rfl rfl (hb3.own.alloc _) (VwB.litAt [0, 1, 1, flagI o.keeps 128] rfl rfl (by decide) (by simp)) (by have := HL2.out; simp [be16]; omega) (by simp; omega) ?_; intro v4 w4 hb4)
          go_meet
          refine ⟨?_, hb4.alloced.since hb3.own HW3.out (by simp)⟩
          have := hb4.own
          rw [H1.out]
          simpa only [List.append_assoc] using this
      case rest =>
        obtain ⟨ho3, hw3⟩ := hcut
        have hsz3 := (HW.out _ hw3).2
        have hbx3 := (HW.out _ hw3).1
        have c4 : wc.cell? ⟨w.heap.size, 4, none⟩ = some (.bool o.four) := by rw [hbx3.cell]; rfl
        have c0 : wc.cell? ⟨w.heap.size, 0, none⟩ = some (.int .u32 o.sys) := by rw [hbx3.cell]; rfl
        clear hbx3
        have HO3 := Lib.hid ho3; clear ho3
        have HW3 := Lib.hid hw3; clear hw3
        have HL3 := Lib.hid (show (L2 ++ capG o).length ≤ 16 by have := HL2.out; simp; unfold capG; split <;> simp [be16] <;> omega)
        generalize hL3 : L2 ++ capG o = L3 at *
        have HQ3 := Lib.hid hL3; clear hL3
        cases hm : o.four
        · have H1 := Lib.hid (show capF o = [] by simp [capF, hm])
          go_wp2_with fail
          go_ret
          refine ⟨_, rfl, ?_, ?_⟩
          · rw [HQ2.out, H1.out, List.append_nil, HQ3.out]; exact HO3.out
          · exact ((Only.refl _ _).alloc _).then HW3.out
        · have H1 := Lib.hid (show capF o = [65, 4] ++ be32 o.sys by simp [capF, hm])
          have hs0 := HF.out.sys0
          have hs1 := HF.out.sys1
          go_wp2_with fail
          go_region_held3 (fun W => W.cell? ⟨w.heap.size, 0, none⟩ = some (.int .u32 o.sys)) (first | assumption | go_keep)
            (first
              | (refine step_appB bytesEl rfl _ _ rfl rfl rfl (HO3.out.alloc _).drew (VwB.litAt [65, 4] rfl rfl (by decide) (by simp)).drew (by have := HL3.out; simp; omega) (by simp; omega) ?_; intro v' w' hb'; have hS : w'.cell? ⟨w.heap.size, 0, none⟩ = some (.int .u32 o.sys) := by
                  have hq := HW.out w' (by exact hb'.drewd.alloced.since (HO3.out) (HW3.out) (by simp))
                  rw [hq.1.cell]; rfl)
              | (go_at_call 13; refine (put32_any _ _ _ _ hb'.own o.sys (by omega) (by omega) (by have := HL3.out; simp; omega) (by have := hb'.only.size; simp at this; omega)).mono ?_; rintro e w3 ⟨v3, rfl, hb3⟩; have hS3 : w3.cell? ⟨w.heap.size, 0, none⟩ = some (.int .u32 o.sys) := by
                  have hq := HW.out w3 (hb3.since hb'.own (hb'.drewd.alloced.since (HO3.out) (HW3.out) (by simp)) (by simp))
                  rw [hq.1.cell]; rfl))
          go_wp2_with fail
          go_ret
          refine ⟨v3, rfl, ?_, ?_⟩
          · have := hb3.own
            rw [HQ2.out, HQ3.out, H1.out]
            simpa only [List.append_assoc] using this
          · exact ((Only.refl _ _).alloc _).then (hb3.since hb'.own (hb'.drewd.alloced.since (HO3.out) (HW3.out) (by simp)) (by simp))

def caps (o : Opn) : List Int := capM o ++ capR o ++ capG o ++ capF o
theorem caps_len (o : Opn) : (caps o).length ≤ 22 := by
  have a : (capM o).length ≤ 6 := by unfold capM; split <;> simp
  have b : (capR o).length ≤ 2 := by unfold capR; split <;> simp
  have c : (capG o).length ≤ 8 := by unfold capG; split <;> simp [be16]
  have d : (capF o).length ≤ 6 := by unfold capF; split <;> simp [be32]
  simp only [caps, List.length_append]
  omega
def asOf (o : Opn) : Int := if o.sys ≤ 65535 then o.sys else 23456
def headB (o : Opn) : List Int := [4] ++ be16 (asOf o) ++ be16 o.hold ++ be32 o.id
def openB (o : Opn) : List Int := if caps o = [] then headB o ++ [0] else headB o ++ [((caps o).length : Int) + 2, 2, (caps o).length] ++ caps o

set_option maxHeartbeats 1000000 in
theorem build_no (w : World) (o : Opn) (hr : ¬ o.Right) :
    Calls Try.prog 6 #[.agg o.cells] w fun e w' => e = .returned (.tuple #[.slice none 0 0, .int .i64 2]) ∧ Only [] w w' := by
  have HR := Lib.hid hr; clear hr
  go_enter Try.func6, Try.ntmps6
  unfold Opn.cells
  go_wp2_with fail
  refine (right_any _ o).mono ?_
  rintro e w1 ⟨rfl, ho1⟩
  rw [show decide o.Right = false from decide_eq_false HR.out]
  go_wp2_with fail
  go_ret2
  exact ⟨rfl, ((Only.refl _ _).alloc _).then ho1⟩

def BuiltAs (W : World) (l : List Int) (e : Ending) (w' : World) : Prop := ∃ v, e = .returned (.tuple #[v, .int .i64 0]) ∧ OwnB 5 w' W.heap.size v l ∧ Only [] W w'

set_option maxHeartbeats 2000000 in
theorem build_yes (w : World) (o : Opn) (hf : o.Fits) (hr : o.Right) :
    Calls Try.prog 6 #[.agg o.cells] w (BuiltAs w (openB o)) := by
  obtain ⟨⟨hh0, hh1, hh2, hh3⟩, _, ⟨ht0, ht1⟩, _⟩ := hr
  have HR : Hid o.Right := ⟨⟨hh0, hh1, hh2, hh3⟩, ‹_›, ⟨ht0, ht1⟩, ‹_›⟩
  have HF := Lib.hid hf; clear hf
  have hid0 := HF.out.id0
  have hid1 := HF.out.id1
  have hs0 := HF.out.sys0
  have hs1 := HF.out.sys1
  have HW : Hid (∀ wx, Only [] (w.alloc (.cells o.cells 25)) wx → Blk wx w.heap.size o.cells 25 ∧ w.heap.size + 1 ≤ wx.heap.size) := fun wx h => ⟨boxed w o h, by have := h.size; simpa using this⟩
  have HR0 : Hid (Only [] (w.alloc (.cells o.cells 25)) (w.alloc (.cells o.cells 25))) := Only.refl _ _
  go_enter Try.func6, Try.ntmps6
  unfold Opn.cells at *
  go_wp2_with fail
  refine (right_any _ o).mono ?_
  rintro e w1 ⟨rfl, ho1⟩
  rw [show decide o.Right = true from decide_eq_true HR.out]
  have hw1 := HR0.out.then ho1
  have hb1 := (HW.out _ hw1).1
  have hz1 := (HW.out _ hw1).2
  have c0 : w1.cell? ⟨w.heap.size, 0, none⟩ = some (.int .u32 o.sys) := by rw [hb1.cell]; rfl
  have HW1 := Lib.hid hw1; clear hw1 hb1 ho1
  go_upto_if 12 with fail
  go_cut [4] (fun a wx => a = .int .i64 (asOf o) ∧ wx = w1)
  case first =>
    by_cases hs : o.sys ≤ 65535
    · have H1 := Lib.hid (show asOf o = o.sys from if_pos hs)
      go_wp2_with fail
      go_meet
      exact ⟨by rw [H1.out], rfl⟩
    · have H1 := Lib.hid (show asOf o = 23456 from if_neg hs)
      go_wp2_with fail
      go_meet
      exact ⟨by rw [H1.out], rfl⟩
  case rest =>
    obtain ⟨rfl, rfl⟩ := hcut
    have ha : 0 ≤ asOf o ∧ asOf o ≤ 65535 := by unfold asOf; split <;> omega
    obtain ⟨ha0, ha1⟩ := ha
    have hz2 := (HW.out _ HW1.out).2
    have c1 : wc.cell? ⟨w.heap.size, 1, none⟩ = some (.int .i64 o.hold) := by rw [(HW.out _ HW1.out).1.cell]; rfl
    have c2 : wc.cell? ⟨w.heap.size, 2, none⟩ = some (.int .u32 o.id) := by rw [(HW.out _ HW1.out).1.cell]; rfl
    have hl0 : OwnB 5 (wc.alloc (.cells #[.int .u8 4] 5)).drew (w.heap.size + 1) (.slice (some ⟨wc.heap.size, 0, none⟩) 1 1) [4] := (OwnB.litAt [4] rfl rfl (by omega) (by decide) rfl).drew
    have hwl := (HW1.out.alloc (.cells #[.int .u8 4] 5)).drew
    go_wp2_with fail
    go_region_held3 (fun W => W.cell? ⟨w.heap.size, 1, none⟩ = some (.int .i64 o.hold) ∧ W.cell? ⟨w.heap.size, 2, none⟩ = some (.int .u32 o.id)) (first | assumption | go_keep)
      (first
        | (go_at_call_of 14 (Value.int .i64 (asOf o)); refine (put16_any _ _ _ _ hl0 (asOf o) (by omega) (by omega) (by simp) (by simp; omega)).mono ?_; rintro e w3 ⟨v3, rfl, hb3⟩; have hw3 := hb3.since hl0 hwl (by simp); have hS3 : w3.cell? ⟨w.heap.size, 1, none⟩ = some (.int .i64 o.hold) ∧ w3.cell? ⟨w.heap.size, 2, none⟩ = some (.int .u32 o.id) := by
            exact ⟨by rw [(HW.out _ hw3).1.cell]; rfl, by rw [(HW.out _ hw3).1.cell]; rfl⟩)
        | (go_at_call_of 14 (Value.int .i64 o.hold); refine (put16_any _ _ _ _ hb3.own o.hold (by omega) (by omega) (by simp [be16]) (by have := (HW.out _ hw3).2; omega)).mono ?_; rintro e w4 ⟨v4, rfl, hb4⟩; have hw4 := hb4.since hb3.own hw3 (by simp); have hS4 : w4.cell? ⟨w.heap.size, 1, none⟩ = some (.int .i64 o.hold) ∧ w4.cell? ⟨w.heap.size, 2, none⟩ = some (.int .u32 o.id) := by
            exact ⟨by rw [(HW.out _ hw4).1.cell]; rfl, by rw [(HW.out _ hw4).1.cell]; rfl⟩)
        | (go_at_call 13; refine (put32_any _ _ _ _ hb4.own o.id (by omega) (by omega) (by simp [be16]) (by have := (HW.out _ hw4).2; omega)).mono ?_; rintro e w5 ⟨v5, rfl, hb5⟩; have hw5 := hb5.since hb4.own hw4 (by simp); have hS5 : w5.cell? ⟨w.heap.size, 1, none⟩ = some (.int .i64 o.hold) ∧ w5.cell? ⟨w.heap.size, 2, none⟩ = some (.int .u32 o.id) := by
            exact ⟨by rw [(HW.out _ hw5).1.cell]; rfl, by rw [(HW.out _ hw5).1.cell]; rfl⟩))
    have ho5 : OwnB 5 w5 (w.heap.size + 1) v5 (headB o) := by
      have := hb5.own
      simpa only [headB, List.append_assoc] using this
    have HO5 := Lib.hid ho5
    have HW5 := Lib.hid hw5
    have hz5 := (HW.out _ hw5).2
    have hbx := (HW.out _ hw5).1
    have d0 : w5.cell? ⟨w.heap.size, 0, none⟩ = some (.int .u32 o.sys) := by rw [hbx.cell]; rfl
    have d3 : w5.cell? ⟨w.heap.size, 3, none⟩ = some (.bool o.multi) := by rw [hbx.cell]; rfl
    have d4 : w5.cell? ⟨w.heap.size, 4, none⟩ = some (.bool o.four) := by rw [hbx.cell]; rfl
    have d5 : w5.cell? ⟨w.heap.size, 5, none⟩ = some (.bool o.refresh) := by rw [hbx.cell]; rfl
    have d6 : w5.cell? ⟨w.heap.size, 6, none⟩ = some (.bool o.graceful) := by rw [hbx.cell]; rfl
    have d7 : w5.cell? ⟨w.heap.size, 7, none⟩ = some (.int .i64 o.time) := by rw [hbx.cell]; rfl
    have d8 : w5.cell? ⟨w.heap.size, 8, none⟩ = some (.bool o.restarts) := by rw [hbx.cell]; rfl
    have d9 : w5.cell? ⟨w.heap.size, 9, none⟩ = some (.bool o.keeps) := by rw [hbx.cell]; rfl
    obtain ⟨d1, d2⟩ := hS5
    clear hb3 hb4 hb5 hw3 hw4 hw5 ho5 hbx hS3 hS4 c0 c1 c2 hl0
    go_wp2_with fail
    refine (can_any _ o HF.out ⟨ht0, ht1⟩).mono ?_
    rintro e w6 ⟨v6, rfl, ho6, hw6⟩
    have hlen := caps_len o
    have ho7 : OwnB 5 w6 (w.heap.size + 1) v5 (headB o) := HO5.out.only hw6
    have HW6 := Lib.hid (HW5.out.then hw6)
    have hz6 := hw6.size
    have HL : Hid ((headB o).length = 9) := by simp [Hid, headB, be16, be32]
    have HO6 : Hid (OwnB 5 w6 (w5.heap.size + 1) v6 (caps o)) := ho6
    have HO7 := Lib.hid ho7
    clear hw6 ho6 ho7
    by_cases hc : caps o = []
    · have HQ := Lib.hid (show openB o = headB o ++ [0] from if_pos hc)
      have ho6 := HO6.out
      rw [hc] at ho6
      obtain ⟨a6, c6, rfl⟩ : ∃ a c, v6 = .slice a 0 c := by
        obtain ⟨a, c, h, _⟩ := ho6.vw
        exact ⟨a, c, h⟩
      clear ho6
      go_wp2_with (at_builtin; refine wpList_appB bytesEl rfl _ _ rfl rfl rfl (HO7.out.alloc _) (VwB.litAt [0] rfl rfl (by decide) (by simp)) (by have := HL.out; simp; omega) (by simp; omega) ?_; intro v' w' hb')
      go_ret2
      refine ⟨v', rfl, ?_, ?_⟩
      · rw [HQ.out]; exact own_mono hb'.own (fun g hg => by have := hb'.own.ge g hg; omega)
      · exact ((Only.refl _ _).alloc _).then (hb'.alloced.since HO7.out HW6.out (by simp))
    · have HQ := Lib.hid (show openB o = headB o ++ [((caps o).length : Int) + 2, 2, (caps o).length] ++ caps o from if_neg hc)
      have hlp : 0 < (caps o).length := List.length_pos_iff.2 hc
      obtain ⟨a6, c6, rfl⟩ : ∃ a c, v6 = .slice a (caps o).length c := by
        obtain ⟨a, c, h, _⟩ := HO6.out.vw
        exact ⟨a, c, h⟩
      have HL2 : Hid ((caps o).length = (caps o).length) := rfl
      generalize hN : (caps o).length = N at *
      have HN := Lib.hid hN; clear hN
      have hN0 : ((N : Int) == 0) = false := by simp; omega
      have hown6 : ∀ g, (Value.slice a6 N c6).ownBlock = some g → w5.heap.size + 1 ≤ g := HO6.out.ge
      have hown5 : ∀ g, v5.ownBlock = some g → g < w5.heap.size := fun g hg => HO5.out.lt g hg
      have HS : Hid (∀ g, (Value.slice a6 N c6).ownBlock = some g → g ∉ v5.ownBlock.toList) := by
        intro g hg hm
        have h1 := hown6 g hg
        have h2 := hown5 g (by simpa using hm)
        omega
      clear hown6 hown5
      go_wp2_with (first
        | (at_builtin; refine wpList_appB bytesEl rfl _ _ rfl rfl rfl (HO7.out.alloc _) (VwB.litAt [(N : Int) + 2, 2, N] rfl rfl (by decide) (by simp)) (by have := HL.out; simp; omega) (by simp; omega) ?_; intro v8 w8 hb8)
        | (at_builtin; refine wpList_appB bytesEl rfl _ _ rfl rfl rfl hb8.own ((HO6.out.vw.only ((Only.refl _ _).alloc _)).keep hb8.only HS.out) (by have := HL.out; have := HN.out; simp; omega) (by have := hb8.only.size; simp at this; omega) ?_; intro v9 w9 hb9))
      go_ret2
      refine ⟨v9, rfl, ?_, ?_⟩
      · have := hb9.own
        rw [HQ.out]
        exact own_mono this (fun g hg => by have := hb9.own.ge g hg; omega)
      · exact ((Only.refl _ _).alloc _).then (hb9.since hb8.own (hb8.alloced.since HO7.out HW6.out (by simp)) (by simp))
end Go.Proofs.Ytdbahaajgedgkaa
