/-
  The reference of layer 18: Build.
-/
import Derived.Test.YtdbahaajgedgkaaOpenRef
namespace Go.Proofs.Ytdbahaajgedgkaa
open Go.RowKit Go.Pm


set_option maxHeartbeats 1000000 in
theorem rbuild_no (w : World) (o : Opn) (hr : ¬ o.Right) :
    Calls Try.prog 7 #[.agg o.cells] w fun e w' => e = .returned (.tuple #[.slice none 0 0, .int .i64 2]) ∧ Only [] w w' := by
  have HR := Lib.hid hr; clear hr
  go_enter Try.func7, Try.ntmps7
  unfold Opn.cells
  go_wp2_with fail
  refine (rright_any _ o).mono ?_
  rintro e w1 ⟨rfl, ho1⟩
  rw [show decide o.Right = false from decide_eq_false HR.out]
  go_wp2_with fail
  go_ret2
  exact ⟨rfl, ((Only.refl _ _).alloc _).then ho1⟩

set_option maxRecDepth 100000 in
set_option maxHeartbeats 8000000 in
theorem rbuild_yes (w : World) (o : Opn) (hf : o.Fits) (hr : o.Right) :
    Calls Try.prog 7 #[.agg o.cells] w (BuiltAs w (openB o)) := by
  obtain ⟨⟨hh0, hh1, hh2, hh3⟩, _, ⟨ht0, ht1⟩, _⟩ := hr
  have HR : Hid o.Right := ⟨⟨hh0, hh1, hh2, hh3⟩, ‹_›, ⟨ht0, ht1⟩, ‹_›⟩
  have HF := Lib.hid hf; clear hf
  have hid0 := HF.out.id0
  have hid1 := HF.out.id1
  have hs0 := HF.out.sys0
  have hs1 := HF.out.sys1
  have HW : Hid (∀ wx, Only [] (w.alloc (.cells o.cells 25)) wx → w.heap.size + 1 ≤ wx.heap.size ∧ w.heap.size < wx.heap.size ∧
      wx.cell? ⟨w.heap.size, 0, none⟩ = some (.int .u32 o.sys) ∧ wx.cell? ⟨w.heap.size, 1, none⟩ = some (.int .i64 o.hold) ∧ wx.cell? ⟨w.heap.size, 2, none⟩ = some (.int .u32 o.id) ∧ wx.cell? ⟨w.heap.size, 3, none⟩ = some (.bool o.multi) ∧
      wx.cell? ⟨w.heap.size, 4, none⟩ = some (.bool o.four) ∧ wx.cell? ⟨w.heap.size, 5, none⟩ = some (.bool o.refresh) ∧ wx.cell? ⟨w.heap.size, 6, none⟩ = some (.bool o.graceful) ∧ wx.cell? ⟨w.heap.size, 7, none⟩ = some (.int .i64 o.time) ∧
      wx.cell? ⟨w.heap.size, 8, none⟩ = some (.bool o.restarts) ∧ wx.cell? ⟨w.heap.size, 9, none⟩ = some (.bool o.keeps)) := fun wx h => by
    have hb := boxed w o h
    refine ⟨by have := h.size; simpa using this, by have := h.size; simp at this; omega, ?_, ?_, ?_, ?_, ?_, ?_, ?_, ?_, ?_, ?_⟩ <;> (rw [hb.cell]; rfl)
  have HR0 : Hid (Only [] (w.alloc (.cells o.cells 25)) (w.alloc (.cells o.cells 25))) := Only.refl _ _
  go_enter Try.func7, Try.ntmps7
  unfold Opn.cells at *
  go_wp2_with fail
  refine (rright_any _ o).mono ?_
  rintro e w1 ⟨rfl, ho1⟩
  rw [show decide o.Right = true from decide_eq_true HR.out]
  have hw1 := HR0.out.then ho1
  generalize Value.agg #[.int .u32 o.sys, .int .i64 o.hold, .int .u32 o.id, .bool o.multi, .bool o.four, .bool o.refresh, .bool o.graceful, .int .i64 o.time, .bool o.restarts, .bool o.keeps] = A0
  obtain ⟨hz1, hy1, e0, e1, e2, e3, e4, e5, e6, e7, e8, e9⟩ := HW.out _ hw1
  have HW1 := Lib.hid hw1; clear hw1 ho1
  have HO1 : Hid (OwnB 5 (w1.alloc (.cells #[] 5)) (w.heap.size + 1) (.slice (some ⟨w1.heap.size, 0, none⟩) 0 0) []) := OwnB.litAt [] rfl rfl (by omega) (by decide) rfl
  go_upto_if 14 with fail
  go_cut [4] (fun b wx => OwnB 5 wx (w.heap.size + 1) b (capM o) ∧ Only [] (w.alloc (.cells o.cells 25)) wx)
  case first =>
    cases hm : o.multi
    · have H1 := Lib.hid (show capM o = [] by simp [capM, hm])
      go_wp2_with fail
      go_meet
      exact ⟨by rw [H1.out]; exact HO1.out, HW1.out.alloc _⟩
    · have H1 := Lib.hid (show capM o = [] ++ [1, 4, 0, 1, 0, 1] by simp [capM, hm])
      go_wp2_with (at_builtin; refine wpList_appB bytesEl rfl _ _ rfl rfl rfl (HO1.out.alloc _) (VwB.litAt [1, 4, 0, 1, 0, 1] rfl rfl (by decide) (by simp)) (by simp) (by simp; omega) ?_; intro v' w' hb')
      go_meet
      exact ⟨by rw [H1.out]; exact hb'.own, hb'.alloced.since HO1.out (HW1.out.alloc _) (by simp)⟩
  case rest =>
    obtain ⟨ho1, hw1⟩ := hcut
    have HL : Hid ((capM o).length ≤ 6) := by unfold Hid capM; split <;> simp
    clear e0 e1 e2 e3 e4 e5 e6 e7 e8 e9 HO1 HW1
    obtain ⟨hz2, hy2, e0, e1, e2, e3, e4, e5, e6, e7, e8, e9⟩ := HW.out _ hw1
    have HO1 := Lib.hid ho1; clear ho1
    have HW1 := Lib.hid hw1; clear hw1
    go_upto_if 19 with fail
    go_cut [4] (fun b wx => OwnB 5 wx (w.heap.size + 1) b (capM o ++ capR o) ∧ Only [] (w.alloc (.cells o.cells 25)) wx)
    case first =>
      cases hm : o.refresh
      · have H1 := Lib.hid (show capR o = [] by simp [capR, hm])
        go_wp2_with fail
        go_meet
        exact ⟨by rw [H1.out, List.append_nil]; exact HO1.out, HW1.out⟩
      · have H1 := Lib.hid (show capR o = [2, 0] by simp [capR, hm])
        go_wp2_with (at_builtin; refine wpList_appB bytesEl rfl _ _ rfl rfl rfl (HO1.out.alloc _) (VwB.litAt [2, 0] rfl rfl (by decide) (by simp)) (by have := HL.out; simp; omega) (by simp; omega) ?_; intro v' w' hb')
        go_meet
        exact ⟨by rw [H1.out]; exact hb'.own, hb'.alloced.since HO1.out HW1.out (by simp)⟩
    case rest =>
      obtain ⟨ho2, hw2⟩ := hcut
      clear e0 e1 e2 e3 e4 e5 e6 e7 e8 e9
      obtain ⟨hz3, hy3, e0, e1, e2, e3, e4, e5, e6, e7, e8, e9⟩ := HW.out _ hw2
      have HO2 := Lib.hid ho2; clear ho2
      have HW2 := Lib.hid hw2; clear hw2
      have HL2 := Lib.hid (show (capM o).length + (capR o).length ≤ 8 by have := HL.out; unfold capR; split <;> simp <;> omega)
      go_upto_if 24 with fail
      go_cut [4, 5, 6] (fun b _ _ wx => OwnB 5 wx (w.heap.size + 1) b (capM o ++ capR o ++ capG o) ∧ Only [] (w.alloc (.cells o.cells 25)) wx)
      case first =>
        cases hm : o.graceful
        · have H1 := Lib.hid (show capG o = [] by simp [capG, hm])
          go_wp2_with fail
          go_meet
          exact ⟨by rw [H1.out, List.append_nil]; exact HO2.out, HW2.out⟩
        · have H1 := Lib.hid (show capG o = [64, 6] ++ be16 (o.time + flagI o.restarts 32768) ++ [0, 1, 1, flagI o.keeps 128] by simp [capG, hm])
          have HFR := Lib.hid (show flagI true 32768 = 32768 ∧ flagI false 32768 = 0 ∧ flagI true 128 = 128 ∧ flagI false 128 = 0 by simp [flagI])
          cases hr : o.restarts <;> cases hk : o.keeps
          all_goals
            rw [hr, hk] at H1
            first | rw [HFR.out.1] at H1 | rw [HFR.out.2.1] at H1
            first | rw [HFR.out.2.2.1] at H1 | rw [HFR.out.2.2.2] at H1
            try rw [Int.add_zero] at H1
            go_wp2_with (at_builtin; refine wpList_appB bytesEl rfl _ _ rfl rfl rfl (HO2.out.alloc _) (VwB.litAt [64, 6] rfl rfl (by decide) (by simp)) (by have := HL2.out; simp; omega) (by simp; omega) ?_; intro v' w' hb')
            refine (two_any _ _ (by omega) (by omega)).mono ?_
            rintro e w2 ⟨v2, rfl, ho2, hw2⟩
            have HO5 := Lib.hid (hb'.own.only hw2)
            have HO6 := Lib.hid ho2
            have hz5 := hw2.size
            have hz6 := hb'.only.size
            simp only [World.size_alloc] at hz6
            have HW5 := Lib.hid ((hb'.alloced.since HO2.out HW2.out (by simp)).then hw2)
            clear ho2 hw2
            go_wp2_with (first
              | (at_builtin; refine wpList_appB bytesEl rfl _ _ rfl rfl rfl HO5.out HO6.out.vw (by have := HL2.out; simp [be16]; omega) (by omega) ?_; intro v3 w3 hb3; have hz7 := hb3.only.size)
              | (at_builtin; refine wpList_appB bytesEl rfl _ _ rfl rfl rfl (hb3.own.alloc _) (VwB.litAt [0, 1, 1, _] rfl rfl (by decide) (by simp)) (by have := HL2.out; simp [be16]; omega) (by simp; omega) ?_; intro v4 w4 hb4))
            go_meet
            refine ⟨?_, hb4.alloced.since hb3.own (hb3.since HO5.out HW5.out (by simp)) (by simp)⟩
            have := hb4.own
            rw [H1.out]
            simpa only [List.append_assoc] using this
      case rest =>
        obtain ⟨ho3, hw3⟩ := hcut
        clear e0 e1 e2 e3 e4 e5 e6 e7 e8 e9
        obtain ⟨hz4, hy4, e0, e1, e2, e3, e4, e5, e6, e7, e8, e9⟩ := HW.out _ hw3
        have HO3 := Lib.hid ho3; clear ho3
        have HW3 := Lib.hid hw3; clear hw3
        have HL3 := Lib.hid (show (capM o).length + (capR o).length + (capG o).length ≤ 16 by have := HL2.out; unfold capG; split <;> simp [be16] <;> omega)
        go_upto_if 43 with fail
        go_cut [4] (fun b wx => OwnB 5 wx (w.heap.size + 1) b (caps o) ∧ Only [] (w.alloc (.cells o.cells 25)) wx)
        case first =>
          cases hm : o.four
          · have H1 := Lib.hid (show caps o = capM o ++ capR o ++ capG o by simp [caps, capF, hm])
            go_wp2_with fail
            go_meet
            exact ⟨by rw [H1.out]; exact HO3.out, HW3.out⟩
          · have H1 := Lib.hid (show caps o = capM o ++ capR o ++ capG o ++ [65, 4] ++ be32 o.sys by simp [caps, capF, hm])
            go_wp2_with fail
            go_region_held3 (fun W => W.cell? ⟨w.heap.size, 0, none⟩ = some (.int .u32 o.sys)) (first | assumption | go_keep)
              (first
                | (refine step_appB bytesEl rfl _ _ rfl rfl rfl (HO3.out.alloc _).drew (VwB.litAt [65, 4] rfl rfl (by decide) (by simp)).drew (by have := HL3.out; simp; omega) (by simp; omega) ?_; intro v' w' hb'; have hwa := hb'.drewd.alloced.since HO3.out HW3.out (by simp); have hS := (HW.out _ hwa).2.2.1)
                | (go_at_call 18; refine (four_any _ o.sys (by omega) (by omega)).mono ?_; rintro e w2 ⟨v2, rfl, ho2, hw2⟩; have hwb := hwa.then hw2; have hS2 := (HW.out _ hwb).2.2.1)
                | (refine step_appB bytesEl rfl _ _ rfl rfl rfl (hb'.own.only hw2) ho2.vw (by have := HL3.out; simp [be32]; omega) (by have := (HW.out _ hwb).1; omega) ?_; intro v3 w3 hb3; have hwc := hb3.since (hb'.own.only hw2) hwb (by simp); have hS3 := (HW.out _ hwc).2.2.1))
            go_wp2_with fail
            go_meet
            refine ⟨?_, hwc⟩
            have := hb3.own
            rw [H1.out]
            simpa only [List.append_assoc] using this
        case rest =>
          obtain ⟨ho4, hw4⟩ := hcut
          clear e0 e1 e2 e3 e4 e5 e6 e7 e8 e9
          obtain ⟨hz5, hy5, e0, e1, e2, e3, e4, e5, e6, e7, e8, e9⟩ := HW.out _ hw4
          clear e3 e4 e5 e6 e7 e8 e9
          have HO4 := Lib.hid ho4; clear ho4
          have HW4 := Lib.hid hw4; clear hw4
          go_upto_if 53 with fail
          go_cut [7] (fun a wx => a = .int .i64 (asOf o) ∧ Hid (wx = wc))
          case first =>
            by_cases hs : o.sys ≤ 65535
            · have H1 := Lib.hid (show asOf o = o.sys from if_pos hs)
              go_wp2_with fail
              go_meet
              exact ⟨by rw [H1.out], rfl⟩
            · have H1 := Lib.hid (show asOf o = 23456 from if_neg hs)
              go_wp2_with fail
              go_meet
              exact ⟨by rw [H1.out], rfl⟩
          case rest =>
            obtain ⟨rfl, hwc2⟩ := hcut
            have hwc3 := hwc2.out
            subst hwc3
            clear hwc2
            have ha : 0 ≤ asOf o ∧ asOf o ≤ 65535 := by unfold asOf; split <;> omega
            obtain ⟨ha0, ha1⟩ := ha
            have hs12 : ∀ wx, Only [] wc wx → wx.cell? ⟨w.heap.size, 1, none⟩ = some (.int .i64 o.hold) ∧ wx.cell? ⟨w.heap.size, 2, none⟩ = some (.int .u32 o.id) := fun wx h => ⟨(HW.out wx (HW4.out.then h)).2.2.2.1, (HW.out wx (HW4.out.then h)).2.2.2.2.1⟩
            have HS := Lib.hid hs12; clear hs12
            have HL0 : Hid (OwnB 5 (wc.alloc (.cells #[.int .u8 4] 5)).drew wc.heap.size (.slice (some ⟨wc.heap.size, 0, none⟩) 1 1) [4]) := (OwnB.litAt [4] rfl rfl (Nat.le_refl _) (by decide) rfl).drew
            have HWL : Hid (Only [] wc (wc.alloc (.cells #[.int .u8 4] 5)).drew) := ((Only.refl [] wc).alloc _).drew
            have HWD : Hid (Only [] wc wc.drew) := (Only.refl [] wc).drew
            go_wp2_with fail
            go_region_held3 (fun W => W.cell? ⟨w.heap.size, 1, none⟩ = some (.int .i64 o.hold) ∧ W.cell? ⟨w.heap.size, 2, none⟩ = some (.int .u32 o.id)) (first | assumption | go_keep)
              (first
                | (have tk := hw6; refine step_appB bytesEl rfl _ _ rfl rfl rfl (hb5.own.only hw6) ho6.vw (by simp [be16, be32]) (by have := hwg.size; omega) ?_; intro v7 w7 hb7; have hwh := hb7.since (hb5.own.only hw6) hwg (Nat.le_refl _); have hS7 := HS.out _ hwh; clear tk)
                | (have tk := hb5; go_at_call 18; refine (four_any _ o.id (by omega) (by omega)).mono ?_; rintro e w6 ⟨v6, rfl, ho6, hw6⟩; have hwg := hwf.then hw6; have hS6 := HS.out _ hwg; clear tk)
                | (have tk := hw4; refine step_appB bytesEl rfl _ _ rfl rfl rfl (hb3.own.only hw4) ho4.vw (by simp [be16]) (by have := hwe.size; omega) ?_; intro v5 w5 hb5; have hwf := hb5.since (hb3.own.only hw4) hwe (Nat.le_refl _); have hS5 := HS.out _ hwf; clear tk)
                | (have tk := hb3; go_at_call 17; refine (two_any _ o.hold (by omega) (by omega)).mono ?_; rintro e w4 ⟨v4, rfl, ho4, hw4⟩; have hwe := hwd.then hw4; have hS4 := HS.out _ hwe; clear tk)
                | (have tk := hw2; refine step_appB bytesEl rfl _ _ rfl rfl rfl (HL0.out.only hw2) ho2.vw (by simp [be16]) (by have := hwb.size; omega) ?_; intro v3 w3 hb3; have hwd := hb3.since (HL0.out.only hw2) hwb (Nat.le_refl _); have hS3 := HS.out _ hwd; clear tk)
                | (have tk := hw2; refine step_appB bytesEl rfl _ _ rfl rfl rfl (OwnB.litAt (base := wc.heap.size) [4] rfl rfl hwb.size (by decide) rfl) (ho2.vw.only ((Only.refl _ _).alloc _)) (by simp [be16]) (by have := hwb.size; simp; omega) ?_; intro v3 w3 hb3; have hwd := hb3.since (OwnB.litAt (base := wc.heap.size) [4] rfl rfl hwb.size (by decide) rfl) (hwb.alloc _) (Nat.le_refl _); have hS3 := HS.out _ hwd; clear tk)
                | (go_at_call 17; refine (two_any _ (asOf o) (by omega) (by omega)).mono ?_; rintro e w2 ⟨v2, rfl, ho2, hw2⟩; have hwb := HWL.out.then hw2; have hS2 := HS.out _ hwb)
                | (go_at_call 17; refine (two_any _ (asOf o) (by omega) (by omega)).mono ?_; rintro e w2 ⟨v2, rfl, ho2, hw2⟩; have hwb := HWD.out.then hw2; have hS2 := HS.out _ hwb))
            all_goals
              have ho8 : OwnB 5 w7 wc.heap.size v7 (headB o) := by
                have := hb7.own
                simpa only [headB, List.append_assoc] using this
              have HO8 := Lib.hid ho8
              have HW8 := Lib.hid (HW4.out.then hwh)
              have HC8 := Lib.hid (HO4.out.only hwh)
              have hz8 := hwh.size
              have hlen := caps_len o
              have HLH : Hid ((headB o).length = 9) := by simp [Hid, headB, be16, be32]
              have hcb := HO4.out.lt
              clear ho8 hb3 hb5 hb7 ho2 hw2 ho4 hw4 ho6 hw6 hwb hwd hwe hwf hwg hwh hS2 hS3 hS4 hS5 hS6 hS7 e0 e1 e2
              by_cases hc : caps o = []
              · have HQ := Lib.hid (show openB o = headB o ++ [0] from if_pos hc)
                have hq := HC8.out
                rw [hc] at hq
                obtain ⟨a6, c6, h6⟩ : ∃ a c, u4 = .slice a 0 c := by
                  obtain ⟨a, c, h, _⟩ := hq.vw
                  exact ⟨a, c, h⟩
                clear hq hcb
                subst h6
                go_wp2_with (at_builtin; refine wpList_appB bytesEl rfl _ _ rfl rfl rfl (HO8.out.alloc _) (VwB.litAt [0] rfl rfl (by decide) (by simp)) (by have := HLH.out; simp; omega) (by simp; omega) ?_; intro v' w' hb')
                go_ret2
                refine ⟨v', rfl, ?_, ?_⟩
                · rw [HQ.out]; exact own_mono hb'.own (fun g hg => by have := hb'.own.ge g hg; omega)
                · exact ((Only.refl _ _).alloc _).then (hb'.alloced.since HO8.out HW8.out (by simp; omega))
              · have HQ := Lib.hid (show openB o = headB o ++ [((caps o).length : Int) + 2, 2, (caps o).length] ++ caps o from if_neg hc)
                have hlp : 0 < (caps o).length := List.length_pos_iff.2 hc
                obtain ⟨a6, c6, h6⟩ : ∃ a c, u4 = .slice a (caps o).length c := by
                  obtain ⟨a, c, h, _⟩ := HC8.out.vw
                  exact ⟨a, c, h⟩
                have HSP : Hid (∀ g, u4.ownBlock = some g → g ∉ v7.ownBlock.toList) := by
                  intro g hg hm
                  have h1 := hcb g hg
                  have h2 := HO8.out.ge g (by simpa using hm)
                  omega
                clear hcb
                subst h6
                generalize hN : (caps o).length = N at *
                have HN := Lib.hid hN; clear hN
                have hN0 : ((N : Int) == 0) = false := by simp; omega
                have HE := Lib.hid (show (2 : Int) + N = N + 2 by omega)
                go_wp2_with (first
                  | (have tk := hb8; at_builtin; refine wpList_appB bytesEl rfl _ _ rfl rfl rfl hb8.own ((HC8.out.vw.only ((Only.refl _ _).alloc _)).keep hb8.only HSP.out) (by have := HLH.out; have := HN.out; simp; omega) (by have := hb8.only.size; simp at this; omega) ?_; intro v9 w9 hb9; clear tk)
                  | (at_builtin; refine wpList_appB bytesEl rfl _ _ rfl rfl rfl (HO8.out.alloc _) (VwB.litAt [_, 2, N] rfl rfl (by decide) (by simp)) (by have := HLH.out; simp; omega) (by simp; omega) ?_; intro v8 w8 hb8))
                go_ret2
                refine ⟨v9, rfl, ?_, ?_⟩
                · have := hb9.own
                  rw [HQ.out]
                  first | exact own_mono this (fun g hg => by have := hb9.own.ge g hg; omega) | (rw [HE.out] at this; exact own_mono this (fun g hg => by have := hb9.own.ge g hg; omega))
                · exact ((Only.refl _ _).alloc _).then (hb9.since hb8.own (hb8.alloced.since HO8.out HW8.out (by simp; omega)) (by simp; omega))
end Go.Proofs.Ytdbahaajgedgkaa
