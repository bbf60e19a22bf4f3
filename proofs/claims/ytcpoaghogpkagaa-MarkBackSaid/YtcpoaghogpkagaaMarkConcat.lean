/-
  slices.Concat of slices of bytes.
-/
import Derived.Test.YtcpoaghogpkagaaMarkBytes
namespace Go.Proofs.Ytcpoaghogpkagaa
set_option linter.unusedSimpArgs false
set_option linter.unusedVariables false
open Go.RowKit Go.Pm


/-- The slices vs, in block g, read as ls. -/
structure Slices (w : World) (g : Nat) (vs : List Value) (ls : List (List Int)) : Prop where
  blk : Blk w g vs.toArray 22
  len : vs.length = ls.length
  each : ∀ i (h : i < vs.length), VwB w vs[i] (ls.getD i [])

def sumTo (ls : List (List Int)) (i : Nat) : Nat := (ls.take i).flatten.length
theorem flat_succ (ls : List (List Int)) (i : Nat) (h : i < ls.length) : (ls.take (i + 1)).flatten = (ls.take i).flatten ++ ls.getD i [] := by
  rw [List.take_succ_eq_append_getElem h, List.flatten_append]
  simp [List.getD, List.getElem?_eq_getElem h]
theorem sumTo_succ (ls : List (List Int)) (i : Nat) (h : i < ls.length) : sumTo ls (i + 1) = sumTo ls i + (ls.getD i []).length := by
  unfold sumTo
  rw [flat_succ ls i h, List.length_append]
theorem sumTo_le (ls : List (List Int)) (i : Nat) : sumTo ls i ≤ ls.flatten.length := by
  unfold sumTo
  have : ls.flatten = (ls.take i).flatten ++ (ls.drop i).flatten := by rw [← List.flatten_append, List.take_append_drop]
  rw [this, List.length_append]
  omega

set_option maxHeartbeats 1000000 in
theorem concat_any (w : World) (g : Nat) (vs : List Value) (ls : List (List Int)) (k : Nat) (hk : vs.length = k) (hs : Slices w g vs ls) (hk2 : k ≤ 1000) (ht : ls.flatten.length ≤ 140737488355328) :
    Calls Try.prog 23 #[.slice (some ⟨g, 0, none⟩) k k] w (FreshB 5 w ls.flatten) := by
  have HS := Lib.hid hs
  have HK := Lib.hid hk
  have HT := Lib.hid ht
  have hll : ls.length = k := by rw [← hk, hs.len]
  have HLL := Lib.hid hll
  clear hs hk ht hll
  have key : ∀ i, i < k → ∃ a c n, w.cell? ⟨g, i, none⟩ = some (.slice a n c) ∧ VwB w (.slice a n c) (ls.getD i []) ∧ n = (ls.getD i []).length := by
    intro i hi
    have hi' : i < vs.length := by rw [HK.out]; exact hi
    have h1 := HS.out.each i hi'
    obtain ⟨a, c, h2, h3, h4⟩ := h1.shape
    refine ⟨a, c, _, ?_, h2 ▸ h1, rfl⟩
    rw [HS.out.blk.cell, ← h2]
    simp [List.getElem?_eq_getElem hi']
  have HKEY := Lib.hid key
  clear key
  have hgl := HS.out.blk.lt
  go_enter Try.func23, Try.ntmps23
  go_wp2_with fail
  go_loop [3, 11] (fun s t => ∃ i : Nat, i ≤ k ∧ t = .int .i64 i ∧ s = .int .i64 (sumTo ls i)) (fun _ t => k - (intOf t).toNat)
  case atStart => exact ⟨0, Nat.zero_le _, rfl, rfl⟩
  case round =>
    obtain ⟨i, hi, rfl, rfl⟩ := hrel
    have h47 := HT.out
    have hsi := sumTo_le ls i
    have hb : sumTo ls i ≤ 140737488355328 := by omega
    by_cases hlt : i < k
    · obtain ⟨a, c, n, hc, hv, hn⟩ := HKEY.out i hlt
      have hss := sumTo_succ ls i (by rw [HLL.out]; exact hlt)
      have hsl := sumTo_le ls (i + 1)
      rw [← hn] at hss
      have hb2 : sumTo ls i + n ≤ 140737488355328 := by omega
      have HSS := Lib.hid hss
      clear hv hn hss h47 hsi hsl
      generalize hq : sumTo ls i = q at *
      have HQ := Lib.hid hq
      clear hq
      go_wp2_with fail
      go_round
      case rel => exact ⟨i + 1, by omega, by go_num, by rw [HSS.out]; go_num⟩
      case measure => simp [intOf]; omega
    · obtain rfl : i = k := by omega
      have hfull : sumTo ls i = ls.flatten.length := by unfold sumTo; rw [List.take_of_length_le (by rw [HLL.out]; omega)]
      rw [hfull]
      rw [hfull] at hb
      have HF := Lib.hid hfull
      clear hsi hfull h47
      generalize hTT : ls.flatten.length = T at *
      have HTT := Lib.hid hTT
      clear hTT
      go_wp2_with fail
      refine (grow_nil T w hb).mono ?_
      rintro e w1 ⟨v1, rfl, ho, hw⟩
      have HO := Lib.hid ho
      have HW := Lib.hid hw
      clear ho hw
      go_wp2_with fail
      go_loopw [6, 27] (fun s t wr => ∃ j : Nat, j ≤ i ∧ t = .int .i64 j ∧ OwnB 5 wr w.heap.size s (ls.take j).flatten ∧ Only [] w wr) (fun _ t _ => i - (intOf t).toNat)
      case atStart => exact ⟨0, Nat.zero_le _, rfl, by simpa using HO.out, HW.out⟩
      case round =>
        obtain ⟨j, hj, rfl, ho, hw⟩ := hrel
        have HOJ := Lib.hid ho
        have HWJ := Lib.hid hw
        clear ho
        by_cases hltj : j < i
        · obtain ⟨a, c, n, hc, hv, hn⟩ := HKEY.out j hltj
          have hcj : wr.cell? ⟨g, j, none⟩ = some (.slice a n c) := (hw.cell hgl (by simp) _).trans hc
          have HV := Lib.hid (hv.only hw)
          have hss := sumTo_succ ls j (by rw [HLL.out]; exact hltj)
          have hsl := sumTo_le ls (j + 1)
          have HLEN : Hid ((ls.take j).flatten.length + (ls.getD j []).length ≤ 140737488355328) := by
            have h1 := HT.out
            have h2 := HTT.out
            unfold sumTo at hss hsl
            unfold Hid
            omega
          have HFS := Lib.hid (flat_succ ls j (by rw [HLL.out]; exact hltj))
          have hws := hw.size
          clear hc hv hn hw hss hsl
          go_wp2_with (at_builtin; refine wpList_appB bytesEl rfl _ _ (by rfl) (by rfl) (by rfl) HOJ.out HV.out HLEN.out hws ?_; intro v' w' hb')
          go_roundw
          case rel => exact ⟨j + 1, by omega, by go_num, by rw [HFS.out]; exact hb'.own, hb'.since HOJ.out HWJ.out (Nat.le_refl _)⟩
          case measure => simp [intOf]; omega
        · obtain rfl : j = i := by omega
          clear hw
          go_wp2_with fail
          go_ret
          refine ⟨_, rfl, ?_, HWJ.out⟩
          have := HOJ.out
          rwa [List.take_of_length_le (by rw [HLL.out]; omega)] at this
end Go.Proofs.Ytcpoaghogpkagaa
