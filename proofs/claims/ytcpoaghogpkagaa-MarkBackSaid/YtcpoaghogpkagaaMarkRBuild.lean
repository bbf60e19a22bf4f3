/-
  The document's Build of a message; the law's body.
-/
import Derived.Test.YtcpoaghogpkagaaMarkBuild
namespace Go.Proofs.Ytcpoaghogpkagaa
set_option linter.unusedSimpArgs false
set_option linter.unusedVariables false
open Go.RowKit Go.Pm


theorem rbuild_no (w : World) (k : Int) (a : Option Addr) (n c : Nat) (hn : n ≤ 9223372036854775000) (h : ¬ (n ≤ 4096 ∧ fitsB k (19 + n) = true)) :
    Calls Try.prog 10 #[.int .i64 k, .slice a n c] w fun e w' => e = .returned (.tuple #[.slice none 0 0, .int .i64 2]) ∧ w = w' := by
  by_cases hq : n ≤ 4096
  · have hf : rightB k (19 + n) = false := by
      rw [rightB_eq]
      cases hb : fitsB k (19 + n)
      · rfl
      · exact (h ⟨hq, hb⟩).elim
    have HF := Lib.hid hf
    clear hf h
    go_enter Try.func10, Try.ntmps10
    go_wp2_with fail
    refine (rright_any k _ _).mono ?_
    rintro e w1 ⟨rfl, rfl⟩
    rw [HF.out]
    go_wp2_with fail
    go_ret2
    exact ⟨rfl, rfl⟩
  · clear h
    go_enter Try.func10, Try.ntmps10
    go_wp2_with fail
    go_ret2
    exact ⟨rfl, rfl⟩

set_option maxHeartbeats 1000000 in
theorem rbuild_yes (W w : World) (hW : Only [] W w) (k : Int) (v : Value) (l : List Int) (hv : VwB W v l) (hn : l.length ≤ 4096) (hf : fitsB k (19 + l.length) = true) :
    Calls Try.prog 10 #[.int .i64 k, v] w (Built w (msgB k l)) := by
  have HV := Lib.hid (hv.only hW)
  obtain ⟨a, c, rfl, _, _⟩ := hv.shape
  have hk : 1 ≤ k ∧ k ≤ 5 := by
    unfold fitsB known at hf
    simp at hf
    omega
  obtain ⟨hk1, hk5⟩ := hk
  rw [← rightB_eq] at hf
  have HF := Lib.hid hf
  clear hf hv hW
  generalize hN : l.length = n at *
  have HN := Lib.hid hN
  clear hN
  go_enter Try.func10, Try.ntmps10
  go_wp2_with fail
  refine (rright_any k _ _).mono ?_
  rintro e w1 ⟨rfl, rfl⟩
  rw [HF.out]
  go_wp2_with fail
  go_loopw [6, 7] (fun s t wr => ∃ i : Nat, i ≤ 16 ∧ t = .int .i64 i ∧ OwnB 5 wr w.heap.size s (List.replicate i 255) ∧ Only [] w wr) (fun _ t _ => 16 - (intOf t).toNat)
  case atStart => exact ⟨0, Nat.zero_le _, rfl, OwnB.litAt [] rfl rfl (Nat.le_refl _) (by decide) rfl, (Only.refl _ _).alloc _⟩
  case round =>
    obtain ⟨i, hi, rfl, ho, hw⟩ := hrel
    have HO := Lib.hid ho
    have HW := Lib.hid hw
    have hws := hw.size
    clear ho hw
    by_cases hlt : i < 16
    · go_wp2_with (at_builtin; refine wpList_appB bytesEl rfl _ _ (by rfl) (by rfl) (by rfl) (HO.out.alloc _) (VwB.litAt [255] rfl rfl (by decide) (by simp)) (by simp; omega) (by simp; omega) ?_; intro v' w' hb')
      go_roundw
      case rel => exact ⟨i + 1, by omega, by go_num, by rw [List.replicate_succ']; exact hb'.own, hb'.since (HO.out.alloc _) (HW.out.alloc _) (Nat.le_refl _)⟩
      case measure => simp [intOf]; omega
    · obtain rfl : i = 16 := by omega
      go_wp2_with (first
        | (have tk := hb2; at_builtin; refine wpList_appB bytesEl rfl _ _ (by rfl) (by rfl) (by rfl) hb2.own (HV.out.only S2.out) (by have := HN.out; simp; omega) (by have := S2.out.size; omega) ?_; intro v3 w3 hb3)
        | (at_builtin; refine wpList_appB bytesEl rfl _ _ (by rfl) (by rfl) (by rfl) (HO.out.alloc _) (VwB.litAt [(19 + (n : Int)) / 256, (19 + (n : Int)) % 256, k] rfl rfl (by simp [maxLen]) (by simp)) (by simp) (by simp; omega) ?_; intro v2 w2 hb2; have S2 := Lib.hid (hb2.since (HO.out.alloc _) (HW.out.alloc _) (Nat.le_refl _))))
      go_ret2
      refine ⟨_, rfl, ?_, hb3.since hb2.own S2.out (Nat.le_refl _)⟩
      have h3 := hb3.own
      have he : List.replicate 16 (255 : Int) ++ [(19 + (n : Int)) / 256, (19 + (n : Int)) % 256, k] ++ l = msgB k l := by simp [msgB, HN.out]
      rw [he] at h3
      exact h3

theorem made_zeros (n : Nat) : (madeCells #[.int .u8 0] (n * 1)).toList = bys (List.replicate n 0) := by
  apply List.ext_getElem?
  intro j
  by_cases hj : j < n
  · simp [madeCells, bys, hj, Nat.mod_one]
  · rw [List.getElem?_eq_none (by simp [madeCells]; omega), List.getElem?_eq_none (by simp [bys]; omega)]

theorem make_zeros (w : World) (n : Nat) (m : Int) (hm : m = n) (h : n ≤ 1000000) : ∃ w', (Instr.makeSlice 22 (.int .i64 m) (.int .i64 m)).run Try.prog w = .ok (.slice (some ⟨w.heap.size, 0, none⟩) n n) w' ∧
    OwnB 5 w' w.heap.size (.slice (some ⟨w.heap.size, 0, none⟩) n n) (List.replicate n 0) ∧ Only [] w w' := by
  subst hm
  have hinf : (Try.prog.info? 5).map (fun i => (i.zero, i.size, i.bytes)) = some (some (.int .u8 0), 1, 1) := by kernel_rfl
  obtain ⟨i, h1, h2, h3, h4⟩ := info_parts hinf
  obtain ⟨w', hr, ho, hg⟩ := run_make_full (P := Try.prog) w w.heap.size 22 5 i (.int .u8 0) 1 Try.underlying22 h1 h2 h3 .i64 .i64 n (by rw [h4]; omega) (by unfold maxLen; omega) (Nat.le_refl _)
  refine ⟨w', hr, ?_, ⟨hg.os, hg.tape, hg.output, hg.size, fun k hk _ => hg.block k hk (by simp)⟩⟩
  have e : (Value.int .u8 0).cells = #[.int .u8 0] := rfl
  rw [e, made_zeros] at ho
  simpa [OwnB] using ho

/-- What a body is cut to. -/
def bodyL (l : List Int) : List Int := if 4077 < l.length then List.replicate 4078 0 else l.take 300

set_option maxHeartbeats 1000000 in
theorem body_any (W w : World) (hW : Only [] W w) (v : Value) (l : List Int) (hv : VwB W v l) :
    Calls Try.prog 8 #[v] w (FreshB 5 w (bodyL l)) := by
  have HV := Lib.hid (hv.only hW)
  obtain ⟨a, c, rfl, h1, h2⟩ := hv.shape
  clear hv hW
  generalize hN : l.length = n at *
  have HN := Lib.hid hN
  clear hN
  unfold maxLen at h2
  by_cases hb : 4077 < n
  · have HE : Hid (bodyL l = List.replicate 4078 0) := by unfold Hid bodyL; rw [HN.out, if_pos hb]
    obtain ⟨w1, hr, ho, hw⟩ := make_zeros w 4078 4078 rfl (by omega)
    have HO := Lib.hid ho
    have HW := Lib.hid hw
    clear ho hw
    go_enter Try.func8, Try.ntmps8
    go_wp2_with fail
    go_ret
    refine ⟨_, rfl, ?_, HW.out⟩
    rw [HE.out]
    exact HO.out
  · have HE : Hid (bodyL l = l.take 300) := by unfold Hid bodyL; rw [HN.out, if_neg hb]
    by_cases h3 : n ≤ 300
    · have HP := Lib.hid (HV.out.pre (k := n) (Nat.le_refl _))
      have HT : Hid (l.take n = l.take 300) := by
        unfold Hid
        rw [List.take_of_length_le (by rw [HN.out]; omega), List.take_of_length_le (by rw [HN.out]; omega)]
      go_enter Try.func8, Try.ntmps8
      go_wp2_with fail
      refine (bytes_any w _ (Only.refl _ _) _ _ HP.out (by have := HN.out; simp; omega)).mono ?_
      rintro e w1 ⟨v1, rfl, ho, hw⟩
      have HO := Lib.hid ho
      have HW := Lib.hid hw
      clear ho hw
      go_wp2_with fail
      go_ret
      refine ⟨v1, rfl, ?_, HW.out⟩
      rw [HE.out, ← HT.out]
      exact HO.out
    · have HP := Lib.hid (HV.out.pre (k := 300) (by omega))
      go_enter Try.func8, Try.ntmps8
      go_wp2_with fail
      refine (bytes_any w _ (Only.refl _ _) _ _ HP.out (by have := HN.out; simp; omega)).mono ?_
      rintro e w1 ⟨v1, rfl, ho, hw⟩
      have HO := Lib.hid ho
      have HW := Lib.hid hw
      clear ho hw
      go_wp2_with fail
      go_ret
      refine ⟨v1, rfl, ?_, HW.out⟩
      rw [HE.out]
      exact HO.out
end Go.Proofs.Ytcpoaghogpkagaa
