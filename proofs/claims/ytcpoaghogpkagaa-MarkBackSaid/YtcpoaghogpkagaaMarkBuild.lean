/-
  Package mark: Build, and the document's Build.
-/
import Derived.Test.YtcpoaghogpkagaaMarkConcat
import Derived.Test.YtcpoaghogpkagaaMore
namespace Go.Proofs.Ytcpoaghogpkagaa
set_option linter.unusedSimpArgs false
set_option linter.unusedVariables false
open Go.RowKit Go.Pm


def sameB (l m : List Int) : Bool := decide (l = m)
theorem str_same (l m : List Int) (hl : Byte l) (hm : Byte m) (c : Bool) (hc : c = true ↔ strOfNums l = strOfNums m) : c = sameB l m := by
  unfold sameB
  by_cases h : l = m
  · subst h; simp [hc.2 rfl]
  · have : ¬ strOfNums l = strOfNums m := fun h2 => h ((strOfNums_inj hl hm).1 h2)
    cases c
    · simp [h]
    · exact (this (hc.1 rfl)).elim
theorem same_any (W w : World) (hW : Only [] W w) (a b : Value) (l m : List Int) (ha : VwB W a l) (hb : VwB W b m) (hl : Byte l) (hm : Byte m) :
    Calls Try.prog 11 #[a, b] w fun e w' => e = .returned (.bool (sameB l m)) ∧ w = w' := by
  have h1 := run_string (P := Try.prog) Try.underlying22 Try.underlying5 Try.underlying9 (ha.only hW)
  have h2 := run_string (P := Try.prog) Try.underlying22 Try.underlying5 Try.underlying9 (hb.only hW)
  have HE : Hid (∀ c : Bool, (c = true ↔ strOfNums l = strOfNums m) → c = sameB l m) := str_same l m hl hm
  clear ha hb hl hm
  go_enter Try.func11, Try.ntmps11
  go_wp2
  go_ret
  refine ⟨ret_bool (HE.out _ ?_), rfl⟩
  simp only [decide_eq_true_eq, beq_iff_eq]
  constructor
  · intro h
    exact ByteArray.ext (Array.toList_inj.1 (by simpa [ByteArray.toList_eq] using h))
  · intro h; rw [h]

theorem equal_any (W w : World) (hW : Only [] W w) (a b : Value) (l m : List Int) (ha : VwB W a l) (hb : VwB W b m) (hl : Byte l) (hm : Byte m) :
    Calls Try.prog 30 #[a, b] w fun e w' => e = .returned (.bool (sameB l m)) ∧ w = w' := by
  have h1 := run_string (P := Try.prog) Try.underlying22 Try.underlying5 Try.underlying9 (ha.only hW)
  have h2 := run_string (P := Try.prog) Try.underlying22 Try.underlying5 Try.underlying9 (hb.only hW)
  have HE : Hid (∀ c : Bool, (c = true ↔ strOfNums l = strOfNums m) → c = sameB l m) := str_same l m hl hm
  clear ha hb hl hm
  go_enter Try.func30, Try.ntmps30
  go_wp2
  go_ret
  refine ⟨ret_bool (HE.out _ ?_), rfl⟩
  simp only [decide_eq_true_eq, beq_iff_eq]
  constructor
  · intro h
    exact ByteArray.ext (Array.toList_inj.1 (by simpa [ByteArray.toList_eq] using h))
  · intro h; rw [h]

theorem bytes_any (W w : World) (hW : Only [] W w) (v : Value) (l : List Int) (hv : VwB W v l) (hl : l.length ≤ 140737488355328) :
    Calls Try.prog 15 #[v] w (FreshB 5 w l) := by
  have HV := Lib.hid (hv.only hW)
  have HL := Lib.hid hl
  clear hv hW hl
  go_enter Try.func15, Try.ntmps15
  go_wp2_with (at_builtin; refine wpList_appB bytesEl rfl _ _ (by rfl) (by rfl) (by rfl) (OwnB.litAt (base := w.heap.size) [] rfl rfl (Nat.le_refl _) (by decide) rfl) (HV.out.only ((Only.refl _ _).alloc _)) (by have := HL.out; simp; omega) (by simp) ?_; intro v' w' hb)
  go_ret
  exact ⟨_, rfl, by simpa using hb.own, hb.since (OwnB.litAt (base := w.heap.size) [] rfl rfl (Nat.le_refl _) (by decide) rfl) ((Only.refl [] w).alloc _) (Nat.le_refl _)⟩

/-- Sixteen cells, the first i of them 255. -/
def fill (i : Nat) : Array Value := ((List.range 16).map fun j => Value.int .u8 (if j < i then 255 else 0)).toArray
theorem fill_size (i : Nat) : (fill i).size = 16 := by simp [fill]
theorem fill_get (i j : Nat) (h : j < 16) : (fill i)[j]? = some (.int .u8 (if j < i then 255 else 0)) := by
  simp [fill, h]
theorem fill_set (i : Nat) (h : i < 16) : (fill i).setIfInBounds i (.int .u8 255) = fill (i + 1) := by
  apply Array.ext_getElem?
  intro j
  by_cases hj : j < 16
  · rw [fill_get _ _ hj, Array.getElem?_setIfInBounds]
    by_cases hij : i = j
    · subst hij; simp [fill_size, h]
    · rw [if_neg hij, fill_get _ _ hj]
      by_cases h1 : j < i
      · rw [if_pos h1, if_pos (by omega)]
      · rw [if_neg h1, if_neg (by omega)]
  · rw [Array.getElem?_eq_none (by simp [fill_size]; omega), Array.getElem?_eq_none (by simp [fill_size]; omega)]
def onesC : Array Value := fill 16
theorem onesC_eq : onesC = (bys (List.replicate 16 255)).toArray := by rfl
theorem fill0 : fill 0 = #[.int .u8 0, .int .u8 0, .int .u8 0, .int .u8 0, .int .u8 0, .int .u8 0, .int .u8 0, .int .u8 0, .int .u8 0, .int .u8 0, .int .u8 0, .int .u8 0, .int .u8 0, .int .u8 0, .int .u8 0, .int .u8 0] := by rfl

set_option maxHeartbeats 1000000 in
theorem ones_any (w : World) : Calls Try.prog 22 #[] w fun e w' => e = .returned (.agg onesC) ∧ Only [] w w' := by
  have h16 : Hid ((Try.prog.info? 59).map (·.size) = some 16) := by unfold Hid; kernel_rfl
  go_enter Try.func22, Try.ntmps22
  go_wp2_with fail
  refine world_abs (fun w' => Only [] w w' ∧ Blk w' w.heap.size (fill 0) 59 ∧ Blk w' (w.heap.size + 1) (fill 0) 59) ⟨?_, ?_, ?_⟩ ?_
  · (repeat (first | with_reducible exact Only.refl _ _ | with_reducible assumption | with_reducible apply Only.drew | with_reducible apply Only.drewN | with_reducible apply Only.alloc | (refine Only.setCell ?_ (by first | (left; simp; done) | (right; omega)) _ _)))
  · rw [fill0]
    (apply blk_cast; (case h => (repeat (first | with_reducible assumption | (with_reducible apply blk_newAt; (first | omega | (simp; done) | (simp; omega))) | with_reducible apply Blk.set | with_reducible apply Blk.drewN | with_reducible apply Blk.drew | with_reducible apply Blk.alloc | (with_reducible apply Blk.setOther; (case hc => first | omega | (simp; omega)))))); (case e => (first | (simp; done) | rfl)))
  · rw [fill0]
    (apply blk_cast; (case h => (repeat (first | with_reducible assumption | (with_reducible apply blk_newAt; (first | omega | (simp; done) | (simp; omega))) | with_reducible apply Blk.set | with_reducible apply Blk.drewN | with_reducible apply Blk.drew | with_reducible apply Blk.alloc | (with_reducible apply Blk.setOther; (case hc => first | omega | (simp; omega)))))); (case e => (first | (simp; done) | rfl)))
  rintro w1 ⟨hw, hR, hB⟩
  have HW := Lib.hid hw
  have HR := Lib.hid hR
  have HB := Lib.hid hB
  clear hw hR hB
  go_loopw [3] (fun t wr => ∃ i : Nat, i ≤ 16 ∧ t = .int .i64 i ∧ Only [] w wr ∧ Blk wr w.heap.size (fill 0) 59 ∧ Blk wr (w.heap.size + 1) (fill i) 59) (fun t _ => 16 - (intOf t).toNat)
  case atStart => exact ⟨0, Nat.zero_le _, rfl, HW.out, HR.out, HB.out⟩
  case round =>
    obtain ⟨i, hi, rfl, hw, hR, hB⟩ := hrel
    by_cases hlt : i < 16
    · have hc : wr.cell? ⟨w.heap.size + 1, i, none⟩ = some (.int .u8 0) := by rw [hB.cell, fill_get i i hlt, if_neg (by omega)]
      have hf := hB.free i
      have HW' := Lib.hid hw
      have HR' := Lib.hid hR
      have HB' := Lib.hid hB
      clear hw hR hB
      go_wp2_with fail
      go_roundw
      case rel =>
        refine ⟨i + 1, by omega, by go_num, HW'.out.setCell (.inr (by omega)) _ _, HR'.out.setOther _ _ (by omega), ?_⟩
        have := HB'.out.set i (.int .u8 255)
        rwa [fill_set i hlt] at this
      case measure => simp [intOf]; omega
    · obtain rfl : i = 16 := by omega
      have HW' := Lib.hid hw
      have HR' := Lib.hid hR
      have HB' := Lib.hid hB
      clear hw hR hB
      go_wp2_with (first
        | (refine wpList_load_blk (by rfl) 59 _ (by rfl) (by rfl) HB'.out (.array 16 5) Try.underlying59 rfl (by rw [fill_size]; exact h16.out) ?_)
        | (refine wpList_store_blk (by rfl) 59 _ _ (by rfl) (by rfl) (by rfl) HR'.out (by rw [fill_size]; exact h16.out) (by rw [fill_size, fill_size]) (by simp [fill]; decide) ?_; intro w2 hb2 ho2))
      refine bodyPost_ret (v := .agg onesC) ?_ rfl ⟨rfl, HW'.out.trans ho2 (fun x hx => .inr (by simp at hx; omega))⟩
      simp [results, Try.results22, Act.put, asAddr, Sem.run_bind, onesC, loadVar_blk hb2 (.array 16 5) 59 Try.underlying59 rfl (by rw [fill_size]; exact h16.out)]

/-- A message's bytes. -/
def msgB (k : Int) (l : List Int) : List Int := List.replicate 16 255 ++ [(19 + (l.length : Int)) / 256, (19 + (l.length : Int)) % 256, k] ++ l

def Built (W : World) (l : List Int) (e : Ending) (w' : World) : Prop := ∃ v, e = .returned (.tuple #[v, .int .i64 0]) ∧ OwnB 5 w' W.heap.size v l ∧ Only [] W w'

set_option maxHeartbeats 1000000 in
theorem build_no (w : World) (k : Int) (a : Option Addr) (n c : Nat) (hn : n ≤ 9223372036854775000) (h : ¬ (n ≤ 4096 ∧ fitsB k (19 + n) = true)) :
    Calls Try.prog 9 #[.int .i64 k, .slice a n c] w fun e w' => e = .returned (.tuple #[.slice none 0 0, .int .i64 2]) ∧ w = w' := by
  by_cases hq : n ≤ 4096
  · have hf : fitsB k (19 + n) = false := by
      cases hb : fitsB k (19 + n)
      · rfl
      · exact (h ⟨hq, hb⟩).elim
    have HF := Lib.hid hf
    clear hf h
    go_enter Try.func9, Try.ntmps9
    go_wp2_with fail
    refine (fits_any k _ _).mono ?_
    rintro e w1 ⟨rfl, rfl⟩
    rw [HF.out]
    go_wp2_with fail
    go_ret2
    exact ⟨rfl, rfl⟩
  · clear h
    go_enter Try.func9, Try.ntmps9
    go_wp2_with fail
    go_ret2
    exact ⟨rfl, rfl⟩

set_option maxHeartbeats 1000000 in
theorem build_yes (W w : World) (hW : Only [] W w) (k : Int) (v : Value) (l : List Int) (hv : VwB W v l) (hn : l.length ≤ 4096) (hf : fitsB k (19 + l.length) = true) :
    Calls Try.prog 9 #[.int .i64 k, v] w (Built w (msgB k l)) := by
  have HV := Lib.hid (hv.only hW)
  obtain ⟨a, c, rfl, _, _⟩ := hv.shape
  have HF := Lib.hid hf
  have hk : 1 ≤ k ∧ k ≤ 5 := by
    unfold fitsB known at hf
    simp at hf
    omega
  obtain ⟨hk1, hk5⟩ := hk
  clear hf hv hW
  generalize hN : l.length = n at *
  have HN := Lib.hid hN
  clear hN
  go_enter Try.func9, Try.ntmps9
  go_wp2_with fail
  refine (fits_any k _ _).mono ?_
  rintro e w1 ⟨rfl, rfl⟩
  rw [HF.out]
  go_wp2_with fail
  refine (ones_any _).mono ?_
  rintro e w1 ⟨rfl, hw1⟩
  have HW1 := Lib.hid hw1
  clear hw1
  have h16 : Hid ((Try.prog.info? 59).map (·.size) = some 16) := by unfold Hid; kernel_rfl
  go_wp2_with (refine wpList_store_blk (by rfl) 59 _ _ (by rfl) (by rfl) (by rfl) (Blk.new w1 _ _) h16.out (by simp [onesC, fill_size]) (by simp [onesC, fill]; decide) ?_; intro w2 hb2 ho2; have HB2 := Lib.hid hb2; have HO2 := Lib.hid (((Only.refl [] w1).alloc _).trans ho2 (fun x hx => .inr (by simp at hx; omega))); clear hb2 ho2)
  have hs3 : Slices ((w2.alloc (Obj.cells #[.int .u8 ((19 + (n : Int)) / 256), .int .u8 ((19 + (n : Int)) % 256), .int .u8 k] 5)).alloc (Obj.cells #[.slice (some ⟨w1.heap.size, 0, none⟩) 16 16, .slice (some ⟨w2.heap.size, 0, none⟩) 3 3, .slice a n c] 22)) (w2.heap.size + 1) [.slice (some ⟨w1.heap.size, 0, none⟩) 16 16, .slice (some ⟨w2.heap.size, 0, none⟩) 3 3, .slice a n c] [List.replicate 16 255, [(19 + (n : Int)) / 256, (19 + (n : Int)) % 256, k], l] := by
    refine ⟨blk_newAt _ _ _ (by simp), rfl, fun i hi => ?_⟩
    match i, hi with
    | 0, _ => exact VwB.ofBlk ((HB2.out.alloc _).alloc _) onesC_eq (by simp) (by decide)
    | 1, _ => exact (VwB.litAt (w := w2) [(19 + (n : Int)) / 256, (19 + (n : Int)) % 256, k] rfl rfl (by simp [maxLen]) rfl).only ((Only.refl _ _).alloc _)
    | 2, _ => exact HV.out.only (((HW1.out.then HO2.out).alloc _).alloc _)
  refine (concat_any _ _ _ _ 3 rfl hs3 (by omega) (by have := HN.out; simp; omega)).mono ?_
  rintro e w3 ⟨v3, rfl, ho3, hw3⟩
  have HO3 := Lib.hid ho3
  have HW3 := Lib.hid hw3
  clear hs3 ho3 hw3
  go_wp2_with fail
  go_ret2
  refine ⟨v3, rfl, ?_, (((HW1.out.then HO2.out).alloc _).alloc _).then HW3.out⟩
  have h3 := own_mono HO3.out (base' := w.heap.size) (fun g hg => by have := HO3.out.ge g hg; have h4 := (((HW1.out.then HO2.out).alloc (Obj.cells #[.int .u8 ((19 + (n : Int)) / 256), .int .u8 ((19 + (n : Int)) % 256), .int .u8 k] 5)).alloc (Obj.cells #[.slice (some ⟨w1.heap.size, 0, none⟩) 16 16, .slice (some ⟨w2.heap.size, 0, none⟩) 3 3, .slice a n c] 22)).size; omega)
  have he : [List.replicate 16 255, [(19 + (n : Int)) / 256, (19 + (n : Int)) % 256, k], l].flatten = msgB k l := by simp [msgB, HN.out]
  rw [he] at h3
  exact h3
end Go.Proofs.Ytcpoaghogpkagaa
