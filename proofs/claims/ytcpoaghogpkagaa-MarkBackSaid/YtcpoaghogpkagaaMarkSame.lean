/-
  The law's comparisons of layer 17: same, faults; of equal things.
-/
import Derived.Test.YtcpoaghogpkagaaMarkRFeed
import Derived.Test.YtcpoaghogpkagaaMarkBuild
import Derived.Deep.QuietTactic
import Derived.BigQuiet
namespace Go.Proofs.Ytcpoaghogpkagaa
set_option linter.unusedSimpArgs false
set_option linter.unusedVariables false
open Go.RowKit Go.Pm


theorem bytes_eq (W w : World) (hW : Only [] W w) (a b : Value) (l : List Int) (ha : VwB W a l) (hb : VwB W b l) (hl : Byte l) :
    Calls Try.prog 11 #[a, b] w fun e w' => e = .returned (.bool true) ∧ w = w' := by
  have := same_any W w hW a b l l ha hb hl hl
  rwa [show sameB l l = true by simp [sameB]] at this

/-- A slice of messages that can be read. -/
structure MsV (w : World) (v : Value) (es : List Ms) : Prop where
  vw : Vw w v 2 es.length (msCells es)
  bod : ∀ m ∈ es, VwB w m.bv m.body ∧ Byte m.body

theorem MsV.only {w w' : World} {v : Value} {es : List Ms} (h : MsV w v es) (ho : Only [] w w') : MsV w' v es := ⟨h.vw.only ho, fun m hm => ⟨((h.bod m hm).1).only ho, (h.bod m hm).2⟩⟩

set_option maxHeartbeats 1000000 in
theorem same_yes (w : World) (a b : Value) (es fs : List Ms) (ha : MsV w a es) (hb : MsV w b fs) (he : es.map Ms.pair = fs.map Ms.pair) :
    Calls Try.prog 17 #[a, b] w fun e w' => e = .returned (.bool true) ∧ ∃ n, w' = w.drewN n := by
  have hlen : fs.length = es.length := by have := congrArg List.length he; simpa using this.symm
  have hpair : ∀ i (h1 : i < es.length) (h2 : i < fs.length), es[i].kind = fs[i].kind ∧ es[i].body = fs[i].body := fun i h1 h2 => by
    have h := congrArg (fun l => l[i]?) he
    simp [List.getElem?_map, List.getElem?_eq_getElem h1, List.getElem?_eq_getElem h2, Ms.pair] at h
    exact h
  by_cases hz : es = []
  · subst hz
    obtain ⟨a1, c1, rfl, _, _, _⟩ := ha.vw
    obtain ⟨a2, c2, rfl, _, _, _⟩ := hb.vw
    have hf0 : fs = [] := List.length_eq_zero_iff.1 hlen
    subst hf0
    simp only [List.length_nil]
    clear ha hb he hlen hpair
    go_enter Try.func17, Try.ntmps17
    go_wp2_with fail
    go_loopw [5] (fun i wr => i = .int .i64 (0 : Nat) ∧ wr = w) (fun _ _ => 0)
    case atStart => exact ⟨rfl, rfl⟩
    case round =>
      obtain ⟨rfl, rfl⟩ := hrel
      go_wp2_with fail
      go_ret
      exact ⟨rfl, 0, rfl⟩
  · obtain ⟨b1, o1, c1, rfl, _, hm1, hl1, hc1⟩ := msgs_open ha.vw hz
    obtain ⟨b2, o2, c2, rfl, _, hm2, hl2, hc2⟩ := msgs_open hb.vw (by intro h; rw [h] at hlen; simp at hlen; exact hz (List.length_eq_zero_iff.1 hlen.symm))
    rw [hlen]
    have hn : es.length ≤ 9223372036854775807 := by unfold maxLen at hm1; omega
    have HA := Lib.hid ha
    have HB := Lib.hid hb
    have HC1 := Lib.hid hc1
    have HC2 := Lib.hid hc2
    have HPR := Lib.hid hpair
    have HL := Lib.hid hlen
    clear ha hb hc1 hc2 hpair he hlen hm1 hm2
    go_enter Try.func17, Try.ntmps17
    go_wp2_with fail
    go_loopw [5] (fun i wr => ∃ k n : Nat, k ≤ es.length ∧ i = .int .i64 k ∧ wr = w.drewN n) (fun i _ => es.length - (intOf i).toNat)
    case atStart => exact ⟨0, 0, Nat.zero_le _, rfl, rfl⟩
    case round =>
      obtain ⟨k, n, hk, rfl, hw⟩ := hrel
      have HO : Only [] w wr := by rw [hw]; exact (Only.refl _ _).drewN n
      have HW := Lib.hid hw
      clear hw
      by_cases hlt : k < es.length
      · have hlt2 : k < fs.length := by have := HL.out; omega
        obtain ⟨d1, d2⟩ := HC1.out k hlt
        obtain ⟨d3, d4⟩ := HC2.out k hlt2
        obtain ⟨p1, p2⟩ := HPR.out k hlt hlt2
        have hv1 := HA.out.bod es[k] (List.getElem_mem hlt)
        have hv2 := HB.out.bod fs[k] (List.getElem_mem hlt2)
        rw [p2] at hv1
        rw [p1] at d1
        have HV1 := Lib.hid hv1
        have HV2 := Lib.hid hv2
        clear p1 p2 hv1 hv2
        generalize fs[k].kind = z at *
        generalize es[k].bv = v1 at *
        generalize fs[k].bv = v2 at *
        have e1 : wr.cell? ⟨b1, o1 + k * 2, none⟩ = some (.int .i64 z) := by rw [HW.out]; exact d1
        have e2 : wr.cell? ⟨b1, o1 + k * 2 + 1, none⟩ = some v1 := by rw [HW.out]; exact d2
        have e3 : wr.cell? ⟨b2, o2 + k * 2, none⟩ = some (.int .i64 z) := by rw [HW.out]; exact d3
        have e4 : wr.cell? ⟨b2, o2 + k * 2 + 1, none⟩ = some v2 := by rw [HW.out]; exact d4
        obtain ⟨x1, y1, hx1, _, _⟩ := HV1.out.1.shape
        obtain ⟨x2, y2, hx2, _, _⟩ := HV2.out.1.shape
        subst hx1 hx2
        have hlt' : (k : Int) < (es.length : Int) := by omega
        clear d1 d2 d3 d4
        go_wp2_with fail
        go_quiet ((go_at_call 11; exact calls_still _ rfl (bytes_eq w _ (by (repeat (first | with_reducible exact Only.refl _ _ | with_reducible assumption | with_reducible apply Only.drew | with_reducible apply Only.drewN | with_reducible apply Only.alloc | (refine Only.setCell ?_ (by first | (left; simp; done) | (right; omega)) _ _)))) _ _ _ HV1.out.1 HV2.out.1 HV1.out.2)))
        go_wp2_with fail
        go_roundw
        case rel => exact ⟨k + 1, n + nq, by omega, by go_num, by rw [HW.out]; simp [World.drewN]; omega⟩
        case measure => simp [intOf]; omega
      · obtain rfl : k = es.length := by omega
        go_wp2_with fail
        go_ret
        exact ⟨rfl, n, HW.out⟩

/-- A fault that can be read. -/
def FaultV (w : World) (fv : Value) (f : Option (Int × List Int)) : Prop := ∃ dv, fv = .agg #[.int .i64 (codeOf f), .int .i64 (subOf f), dv] ∧ VwB w dv (dataOf f)
theorem FaultV.only {w w' : World} {fv : Value} {f : Option (Int × List Int)} (h : FaultV w fv f) (ho : Only [] w w') : FaultV w' fv f := by
  obtain ⟨dv, rfl, hd⟩ := h
  exact ⟨dv, rfl, hd.only ho⟩

set_option maxHeartbeats 1000000 in
theorem faults_yes (w : World) (a b : Value) (f : Option (Int × List Int)) (ha : FaultV w a f) (hb : FaultV w b f) (hy : Byte (dataOf f)) :
    Calls Try.prog 18 #[a, b] w fun e w' => e = .returned (.bool true) ∧ Only [] w w' := by
  obtain ⟨d1, rfl, h1⟩ := ha
  obtain ⟨d2, rfl, h2⟩ := hb
  have H1 := Lib.hid h1
  have H2 := Lib.hid h2
  have HY := Lib.hid hy
  obtain ⟨x1, y1, hx1, _, _⟩ := h1.shape
  obtain ⟨x2, y2, hx2, _, _⟩ := h2.shape
  subst hx1 hx2
  clear h1 h2 hy
  generalize codeOf f = c at *
  generalize subOf f = s at *
  generalize dataOf f = d at *
  go_enter Try.func18, Try.ntmps18
  go_wp2_with ((go_at_call 11; (with_reducible refine (bytes_eq w _ (by (repeat (first | with_reducible exact Only.refl _ _ | with_reducible assumption | with_reducible apply Only.drew | with_reducible apply Only.drewN | with_reducible apply Only.alloc | (refine Only.setCell ?_ (by first | (left; simp; done) | (right; omega)) _ _)))) _ _ _ H1.out H2.out HY.out).mono ?_); rintro e w1 ⟨rfl, rfl⟩))
  go_ret
  exact ⟨rfl, by (repeat (first | with_reducible exact Only.refl _ _ | with_reducible assumption | with_reducible apply Only.drew | with_reducible apply Only.drewN | with_reducible apply Only.alloc | (refine Only.setCell ?_ (by first | (left; simp; done) | (right; omega)) _ _)))⟩
end Go.Proofs.Ytcpoaghogpkagaa
