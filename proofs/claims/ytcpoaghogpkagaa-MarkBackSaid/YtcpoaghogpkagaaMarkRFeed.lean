/-
  The document's Feed of layer 17, in words of owned memory.
-/
import Derived.Test.YtcpoaghogpkagaaMarkSep
import Derived.Test.YtcpoaghogpkagaaMarkWrong
import Derived.Deep.RegionHeld3
import Derived.Deep.QuietTactic
import Derived.BigQuiet
namespace Go.Proofs.Ytcpoaghogpkagaa
set_option linter.unusedSimpArgs false
set_option linter.unusedVariables false
open Go.RowKit Go.Pm


def RSpl (sp : Nat) (l : List Int) (d : Bool) : HP := fun h => ∃ vb, sats [pts sp [vb, .bool d] 35, VB vb l] h

def RFeedR (sp : Nat) (ms : List (Int × List Int)) (f : Option (Int × List Int)) (r : List Int) (v : Value) (L' : List HP) : Prop :=
  ∃ lv es fv, v = .tuple #[lv, fv, .bool f.isNone] ∧ es.map Ms.pair = ms ∧ L' = [RSpl sp r f.isSome, Sl 50 2 lv es.length (msCells es), Bod es, FaultP fv f]

def RFeedSJ (W : World) (K : Hl) (sp rb : Nat) (ms : List (Int × List Int)) (f : Option (Int × List Int)) (r : List Int) (lv iv : Value) (w : World) : Prop :=
  ∃ es l vb ms', Byte l ∧ l.length ≤ 1000000 ∧ Parses l ms' f r ∧ es.map Ms.pair ++ ms' = ms ∧ iv = .int .i64 (es.length : Nat) ∧
    Ow W K [pts rb [.int .i64 0, .int .i64 0, .slice none 0 0] 38, pts sp [vb, .bool false] 35, VB vb l, Sl 50 2 lv es.length (msCells es), Bod es] w

def rheldLen (w : World) (sp : Nat) : Nat := match w.cell? ⟨sp, 0, none⟩ with
  | some (.slice _ n _) => n
  | _ => 0
theorem rheldLen_own {W : World} {K : Hl} {L R R2 : List HP} {w : World} {sp : Nat} {vb : Value} {d : Bool} {l : List Int} (H : Ow W K L w) (h : Tk L (pts sp [vb, .bool d] 35) R) (k : Tk L (VB vb l) R2) : rheldLen w sp = l.length := by
  obtain ⟨a, c, rfl, _, _⟩ := (H.vvB k).shape
  have s0 : w.cell? ⟨sp, 0, none⟩ = some (.slice a l.length c) := ((H.blk h).cell 0).trans rfl
  unfold rheldLen
  rw [s0]

set_option maxRecDepth 100000 in
set_option maxHeartbeats 2000000 in
theorem rfeed_spec (sp : Nat) (bv : Value) (held b : List Int) (hy1 : Byte held) (hy2 : Byte b) (hlen : held.length + b.length ≤ 1000000) (ms : List (Int × List Int)) (f : Option (Int × List Int)) (r : List Int) (hp : Parses (held ++ b) ms f r) (hcount : ms.length ≤ b.length) :
    Pact Try.prog 16 #[.pointer (some ⟨sp, 0, none⟩), bv] (fun w => VwB w bv b) [RSpl sp held false] (RFeedR sp ms f r) := by
  intro W K w0 HK H
  have HPL : Hid (ms.length ≤ 1000000) := by have := parses_length hp; simp at this; unfold Hid; omega
  have HY : Hid (Byte (held ++ b)) := hy1.append hy2
  have HP := Lib.hid hp
  have HLEN := Lib.hid hlen
  have HCT := Lib.hid hcount
  have hbl : b.length ≤ 1000000 := by omega
  obtain ⟨vb, H⟩ := H.open .here (Bs := fun vb => [pts sp [vb, .bool false] 35, VB vb held]) (fun _ h => h)
  simp only [List.cons_append, List.nil_append] at H
  obtain ⟨va, vc, rfl, _, _⟩ := (H.vvB (.there .here)).shape
  obtain ⟨ba, bc, rfl, _, _⟩ := (HK.of H).shape
  clear hy1 hy2 hp hlen hcount
  go_enter Try.func16, Try.ntmps16
  go_wp2_with (first
    | (first | ((with_reducible refine Ow.absorb H ?_); clear H; intro w H) | ((with_reducible refine Ow.absorbCalls H ?_); clear H; intro w H) | (with_reducible refine wpList_ld1 H (by with_unfolding_all exact rfl) (by with_unfolding_all exact rfl) (by (repeat (first | exact Tk.here | apply Tk.there))) (by decide +kernel) (by with_unfolding_all exact rfl) (by (first | exact Pt.n | (apply Pt.s; repeat (first | exact SetAt.z | apply SetAt.s)))) ?_) | (with_reducible refine wpList_ldN H (by with_unfolding_all exact rfl) (by with_unfolding_all exact rfl) (by (repeat (first | exact Tk.here | apply Tk.there))) (by (repeat (first | exact Len.z | apply Len.s))) (by decide +kernel) (by (first | exact Pt.n | (apply Pt.s; repeat (first | exact SetAt.z | apply SetAt.s)))) ?_) | ((with_reducible refine wpList_st1 H (by with_unfolding_all exact rfl) (by with_unfolding_all exact rfl) (by (first | exact Ev.c | (apply Ev.t; repeat (first | exact Nth.z | apply Nth.s)))) (by (repeat (first | exact Tk.here | apply Tk.there))) (by decide +kernel) (by with_unfolding_all exact rfl) (by (repeat (first | exact SetAt.z | apply SetAt.s))) (by (first | exact Pt.n | (apply Pt.s; repeat (first | exact SetAt.z | apply SetAt.s)))) ?_); clear H; intro w H) | ((with_reducible refine wpList_stN H (by with_unfolding_all exact rfl) (by with_unfolding_all exact rfl) (by (first | exact Ev.c | (apply Ev.t; repeat (first | exact Nth.z | apply Nth.s)))) (by (repeat (first | exact Tk.here | apply Tk.there))) (by (repeat (first | exact Len.z | apply Len.s))) (by (repeat (first | exact Len.z | apply Len.s))) (by decide +kernel) (by with_unfolding_all exact rfl) (by (first | exact Pt.n | (apply Pt.s; repeat (first | exact SetAt.z | apply SetAt.s)))) ?_); clear H; intro w H))
    | (at_builtin; (with_reducible refine wpList_apB0 bytesEl H (by (first | exact Ev.c | (apply Ev.t; repeat (first | exact Nth.z | apply Nth.s)))) (by (first | exact Ev.c | (apply Ev.t; repeat (first | exact Nth.z | apply Nth.s)))) (by (with_reducible (repeat (first | exact Tk.here | apply Tk.there)))) (H.vvB (by (with_reducible (repeat (first | exact Tk.here | apply Tk.there))))) (by have := HLEN.out; omega) ?_); clear H; intro a1 c1 w _ _ H; (simp only [Act.put, List.setIfInBounds_toArray, List.set_cons_zero, List.set_cons_succ]))
    | (at_builtin; (with_reducible refine wpList_apB bytesEl H (by (first | exact Ev.c | (apply Ev.t; repeat (first | exact Nth.z | apply Nth.s)))) (by (first | exact Ev.c | (apply Ev.t; repeat (first | exact Nth.z | apply Nth.s)))) (by (with_reducible (repeat (first | exact Tk.here | apply Tk.there)))) (HK.of H) (by have := HLEN.out; simp; omega) ?_); clear H; intro a2 c2 w _ _ H; (simp only [Act.put, List.setIfInBounds_toArray, List.set_cons_zero, List.set_cons_succ])))
  replace H := ((H.toVB (by (with_reducible (repeat (first | exact Tk.here | apply Tk.there))))).slLit (n := 0) (sz := 2) (cs := []) (e := 50) (by (with_reducible (repeat (first | exact Tk.here | apply Tk.there)))) rfl (by simp [maxLen])).satsNil
  have HJ : Hid (∀ lv, Ow W K [pts w0.heap.size [.int .i64 0, .int .i64 0, .slice none 0 0] 38, pts sp [.slice a2 (held.length + b.length) c2, .bool false] 35, VB (.slice a2 (held.length + b.length) c2) (held ++ b), Sl 50 2 lv 0 [], sats []] w →
      RFeedSJ W K sp w0.heap.size ms f r lv (.int .i64 0) w) := fun lv hH => ⟨[], held ++ b, .slice a2 (held.length + b.length) c2, ms, HY.out, by have := HLEN.out; simp; omega, HP.out, by simp, rfl, hH⟩
  clear HY HP
  go_loopw [7, 8] (fun lv iv wr => RFeedSJ W K sp w0.heap.size ms f r lv iv wr) (fun _ _ wr => rheldLen wr sp)
  case atStart => exact HJ.out _ (H.sel (by (first | ((with_reducible (repeat (first | exact Sb.nil | apply Sb.cons | exact Tk.here | apply Tk.there))); done) | (repeat (first | exact Sb.nil | apply Sb.cons | exact Tk.here | apply Tk.there)))))
  case round =>
    clear HJ H
    obtain ⟨es, l, vb, ms', hY, hll, hp, hms, rfl, H⟩ := hrel
    have HY := Lib.hid hY
    have HMS := Lib.hid hms
    have hec : es.length ≤ b.length := by
      have h1 := congrArg List.length hms
      have h3 := HCT.out
      simp at h1
      omega
    obtain ⟨w, rfl⟩ : ∃ w, w = wr := ⟨_, rfl⟩
    clear hY hms
    rcases hp.inv with ⟨h, rfl, rfl, rfl⟩ | ⟨s, d, h, hf, rfl, rfl, rfl⟩ | ⟨h, hf, hn, rfl, rfl, rfl⟩ | ⟨n, ms2, h, hn, hl, hf, hr, rfl⟩
    all_goals clear hp
    · obtain ⟨va, vc, rfl, _, _⟩ := (H.vvB (v := vb) (by (with_reducible (repeat (first | exact Tk.here | apply Tk.there))))).shape
      go_wp2_with (first | ((with_reducible refine Ow.absorb H ?_); clear H; intro w H) | ((with_reducible refine Ow.absorbCalls H ?_); clear H; intro w H) | (with_reducible refine wpList_ld1 H (by with_unfolding_all exact rfl) (by with_unfolding_all exact rfl) (by (repeat (first | exact Tk.here | apply Tk.there))) (by decide +kernel) (by with_unfolding_all exact rfl) (by (first | exact Pt.n | (apply Pt.s; repeat (first | exact SetAt.z | apply SetAt.s)))) ?_) | (with_reducible refine wpList_ldN H (by with_unfolding_all exact rfl) (by with_unfolding_all exact rfl) (by (repeat (first | exact Tk.here | apply Tk.there))) (by (repeat (first | exact Len.z | apply Len.s))) (by decide +kernel) (by (first | exact Pt.n | (apply Pt.s; repeat (first | exact SetAt.z | apply SetAt.s)))) ?_) | ((with_reducible refine wpList_st1 H (by with_unfolding_all exact rfl) (by with_unfolding_all exact rfl) (by (first | exact Ev.c | (apply Ev.t; repeat (first | exact Nth.z | apply Nth.s)))) (by (repeat (first | exact Tk.here | apply Tk.there))) (by decide +kernel) (by with_unfolding_all exact rfl) (by (repeat (first | exact SetAt.z | apply SetAt.s))) (by (first | exact Pt.n | (apply Pt.s; repeat (first | exact SetAt.z | apply SetAt.s)))) ?_); clear H; intro w H) | ((with_reducible refine wpList_stN H (by with_unfolding_all exact rfl) (by with_unfolding_all exact rfl) (by (first | exact Ev.c | (apply Ev.t; repeat (first | exact Nth.z | apply Nth.s)))) (by (repeat (first | exact Tk.here | apply Tk.there))) (by (repeat (first | exact Len.z | apply Len.s))) (by (repeat (first | exact Len.z | apply Len.s))) (by decide +kernel) (by with_unfolding_all exact rfl) (by (first | exact Pt.n | (apply Pt.s; repeat (first | exact SetAt.z | apply SetAt.s)))) ?_); clear H; intro w H))
      refine bodyPost_ret (v := .tuple #[u7, .agg #[.int .i64 0, .int .i64 0, .slice none 0 0], .bool true]) ?_ rfl ?_
      · simp [results, Try.results16, H.rv (P := Try.prog) .here 38 (by (repeat (first | exact Len.z | apply Len.s))) (by decide +kernel), asAddr, Sem.run_bind]
      · refine ⟨_, _, ⟨u7, es, _, rfl, by simpa using HMS.out, rfl⟩, rfl, ?_⟩
        replace H := H.shut (A := RSpl sp r false) (M := [pts sp [_, .bool false] 35, VB _ r]) (by (first | ((with_reducible (repeat (first | exact Sb.nil | apply Sb.cons | exact Tk.here | apply Tk.there))); done) | (repeat (first | exact Sb.nil | apply Sb.cons | exact Tk.here | apply Tk.there)))) (fun k hk => ⟨_, hk⟩)
        replace H := (H.vbNil).imp (B := FaultP _ none) (fun k hk => ⟨_, rfl, hk⟩)
        exact H.sel (by (first | ((with_reducible (repeat (first | exact Sb.nil | apply Sb.cons | exact Tk.here | apply Tk.there))); done) | (repeat (first | exact Sb.nil | apply Sb.cons | exact Tk.here | apply Tk.there))))
    · have hne : l ≠ [] := by rintro rfl; simp at h
      obtain ⟨bb, off, vc, rfl, _, _, _, _⟩ := (H.vvB (v := vb) (by (with_reducible (repeat (first | exact Tk.here | apply Tk.there))))).open hne
      have HF := Lib.hid hf
      have HV19 := Lib.hid ((H.vvB (by (with_reducible (repeat (first | exact Tk.here | apply Tk.there))))).pre (k := 19) h)
      have HY19 : Hid (Byte (l.take 19)) := fun n hn => HY.out n (List.take_subset _ _ hn)
      clear hf
      go_wp2_with (first | ((with_reducible refine Ow.absorb H ?_); clear H; intro w H) | ((with_reducible refine Ow.absorbCalls H ?_); clear H; intro w H) | (with_reducible refine wpList_ld1 H (by with_unfolding_all exact rfl) (by with_unfolding_all exact rfl) (by (repeat (first | exact Tk.here | apply Tk.there))) (by decide +kernel) (by with_unfolding_all exact rfl) (by (first | exact Pt.n | (apply Pt.s; repeat (first | exact SetAt.z | apply SetAt.s)))) ?_) | (with_reducible refine wpList_ldN H (by with_unfolding_all exact rfl) (by with_unfolding_all exact rfl) (by (repeat (first | exact Tk.here | apply Tk.there))) (by (repeat (first | exact Len.z | apply Len.s))) (by decide +kernel) (by (first | exact Pt.n | (apply Pt.s; repeat (first | exact SetAt.z | apply SetAt.s)))) ?_) | ((with_reducible refine wpList_st1 H (by with_unfolding_all exact rfl) (by with_unfolding_all exact rfl) (by (first | exact Ev.c | (apply Ev.t; repeat (first | exact Nth.z | apply Nth.s)))) (by (repeat (first | exact Tk.here | apply Tk.there))) (by decide +kernel) (by with_unfolding_all exact rfl) (by (repeat (first | exact SetAt.z | apply SetAt.s))) (by (first | exact Pt.n | (apply Pt.s; repeat (first | exact SetAt.z | apply SetAt.s)))) ?_); clear H; intro w H) | ((with_reducible refine wpList_stN H (by with_unfolding_all exact rfl) (by with_unfolding_all exact rfl) (by (first | exact Ev.c | (apply Ev.t; repeat (first | exact Nth.z | apply Nth.s)))) (by (repeat (first | exact Tk.here | apply Tk.there))) (by (repeat (first | exact Len.z | apply Len.s))) (by (repeat (first | exact Len.z | apply Len.s))) (by decide +kernel) (by with_unfolding_all exact rfl) (by (first | exact Pt.n | (apply Pt.s; repeat (first | exact SetAt.z | apply SetAt.s)))) ?_); clear H; intro w H))
      refine (wrong_any _ _ (Only.refl _ _) _ (l.take 19) HV19.out HY19.out (by simp; omega)).mono ?_
      rintro e w3 hcw
      unfold WrongAs at hcw
      rw [HF.out] at hcw
      obtain ⟨dv, rfl, hdv, hw3⟩ := hcw
      replace H := (H.freshB hw3 hdv).toVB (by (with_reducible (repeat (first | exact Tk.here | apply Tk.there))))
      obtain ⟨da, dc, hdvs, _, _⟩ := (H.vvB (v := dv) (by (with_reducible (repeat (first | exact Tk.here | apply Tk.there))))).shape
      subst hdvs
      clear hdv hw3 HV19
      go_wp2_with (first | ((with_reducible refine Ow.absorb H ?_); clear H; intro w H) | ((with_reducible refine Ow.absorbCalls H ?_); clear H; intro w H) | (with_reducible refine wpList_ld1 H (by with_unfolding_all exact rfl) (by with_unfolding_all exact rfl) (by (repeat (first | exact Tk.here | apply Tk.there))) (by decide +kernel) (by with_unfolding_all exact rfl) (by (first | exact Pt.n | (apply Pt.s; repeat (first | exact SetAt.z | apply SetAt.s)))) ?_) | (with_reducible refine wpList_ldN H (by with_unfolding_all exact rfl) (by with_unfolding_all exact rfl) (by (repeat (first | exact Tk.here | apply Tk.there))) (by (repeat (first | exact Len.z | apply Len.s))) (by decide +kernel) (by (first | exact Pt.n | (apply Pt.s; repeat (first | exact SetAt.z | apply SetAt.s)))) ?_) | ((with_reducible refine wpList_st1 H (by with_unfolding_all exact rfl) (by with_unfolding_all exact rfl) (by (first | exact Ev.c | (apply Ev.t; repeat (first | exact Nth.z | apply Nth.s)))) (by (repeat (first | exact Tk.here | apply Tk.there))) (by decide +kernel) (by with_unfolding_all exact rfl) (by (repeat (first | exact SetAt.z | apply SetAt.s))) (by (first | exact Pt.n | (apply Pt.s; repeat (first | exact SetAt.z | apply SetAt.s)))) ?_); clear H; intro w H) | ((with_reducible refine wpList_stN H (by with_unfolding_all exact rfl) (by with_unfolding_all exact rfl) (by (first | exact Ev.c | (apply Ev.t; repeat (first | exact Nth.z | apply Nth.s)))) (by (repeat (first | exact Tk.here | apply Tk.there))) (by (repeat (first | exact Len.z | apply Len.s))) (by (repeat (first | exact Len.z | apply Len.s))) (by decide +kernel) (by with_unfolding_all exact rfl) (by (first | exact Pt.n | (apply Pt.s; repeat (first | exact SetAt.z | apply SetAt.s)))) ?_); clear H; intro w H))
      have hg := H.blk (b := w3.heap.size) (by (with_reducible (repeat (first | exact Tk.here | apply Tk.there))))
      have hr := H.blk (b := w0.heap.size) (by (with_reducible (repeat (first | exact Tk.here | apply Tk.there))))
      have hne : w3.heap.size ≠ w0.heap.size := H.ne (b := w3.heap.size) (by (with_reducible (repeat (first | exact Tk.here | apply Tk.there)))) (c := w0.heap.size) (by (with_reducible (repeat (first | exact Tk.here | apply Tk.there))))
      (have g0 : (w).cell? ⟨w3.heap.size, 0, none⟩ = some (.int .i64 1) := ((hg).cell 0).trans rfl; have g1 : (w).cell? ⟨w3.heap.size, 1, none⟩ = some (.int .i64 s) := ((hg).cell 1).trans rfl; have g2 : (w).cell? ⟨w3.heap.size, 2, none⟩ = some (.slice da d.length dc) := ((hg).cell 2).trans rfl)
      (have r0 : (w).cell? ⟨w0.heap.size, 0, none⟩ = some (.int .i64 0) := ((hr).cell 0).trans rfl; have r1 : (w).cell? ⟨w0.heap.size, 1, none⟩ = some (.int .i64 0) := ((hr).cell 1).trans rfl; have r2 : (w).cell? ⟨w0.heap.size, 2, none⟩ = some (.slice none 0 0) := ((hr).cell 2).trans rfl)
      (have rf0 := (hr).free 0; have rf1 := (hr).free 1; have rf2 := (hr).free 2)
      clear hg hr
      go_region
      go_wp2_with fail
      ((apply Ow.forget (W := W) (K := K)); (case H => (repeat (first | with_reducible assumption | with_reducible apply Ow.drew | with_reducible apply Ow.drewN | with_reducible apply Ow.allocC | with_reducible apply Ow.set | exact Tk.here | apply Tk.there | exact SetAt.z | apply SetAt.s))); clear H; intro w H)
      refine bodyPost_ret (v := .tuple #[u7, .agg #[.int .i64 1, .int .i64 s, .slice da d.length dc], .bool false]) ?_ rfl ?_
      · simp [results, Try.results16, H.rv (P := Try.prog) .here 38 (by (repeat (first | exact Len.z | apply Len.s))) (by decide +kernel), Act.put, asAddr, Sem.run_bind]
      · refine ⟨_, _, ⟨u7, es, _, rfl, by simpa using HMS.out, rfl⟩, rfl, ?_⟩
        replace H := (H.tk (A := VB (.slice da d.length dc) d) (by (with_reducible (repeat (first | exact Tk.here | apply Tk.there))))).imp (B := FaultP _ (some (s, d))) (fun k hk => ⟨_, rfl, hk⟩)
        replace H := H.vbNil
        replace H := H.shut (A := RSpl sp [] true) (M := [pts sp [_, .bool true] 35, VB _ []]) (by (first | ((with_reducible (repeat (first | exact Sb.nil | apply Sb.cons | exact Tk.here | apply Tk.there))); done) | (repeat (first | exact Sb.nil | apply Sb.cons | exact Tk.here | apply Tk.there)))) (fun k hk => ⟨_, hk⟩)
        exact H.sel (by (first | ((with_reducible (repeat (first | exact Sb.nil | apply Sb.cons | exact Tk.here | apply Tk.there))); done) | (repeat (first | exact Sb.nil | apply Sb.cons | exact Tk.here | apply Tk.there))))
    · have hne : r ≠ [] := by rintro rfl; simp at h
      have h19 : 19 ≤ r.length := by omega
      obtain ⟨bb, off, vc, rfl, _, hvm, _, _⟩ := (H.vvB (v := vb) (by (with_reducible (repeat (first | exact Tk.here | apply Tk.there))))).open hne
      unfold maxLen at hvm
      have HF := Lib.hid hf
      have HV19 := Lib.hid ((H.vvB (v := .slice (some ⟨bb, off, none⟩) r.length vc) (l := r) (by (with_reducible (repeat (first | exact Tk.here | apply Tk.there))))).pre (k := 19) h19)
      have HY19 : Hid (Byte (r.take 19)) := fun n hn => HY.out n (List.take_subset _ _ hn)
      have HNE := Lib.hid hne
      have HLR : Hid (rheldLen w sp = r.length) := rheldLen_own H (by (with_reducible (repeat (first | exact Tk.here | apply Tk.there)))) (by (with_reducible (repeat (first | exact Tk.here | apply Tk.there))))
      obtain ⟨x, hx⟩ : ∃ x, x = at_ r 16 := ⟨_, rfl⟩
      obtain ⟨y, hy⟩ : ∃ y, y = at_ r 17 := ⟨_, rfl⟩
      obtain ⟨z, hz⟩ : ∃ z, z = at_ r 18 := ⟨_, rfl⟩
      have hlen : lenOf r = 256 * x + y := by unfold lenOf; rw [← hx, ← hy]; omega
      rw [hlen] at hn
      have x0 := at_range HY.out 16
      have y0 := at_range HY.out 17
      have z0 := at_range HY.out 18
      rw [← hx] at x0
      rw [← hy] at y0
      rw [← hz] at z0
      have HX := Lib.hid hx
      have HYY := Lib.hid hy
      have HZ := Lib.hid hz
      clear hf hx hy hz hlen hne
      go_wp2_with (first | ((with_reducible refine Ow.absorb H ?_); clear H; intro w H) | ((with_reducible refine Ow.absorbCalls H ?_); clear H; intro w H) | (with_reducible refine wpList_ld1 H (by with_unfolding_all exact rfl) (by with_unfolding_all exact rfl) (by (repeat (first | exact Tk.here | apply Tk.there))) (by decide +kernel) (by with_unfolding_all exact rfl) (by (first | exact Pt.n | (apply Pt.s; repeat (first | exact SetAt.z | apply SetAt.s)))) ?_) | (with_reducible refine wpList_ldN H (by with_unfolding_all exact rfl) (by with_unfolding_all exact rfl) (by (repeat (first | exact Tk.here | apply Tk.there))) (by (repeat (first | exact Len.z | apply Len.s))) (by decide +kernel) (by (first | exact Pt.n | (apply Pt.s; repeat (first | exact SetAt.z | apply SetAt.s)))) ?_) | ((with_reducible refine wpList_st1 H (by with_unfolding_all exact rfl) (by with_unfolding_all exact rfl) (by (first | exact Ev.c | (apply Ev.t; repeat (first | exact Nth.z | apply Nth.s)))) (by (repeat (first | exact Tk.here | apply Tk.there))) (by decide +kernel) (by with_unfolding_all exact rfl) (by (repeat (first | exact SetAt.z | apply SetAt.s))) (by (first | exact Pt.n | (apply Pt.s; repeat (first | exact SetAt.z | apply SetAt.s)))) ?_); clear H; intro w H) | ((with_reducible refine wpList_stN H (by with_unfolding_all exact rfl) (by with_unfolding_all exact rfl) (by (first | exact Ev.c | (apply Ev.t; repeat (first | exact Nth.z | apply Nth.s)))) (by (repeat (first | exact Tk.here | apply Tk.there))) (by (repeat (first | exact Len.z | apply Len.s))) (by (repeat (first | exact Len.z | apply Len.s))) (by decide +kernel) (by with_unfolding_all exact rfl) (by (first | exact Pt.n | (apply Pt.s; repeat (first | exact SetAt.z | apply SetAt.s)))) ?_); clear H; intro w H))
      refine (wrong_any _ _ (Only.refl _ _) _ (r.take 19) HV19.out HY19.out (by simp; omega)).mono ?_
      rintro e w3 hcw
      unfold WrongAs at hcw
      rw [HF.out] at hcw
      obtain ⟨rfl, hw3⟩ := hcw
      replace H := H.only hw3
      clear hw3 HV19
      go_wp2_with (first | ((with_reducible refine Ow.absorb H ?_); clear H; intro w H) | ((with_reducible refine Ow.absorbCalls H ?_); clear H; intro w H) | (with_reducible refine wpList_ld1 H (by with_unfolding_all exact rfl) (by with_unfolding_all exact rfl) (by (repeat (first | exact Tk.here | apply Tk.there))) (by decide +kernel) (by with_unfolding_all exact rfl) (by (first | exact Pt.n | (apply Pt.s; repeat (first | exact SetAt.z | apply SetAt.s)))) ?_) | (with_reducible refine wpList_ldN H (by with_unfolding_all exact rfl) (by with_unfolding_all exact rfl) (by (repeat (first | exact Tk.here | apply Tk.there))) (by (repeat (first | exact Len.z | apply Len.s))) (by decide +kernel) (by (first | exact Pt.n | (apply Pt.s; repeat (first | exact SetAt.z | apply SetAt.s)))) ?_) | ((with_reducible refine wpList_st1 H (by with_unfolding_all exact rfl) (by with_unfolding_all exact rfl) (by (first | exact Ev.c | (apply Ev.t; repeat (first | exact Nth.z | apply Nth.s)))) (by (repeat (first | exact Tk.here | apply Tk.there))) (by decide +kernel) (by with_unfolding_all exact rfl) (by (repeat (first | exact SetAt.z | apply SetAt.s))) (by (first | exact Pt.n | (apply Pt.s; repeat (first | exact SetAt.z | apply SetAt.s)))) ?_); clear H; intro w H) | ((with_reducible refine wpList_stN H (by with_unfolding_all exact rfl) (by with_unfolding_all exact rfl) (by (first | exact Ev.c | (apply Ev.t; repeat (first | exact Nth.z | apply Nth.s)))) (by (repeat (first | exact Tk.here | apply Tk.there))) (by (repeat (first | exact Len.z | apply Len.s))) (by (repeat (first | exact Len.z | apply Len.s))) (by decide +kernel) (by with_unfolding_all exact rfl) (by (first | exact Pt.n | (apply Pt.s; repeat (first | exact SetAt.z | apply SetAt.s)))) ?_); clear H; intro w H))
      have s0 : w.cell? ⟨sp, 0, none⟩ = some (.slice (some ⟨bb, off, none⟩) r.length vc) := ((H.blk (b := sp) (by (with_reducible (repeat (first | exact Tk.here | apply Tk.there))))).cell 0).trans rfl
      have c16 : w.cell? ⟨bb, off + 16, none⟩ = some (.int .u8 x) := HX.out ▸ at_cell (H.vvB (v := .slice (some ⟨bb, off, none⟩) r.length vc) (l := r) (by (with_reducible (repeat (first | exact Tk.here | apply Tk.there))))) 16 (by omega)
      have c17 : w.cell? ⟨bb, off + 17, none⟩ = some (.int .u8 y) := HYY.out ▸ at_cell (H.vvB (v := .slice (some ⟨bb, off, none⟩) r.length vc) (l := r) (by (with_reducible (repeat (first | exact Tk.here | apply Tk.there))))) 17 (by omega)
      go_quiet (fail)
      ((apply Ow.forget (W := W) (K := K)); (case H => (repeat (first | with_reducible assumption | with_reducible apply Ow.drew | with_reducible apply Ow.drewN | with_reducible apply Ow.allocC | with_reducible apply Ow.set | exact Tk.here | apply Tk.there | exact SetAt.z | apply SetAt.s))); clear H; intro w H)
      clear s0 c16 c17
      go_wp2_with (first | ((with_reducible refine Ow.absorb H ?_); clear H; intro w H) | ((with_reducible refine Ow.absorbCalls H ?_); clear H; intro w H) | (with_reducible refine wpList_ld1 H (by with_unfolding_all exact rfl) (by with_unfolding_all exact rfl) (by (repeat (first | exact Tk.here | apply Tk.there))) (by decide +kernel) (by with_unfolding_all exact rfl) (by (first | exact Pt.n | (apply Pt.s; repeat (first | exact SetAt.z | apply SetAt.s)))) ?_) | (with_reducible refine wpList_ldN H (by with_unfolding_all exact rfl) (by with_unfolding_all exact rfl) (by (repeat (first | exact Tk.here | apply Tk.there))) (by (repeat (first | exact Len.z | apply Len.s))) (by decide +kernel) (by (first | exact Pt.n | (apply Pt.s; repeat (first | exact SetAt.z | apply SetAt.s)))) ?_) | ((with_reducible refine wpList_st1 H (by with_unfolding_all exact rfl) (by with_unfolding_all exact rfl) (by (first | exact Ev.c | (apply Ev.t; repeat (first | exact Nth.z | apply Nth.s)))) (by (repeat (first | exact Tk.here | apply Tk.there))) (by decide +kernel) (by with_unfolding_all exact rfl) (by (repeat (first | exact SetAt.z | apply SetAt.s))) (by (first | exact Pt.n | (apply Pt.s; repeat (first | exact SetAt.z | apply SetAt.s)))) ?_); clear H; intro w H) | ((with_reducible refine wpList_stN H (by with_unfolding_all exact rfl) (by with_unfolding_all exact rfl) (by (first | exact Ev.c | (apply Ev.t; repeat (first | exact Nth.z | apply Nth.s)))) (by (repeat (first | exact Tk.here | apply Tk.there))) (by (repeat (first | exact Len.z | apply Len.s))) (by (repeat (first | exact Len.z | apply Len.s))) (by decide +kernel) (by with_unfolding_all exact rfl) (by (first | exact Pt.n | (apply Pt.s; repeat (first | exact SetAt.z | apply SetAt.s)))) ?_); clear H; intro w H))
      refine bodyPost_ret (v := .tuple #[u7, .agg #[.int .i64 0, .int .i64 0, .slice none 0 0], .bool true]) ?_ rfl ?_
      · simp [results, Try.results16, H.rv (P := Try.prog) .here 38 (by (repeat (first | exact Len.z | apply Len.s))) (by decide +kernel), asAddr, Sem.run_bind]
      · refine ⟨_, _, ⟨u7, es, _, rfl, by simpa using HMS.out, rfl⟩, rfl, ?_⟩
        replace H := H.shut (A := RSpl sp r false) (M := [pts sp [_, .bool false] 35, VB _ r]) (by (first | ((with_reducible (repeat (first | exact Sb.nil | apply Sb.cons | exact Tk.here | apply Tk.there))); done) | (repeat (first | exact Sb.nil | apply Sb.cons | exact Tk.here | apply Tk.there)))) (fun k hk => ⟨_, hk⟩)
        replace H := (H.vbNil).imp (B := FaultP _ none) (fun k hk => ⟨_, rfl, hk⟩)
        exact H.sel (by (first | ((with_reducible (repeat (first | exact Sb.nil | apply Sb.cons | exact Tk.here | apply Tk.there))); done) | (repeat (first | exact Sb.nil | apply Sb.cons | exact Tk.here | apply Tk.there))))
    · have hne : l ≠ [] := by rintro rfl; simp at hl; omega
      have h19 : 19 ≤ l.length := by omega
      obtain ⟨bb, off, vc, rfl, _, hvm, _, _⟩ := (H.vvB (v := vb) (by (with_reducible (repeat (first | exact Tk.here | apply Tk.there))))).open hne
      unfold maxLen at hvm
      have HF := Lib.hid hf
      have HV19 := Lib.hid ((H.vvB (v := .slice (some ⟨bb, off, none⟩) l.length vc) (l := l) (by (with_reducible (repeat (first | exact Tk.here | apply Tk.there))))).pre (k := 19) h19)
      have HY19 : Hid (Byte (l.take 19)) := fun n hn => HY.out n (List.take_subset _ _ hn)
      have HNE := Lib.hid hne
      have HLR : Hid (rheldLen w sp = l.length) := rheldLen_own H (by (with_reducible (repeat (first | exact Tk.here | apply Tk.there)))) (by (with_reducible (repeat (first | exact Tk.here | apply Tk.there))))
      obtain ⟨x, hx⟩ : ∃ x, x = at_ l 16 := ⟨_, rfl⟩
      obtain ⟨y, hy⟩ : ∃ y, y = at_ l 17 := ⟨_, rfl⟩
      obtain ⟨z, hz⟩ : ∃ z, z = at_ l 18 := ⟨_, rfl⟩
      have hlen : lenOf l = 256 * x + y := by unfold lenOf; rw [← hx, ← hy]; omega
      rw [hlen] at hn
      have x0 := at_range HY.out 16
      have y0 := at_range HY.out 17
      have z0 := at_range HY.out 18
      rw [← hx] at x0
      rw [← hy] at y0
      rw [← hz] at z0
      have HX := Lib.hid hx
      have HYY := Lib.hid hy
      have HZ := Lib.hid hz
      clear hf hx hy hz hlen hne
      go_wp2_with (first | ((with_reducible refine Ow.absorb H ?_); clear H; intro w H) | ((with_reducible refine Ow.absorbCalls H ?_); clear H; intro w H) | (with_reducible refine wpList_ld1 H (by with_unfolding_all exact rfl) (by with_unfolding_all exact rfl) (by (repeat (first | exact Tk.here | apply Tk.there))) (by decide +kernel) (by with_unfolding_all exact rfl) (by (first | exact Pt.n | (apply Pt.s; repeat (first | exact SetAt.z | apply SetAt.s)))) ?_) | (with_reducible refine wpList_ldN H (by with_unfolding_all exact rfl) (by with_unfolding_all exact rfl) (by (repeat (first | exact Tk.here | apply Tk.there))) (by (repeat (first | exact Len.z | apply Len.s))) (by decide +kernel) (by (first | exact Pt.n | (apply Pt.s; repeat (first | exact SetAt.z | apply SetAt.s)))) ?_) | ((with_reducible refine wpList_st1 H (by with_unfolding_all exact rfl) (by with_unfolding_all exact rfl) (by (first | exact Ev.c | (apply Ev.t; repeat (first | exact Nth.z | apply Nth.s)))) (by (repeat (first | exact Tk.here | apply Tk.there))) (by decide +kernel) (by with_unfolding_all exact rfl) (by (repeat (first | exact SetAt.z | apply SetAt.s))) (by (first | exact Pt.n | (apply Pt.s; repeat (first | exact SetAt.z | apply SetAt.s)))) ?_); clear H; intro w H) | ((with_reducible refine wpList_stN H (by with_unfolding_all exact rfl) (by with_unfolding_all exact rfl) (by (first | exact Ev.c | (apply Ev.t; repeat (first | exact Nth.z | apply Nth.s)))) (by (repeat (first | exact Tk.here | apply Tk.there))) (by (repeat (first | exact Len.z | apply Len.s))) (by (repeat (first | exact Len.z | apply Len.s))) (by decide +kernel) (by with_unfolding_all exact rfl) (by (first | exact Pt.n | (apply Pt.s; repeat (first | exact SetAt.z | apply SetAt.s)))) ?_); clear H; intro w H))
      refine (wrong_any _ _ (Only.refl _ _) _ (l.take 19) HV19.out HY19.out (by simp; omega)).mono ?_
      rintro e w3 hcw
      unfold WrongAs at hcw
      rw [HF.out] at hcw
      obtain ⟨rfl, hw3⟩ := hcw
      replace H := H.only hw3
      clear hw3 HV19
      go_wp2_with (first | ((with_reducible refine Ow.absorb H ?_); clear H; intro w H) | ((with_reducible refine Ow.absorbCalls H ?_); clear H; intro w H) | (with_reducible refine wpList_ld1 H (by with_unfolding_all exact rfl) (by with_unfolding_all exact rfl) (by (repeat (first | exact Tk.here | apply Tk.there))) (by decide +kernel) (by with_unfolding_all exact rfl) (by (first | exact Pt.n | (apply Pt.s; repeat (first | exact SetAt.z | apply SetAt.s)))) ?_) | (with_reducible refine wpList_ldN H (by with_unfolding_all exact rfl) (by with_unfolding_all exact rfl) (by (repeat (first | exact Tk.here | apply Tk.there))) (by (repeat (first | exact Len.z | apply Len.s))) (by decide +kernel) (by (first | exact Pt.n | (apply Pt.s; repeat (first | exact SetAt.z | apply SetAt.s)))) ?_) | ((with_reducible refine wpList_st1 H (by with_unfolding_all exact rfl) (by with_unfolding_all exact rfl) (by (first | exact Ev.c | (apply Ev.t; repeat (first | exact Nth.z | apply Nth.s)))) (by (repeat (first | exact Tk.here | apply Tk.there))) (by decide +kernel) (by with_unfolding_all exact rfl) (by (repeat (first | exact SetAt.z | apply SetAt.s))) (by (first | exact Pt.n | (apply Pt.s; repeat (first | exact SetAt.z | apply SetAt.s)))) ?_); clear H; intro w H) | ((with_reducible refine wpList_stN H (by with_unfolding_all exact rfl) (by with_unfolding_all exact rfl) (by (first | exact Ev.c | (apply Ev.t; repeat (first | exact Nth.z | apply Nth.s)))) (by (repeat (first | exact Tk.here | apply Tk.there))) (by (repeat (first | exact Len.z | apply Len.s))) (by (repeat (first | exact Len.z | apply Len.s))) (by decide +kernel) (by with_unfolding_all exact rfl) (by (first | exact Pt.n | (apply Pt.s; repeat (first | exact SetAt.z | apply SetAt.s)))) ?_); clear H; intro w H))
      have s0 : w.cell? ⟨sp, 0, none⟩ = some (.slice (some ⟨bb, off, none⟩) l.length vc) := ((H.blk (b := sp) (by (with_reducible (repeat (first | exact Tk.here | apply Tk.there))))).cell 0).trans rfl
      have c16 : w.cell? ⟨bb, off + 16, none⟩ = some (.int .u8 x) := HX.out ▸ at_cell (H.vvB (v := .slice (some ⟨bb, off, none⟩) l.length vc) (l := l) (by (with_reducible (repeat (first | exact Tk.here | apply Tk.there))))) 16 (by omega)
      have c17 : w.cell? ⟨bb, off + 17, none⟩ = some (.int .u8 y) := HYY.out ▸ at_cell (H.vvB (v := .slice (some ⟨bb, off, none⟩) l.length vc) (l := l) (by (with_reducible (repeat (first | exact Tk.here | apply Tk.there))))) 17 (by omega)
      go_quiet (fail)
      ((apply Ow.forget (W := W) (K := K)); (case H => (repeat (first | with_reducible assumption | with_reducible apply Ow.drew | with_reducible apply Ow.drewN | with_reducible apply Ow.allocC | with_reducible apply Ow.set | exact Tk.here | apply Tk.there | exact SetAt.z | apply SetAt.s))); clear H; intro w H)
      clear s0 c16 c17
      go_wp2_with (first | ((with_reducible refine Ow.absorb H ?_); clear H; intro w H) | ((with_reducible refine Ow.absorbCalls H ?_); clear H; intro w H) | (with_reducible refine wpList_ld1 H (by with_unfolding_all exact rfl) (by with_unfolding_all exact rfl) (by (repeat (first | exact Tk.here | apply Tk.there))) (by decide +kernel) (by with_unfolding_all exact rfl) (by (first | exact Pt.n | (apply Pt.s; repeat (first | exact SetAt.z | apply SetAt.s)))) ?_) | (with_reducible refine wpList_ldN H (by with_unfolding_all exact rfl) (by with_unfolding_all exact rfl) (by (repeat (first | exact Tk.here | apply Tk.there))) (by (repeat (first | exact Len.z | apply Len.s))) (by decide +kernel) (by (first | exact Pt.n | (apply Pt.s; repeat (first | exact SetAt.z | apply SetAt.s)))) ?_) | ((with_reducible refine wpList_st1 H (by with_unfolding_all exact rfl) (by with_unfolding_all exact rfl) (by (first | exact Ev.c | (apply Ev.t; repeat (first | exact Nth.z | apply Nth.s)))) (by (repeat (first | exact Tk.here | apply Tk.there))) (by decide +kernel) (by with_unfolding_all exact rfl) (by (repeat (first | exact SetAt.z | apply SetAt.s))) (by (first | exact Pt.n | (apply Pt.s; repeat (first | exact SetAt.z | apply SetAt.s)))) ?_); clear H; intro w H) | ((with_reducible refine wpList_stN H (by with_unfolding_all exact rfl) (by with_unfolding_all exact rfl) (by (first | exact Ev.c | (apply Ev.t; repeat (first | exact Nth.z | apply Nth.s)))) (by (repeat (first | exact Tk.here | apply Tk.there))) (by (repeat (first | exact Len.z | apply Len.s))) (by (repeat (first | exact Len.z | apply Len.s))) (by decide +kernel) (by with_unfolding_all exact rfl) (by (first | exact Pt.n | (apply Pt.s; repeat (first | exact SetAt.z | apply SetAt.s)))) ?_); clear H; intro w H))
      have HN := Lib.hid hn
      have HPR := Lib.hid hr
      have HEL : Hid (es.length + 1 ≤ 1000000) := by
        have h1 := congrArg List.length HMS.out
        have h3 := HPL.out
        simp at h1
        unfold Hid
        omega
      have HP1 : Hid (∀ w', VwB w' (.slice (some ⟨bb, off, none⟩) l.length vc) l → VwB w' (.slice (if vc = 19 then some ⟨bb, off, none⟩ else some ⟨bb, off + 19, none⟩) (n - 19) (vc - 19)) ((l.take n).drop 19)) :=
        fun w' hv => hv.cut (i := 19) (k := n - 19) (by rw [List.drop_take]) (by omega) rfl rfl
      have HQ1 : Hid (∀ w', VwB w' (.slice (some ⟨bb, off, none⟩) l.length vc) l → VwB w' (.slice (if vc = n then some ⟨bb, off, none⟩ else some ⟨bb, off + n, none⟩) (l.length - n) (vc - n)) (l.drop n)) :=
        fun w' hv => hv.cut (i := n) (k := l.length - n) (by rw [List.take_of_length_le (by simp)]) (by omega) rfl rfl
      have s0 : w.cell? ⟨sp, 0, none⟩ = some (.slice (some ⟨bb, off, none⟩) l.length vc) := ((H.blk (b := sp) (by (with_reducible (repeat (first | exact Tk.here | apply Tk.there))))).cell 0).trans rfl
      have c18 : w.cell? ⟨bb, off + 18, none⟩ = some (.int .u8 z) := HZ.out ▸ at_cell (H.vvB (v := .slice (some ⟨bb, off, none⟩) l.length vc) (l := l) (by (with_reducible (repeat (first | exact Tk.here | apply Tk.there))))) 18 (by omega)
      have hn19 : (19 : Int) ≤ (n : Int) := by omega
      have hnL : (n : Int) ≤ (l.length : Int) := by omega
      have hLc : (l.length : Int) ≤ (vc : Int) := by omega
      have hnc : (n : Int) ≤ (vc : Int) := by omega
      have hL18 : (18 : Int) < (l.length : Int) := by omega
      have hbl2 : ((l.take n).drop 19).length = n - 19 := by simp; omega
      have HBL := Lib.hid hbl2
      have hls := (H.blk (b := sp) (by (with_reducible (repeat (first | exact Tk.here | apply Tk.there))))).lt
      have hlb : bb < w.heap.size := World.block_lt_of_cell? w _ c18
      have hn4 : n ≤ 4096 := by
        have h1 := check_len HF.out
        rw [lenOf_take l 19 (by omega)] at h1
        have : lenOf l = 256 * x + y := by unfold lenOf; rw [← HX.out, ← HYY.out]; omega
        omega
      clear hbl2 hn hr
      rcases (show vc = 19 ∨ ¬ vc = 19 by omega) with rfl | hc
      · have hp := HP1.out
        simp only [if_true, Nat.sub_self] at hp
        have HPP := Lib.hid hp
        clear hp
        have hn19' : (n : Int) ≤ 19 := by omega
        have hwk : IntKind.i64.wrap z = z := IntWalk.i64_in _ (by omega)
        go_region_held3 (fun X => X.cell? ⟨sp, 0, none⟩ = some (.slice (some ⟨bb, off, none⟩) l.length 19) ∧ X.cell? ⟨bb, off + 18, none⟩ = some (.int .u8 z)) (first | go_keep | exact ⟨k1, k2⟩ | exact ⟨k3, k4⟩)
          (first
            | (have tk := k1; (with_reducible refine step_ap1 rmsgsEl (H3.allocC _ 50) rfl _ _ rfl (by (first | exact Ev.c | (apply Ev.t; repeat (first | exact Nth.z | apply Nth.s)))) (by (first | exact Ev.c | (apply Ev.t; repeat (first | exact Nth.z | apply Nth.s)))) (by (with_reducible (repeat (first | exact Tk.here | apply Tk.there)))) (by (with_reducible (repeat (first | exact Tk.here | apply Tk.there)))) (by (repeat (first | exact Len.z | apply Len.s))) rfl rfl (by have := HEL.out; omega) ?_); intro a4 c4 w4 _ _ H4; have k3 : w4.cell? ⟨sp, 0, none⟩ = some (.slice (some ⟨bb, off, none⟩) l.length 19) := ((H4.blk (b := sp) (by (with_reducible (repeat (first | exact Tk.here | apply Tk.there))))).cell 0).trans rfl; have k4 : w4.cell? ⟨bb, off + 18, none⟩ = some (.int .u8 z) := HZ.out ▸ at_cell (H4.vvB (v := .slice (some ⟨bb, off, none⟩) l.length 19) (l := l) (by (with_reducible (repeat (first | exact Tk.here | apply Tk.there))))) 18 (by omega))
            | ((with_reducible refine step_apB0 bytesEl (H.allocC [] 5).drew rfl _ _ rfl (by (first | exact Ev.c | (apply Ev.t; repeat (first | exact Nth.z | apply Nth.s)))) (by (first | exact Ev.c | (apply Ev.t; repeat (first | exact Nth.z | apply Nth.s)))) (by (with_reducible (repeat (first | exact Tk.here | apply Tk.there)))) (HPP.out _ ((H.allocC [] 5).drew.vvB (by (with_reducible (repeat (first | exact Tk.here | apply Tk.there)))))) (by rw [HBL.out]; omega) ?_); intro a3 c3 w3 _ _ H3; have k1 : w3.cell? ⟨sp, 0, none⟩ = some (.slice (some ⟨bb, off, none⟩) l.length 19) := ((H3.blk (b := sp) (by (with_reducible (repeat (first | exact Tk.here | apply Tk.there))))).cell 0).trans rfl; have k2 : w3.cell? ⟨bb, off + 18, none⟩ = some (.int .u8 z) := HZ.out ▸ at_cell (H3.vvB (v := .slice (some ⟨bb, off, none⟩) l.length 19) (l := l) (by (with_reducible (repeat (first | exact Tk.here | apply Tk.there))))) 18 (by omega))
            | fail)
        have hcn0 : 19 = n := by omega
        clear H H3 k1 k2 k3 k4
        have H := H4
        clear H4
        rw [HBL.out] at H
        replace H := bod_push ⟨z, .slice a3 (n - 19) c3, (l.take n).drop 19⟩ (H.toVB (by (with_reducible (repeat (first | exact Tk.here | apply Tk.there))))) (by (with_reducible (repeat (first | exact Tk.here | apply Tk.there)))) (by (with_reducible (repeat (first | exact Tk.here | apply Tk.there))))
        have hcn : (19 = n) = True := eq_true hcn0
        clear hcn0
        have hq := HQ1.out
        simp only [hcn, if_true] at hq
        rw [show 19 - n = 0 by omega] at hq
        have HQQ := Lib.hid hq
        clear hq
        go_wp2_with (first | (first | ((with_reducible refine Ow.absorb H ?_); clear H; intro w H) | ((with_reducible refine Ow.absorbCalls H ?_); clear H; intro w H) | (with_reducible refine wpList_ld1 H (by with_unfolding_all exact rfl) (by with_unfolding_all exact rfl) (by (repeat (first | exact Tk.here | apply Tk.there))) (by decide +kernel) (by with_unfolding_all exact rfl) (by (first | exact Pt.n | (apply Pt.s; repeat (first | exact SetAt.z | apply SetAt.s)))) ?_) | (with_reducible refine wpList_ldN H (by with_unfolding_all exact rfl) (by with_unfolding_all exact rfl) (by (repeat (first | exact Tk.here | apply Tk.there))) (by (repeat (first | exact Len.z | apply Len.s))) (by decide +kernel) (by (first | exact Pt.n | (apply Pt.s; repeat (first | exact SetAt.z | apply SetAt.s)))) ?_) | ((with_reducible refine wpList_st1 H (by with_unfolding_all exact rfl) (by with_unfolding_all exact rfl) (by (first | exact Ev.c | (apply Ev.t; repeat (first | exact Nth.z | apply Nth.s)))) (by (repeat (first | exact Tk.here | apply Tk.there))) (by decide +kernel) (by with_unfolding_all exact rfl) (by (repeat (first | exact SetAt.z | apply SetAt.s))) (by (first | exact Pt.n | (apply Pt.s; repeat (first | exact SetAt.z | apply SetAt.s)))) ?_); clear H; intro w H) | ((with_reducible refine wpList_stN H (by with_unfolding_all exact rfl) (by with_unfolding_all exact rfl) (by (first | exact Ev.c | (apply Ev.t; repeat (first | exact Nth.z | apply Nth.s)))) (by (repeat (first | exact Tk.here | apply Tk.there))) (by (repeat (first | exact Len.z | apply Len.s))) (by (repeat (first | exact Len.z | apply Len.s))) (by decide +kernel) (by with_unfolding_all exact rfl) (by (first | exact Pt.n | (apply Pt.s; repeat (first | exact SetAt.z | apply SetAt.s)))) ?_); clear H; intro w H)) | (at_builtin; (with_reducible refine wpList_apB0 bytesEl H (by (first | exact Ev.c | (apply Ev.t; repeat (first | exact Nth.z | apply Nth.s)))) (by (first | exact Ev.c | (apply Ev.t; repeat (first | exact Nth.z | apply Nth.s)))) (by (with_reducible (repeat (first | exact Tk.here | apply Tk.there)))) (HQQ.out _ (H.vvB (by (with_reducible (repeat (first | exact Tk.here | apply Tk.there)))))) (by simp; omega) ?_); clear H; intro a6 c6 w _ _ H; (simp only [Act.put, List.setIfInBounds_toArray, List.set_cons_zero, List.set_cons_succ])))
        have H7 := H.toVB (v := .slice a6 (List.drop n l).length c6) (by (with_reducible (repeat (first | exact Tk.here | apply Tk.there))))
        refine ⟨⟨es ++ [⟨z, .slice a3 (n - 19) c3, (l.take n).drop 19⟩], l.drop n, .slice a6 (l.drop n).length c6, ms2, fun x hx => HY.out x (List.drop_subset _ _ hx), by simp; omega, HPR.out, by simpa [Ms.pair, HZ.out] using HMS.out, by simp, ?_⟩, ?_⟩
        · rw [List.length_append, msCells_append]
          exact H7.sel (by (first | ((with_reducible (repeat (first | exact Sb.nil | apply Sb.cons | exact Tk.here | apply Tk.there))); done) | (repeat (first | exact Sb.nil | apply Sb.cons | exact Tk.here | apply Tk.there))))
        · have hlen5 := rheldLen_own H7 (sp := sp) (by (with_reducible (repeat (first | exact Tk.here | apply Tk.there)))) (l := l.drop n) (by (with_reducible (repeat (first | exact Tk.here | apply Tk.there))))
          rw [hlen5, HLR.out]
          simp
          omega
      · have hp := HP1.out
        simp only [hc, if_false] at hp
        have HPP := Lib.hid hp
        clear hp
        have hwk : IntKind.i64.wrap z = z := IntWalk.i64_in _ (by omega)
        go_region_held3 (fun X => X.cell? ⟨sp, 0, none⟩ = some (.slice (some ⟨bb, off, none⟩) l.length vc) ∧ X.cell? ⟨bb, off + 18, none⟩ = some (.int .u8 z)) (first | go_keep | exact ⟨k1, k2⟩ | exact ⟨k3, k4⟩)
          (first
            | (have tk := k1; (with_reducible refine step_ap1 rmsgsEl (H3.allocC _ 50) rfl _ _ rfl (by (first | exact Ev.c | (apply Ev.t; repeat (first | exact Nth.z | apply Nth.s)))) (by (first | exact Ev.c | (apply Ev.t; repeat (first | exact Nth.z | apply Nth.s)))) (by (with_reducible (repeat (first | exact Tk.here | apply Tk.there)))) (by (with_reducible (repeat (first | exact Tk.here | apply Tk.there)))) (by (repeat (first | exact Len.z | apply Len.s))) rfl rfl (by have := HEL.out; omega) ?_); intro a4 c4 w4 _ _ H4; have k3 : w4.cell? ⟨sp, 0, none⟩ = some (.slice (some ⟨bb, off, none⟩) l.length vc) := ((H4.blk (b := sp) (by (with_reducible (repeat (first | exact Tk.here | apply Tk.there))))).cell 0).trans rfl; have k4 : w4.cell? ⟨bb, off + 18, none⟩ = some (.int .u8 z) := HZ.out ▸ at_cell (H4.vvB (v := .slice (some ⟨bb, off, none⟩) l.length vc) (l := l) (by (with_reducible (repeat (first | exact Tk.here | apply Tk.there))))) 18 (by omega))
            | ((with_reducible refine step_apB0 bytesEl (H.allocC [] 5).drew rfl _ _ rfl (by (first | exact Ev.c | (apply Ev.t; repeat (first | exact Nth.z | apply Nth.s)))) (by (first | exact Ev.c | (apply Ev.t; repeat (first | exact Nth.z | apply Nth.s)))) (by (with_reducible (repeat (first | exact Tk.here | apply Tk.there)))) (HPP.out _ ((H.allocC [] 5).drew.vvB (by (with_reducible (repeat (first | exact Tk.here | apply Tk.there)))))) (by rw [HBL.out]; omega) ?_); intro a3 c3 w3 _ _ H3; have k1 : w3.cell? ⟨sp, 0, none⟩ = some (.slice (some ⟨bb, off, none⟩) l.length vc) := ((H3.blk (b := sp) (by (with_reducible (repeat (first | exact Tk.here | apply Tk.there))))).cell 0).trans rfl; have k2 : w3.cell? ⟨bb, off + 18, none⟩ = some (.int .u8 z) := HZ.out ▸ at_cell (H3.vvB (v := .slice (some ⟨bb, off, none⟩) l.length vc) (l := l) (by (with_reducible (repeat (first | exact Tk.here | apply Tk.there))))) 18 (by omega))
            | fail)
        rcases (show vc = n ∨ ¬ vc = n by omega) with hcn0 | hcn0
        · clear H H3 k1 k2 k3 k4
          have H := H4
          clear H4
          rw [HBL.out] at H
          replace H := bod_push ⟨z, .slice a3 (n - 19) c3, (l.take n).drop 19⟩ (H.toVB (by (with_reducible (repeat (first | exact Tk.here | apply Tk.there))))) (by (with_reducible (repeat (first | exact Tk.here | apply Tk.there)))) (by (with_reducible (repeat (first | exact Tk.here | apply Tk.there))))
          have hcn : (vc = n) = True := eq_true hcn0
          clear hcn0
          have hq := HQ1.out
          simp only [hcn, if_true] at hq
          have HQQ := Lib.hid hq
          clear hq
          go_wp2_with (first | (first | ((with_reducible refine Ow.absorb H ?_); clear H; intro w H) | ((with_reducible refine Ow.absorbCalls H ?_); clear H; intro w H) | (with_reducible refine wpList_ld1 H (by with_unfolding_all exact rfl) (by with_unfolding_all exact rfl) (by (repeat (first | exact Tk.here | apply Tk.there))) (by decide +kernel) (by with_unfolding_all exact rfl) (by (first | exact Pt.n | (apply Pt.s; repeat (first | exact SetAt.z | apply SetAt.s)))) ?_) | (with_reducible refine wpList_ldN H (by with_unfolding_all exact rfl) (by with_unfolding_all exact rfl) (by (repeat (first | exact Tk.here | apply Tk.there))) (by (repeat (first | exact Len.z | apply Len.s))) (by decide +kernel) (by (first | exact Pt.n | (apply Pt.s; repeat (first | exact SetAt.z | apply SetAt.s)))) ?_) | ((with_reducible refine wpList_st1 H (by with_unfolding_all exact rfl) (by with_unfolding_all exact rfl) (by (first | exact Ev.c | (apply Ev.t; repeat (first | exact Nth.z | apply Nth.s)))) (by (repeat (first | exact Tk.here | apply Tk.there))) (by decide +kernel) (by with_unfolding_all exact rfl) (by (repeat (first | exact SetAt.z | apply SetAt.s))) (by (first | exact Pt.n | (apply Pt.s; repeat (first | exact SetAt.z | apply SetAt.s)))) ?_); clear H; intro w H) | ((with_reducible refine wpList_stN H (by with_unfolding_all exact rfl) (by with_unfolding_all exact rfl) (by (first | exact Ev.c | (apply Ev.t; repeat (first | exact Nth.z | apply Nth.s)))) (by (repeat (first | exact Tk.here | apply Tk.there))) (by (repeat (first | exact Len.z | apply Len.s))) (by (repeat (first | exact Len.z | apply Len.s))) (by decide +kernel) (by with_unfolding_all exact rfl) (by (first | exact Pt.n | (apply Pt.s; repeat (first | exact SetAt.z | apply SetAt.s)))) ?_); clear H; intro w H)) | (at_builtin; (with_reducible refine wpList_apB0 bytesEl H (by (first | exact Ev.c | (apply Ev.t; repeat (first | exact Nth.z | apply Nth.s)))) (by (first | exact Ev.c | (apply Ev.t; repeat (first | exact Nth.z | apply Nth.s)))) (by (with_reducible (repeat (first | exact Tk.here | apply Tk.there)))) (HQQ.out _ (H.vvB (by (with_reducible (repeat (first | exact Tk.here | apply Tk.there)))))) (by simp; omega) ?_); clear H; intro a6 c6 w _ _ H; (simp only [Act.put, List.setIfInBounds_toArray, List.set_cons_zero, List.set_cons_succ])))
          have H7 := H.toVB (v := .slice a6 (List.drop n l).length c6) (by (with_reducible (repeat (first | exact Tk.here | apply Tk.there))))
          refine ⟨⟨es ++ [⟨z, .slice a3 (n - 19) c3, (l.take n).drop 19⟩], l.drop n, .slice a6 (l.drop n).length c6, ms2, fun x hx => HY.out x (List.drop_subset _ _ hx), by simp; omega, HPR.out, by simpa [Ms.pair, HZ.out] using HMS.out, by simp, ?_⟩, ?_⟩
          · rw [List.length_append, msCells_append]
            exact H7.sel (by (first | ((with_reducible (repeat (first | exact Sb.nil | apply Sb.cons | exact Tk.here | apply Tk.there))); done) | (repeat (first | exact Sb.nil | apply Sb.cons | exact Tk.here | apply Tk.there))))
          · have hlen5 := rheldLen_own H7 (sp := sp) (by (with_reducible (repeat (first | exact Tk.here | apply Tk.there)))) (l := l.drop n) (by (with_reducible (repeat (first | exact Tk.here | apply Tk.there))))
            rw [hlen5, HLR.out]
            simp
            omega
        · clear H H3 k1 k2 k3 k4
          have H := H4
          clear H4
          rw [HBL.out] at H
          replace H := bod_push ⟨z, .slice a3 (n - 19) c3, (l.take n).drop 19⟩ (H.toVB (by (with_reducible (repeat (first | exact Tk.here | apply Tk.there))))) (by (with_reducible (repeat (first | exact Tk.here | apply Tk.there)))) (by (with_reducible (repeat (first | exact Tk.here | apply Tk.there))))
          have hcn : ¬ vc = n := hcn0
          clear hcn0
          have hq := HQ1.out
          simp only [hcn, if_false] at hq
          have HQQ := Lib.hid hq
          clear hq
          go_wp2_with (first | (first | ((with_reducible refine Ow.absorb H ?_); clear H; intro w H) | ((with_reducible refine Ow.absorbCalls H ?_); clear H; intro w H) | (with_reducible refine wpList_ld1 H (by with_unfolding_all exact rfl) (by with_unfolding_all exact rfl) (by (repeat (first | exact Tk.here | apply Tk.there))) (by decide +kernel) (by with_unfolding_all exact rfl) (by (first | exact Pt.n | (apply Pt.s; repeat (first | exact SetAt.z | apply SetAt.s)))) ?_) | (with_reducible refine wpList_ldN H (by with_unfolding_all exact rfl) (by with_unfolding_all exact rfl) (by (repeat (first | exact Tk.here | apply Tk.there))) (by (repeat (first | exact Len.z | apply Len.s))) (by decide +kernel) (by (first | exact Pt.n | (apply Pt.s; repeat (first | exact SetAt.z | apply SetAt.s)))) ?_) | ((with_reducible refine wpList_st1 H (by with_unfolding_all exact rfl) (by with_unfolding_all exact rfl) (by (first | exact Ev.c | (apply Ev.t; repeat (first | exact Nth.z | apply Nth.s)))) (by (repeat (first | exact Tk.here | apply Tk.there))) (by decide +kernel) (by with_unfolding_all exact rfl) (by (repeat (first | exact SetAt.z | apply SetAt.s))) (by (first | exact Pt.n | (apply Pt.s; repeat (first | exact SetAt.z | apply SetAt.s)))) ?_); clear H; intro w H) | ((with_reducible refine wpList_stN H (by with_unfolding_all exact rfl) (by with_unfolding_all exact rfl) (by (first | exact Ev.c | (apply Ev.t; repeat (first | exact Nth.z | apply Nth.s)))) (by (repeat (first | exact Tk.here | apply Tk.there))) (by (repeat (first | exact Len.z | apply Len.s))) (by (repeat (first | exact Len.z | apply Len.s))) (by decide +kernel) (by with_unfolding_all exact rfl) (by (first | exact Pt.n | (apply Pt.s; repeat (first | exact SetAt.z | apply SetAt.s)))) ?_); clear H; intro w H)) | (at_builtin; (with_reducible refine wpList_apB0 bytesEl H (by (first | exact Ev.c | (apply Ev.t; repeat (first | exact Nth.z | apply Nth.s)))) (by (first | exact Ev.c | (apply Ev.t; repeat (first | exact Nth.z | apply Nth.s)))) (by (with_reducible (repeat (first | exact Tk.here | apply Tk.there)))) (HQQ.out _ (H.vvB (by (with_reducible (repeat (first | exact Tk.here | apply Tk.there)))))) (by simp; omega) ?_); clear H; intro a6 c6 w _ _ H; (simp only [Act.put, List.setIfInBounds_toArray, List.set_cons_zero, List.set_cons_succ])))
          have H7 := H.toVB (v := .slice a6 (List.drop n l).length c6) (by (with_reducible (repeat (first | exact Tk.here | apply Tk.there))))
          refine ⟨⟨es ++ [⟨z, .slice a3 (n - 19) c3, (l.take n).drop 19⟩], l.drop n, .slice a6 (l.drop n).length c6, ms2, fun x hx => HY.out x (List.drop_subset _ _ hx), by simp; omega, HPR.out, by simpa [Ms.pair, HZ.out] using HMS.out, by simp, ?_⟩, ?_⟩
          · rw [List.length_append, msCells_append]
            exact H7.sel (by (first | ((with_reducible (repeat (first | exact Sb.nil | apply Sb.cons | exact Tk.here | apply Tk.there))); done) | (repeat (first | exact Sb.nil | apply Sb.cons | exact Tk.here | apply Tk.there))))
          · have hlen5 := rheldLen_own H7 (sp := sp) (by (with_reducible (repeat (first | exact Tk.here | apply Tk.there)))) (l := l.drop n) (by (with_reducible (repeat (first | exact Tk.here | apply Tk.there))))
            rw [hlen5, HLR.out]
            simp
            omega
end Go.Proofs.Ytcpoaghogpkagaa
