/-
  MarkBack: for all kinds, bodies and cuts the law returns true and leaves its arguments alone (no condition).
-/
import Derived.Test.YtcpoaghogpkagaaMarkPieces
import Derived.Deep.CutBlock
namespace Go.Proofs.Ytcpoaghogpkagaa
set_option linter.unusedSimpArgs false
set_option linter.unusedVariables false
open Go.RowKit Go.Pm


theorem fits_len {k n : Int} (h : fitsB k n = true) : 19 ≤ n ∧ n ≤ 4096 := by
  have hk := fits_kind h
  have hk5 : k = 1 ∨ k = 2 ∨ k = 3 ∨ k = 4 ∨ k = 5 := by omega
  unfold fitsB least most at h
  rcases hk5 with rfl | rfl | rfl | rfl | rfl <;> simp [known] at h <;> omega

theorem msgB_length (k : Int) (l : List Int) : (msgB k l).length = 19 + l.length := by
  unfold msgB
  simp
  omega
theorem msgB_at (k : Int) (l : List Int) : (msgB k l).take 16 = List.replicate 16 255 ∧ at_ (msgB k l) 16 = (19 + (l.length : Int)) / 256 ∧ at_ (msgB k l) 17 = (19 + (l.length : Int)) % 256 ∧ at_ (msgB k l) 18 = k ∧ (msgB k l).drop 19 = l := by
  have h1 : (List.replicate 16 (255 : Int)).length = 16 := List.length_replicate
  refine ⟨?_, rfl, rfl, rfl, rfl⟩
  unfold msgB
  rw [List.append_assoc, List.take_append_of_le_length (by rw [h1]; omega), List.take_of_length_le (by rw [h1]; omega)]

theorem msg_parses (k : Int) (l : List Int) (h : fitsB k (19 + l.length) = true) : Parses (msgB k l) [(k, l)] none [] := by
  obtain ⟨h1, h2, h3, h4, h5⟩ := msgB_at k l
  have hl := msgB_length k l
  have hn := fits_len h
  have hlen : lenOf (msgB k l) = (19 + l.length : Nat) := by unfold lenOf; rw [h2, h3]; omega
  have ht16 : ((msgB k l).take 19).take 16 = List.replicate 16 255 := by rw [List.take_take]; exact h1
  have hc : checkF ((msgB k l).take 19) = none := by
    unfold checkF
    rw [if_neg (by rw [ht16]; simp), lenOf_take _ _ (by omega), hlen, if_neg (by omega), at_take _ _ _ (by omega), h4]
    have hk := fits_kind h
    rw [if_neg (by unfold known; simp; omega), if_pos (by simpa using h)]
  have ht : ((msgB k l).take (19 + l.length)).drop 19 = l := by rw [List.take_of_length_le (by omega)]; exact h5
  have hd : (msgB k l).drop (19 + l.length) = [] := List.drop_of_length_le (by omega)
  have := Parses.msg (msgB k l) (19 + l.length) [] none [] (by omega) hlen (by omega) hc (by rw [hd]; exact .short _ (by simp))
  rwa [h4, ht] at this

def BackJ1 (W : World) (K : Hl) (k : Nat) (s7 s8 : Value) (w : World) : Prop :=
  ∃ (all : List Int) (es : List Ms) (ms : List (Int × List Int)) (la : Option Addr) (lc : Nat) (lb : Option Addr) (ld : Nat), Byte all ∧ Parses all ms none [] ∧ es.map Ms.pair = ms ∧ all.length ≤ k * 4200 ∧ es.length ≤ k ∧ s7 = .slice la all.length lc ∧ s8 = .slice lb es.length ld ∧
    Ow W K [SlB 5 (.slice la all.length lc) all, Sl 50 2 (.slice lb es.length ld) es.length (msCells es), Bod es] w

def BodyAt (W : World) (K : Hl) (L : List HP) (v : Value) (w : World) : Prop := ∃ ba bl bc, v = .slice ba bl.length bc ∧ bl.length ≤ 4078 ∧ Byte bl ∧ Ow W K (SlB 5 (.slice ba bl.length bc) bl :: L) w

/-- An argument's numbers. -/
def Ints (W : World) (a : Option Addr) (n : Nat) : Prop := n = 0 ∨ ∃ (b off : Nat) (zs : Nat → Int), a = some ⟨b, off, none⟩ ∧ b < W.heap.size ∧ ∀ i, i < n → W.cell? ⟨b, off + i, none⟩ = some (.int .i64 (zs i)) ∧ -9223372036854775808 ≤ zs i ∧ zs i ≤ 9223372036854775807
def Byteses (W : World) (a : Option Addr) (n : Nat) : Prop := n = 0 ∨ ∃ (b off : Nat) (ps : Nat → Value × List Int), a = some ⟨b, off, none⟩ ∧ b < W.heap.size ∧ ∀ i, i < n → W.cell? ⟨b, off + i, none⟩ = some (ps i).1 ∧ VwB W (ps i).1 (ps i).2 ∧ Byte (ps i).2

def BackJ2 (W : World) (K : Hl) (sp : Nat) (all : List Int) (L : List HP) (s7 s14 s15 : Value) (w : World) : Prop :=
  ∃ (k : Nat) (pre rest : List Int) (es1 : List Ms) (ms1 : List (Int × List Int)) (r : List Int) (la : Option Addr) (lc : Nat) (lg : Option Addr) (lgc : Nat),
    pre ++ rest = all ∧ Parses pre ms1 none r ∧ es1.map Ms.pair = ms1 ∧ s7 = .slice la rest.length lc ∧ s14 = .slice lg es1.length lgc ∧ s15 = .int .i64 k ∧ (k ≤ 30 ∨ rest = []) ∧ k ≤ 31 ∧
    Ow W K (VB (.slice la rest.length lc) rest :: Spl sp r false :: Sl 53 2 (.slice lg es1.length lgc) es1.length (msCells es1) :: Bod es1 :: L) w

set_option maxRecDepth 100000 in
set_option maxHeartbeats 4000000 in
theorem back_walk (W : World) (a1 : Option Addr) (n1 c1 : Nat) (a2 : Option Addr) (n2 c2 : Nat) (a3 : Option Addr) (n3 c3 : Nat) (hn1 : n1 ≤ 9223372036854775807) (hn2 : n2 ≤ 9223372036854775807) (hn3 : n3 ≤ 9223372036854775807)
    (h1 : Ints W a1 n1) (h2 : Byteses W a2 n2) (h3 : Ints W a3 n3) :
    Calls Try.prog 5 #[.slice a1 n1 c1, .slice a2 n2 c2, .slice a3 n3 c3] W fun e w' => e = .returned (.bool true) ∧ Only [] W w' := by
  have H := Ow.start W
  obtain ⟨K, hK⟩ : ∃ K, K = World.all W := ⟨_, rfl⟩
  rw [← hK] at H
  have HK := Lib.hid hK
  have H1 := Lib.hid h1
  have H2 := Lib.hid h2
  have H3 := Lib.hid h3
  clear hK h1 h2 h3
  go_enter Try.func5, Try.ntmps5
  go_wp2_with (first | ((with_reducible refine Ow.absorb H ?_); clear H; intro w H) | ((with_reducible refine Ow.absorbCalls H ?_); clear H; intro w H) | (with_reducible refine wpList_ld1 H (by with_unfolding_all exact rfl) (by with_unfolding_all exact rfl) (by (repeat (first | exact Tk.here | apply Tk.there))) (by decide +kernel) (by with_unfolding_all exact rfl) (by (first | exact Pt.n | (apply Pt.s; repeat (first | exact SetAt.z | apply SetAt.s)))) ?_) | (with_reducible refine wpList_ldN H (by with_unfolding_all exact rfl) (by with_unfolding_all exact rfl) (by (repeat (first | exact Tk.here | apply Tk.there))) (by (repeat (first | exact Len.z | apply Len.s))) (by decide +kernel) (by (first | exact Pt.n | (apply Pt.s; repeat (first | exact SetAt.z | apply SetAt.s)))) ?_) | ((with_reducible refine wpList_st1 H (by with_unfolding_all exact rfl) (by with_unfolding_all exact rfl) (by (first | exact Ev.c | (apply Ev.t; repeat (first | exact Nth.z | apply Nth.s)))) (by (repeat (first | exact Tk.here | apply Tk.there))) (by decide +kernel) (by with_unfolding_all exact rfl) (by (repeat (first | exact SetAt.z | apply SetAt.s))) (by (first | exact Pt.n | (apply Pt.s; repeat (first | exact SetAt.z | apply SetAt.s)))) ?_); clear H; intro w H) | ((with_reducible refine wpList_stN H (by with_unfolding_all exact rfl) (by with_unfolding_all exact rfl) (by (first | exact Ev.c | (apply Ev.t; repeat (first | exact Nth.z | apply Nth.s)))) (by (repeat (first | exact Tk.here | apply Tk.there))) (by (repeat (first | exact Len.z | apply Len.s))) (by (repeat (first | exact Len.z | apply Len.s))) (by decide +kernel) (by with_unfolding_all exact rfl) (by (first | exact Pt.n | (apply Pt.s; repeat (first | exact SetAt.z | apply SetAt.s)))) ?_); clear H; intro w H))
  refine (works_any _).mono ?_
  rintro e w1 ⟨rfl, hw1⟩
  replace H := H.only hw1
  clear hw1
  go_upto_block 0 with (first | ((with_reducible refine Ow.absorb H ?_); clear H; intro w H) | ((with_reducible refine Ow.absorbCalls H ?_); clear H; intro w H) | (with_reducible refine wpList_ld1 H (by with_unfolding_all exact rfl) (by with_unfolding_all exact rfl) (by (repeat (first | exact Tk.here | apply Tk.there))) (by decide +kernel) (by with_unfolding_all exact rfl) (by (first | exact Pt.n | (apply Pt.s; repeat (first | exact SetAt.z | apply SetAt.s)))) ?_) | (with_reducible refine wpList_ldN H (by with_unfolding_all exact rfl) (by with_unfolding_all exact rfl) (by (repeat (first | exact Tk.here | apply Tk.there))) (by (repeat (first | exact Len.z | apply Len.s))) (by decide +kernel) (by (first | exact Pt.n | (apply Pt.s; repeat (first | exact SetAt.z | apply SetAt.s)))) ?_) | ((with_reducible refine wpList_st1 H (by with_unfolding_all exact rfl) (by with_unfolding_all exact rfl) (by (first | exact Ev.c | (apply Ev.t; repeat (first | exact Nth.z | apply Nth.s)))) (by (repeat (first | exact Tk.here | apply Tk.there))) (by decide +kernel) (by with_unfolding_all exact rfl) (by (repeat (first | exact SetAt.z | apply SetAt.s))) (by (first | exact Pt.n | (apply Pt.s; repeat (first | exact SetAt.z | apply SetAt.s)))) ?_); clear H; intro w H) | ((with_reducible refine wpList_stN H (by with_unfolding_all exact rfl) (by with_unfolding_all exact rfl) (by (first | exact Ev.c | (apply Ev.t; repeat (first | exact Nth.z | apply Nth.s)))) (by (repeat (first | exact Tk.here | apply Tk.there))) (by (repeat (first | exact Len.z | apply Len.s))) (by (repeat (first | exact Len.z | apply Len.s))) (by decide +kernel) (by with_unfolding_all exact rfl) (by (first | exact Pt.n | (apply Pt.s; repeat (first | exact SetAt.z | apply SetAt.s)))) ?_); clear H; intro w H))
  have HJ : Hid (∀ la lb, Ow W K [SlB 5 (.slice la 0 0) [], Sl 50 2 (.slice lb 0 0) 0 [], sats []] w → BackJ1 W K 0 (.slice la 0 0) (.slice lb 0 0) w) :=
    fun la lb hH => ⟨[], [], [], la, 0, lb, 0, by simp [Byte], .short [] (by simp), rfl, by simp, by simp, rfl, rfl, hH⟩
  replace H := ((H.litB (e := 5) (l := []) (cs := []) (n := 0) (by (with_reducible (repeat (first | exact Tk.here | apply Tk.there)))) rfl rfl (by simp [maxLen])).slLit (n := 0) (sz := 2) (cs := []) (e := 50) (by (with_reducible (repeat (first | exact Tk.here | apply Tk.there)))) rfl (by simp [maxLen])).satsNil
  go_cut [7, 8] (fun s7 s8 wx => ∃ k : Nat, k ≤ 8 ∧ BackJ1 W K k s7 s8 wx)
  case first =>
    go_wp2_with (first | ((with_reducible refine Ow.absorb H ?_); clear H; intro w H) | ((with_reducible refine Ow.absorbCalls H ?_); clear H; intro w H) | (with_reducible refine wpList_ld1 H (by with_unfolding_all exact rfl) (by with_unfolding_all exact rfl) (by (repeat (first | exact Tk.here | apply Tk.there))) (by decide +kernel) (by with_unfolding_all exact rfl) (by (first | exact Pt.n | (apply Pt.s; repeat (first | exact SetAt.z | apply SetAt.s)))) ?_) | (with_reducible refine wpList_ldN H (by with_unfolding_all exact rfl) (by with_unfolding_all exact rfl) (by (repeat (first | exact Tk.here | apply Tk.there))) (by (repeat (first | exact Len.z | apply Len.s))) (by decide +kernel) (by (first | exact Pt.n | (apply Pt.s; repeat (first | exact SetAt.z | apply SetAt.s)))) ?_) | ((with_reducible refine wpList_st1 H (by with_unfolding_all exact rfl) (by with_unfolding_all exact rfl) (by (first | exact Ev.c | (apply Ev.t; repeat (first | exact Nth.z | apply Nth.s)))) (by (repeat (first | exact Tk.here | apply Tk.there))) (by decide +kernel) (by with_unfolding_all exact rfl) (by (repeat (first | exact SetAt.z | apply SetAt.s))) (by (first | exact Pt.n | (apply Pt.s; repeat (first | exact SetAt.z | apply SetAt.s)))) ?_); clear H; intro w H) | ((with_reducible refine wpList_stN H (by with_unfolding_all exact rfl) (by with_unfolding_all exact rfl) (by (first | exact Ev.c | (apply Ev.t; repeat (first | exact Nth.z | apply Nth.s)))) (by (repeat (first | exact Tk.here | apply Tk.there))) (by (repeat (first | exact Len.z | apply Len.s))) (by (repeat (first | exact Len.z | apply Len.s))) (by decide +kernel) (by with_unfolding_all exact rfl) (by (first | exact Pt.n | (apply Pt.s; repeat (first | exact SetAt.z | apply SetAt.s)))) ?_); clear H; intro w H))
    go_loopw [7, 8, 9] (fun s7 s8 s9 wr => ∃ k : Nat, k ≤ 8 ∧ s9 = .int .i64 k ∧ BackJ1 W K k s7 s8 wr) (fun _ _ s9 _ => 8 - (intOf s9).toNat)
    case atStart => exact ⟨0, by omega, rfl, HJ.out _ _ (H.sel (by (first | ((with_reducible (repeat (first | exact Sb.nil | apply Sb.cons | exact Tk.here | apply Tk.there))); done) | (repeat (first | exact Sb.nil | apply Sb.cons | exact Tk.here | apply Tk.there)))))⟩
    case round =>
      clear HJ H
      obtain ⟨k, hk, rfl, all, es, ms, la, lc, lb, ld, hby, hp, hes, hal, hel, rfl, rfl, H⟩ := hrel
      obtain ⟨w, rfl⟩ : ∃ w, w = wr := ⟨_, rfl⟩
      have HBY := Lib.hid hby
      have HP := Lib.hid hp
      have HES := Lib.hid hes
      clear hby hp hes
      by_cases hk1 : k < n1 ∧ k < 8
      · obtain ⟨hk1, hk8⟩ := hk1
        have hpp : ∃ (b off : Nat) (zs : Nat → Int), a1 = some ⟨b, off, none⟩ ∧ b < W.heap.size ∧ ∀ i, i < n1 → W.cell? ⟨b, off + i, none⟩ = some (.int .i64 (zs i)) ∧ -9223372036854775808 ≤ zs i ∧ zs i ≤ 9223372036854775807 := by
          rcases H1.out with h | h
          · omega
          · exact h
        obtain ⟨kb, ko, zs, rfl, hkl, hzs⟩ := hpp
        obtain ⟨g1, g2, g3⟩ := hzs k hk1
        generalize zs k = z at *
        have HC1 : Hid (∀ X, Only [] W X → X.cell? ⟨kb, ko + k, none⟩ = some (.int .i64 z)) := fun X hX => (hX.cell hkl (by simp) _).trans g1
        have hki : (k : Int) < (n1 : Int) := by omega
        clear hzs g1 hkl H1
        go_upto_if 38 with (first | ((with_reducible refine Ow.absorb H ?_); clear H; intro w H) | ((with_reducible refine Ow.absorbCalls H ?_); clear H; intro w H) | (with_reducible refine wpList_ld1 H (by with_unfolding_all exact rfl) (by with_unfolding_all exact rfl) (by (repeat (first | exact Tk.here | apply Tk.there))) (by decide +kernel) (by with_unfolding_all exact rfl) (by (first | exact Pt.n | (apply Pt.s; repeat (first | exact SetAt.z | apply SetAt.s)))) ?_) | (with_reducible refine wpList_ldN H (by with_unfolding_all exact rfl) (by with_unfolding_all exact rfl) (by (repeat (first | exact Tk.here | apply Tk.there))) (by (repeat (first | exact Len.z | apply Len.s))) (by decide +kernel) (by (first | exact Pt.n | (apply Pt.s; repeat (first | exact SetAt.z | apply SetAt.s)))) ?_) | ((with_reducible refine wpList_st1 H (by with_unfolding_all exact rfl) (by with_unfolding_all exact rfl) (by (first | exact Ev.c | (apply Ev.t; repeat (first | exact Nth.z | apply Nth.s)))) (by (repeat (first | exact Tk.here | apply Tk.there))) (by decide +kernel) (by with_unfolding_all exact rfl) (by (repeat (first | exact SetAt.z | apply SetAt.s))) (by (first | exact Pt.n | (apply Pt.s; repeat (first | exact SetAt.z | apply SetAt.s)))) ?_); clear H; intro w H) | ((with_reducible refine wpList_stN H (by with_unfolding_all exact rfl) (by with_unfolding_all exact rfl) (by (first | exact Ev.c | (apply Ev.t; repeat (first | exact Nth.z | apply Nth.s)))) (by (repeat (first | exact Tk.here | apply Tk.there))) (by (repeat (first | exact Len.z | apply Len.s))) (by (repeat (first | exact Len.z | apply Len.s))) (by decide +kernel) (by with_unfolding_all exact rfl) (by (first | exact Pt.n | (apply Pt.s; repeat (first | exact SetAt.z | apply SetAt.s)))) ?_); clear H; intro w H))
        go_cut [10] (fun s10 wx => BodyAt W K [SlB 5 (.slice la all.length lc) all, Sl 50 2 (.slice lb es.length ld) es.length (msCells es), Bod es] s10 wx)
        case first =>
          by_cases hb : k < n2
          · have hpp : ∃ (b off : Nat) (ps : Nat → Value × List Int), a2 = some ⟨b, off, none⟩ ∧ b < W.heap.size ∧ ∀ i, i < n2 → W.cell? ⟨b, off + i, none⟩ = some (ps i).1 ∧ VwB W (ps i).1 (ps i).2 ∧ Byte (ps i).2 := by
              rcases H2.out with h | h
              · omega
              · exact h
            obtain ⟨bb, bo, ps, rfl, hbl, hps⟩ := hpp
            obtain ⟨q1, q2, q3⟩ := hps k hb
            obtain ⟨pa, pc, hpv, _, _⟩ := q2.shape
            rw [hpv] at q1 q2
            have HO : Hid (Only [] W w) := by have := H; rw [HK.out] at this; exact this.fin
            have e1 : w.cell? ⟨bb, bo + k, none⟩ = some (.slice pa (ps k).2.length pc) := (HO.out.cell hbl (by simp) _).trans q1
            have HPV := Lib.hid (q2.only HO.out)
            have HPY := Lib.hid q3
            clear q1 q2 q3 hps hpv hbl H2
            generalize (ps k).2 = p at *
            have hbi : (k : Int) < (n2 : Int) := by omega
            go_wp2_with (first | ((with_reducible refine Ow.absorb H ?_); clear H; intro w H) | ((with_reducible refine Ow.absorbCalls H ?_); clear H; intro w H) | (with_reducible refine wpList_ld1 H (by with_unfolding_all exact rfl) (by with_unfolding_all exact rfl) (by (repeat (first | exact Tk.here | apply Tk.there))) (by decide +kernel) (by with_unfolding_all exact rfl) (by (first | exact Pt.n | (apply Pt.s; repeat (first | exact SetAt.z | apply SetAt.s)))) ?_) | (with_reducible refine wpList_ldN H (by with_unfolding_all exact rfl) (by with_unfolding_all exact rfl) (by (repeat (first | exact Tk.here | apply Tk.there))) (by (repeat (first | exact Len.z | apply Len.s))) (by decide +kernel) (by (first | exact Pt.n | (apply Pt.s; repeat (first | exact SetAt.z | apply SetAt.s)))) ?_) | ((with_reducible refine wpList_st1 H (by with_unfolding_all exact rfl) (by with_unfolding_all exact rfl) (by (first | exact Ev.c | (apply Ev.t; repeat (first | exact Nth.z | apply Nth.s)))) (by (repeat (first | exact Tk.here | apply Tk.there))) (by decide +kernel) (by with_unfolding_all exact rfl) (by (repeat (first | exact SetAt.z | apply SetAt.s))) (by (first | exact Pt.n | (apply Pt.s; repeat (first | exact SetAt.z | apply SetAt.s)))) ?_); clear H; intro w H) | ((with_reducible refine wpList_stN H (by with_unfolding_all exact rfl) (by with_unfolding_all exact rfl) (by (first | exact Ev.c | (apply Ev.t; repeat (first | exact Nth.z | apply Nth.s)))) (by (repeat (first | exact Tk.here | apply Tk.there))) (by (repeat (first | exact Len.z | apply Len.s))) (by (repeat (first | exact Len.z | apply Len.s))) (by decide +kernel) (by with_unfolding_all exact rfl) (by (first | exact Pt.n | (apply Pt.s; repeat (first | exact SetAt.z | apply SetAt.s)))) ?_); clear H; intro w H))
            refine (body_any _ _ (Only.refl _ _) _ p HPV.out).mono ?_
            rintro e w5 ⟨v5, rfl, ho5, hw5⟩
            replace H := H.freshB hw5 ho5
            obtain ⟨a5, c5, hv5, _, _⟩ := (H.vwB (v := v5) (by (with_reducible (repeat (first | exact Tk.here | apply Tk.there))))).shape
            subst hv5
            clear ho5 hw5
            go_wp2_with (first | ((with_reducible refine Ow.absorb H ?_); clear H; intro w H) | ((with_reducible refine Ow.absorbCalls H ?_); clear H; intro w H) | (with_reducible refine wpList_ld1 H (by with_unfolding_all exact rfl) (by with_unfolding_all exact rfl) (by (repeat (first | exact Tk.here | apply Tk.there))) (by decide +kernel) (by with_unfolding_all exact rfl) (by (first | exact Pt.n | (apply Pt.s; repeat (first | exact SetAt.z | apply SetAt.s)))) ?_) | (with_reducible refine wpList_ldN H (by with_unfolding_all exact rfl) (by with_unfolding_all exact rfl) (by (repeat (first | exact Tk.here | apply Tk.there))) (by (repeat (first | exact Len.z | apply Len.s))) (by decide +kernel) (by (first | exact Pt.n | (apply Pt.s; repeat (first | exact SetAt.z | apply SetAt.s)))) ?_) | ((with_reducible refine wpList_st1 H (by with_unfolding_all exact rfl) (by with_unfolding_all exact rfl) (by (first | exact Ev.c | (apply Ev.t; repeat (first | exact Nth.z | apply Nth.s)))) (by (repeat (first | exact Tk.here | apply Tk.there))) (by decide +kernel) (by with_unfolding_all exact rfl) (by (repeat (first | exact SetAt.z | apply SetAt.s))) (by (first | exact Pt.n | (apply Pt.s; repeat (first | exact SetAt.z | apply SetAt.s)))) ?_); clear H; intro w H) | ((with_reducible refine wpList_stN H (by with_unfolding_all exact rfl) (by with_unfolding_all exact rfl) (by (first | exact Ev.c | (apply Ev.t; repeat (first | exact Nth.z | apply Nth.s)))) (by (repeat (first | exact Tk.here | apply Tk.there))) (by (repeat (first | exact Len.z | apply Len.s))) (by (repeat (first | exact Len.z | apply Len.s))) (by decide +kernel) (by with_unfolding_all exact rfl) (by (first | exact Pt.n | (apply Pt.s; repeat (first | exact SetAt.z | apply SetAt.s)))) ?_); clear H; intro w H))
            go_meet
            exact ⟨_, _, _, rfl, bodyL_len p, byte_bodyL HPY.out, H.sel (by (first | ((with_reducible (repeat (first | exact Sb.nil | apply Sb.cons | exact Tk.here | apply Tk.there))); done) | (repeat (first | exact Sb.nil | apply Sb.cons | exact Tk.here | apply Tk.there))))⟩
          · go_wp2_with (first | ((with_reducible refine Ow.absorb H ?_); clear H; intro w H) | ((with_reducible refine Ow.absorbCalls H ?_); clear H; intro w H) | (with_reducible refine wpList_ld1 H (by with_unfolding_all exact rfl) (by with_unfolding_all exact rfl) (by (repeat (first | exact Tk.here | apply Tk.there))) (by decide +kernel) (by with_unfolding_all exact rfl) (by (first | exact Pt.n | (apply Pt.s; repeat (first | exact SetAt.z | apply SetAt.s)))) ?_) | (with_reducible refine wpList_ldN H (by with_unfolding_all exact rfl) (by with_unfolding_all exact rfl) (by (repeat (first | exact Tk.here | apply Tk.there))) (by (repeat (first | exact Len.z | apply Len.s))) (by decide +kernel) (by (first | exact Pt.n | (apply Pt.s; repeat (first | exact SetAt.z | apply SetAt.s)))) ?_) | ((with_reducible refine wpList_st1 H (by with_unfolding_all exact rfl) (by with_unfolding_all exact rfl) (by (first | exact Ev.c | (apply Ev.t; repeat (first | exact Nth.z | apply Nth.s)))) (by (repeat (first | exact Tk.here | apply Tk.there))) (by decide +kernel) (by with_unfolding_all exact rfl) (by (repeat (first | exact SetAt.z | apply SetAt.s))) (by (first | exact Pt.n | (apply Pt.s; repeat (first | exact SetAt.z | apply SetAt.s)))) ?_); clear H; intro w H) | ((with_reducible refine wpList_stN H (by with_unfolding_all exact rfl) (by with_unfolding_all exact rfl) (by (first | exact Ev.c | (apply Ev.t; repeat (first | exact Nth.z | apply Nth.s)))) (by (repeat (first | exact Tk.here | apply Tk.there))) (by (repeat (first | exact Len.z | apply Len.s))) (by (repeat (first | exact Len.z | apply Len.s))) (by decide +kernel) (by with_unfolding_all exact rfl) (by (first | exact Pt.n | (apply Pt.s; repeat (first | exact SetAt.z | apply SetAt.s)))) ?_); clear H; intro w H))
            go_meet
            have H5 := H.litB (e := 5) (l := []) (cs := []) (n := 0) (by (with_reducible (repeat (first | exact Tk.here | apply Tk.there)))) rfl rfl (by simp [maxLen])
            exact ⟨_, [], 0, rfl, by simp, by simp [Byte], H5.sel (by (first | ((with_reducible (repeat (first | exact Sb.nil | apply Sb.cons | exact Tk.here | apply Tk.there))); done) | (repeat (first | exact Sb.nil | apply Sb.cons | exact Tk.here | apply Tk.there))))⟩
        case rest =>
          clear H
          rename World => w4
          obtain ⟨ba, bl, bc, rfl, hbl, hblb, H⟩ := hcut
          obtain ⟨w, rfl⟩ : ∃ w, w = w4 := ⟨_, rfl⟩
          have HBB := Lib.hid hblb
          have HO : Hid (Only [] W w) := by have := H; rw [HK.out] at this; exact this.fin
          have e2 : w.cell? ⟨kb, ko + k, none⟩ = some (.int .i64 z) := HC1.out _ HO.out
          clear hblb
          by_cases hfit : fitsB z (19 + bl.length) = true
          · have HF := Lib.hid hfit
            have hml : (msgB z bl).length ≤ 4097 := by rw [msgB_length]; omega
            clear hfit
            go_wp2_with (first | ((with_reducible refine Ow.absorb H ?_); clear H; intro w H) | ((with_reducible refine Ow.absorbCalls H ?_); clear H; intro w H) | (with_reducible refine wpList_ld1 H (by with_unfolding_all exact rfl) (by with_unfolding_all exact rfl) (by (repeat (first | exact Tk.here | apply Tk.there))) (by decide +kernel) (by with_unfolding_all exact rfl) (by (first | exact Pt.n | (apply Pt.s; repeat (first | exact SetAt.z | apply SetAt.s)))) ?_) | (with_reducible refine wpList_ldN H (by with_unfolding_all exact rfl) (by with_unfolding_all exact rfl) (by (repeat (first | exact Tk.here | apply Tk.there))) (by (repeat (first | exact Len.z | apply Len.s))) (by decide +kernel) (by (first | exact Pt.n | (apply Pt.s; repeat (first | exact SetAt.z | apply SetAt.s)))) ?_) | ((with_reducible refine wpList_st1 H (by with_unfolding_all exact rfl) (by with_unfolding_all exact rfl) (by (first | exact Ev.c | (apply Ev.t; repeat (first | exact Nth.z | apply Nth.s)))) (by (repeat (first | exact Tk.here | apply Tk.there))) (by decide +kernel) (by with_unfolding_all exact rfl) (by (repeat (first | exact SetAt.z | apply SetAt.s))) (by (first | exact Pt.n | (apply Pt.s; repeat (first | exact SetAt.z | apply SetAt.s)))) ?_); clear H; intro w H) | ((with_reducible refine wpList_stN H (by with_unfolding_all exact rfl) (by with_unfolding_all exact rfl) (by (first | exact Ev.c | (apply Ev.t; repeat (first | exact Nth.z | apply Nth.s)))) (by (repeat (first | exact Tk.here | apply Tk.there))) (by (repeat (first | exact Len.z | apply Len.s))) (by (repeat (first | exact Len.z | apply Len.s))) (by decide +kernel) (by with_unfolding_all exact rfl) (by (first | exact Pt.n | (apply Pt.s; repeat (first | exact SetAt.z | apply SetAt.s)))) ?_); clear H; intro w H))
            refine (build_yes _ _ (Only.refl _ _) z _ bl (H.vwB (by (with_reducible (repeat (first | exact Tk.here | apply Tk.there))))) (by omega) HF.out).mono ?_
            rintro e w5 ⟨v5, rfl, ho5, hw5⟩
            replace H := H.freshB hw5 ho5
            obtain ⟨a5, c5, hv5, _, _⟩ := (H.vwB (v := v5) (by (with_reducible (repeat (first | exact Tk.here | apply Tk.there))))).shape
            subst hv5
            clear ho5 hw5 e2
            go_upto_region 14 with (first | (first | ((with_reducible refine Ow.absorb H ?_); clear H; intro w H) | ((with_reducible refine Ow.absorbCalls H ?_); clear H; intro w H) | (with_reducible refine wpList_ld1 H (by with_unfolding_all exact rfl) (by with_unfolding_all exact rfl) (by (repeat (first | exact Tk.here | apply Tk.there))) (by decide +kernel) (by with_unfolding_all exact rfl) (by (first | exact Pt.n | (apply Pt.s; repeat (first | exact SetAt.z | apply SetAt.s)))) ?_) | (with_reducible refine wpList_ldN H (by with_unfolding_all exact rfl) (by with_unfolding_all exact rfl) (by (repeat (first | exact Tk.here | apply Tk.there))) (by (repeat (first | exact Len.z | apply Len.s))) (by decide +kernel) (by (first | exact Pt.n | (apply Pt.s; repeat (first | exact SetAt.z | apply SetAt.s)))) ?_) | ((with_reducible refine wpList_st1 H (by with_unfolding_all exact rfl) (by with_unfolding_all exact rfl) (by (first | exact Ev.c | (apply Ev.t; repeat (first | exact Nth.z | apply Nth.s)))) (by (repeat (first | exact Tk.here | apply Tk.there))) (by decide +kernel) (by with_unfolding_all exact rfl) (by (repeat (first | exact SetAt.z | apply SetAt.s))) (by (first | exact Pt.n | (apply Pt.s; repeat (first | exact SetAt.z | apply SetAt.s)))) ?_); clear H; intro w H) | ((with_reducible refine wpList_stN H (by with_unfolding_all exact rfl) (by with_unfolding_all exact rfl) (by (first | exact Ev.c | (apply Ev.t; repeat (first | exact Nth.z | apply Nth.s)))) (by (repeat (first | exact Tk.here | apply Tk.there))) (by (repeat (first | exact Len.z | apply Len.s))) (by (repeat (first | exact Len.z | apply Len.s))) (by decide +kernel) (by with_unfolding_all exact rfl) (by (first | exact Pt.n | (apply Pt.s; repeat (first | exact SetAt.z | apply SetAt.s)))) ?_); clear H; intro w H)) | (at_builtin; (with_reducible refine wpList_apB bytesEl H (by (first | exact Ev.c | (apply Ev.t; repeat (first | exact Nth.z | apply Nth.s)))) (by (first | exact Ev.c | (apply Ev.t; repeat (first | exact Nth.z | apply Nth.s)))) (by (with_reducible (repeat (first | exact Tk.here | apply Tk.there)))) (H.vwB (by (with_reducible (repeat (first | exact Tk.here | apply Tk.there))))) (by omega) ?_); clear H; intro a6 c6 w _ _ H; (simp only [Act.put, List.setIfInBounds_toArray, List.set_cons_zero, List.set_cons_succ])))
            have e2 : w.cell? ⟨kb, ko + k, none⟩ = some (.int .i64 z) := HC1.out _ (by have := H; rw [HK.out] at this; exact this.fin)
            go_wp2_with (first | (first | ((with_reducible refine Ow.absorb H ?_); clear H; intro w H) | ((with_reducible refine Ow.absorbCalls H ?_); clear H; intro w H) | (with_reducible refine wpList_ld1 H (by with_unfolding_all exact rfl) (by with_unfolding_all exact rfl) (by (repeat (first | exact Tk.here | apply Tk.there))) (by decide +kernel) (by with_unfolding_all exact rfl) (by (first | exact Pt.n | (apply Pt.s; repeat (first | exact SetAt.z | apply SetAt.s)))) ?_) | (with_reducible refine wpList_ldN H (by with_unfolding_all exact rfl) (by with_unfolding_all exact rfl) (by (repeat (first | exact Tk.here | apply Tk.there))) (by (repeat (first | exact Len.z | apply Len.s))) (by decide +kernel) (by (first | exact Pt.n | (apply Pt.s; repeat (first | exact SetAt.z | apply SetAt.s)))) ?_) | ((with_reducible refine wpList_st1 H (by with_unfolding_all exact rfl) (by with_unfolding_all exact rfl) (by (first | exact Ev.c | (apply Ev.t; repeat (first | exact Nth.z | apply Nth.s)))) (by (repeat (first | exact Tk.here | apply Tk.there))) (by decide +kernel) (by with_unfolding_all exact rfl) (by (repeat (first | exact SetAt.z | apply SetAt.s))) (by (first | exact Pt.n | (apply Pt.s; repeat (first | exact SetAt.z | apply SetAt.s)))) ?_); clear H; intro w H) | ((with_reducible refine wpList_stN H (by with_unfolding_all exact rfl) (by with_unfolding_all exact rfl) (by (first | exact Ev.c | (apply Ev.t; repeat (first | exact Nth.z | apply Nth.s)))) (by (repeat (first | exact Tk.here | apply Tk.there))) (by (repeat (first | exact Len.z | apply Len.s))) (by (repeat (first | exact Len.z | apply Len.s))) (by decide +kernel) (by with_unfolding_all exact rfl) (by (first | exact Pt.n | (apply Pt.s; repeat (first | exact SetAt.z | apply SetAt.s)))) ?_); clear H; intro w H)) | (at_builtin; (with_reducible refine wpList_ap1 rmsgsEl H (by (first | exact Ev.c | (apply Ev.t; repeat (first | exact Nth.z | apply Nth.s)))) (by (first | exact Ev.c | (apply Ev.t; repeat (first | exact Nth.z | apply Nth.s)))) (by (with_reducible (repeat (first | exact Tk.here | apply Tk.there)))) (by (with_reducible (repeat (first | exact Tk.here | apply Tk.there)))) (by (repeat (first | exact Len.z | apply Len.s))) rfl rfl (by omega) ?_); clear H; intro a7 c7 w _ _ H; (simp only [Act.put, List.setIfInBounds_toArray, List.set_cons_zero, List.set_cons_succ])))
            go_roundw
            case rel =>
              have H7 := bod_push ⟨z, .slice ba bl.length bc, bl⟩ (H.toVB (v := .slice ba bl.length bc) (by (with_reducible (repeat (first | exact Tk.here | apply Tk.there))))) (by (with_reducible (repeat (first | exact Tk.here | apply Tk.there)))) (by (with_reducible (repeat (first | exact Tk.here | apply Tk.there))))
              have hk := fits_kind HF.out
              refine ⟨k + 1, by omega, by go_num, all ++ msgB z bl, es ++ [⟨z, .slice ba bl.length bc, bl⟩], ms ++ [(z, bl)], a6, c6, a7, c7, HBY.out.append (byte_msgB z bl HBB.out (by omega) (by omega)), (parses_app HP.out (msgB z bl)).1 rfl _ _ _ (msg_parses z bl HF.out), by simp [HES.out, Ms.pair], by simp; omega, by simp; omega, by rw [List.length_append], by simp, ?_⟩
              simp only [List.length_append, List.length_cons, List.length_nil, msCells_append, Nat.zero_add]
              exact H7.sel (by (first | ((with_reducible (repeat (first | exact Sb.nil | apply Sb.cons | exact Tk.here | apply Tk.there))); done) | (repeat (first | exact Sb.nil | apply Sb.cons | exact Tk.here | apply Tk.there))))
            case measure => simp [intOf]; omega
          · go_wp2_with (first | ((with_reducible refine Ow.absorb H ?_); clear H; intro w H) | ((with_reducible refine Ow.absorbCalls H ?_); clear H; intro w H) | (with_reducible refine wpList_ld1 H (by with_unfolding_all exact rfl) (by with_unfolding_all exact rfl) (by (repeat (first | exact Tk.here | apply Tk.there))) (by decide +kernel) (by with_unfolding_all exact rfl) (by (first | exact Pt.n | (apply Pt.s; repeat (first | exact SetAt.z | apply SetAt.s)))) ?_) | (with_reducible refine wpList_ldN H (by with_unfolding_all exact rfl) (by with_unfolding_all exact rfl) (by (repeat (first | exact Tk.here | apply Tk.there))) (by (repeat (first | exact Len.z | apply Len.s))) (by decide +kernel) (by (first | exact Pt.n | (apply Pt.s; repeat (first | exact SetAt.z | apply SetAt.s)))) ?_) | ((with_reducible refine wpList_st1 H (by with_unfolding_all exact rfl) (by with_unfolding_all exact rfl) (by (first | exact Ev.c | (apply Ev.t; repeat (first | exact Nth.z | apply Nth.s)))) (by (repeat (first | exact Tk.here | apply Tk.there))) (by decide +kernel) (by with_unfolding_all exact rfl) (by (repeat (first | exact SetAt.z | apply SetAt.s))) (by (first | exact Pt.n | (apply Pt.s; repeat (first | exact SetAt.z | apply SetAt.s)))) ?_); clear H; intro w H) | ((with_reducible refine wpList_stN H (by with_unfolding_all exact rfl) (by with_unfolding_all exact rfl) (by (first | exact Ev.c | (apply Ev.t; repeat (first | exact Nth.z | apply Nth.s)))) (by (repeat (first | exact Tk.here | apply Tk.there))) (by (repeat (first | exact Len.z | apply Len.s))) (by (repeat (first | exact Len.z | apply Len.s))) (by decide +kernel) (by with_unfolding_all exact rfl) (by (first | exact Pt.n | (apply Pt.s; repeat (first | exact SetAt.z | apply SetAt.s)))) ?_); clear H; intro w H))
            refine (build_no _ z _ _ _ (by omega) (fun h => hfit h.2)).mono ?_
            rintro e w5 ⟨rfl, rfl⟩
            go_wp2_with (first | ((with_reducible refine Ow.absorb H ?_); clear H; intro w H) | ((with_reducible refine Ow.absorbCalls H ?_); clear H; intro w H) | (with_reducible refine wpList_ld1 H (by with_unfolding_all exact rfl) (by with_unfolding_all exact rfl) (by (repeat (first | exact Tk.here | apply Tk.there))) (by decide +kernel) (by with_unfolding_all exact rfl) (by (first | exact Pt.n | (apply Pt.s; repeat (first | exact SetAt.z | apply SetAt.s)))) ?_) | (with_reducible refine wpList_ldN H (by with_unfolding_all exact rfl) (by with_unfolding_all exact rfl) (by (repeat (first | exact Tk.here | apply Tk.there))) (by (repeat (first | exact Len.z | apply Len.s))) (by decide +kernel) (by (first | exact Pt.n | (apply Pt.s; repeat (first | exact SetAt.z | apply SetAt.s)))) ?_) | ((with_reducible refine wpList_st1 H (by with_unfolding_all exact rfl) (by with_unfolding_all exact rfl) (by (first | exact Ev.c | (apply Ev.t; repeat (first | exact Nth.z | apply Nth.s)))) (by (repeat (first | exact Tk.here | apply Tk.there))) (by decide +kernel) (by with_unfolding_all exact rfl) (by (repeat (first | exact SetAt.z | apply SetAt.s))) (by (first | exact Pt.n | (apply Pt.s; repeat (first | exact SetAt.z | apply SetAt.s)))) ?_); clear H; intro w H) | ((with_reducible refine wpList_stN H (by with_unfolding_all exact rfl) (by with_unfolding_all exact rfl) (by (first | exact Ev.c | (apply Ev.t; repeat (first | exact Nth.z | apply Nth.s)))) (by (repeat (first | exact Tk.here | apply Tk.there))) (by (repeat (first | exact Len.z | apply Len.s))) (by (repeat (first | exact Len.z | apply Len.s))) (by decide +kernel) (by with_unfolding_all exact rfl) (by (first | exact Pt.n | (apply Pt.s; repeat (first | exact SetAt.z | apply SetAt.s)))) ?_); clear H; intro w H))
            go_roundw
            case rel => exact ⟨k + 1, by omega, by go_num, all, es, ms, la, lc, lb, ld, HBY.out, HP.out, HES.out, by omega, by omega, rfl, rfl, H.sel (by (first | ((with_reducible (repeat (first | exact Sb.nil | apply Sb.cons | exact Tk.here | apply Tk.there))); done) | (repeat (first | exact Sb.nil | apply Sb.cons | exact Tk.here | apply Tk.there))))⟩
            case measure => simp [intOf]; omega
      · have hx : n1 ≤ k ∨ (k < n1 ∧ k = 8) := by omega
        rcases hx with hx | ⟨hx, rfl⟩
        all_goals
          go_wp2_with (first | ((with_reducible refine Ow.absorb H ?_); clear H; intro w H) | ((with_reducible refine Ow.absorbCalls H ?_); clear H; intro w H) | (with_reducible refine wpList_ld1 H (by with_unfolding_all exact rfl) (by with_unfolding_all exact rfl) (by (repeat (first | exact Tk.here | apply Tk.there))) (by decide +kernel) (by with_unfolding_all exact rfl) (by (first | exact Pt.n | (apply Pt.s; repeat (first | exact SetAt.z | apply SetAt.s)))) ?_) | (with_reducible refine wpList_ldN H (by with_unfolding_all exact rfl) (by with_unfolding_all exact rfl) (by (repeat (first | exact Tk.here | apply Tk.there))) (by (repeat (first | exact Len.z | apply Len.s))) (by decide +kernel) (by (first | exact Pt.n | (apply Pt.s; repeat (first | exact SetAt.z | apply SetAt.s)))) ?_) | ((with_reducible refine wpList_st1 H (by with_unfolding_all exact rfl) (by with_unfolding_all exact rfl) (by (first | exact Ev.c | (apply Ev.t; repeat (first | exact Nth.z | apply Nth.s)))) (by (repeat (first | exact Tk.here | apply Tk.there))) (by decide +kernel) (by with_unfolding_all exact rfl) (by (repeat (first | exact SetAt.z | apply SetAt.s))) (by (first | exact Pt.n | (apply Pt.s; repeat (first | exact SetAt.z | apply SetAt.s)))) ?_); clear H; intro w H) | ((with_reducible refine wpList_stN H (by with_unfolding_all exact rfl) (by with_unfolding_all exact rfl) (by (first | exact Ev.c | (apply Ev.t; repeat (first | exact Nth.z | apply Nth.s)))) (by (repeat (first | exact Tk.here | apply Tk.there))) (by (repeat (first | exact Len.z | apply Len.s))) (by (repeat (first | exact Len.z | apply Len.s))) (by decide +kernel) (by with_unfolding_all exact rfl) (by (first | exact Pt.n | (apply Pt.s; repeat (first | exact SetAt.z | apply SetAt.s)))) ?_); clear H; intro w H))
          go_meet
          exact ⟨_, hk, all, es, ms, la, lc, lb, ld, HBY.out, HP.out, HES.out, hal, hel, rfl, rfl, H⟩
  case rest =>
    clear HJ H
    rename World => w2
    obtain ⟨k, hk, all, es, ms, la, lc, lb, ld, hby, hp, hes, hal, hel, rfl, rfl, H⟩ := hcut
    obtain ⟨w, rfl⟩ : ∃ w, w = w2 := ⟨_, rfl⟩
    have HBY := Lib.hid hby
    have HP := Lib.hid hp
    have HES := Lib.hid hes
    clear hby hp hes
    go_wp2_with (first | ((with_reducible refine Ow.absorb H ?_); clear H; intro w H) | ((with_reducible refine Ow.absorbCalls H ?_); clear H; intro w H) | (with_reducible refine wpList_ld1 H (by with_unfolding_all exact rfl) (by with_unfolding_all exact rfl) (by (repeat (first | exact Tk.here | apply Tk.there))) (by decide +kernel) (by with_unfolding_all exact rfl) (by (first | exact Pt.n | (apply Pt.s; repeat (first | exact SetAt.z | apply SetAt.s)))) ?_) | (with_reducible refine wpList_ldN H (by with_unfolding_all exact rfl) (by with_unfolding_all exact rfl) (by (repeat (first | exact Tk.here | apply Tk.there))) (by (repeat (first | exact Len.z | apply Len.s))) (by decide +kernel) (by (first | exact Pt.n | (apply Pt.s; repeat (first | exact SetAt.z | apply SetAt.s)))) ?_) | ((with_reducible refine wpList_st1 H (by with_unfolding_all exact rfl) (by with_unfolding_all exact rfl) (by (first | exact Ev.c | (apply Ev.t; repeat (first | exact Nth.z | apply Nth.s)))) (by (repeat (first | exact Tk.here | apply Tk.there))) (by decide +kernel) (by with_unfolding_all exact rfl) (by (repeat (first | exact SetAt.z | apply SetAt.s))) (by (first | exact Pt.n | (apply Pt.s; repeat (first | exact SetAt.z | apply SetAt.s)))) ?_); clear H; intro w H) | ((with_reducible refine wpList_stN H (by with_unfolding_all exact rfl) (by with_unfolding_all exact rfl) (by (first | exact Ev.c | (apply Ev.t; repeat (first | exact Nth.z | apply Nth.s)))) (by (repeat (first | exact Tk.here | apply Tk.there))) (by (repeat (first | exact Len.z | apply Len.s))) (by (repeat (first | exact Len.z | apply Len.s))) (by decide +kernel) (by with_unfolding_all exact rfl) (by (first | exact Pt.n | (apply Pt.s; repeat (first | exact SetAt.z | apply SetAt.s)))) ?_); clear H; intro w H))
    refine (new_any _).mono ?_
    rintro e w3 ⟨rfl, hs3, hw3⟩
    replace H := H.freshPts hw3 hs3
    clear hs3 hw3
    generalize w.heap.size = sp at *
    have H4 := (H.vbNil).shut (A := Spl sp [] false) (M := [pts sp [_, .bool true, .bool false] 56, VB _ []]) (by (first | ((with_reducible (repeat (first | exact Sb.nil | apply Sb.cons | exact Tk.here | apply Tk.there))); done) | (repeat (first | exact Sb.nil | apply Sb.cons | exact Tk.here | apply Tk.there)))) (fun k hk => ⟨_, hk⟩)
    clear H
    have H := H4.toVB (v := .slice la all.length lc) (by (with_reducible (repeat (first | exact Tk.here | apply Tk.there))))
    clear H4
    go_wp2_with (first | ((with_reducible refine Ow.absorb H ?_); clear H; intro w H) | ((with_reducible refine Ow.absorbCalls H ?_); clear H; intro w H) | (with_reducible refine wpList_ld1 H (by with_unfolding_all exact rfl) (by with_unfolding_all exact rfl) (by (repeat (first | exact Tk.here | apply Tk.there))) (by decide +kernel) (by with_unfolding_all exact rfl) (by (first | exact Pt.n | (apply Pt.s; repeat (first | exact SetAt.z | apply SetAt.s)))) ?_) | (with_reducible refine wpList_ldN H (by with_unfolding_all exact rfl) (by with_unfolding_all exact rfl) (by (repeat (first | exact Tk.here | apply Tk.there))) (by (repeat (first | exact Len.z | apply Len.s))) (by decide +kernel) (by (first | exact Pt.n | (apply Pt.s; repeat (first | exact SetAt.z | apply SetAt.s)))) ?_) | ((with_reducible refine wpList_st1 H (by with_unfolding_all exact rfl) (by with_unfolding_all exact rfl) (by (first | exact Ev.c | (apply Ev.t; repeat (first | exact Nth.z | apply Nth.s)))) (by (repeat (first | exact Tk.here | apply Tk.there))) (by decide +kernel) (by with_unfolding_all exact rfl) (by (repeat (first | exact SetAt.z | apply SetAt.s))) (by (first | exact Pt.n | (apply Pt.s; repeat (first | exact SetAt.z | apply SetAt.s)))) ?_); clear H; intro w H) | ((with_reducible refine wpList_stN H (by with_unfolding_all exact rfl) (by with_unfolding_all exact rfl) (by (first | exact Ev.c | (apply Ev.t; repeat (first | exact Nth.z | apply Nth.s)))) (by (repeat (first | exact Tk.here | apply Tk.there))) (by (repeat (first | exact Len.z | apply Len.s))) (by (repeat (first | exact Len.z | apply Len.s))) (by decide +kernel) (by with_unfolding_all exact rfl) (by (first | exact Pt.n | (apply Pt.s; repeat (first | exact SetAt.z | apply SetAt.s)))) ?_); clear H; intro w H))
    replace H := (H.slLit (n := 0) (sz := 2) (cs := []) (e := 53) (by (with_reducible (repeat (first | exact Tk.here | apply Tk.there)))) rfl (by simp [maxLen])).satsNil
    have HJ : Hid (∀ lg, Ow W K [VB (.slice la all.length lc) all, Spl sp [] false, Sl 53 2 (.slice lg 0 0) 0 [], sats [], Sl 50 2 (.slice lb es.length ld) es.length (msCells es), Bod es] w → BackJ2 W K sp all [Sl 50 2 (.slice lb es.length ld) es.length (msCells es), Bod es] (.slice la all.length lc) (.slice lg 0 0) (.int .i64 (0 : Nat)) w) :=
      fun lg hH => ⟨0, [], all, [], [], [], la, lc, lg, 0, rfl, .short [] (by simp), rfl, rfl, rfl, rfl, by omega, by omega, hH⟩
    go_loopw [7, 14, 15] (fun s7 s14 s15 wr => BackJ2 W K sp all [Sl 50 2 (.slice lb es.length ld) es.length (msCells es), Bod es] s7 s14 s15 wr) (fun _ _ s15 _ => 31 - (intOf s15).toNat)
    case atStart => exact HJ.out _ (H.sel (by (first | ((with_reducible (repeat (first | exact Sb.nil | apply Sb.cons | exact Tk.here | apply Tk.there))); done) | (repeat (first | exact Sb.nil | apply Sb.cons | exact Tk.here | apply Tk.there)))))
    case round =>
      clear HJ H
      obtain ⟨k, pre, rest, es1, ms1, r, la2, lc2, lg, lgc, hpr, hpp, hes1, rfl, rfl, rfl, hk30, hk31, H⟩ := hrel
      obtain ⟨w, rfl⟩ : ∃ w, w = wr := ⟨_, rfl⟩
      have HPR := Lib.hid hpr
      have HPP := Lib.hid hpp
      have HES1 := Lib.hid hes1
      have hlen := congrArg List.length hpr
      simp at hlen
      obtain ⟨_, _, hvs, hlc, hlm⟩ := (H.vvB (v := .slice la2 rest.length lc2) (by (with_reducible (repeat (first | exact Tk.here | apply Tk.there))))).shape
      cases hvs
      unfold maxLen at hlm
      clear hpr hpp hes1
      by_cases hre : rest = []
      · subst hre
        have hpa : pre = all := by have := HPR.out; simpa using this
        subst hpa
        obtain ⟨rfl, _, rfl⟩ := parses_unique HP.out HPP.out
        have hmb := (byte_of_parses HBY.out HP.out).2.1
        obtain ⟨vx, H⟩ := H.open (A := Spl sp [] false) (by (with_reducible (repeat (first | exact Tk.here | apply Tk.there)))) (Bs := fun vb => [pts sp [vb, .bool true, .bool false] 56, VB vb []]) (fun _ h => h)
        simp only [List.cons_append, List.nil_append] at H
        have HM1 : Hid (MsV w (.slice lg es1.length lgc) es1) := ⟨H.vw (by (with_reducible (repeat (first | exact Tk.here | apply Tk.there)))), fun m hm => ⟨bods_v (es := es1) H (by (with_reducible (repeat (first | exact Tk.here | apply Tk.there)))) m hm, hmb m.pair (by rw [← HES1.out]; exact List.mem_map_of_mem hm)⟩⟩
        have HM2 : Hid (MsV w (.slice lb es.length ld) es) := ⟨H.vw (e := 50) (by (with_reducible (repeat (first | exact Tk.here | apply Tk.there)))), fun m hm => ⟨bods_v (es := es) H (by (with_reducible (repeat (first | exact Tk.here | apply Tk.there)))) m hm, hmb m.pair (by rw [← HES.out]; exact List.mem_map_of_mem hm)⟩⟩
        have HEQ : Hid (es1.map Ms.pair = es.map Ms.pair) := HES1.out.trans HES.out.symm
        clear hmb
        go_wp2_with (first
          | (first | ((with_reducible refine Ow.absorb H ?_); clear H; intro w H) | ((with_reducible refine Ow.absorbCalls H ?_); clear H; intro w H) | (with_reducible refine wpList_ld1 H (by with_unfolding_all exact rfl) (by with_unfolding_all exact rfl) (by (repeat (first | exact Tk.here | apply Tk.there))) (by decide +kernel) (by with_unfolding_all exact rfl) (by (first | exact Pt.n | (apply Pt.s; repeat (first | exact SetAt.z | apply SetAt.s)))) ?_) | (with_reducible refine wpList_ldN H (by with_unfolding_all exact rfl) (by with_unfolding_all exact rfl) (by (repeat (first | exact Tk.here | apply Tk.there))) (by (repeat (first | exact Len.z | apply Len.s))) (by decide +kernel) (by (first | exact Pt.n | (apply Pt.s; repeat (first | exact SetAt.z | apply SetAt.s)))) ?_) | ((with_reducible refine wpList_st1 H (by with_unfolding_all exact rfl) (by with_unfolding_all exact rfl) (by (first | exact Ev.c | (apply Ev.t; repeat (first | exact Nth.z | apply Nth.s)))) (by (repeat (first | exact Tk.here | apply Tk.there))) (by decide +kernel) (by with_unfolding_all exact rfl) (by (repeat (first | exact SetAt.z | apply SetAt.s))) (by (first | exact Pt.n | (apply Pt.s; repeat (first | exact SetAt.z | apply SetAt.s)))) ?_); clear H; intro w H) | ((with_reducible refine wpList_stN H (by with_unfolding_all exact rfl) (by with_unfolding_all exact rfl) (by (first | exact Ev.c | (apply Ev.t; repeat (first | exact Nth.z | apply Nth.s)))) (by (repeat (first | exact Tk.here | apply Tk.there))) (by (repeat (first | exact Len.z | apply Len.s))) (by (repeat (first | exact Len.z | apply Len.s))) (by decide +kernel) (by with_unfolding_all exact rfl) (by (first | exact Pt.n | (apply Pt.s; repeat (first | exact SetAt.z | apply SetAt.s)))) ?_); clear H; intro w H))
          | (go_at_call 17; (with_reducible refine (same_yes _ _ _ es1 es HM1.out HM2.out HEQ.out).mono ?_); rintro e w9 ⟨rfl, nn, rfl⟩; replace H := H.drewN nn)
          | (go_at_call 19; (with_reducible refine (held_any _ _ _ _ _ [] (H.blk (by (with_reducible (repeat (first | exact Tk.here | apply Tk.there))))) (H.vvB (by (with_reducible (repeat (first | exact Tk.here | apply Tk.there)))))).mono ?_); rintro e w10 ⟨rfl, rfl⟩))
        go_ret
        refine ⟨rfl, ?_⟩
        have := H
        rw [HK.out] at this
        exact this.fin
      · have HNE := Lib.hid hre
        have hr0 : 0 < rest.length := List.length_pos_iff.2 hre
        have hr0i : (0 : Int) < rest.length := by omega
        have hk30' : k ≤ 30 := by rcases hk30 with h | h; exact h; exact (hre h).elim
        clear hre hk30
        by_cases hc : k < n3 ∧ k < 30
        · obtain ⟨hc1, hc2⟩ := hc
          have hpp : ∃ (b off : Nat) (zs : Nat → Int), a3 = some ⟨b, off, none⟩ ∧ b < W.heap.size ∧ ∀ i, i < n3 → W.cell? ⟨b, off + i, none⟩ = some (.int .i64 (zs i)) ∧ -9223372036854775808 ≤ zs i ∧ zs i ≤ 9223372036854775807 := by
            rcases H3.out with h | h
            · omega
            · exact h
          obtain ⟨kb, ko, zs, rfl, hkl, hzs⟩ := hpp
          obtain ⟨g1, g2, g3⟩ := hzs k hc1
          have e1 : w.cell? ⟨kb, ko + k, none⟩ = some (.int .i64 (zs k)) := ((show Only [] W w from by have := H; rw [HK.out] at this; exact this.fin).cell hkl (by simp) _).trans g1
          generalize zs k = z at *
          clear hzs g1 H3
          go_wp2_with (first | ((with_reducible refine Ow.absorb H ?_); clear H; intro w H) | ((with_reducible refine Ow.absorbCalls H ?_); clear H; intro w H) | (with_reducible refine wpList_ld1 H (by with_unfolding_all exact rfl) (by with_unfolding_all exact rfl) (by (repeat (first | exact Tk.here | apply Tk.there))) (by decide +kernel) (by with_unfolding_all exact rfl) (by (first | exact Pt.n | (apply Pt.s; repeat (first | exact SetAt.z | apply SetAt.s)))) ?_) | (with_reducible refine wpList_ldN H (by with_unfolding_all exact rfl) (by with_unfolding_all exact rfl) (by (repeat (first | exact Tk.here | apply Tk.there))) (by (repeat (first | exact Len.z | apply Len.s))) (by decide +kernel) (by (first | exact Pt.n | (apply Pt.s; repeat (first | exact SetAt.z | apply SetAt.s)))) ?_) | ((with_reducible refine wpList_st1 H (by with_unfolding_all exact rfl) (by with_unfolding_all exact rfl) (by (first | exact Ev.c | (apply Ev.t; repeat (first | exact Nth.z | apply Nth.s)))) (by (repeat (first | exact Tk.here | apply Tk.there))) (by decide +kernel) (by with_unfolding_all exact rfl) (by (repeat (first | exact SetAt.z | apply SetAt.s))) (by (first | exact Pt.n | (apply Pt.s; repeat (first | exact SetAt.z | apply SetAt.s)))) ?_); clear H; intro w H) | ((with_reducible refine wpList_stN H (by with_unfolding_all exact rfl) (by with_unfolding_all exact rfl) (by (first | exact Ev.c | (apply Ev.t; repeat (first | exact Nth.z | apply Nth.s)))) (by (repeat (first | exact Tk.here | apply Tk.there))) (by (repeat (first | exact Len.z | apply Len.s))) (by (repeat (first | exact Len.z | apply Len.s))) (by decide +kernel) (by with_unfolding_all exact rfl) (by (first | exact Pt.n | (apply Pt.s; repeat (first | exact SetAt.z | apply SetAt.s)))) ?_); clear H; intro w H))
          refine (among_any _ _ _ (by omega) (by omega)).mono ?_
          rintro e w7 ⟨⟨n, rfl, hn⟩, rfl⟩
          have hnr : n ≤ rest.length := by omega
          clear e1
          have hNi : ((n : Nat) : Int) ≤ rest.length := by omega
          have hNlc : ((n : Nat) : Int) ≤ lc2 := by omega
          obtain ⟨ms2, f2, r2, hp2⟩ := parses_exists _ (r ++ rest.take (n)) (Nat.le_refl _)
          have happ := (parses_app HPP.out (rest.take (n))).1 rfl _ _ _ hp2
          have hf2 : f2 = none := by
            cases f2 with
            | none => rfl
            | some g =>
              have h2 := (parses_app happ (rest.drop (n))).2 g rfl
              rw [List.append_assoc, List.take_append_drop, HPR.out] at h2
              exact (by have := (parses_unique h2 HP.out).2.1; cases this)
          subst hf2
          have HAPP := Lib.hid happ
          have hrl : r.length ≤ pre.length := by have := parses_length HPP.out; omega
          have hrb : Byte r := (byte_of_parses (fun x hx => HBY.out x (by rw [← HPR.out]; exact List.mem_append_left _ hx)) HPP.out).1
          have hqb : Byte (rest.take (n)) := fun x hx => HBY.out x (by rw [← HPR.out]; exact List.mem_append_right _ (List.take_subset _ _ hx))
          obtain ⟨A, hA⟩ : ∃ A, (if lc2 = (n) then la2 else Option.map (fun x => x.add (n)) la2) = A := ⟨_, rfl⟩
          have HAB : Hid (A = la2.map (fun x => x.add (n)) ∨ (A = la2 ∧ ((n) = 0 ∨ rest.length - (n) = 0))) := by
            unfold Hid
            rw [← hA]
            by_cases h : lc2 = (n)
            · right; rw [if_pos h]; exact ⟨rfl, by omega⟩
            · left; rw [if_neg h]
          have HPB := Lib.hid hp2
          have HRB := Lib.hid hrb
          have HQB := Lib.hid hqb
          clear happ hp2 hrb hqb
          go_wp2_with (first | ((with_reducible refine Ow.absorb H ?_); clear H; intro w H) | ((with_reducible refine Ow.absorbCalls H ?_); clear H; intro w H) | (with_reducible refine wpList_ld1 H (by with_unfolding_all exact rfl) (by with_unfolding_all exact rfl) (by (repeat (first | exact Tk.here | apply Tk.there))) (by decide +kernel) (by with_unfolding_all exact rfl) (by (first | exact Pt.n | (apply Pt.s; repeat (first | exact SetAt.z | apply SetAt.s)))) ?_) | (with_reducible refine wpList_ldN H (by with_unfolding_all exact rfl) (by with_unfolding_all exact rfl) (by (repeat (first | exact Tk.here | apply Tk.there))) (by (repeat (first | exact Len.z | apply Len.s))) (by decide +kernel) (by (first | exact Pt.n | (apply Pt.s; repeat (first | exact SetAt.z | apply SetAt.s)))) ?_) | ((with_reducible refine wpList_st1 H (by with_unfolding_all exact rfl) (by with_unfolding_all exact rfl) (by (first | exact Ev.c | (apply Ev.t; repeat (first | exact Nth.z | apply Nth.s)))) (by (repeat (first | exact Tk.here | apply Tk.there))) (by decide +kernel) (by with_unfolding_all exact rfl) (by (repeat (first | exact SetAt.z | apply SetAt.s))) (by (first | exact Pt.n | (apply Pt.s; repeat (first | exact SetAt.z | apply SetAt.s)))) ?_); clear H; intro w H) | ((with_reducible refine wpList_stN H (by with_unfolding_all exact rfl) (by with_unfolding_all exact rfl) (by (first | exact Ev.c | (apply Ev.t; repeat (first | exact Nth.z | apply Nth.s)))) (by (repeat (first | exact Tk.here | apply Tk.there))) (by (repeat (first | exact Len.z | apply Len.s))) (by (repeat (first | exact Len.z | apply Len.s))) (by decide +kernel) (by with_unfolding_all exact rfl) (by (first | exact Pt.n | (apply Pt.s; repeat (first | exact SetAt.z | apply SetAt.s)))) ?_); clear H; intro w H))
          refine (feed_spec sp _ r (rest.take (n)) HRB.out HQB.out (by simp; omega) ms2 none r2 HPB.out).call H (by (first | ((with_reducible (repeat (first | exact Sb.nil | apply Sb.cons | exact Tk.here | apply Tk.there))); done) | (repeat (first | exact Sb.nil | apply Sb.cons | exact Tk.here | apply Tk.there)))) (Kr.tk (A := VB (.slice la2 rest.length lc2) rest) (by (with_reducible (repeat (first | exact Tk.here | apply Tk.there)))) (fun w h hA hi => VwB.pre (hA.vw hi) (by omega))) ?_
          rintro v L' ⟨lv, es2, fv, rfl, hes2, rfl⟩ w6 H6
          simp only [List.cons_append, List.nil_append] at H6
          clear H
          obtain ⟨fa3, fc3, rfl, H⟩ := fault_open (f := none) H6 (by (with_reducible (repeat (first | exact Tk.here | apply Tk.there))))
          obtain ⟨_, la3, lc3, rfl, _, _⟩ := H.slShape (e := 53) (v := lv) (by (with_reducible (repeat (first | exact Tk.here | apply Tk.there))))
          clear H6
          have HES2 := Lib.hid hes2
          have HV3 : Hid (∀ u ∈ msCells es2, u.oneCell' = true) := ms_one (bods_v (es := es2) H (by (with_reducible (repeat (first | exact Tk.here | apply Tk.there)))))
          have hel2 : es1.length + es2.length ≤ 100000 := by
            have q1 := parses_length HAPP.out
            have q2 := congrArg List.length HES1.out
            have q3 := congrArg List.length hes2
            have q4 := congrArg List.length HPR.out
            simp at q1 q2 q3 q4
            omega
          clear hes2
          go_wp2_with (first | (first | ((with_reducible refine Ow.absorb H ?_); clear H; intro w H) | ((with_reducible refine Ow.absorbCalls H ?_); clear H; intro w H) | (with_reducible refine wpList_ld1 H (by with_unfolding_all exact rfl) (by with_unfolding_all exact rfl) (by (repeat (first | exact Tk.here | apply Tk.there))) (by decide +kernel) (by with_unfolding_all exact rfl) (by (first | exact Pt.n | (apply Pt.s; repeat (first | exact SetAt.z | apply SetAt.s)))) ?_) | (with_reducible refine wpList_ldN H (by with_unfolding_all exact rfl) (by with_unfolding_all exact rfl) (by (repeat (first | exact Tk.here | apply Tk.there))) (by (repeat (first | exact Len.z | apply Len.s))) (by decide +kernel) (by (first | exact Pt.n | (apply Pt.s; repeat (first | exact SetAt.z | apply SetAt.s)))) ?_) | ((with_reducible refine wpList_st1 H (by with_unfolding_all exact rfl) (by with_unfolding_all exact rfl) (by (first | exact Ev.c | (apply Ev.t; repeat (first | exact Nth.z | apply Nth.s)))) (by (repeat (first | exact Tk.here | apply Tk.there))) (by decide +kernel) (by with_unfolding_all exact rfl) (by (repeat (first | exact SetAt.z | apply SetAt.s))) (by (first | exact Pt.n | (apply Pt.s; repeat (first | exact SetAt.z | apply SetAt.s)))) ?_); clear H; intro w H) | ((with_reducible refine wpList_stN H (by with_unfolding_all exact rfl) (by with_unfolding_all exact rfl) (by (first | exact Ev.c | (apply Ev.t; repeat (first | exact Nth.z | apply Nth.s)))) (by (repeat (first | exact Tk.here | apply Tk.there))) (by (repeat (first | exact Len.z | apply Len.s))) (by (repeat (first | exact Len.z | apply Len.s))) (by decide +kernel) (by with_unfolding_all exact rfl) (by (first | exact Pt.n | (apply Pt.s; repeat (first | exact SetAt.z | apply SetAt.s)))) ?_); clear H; intro w H)) | (at_builtin; (with_reducible refine wpList_apS msgsEl H (by (first | exact Ev.c | (apply Ev.t; repeat (first | exact Nth.z | apply Nth.s)))) (by (first | exact Ev.c | (apply Ev.t; repeat (first | exact Nth.z | apply Nth.s)))) (by (with_reducible (repeat (first | exact Tk.here | apply Tk.there)))) (H.vw (by (with_reducible (repeat (first | exact Tk.here | apply Tk.there))))) HV3.out (by omega) ?_); clear H; intro a5 c5 w _ _ H; (simp only [Act.put, List.setIfInBounds_toArray, List.set_cons_zero, List.set_cons_succ])))
          go_roundw
          case rel =>
            have hvv := vwB_part (H.vvB (v := .slice la2 rest.length lc2) (by (with_reducible (repeat (first | exact Tk.here | apply Tk.there))))) HAB.out (n' := rest.length - (n)) (C := lc2 - (n)) rfl (by omega) (by omega) (by omega)
            rw [List.take_of_length_le (by simp)] at hvv
            have hown : (Value.slice A (rest.length - (n)) (lc2 - (n))).ownBlock = (Value.slice la2 rest.length lc2).ownBlock := by
              rcases HAB.out with h | ⟨h, _⟩
              · rw [h]; cases la2 <;> simp [Value.ownBlock, Addr.add]; split <;> rfl
              · rw [h]; cases la2 <;> rfl
            have H7 := bod_append (es := es1) (fs := es2) (H.rebaseB (v := .slice la2 rest.length lc2) (l := rest) (by (with_reducible (repeat (first | exact Tk.here | apply Tk.there)))) HNE.out hvv hown) (by (first | ((with_reducible (repeat (first | exact Sb.nil | apply Sb.cons | exact Tk.here | apply Tk.there))); done) | (repeat (first | exact Sb.nil | apply Sb.cons | exact Tk.here | apply Tk.there))))
            refine ⟨k + 1, pre ++ rest.take (n), rest.drop (n), es1 ++ es2, ms1 ++ ms2, r2, A, lc2 - (n), a5, c5, by rw [List.append_assoc, List.take_append_drop, HPR.out], HAPP.out, by simp [HES1.out, HES2.out], by simp, by rw [List.length_append], by simp, by left; omega, by omega, ?_⟩
            rw [List.length_append, msCells_append, List.length_drop]
            exact H7.sel (by (first | ((with_reducible (repeat (first | exact Sb.nil | apply Sb.cons | exact Tk.here | apply Tk.there))); done) | (repeat (first | exact Sb.nil | apply Sb.cons | exact Tk.here | apply Tk.there))))
          case measure => simp [intOf]; omega
        · have hx : n3 ≤ k ∨ (k < n3 ∧ 30 ≤ k) := by omega
          clear hc
          rcases hx with hx | ⟨hx, hx30⟩
          · have hNi : ((rest.length : Nat) : Int) ≤ rest.length := by omega
            have hNlc : ((rest.length : Nat) : Int) ≤ lc2 := by omega
            obtain ⟨ms2, f2, r2, hp2⟩ := parses_exists _ (r ++ rest.take (rest.length)) (Nat.le_refl _)
            have happ := (parses_app HPP.out (rest.take (rest.length))).1 rfl _ _ _ hp2
            have hf2 : f2 = none := by
              cases f2 with
              | none => rfl
              | some g =>
                have h2 := (parses_app happ (rest.drop (rest.length))).2 g rfl
                rw [List.append_assoc, List.take_append_drop, HPR.out] at h2
                exact (by have := (parses_unique h2 HP.out).2.1; cases this)
            subst hf2
            have HAPP := Lib.hid happ
            have hrl : r.length ≤ pre.length := by have := parses_length HPP.out; omega
            have hrb : Byte r := (byte_of_parses (fun x hx => HBY.out x (by rw [← HPR.out]; exact List.mem_append_left _ hx)) HPP.out).1
            have hqb : Byte (rest.take (rest.length)) := fun x hx => HBY.out x (by rw [← HPR.out]; exact List.mem_append_right _ (List.take_subset _ _ hx))
            obtain ⟨A, hA⟩ : ∃ A, (if lc2 = (rest.length) then la2 else Option.map (fun x => x.add (rest.length)) la2) = A := ⟨_, rfl⟩
            have HAB : Hid (A = la2.map (fun x => x.add (rest.length)) ∨ (A = la2 ∧ ((rest.length) = 0 ∨ rest.length - (rest.length) = 0))) := by
              unfold Hid
              rw [← hA]
              by_cases h : lc2 = (rest.length)
              · right; rw [if_pos h]; exact ⟨rfl, by omega⟩
              · left; rw [if_neg h]
            have HPB := Lib.hid hp2
            have HRB := Lib.hid hrb
            have HQB := Lib.hid hqb
            clear happ hp2 hrb hqb
            go_wp2_with (first | ((with_reducible refine Ow.absorb H ?_); clear H; intro w H) | ((with_reducible refine Ow.absorbCalls H ?_); clear H; intro w H) | (with_reducible refine wpList_ld1 H (by with_unfolding_all exact rfl) (by with_unfolding_all exact rfl) (by (repeat (first | exact Tk.here | apply Tk.there))) (by decide +kernel) (by with_unfolding_all exact rfl) (by (first | exact Pt.n | (apply Pt.s; repeat (first | exact SetAt.z | apply SetAt.s)))) ?_) | (with_reducible refine wpList_ldN H (by with_unfolding_all exact rfl) (by with_unfolding_all exact rfl) (by (repeat (first | exact Tk.here | apply Tk.there))) (by (repeat (first | exact Len.z | apply Len.s))) (by decide +kernel) (by (first | exact Pt.n | (apply Pt.s; repeat (first | exact SetAt.z | apply SetAt.s)))) ?_) | ((with_reducible refine wpList_st1 H (by with_unfolding_all exact rfl) (by with_unfolding_all exact rfl) (by (first | exact Ev.c | (apply Ev.t; repeat (first | exact Nth.z | apply Nth.s)))) (by (repeat (first | exact Tk.here | apply Tk.there))) (by decide +kernel) (by with_unfolding_all exact rfl) (by (repeat (first | exact SetAt.z | apply SetAt.s))) (by (first | exact Pt.n | (apply Pt.s; repeat (first | exact SetAt.z | apply SetAt.s)))) ?_); clear H; intro w H) | ((with_reducible refine wpList_stN H (by with_unfolding_all exact rfl) (by with_unfolding_all exact rfl) (by (first | exact Ev.c | (apply Ev.t; repeat (first | exact Nth.z | apply Nth.s)))) (by (repeat (first | exact Tk.here | apply Tk.there))) (by (repeat (first | exact Len.z | apply Len.s))) (by (repeat (first | exact Len.z | apply Len.s))) (by decide +kernel) (by with_unfolding_all exact rfl) (by (first | exact Pt.n | (apply Pt.s; repeat (first | exact SetAt.z | apply SetAt.s)))) ?_); clear H; intro w H))
            refine (feed_spec sp _ r (rest.take (rest.length)) HRB.out HQB.out (by simp; omega) ms2 none r2 HPB.out).call H (by (first | ((with_reducible (repeat (first | exact Sb.nil | apply Sb.cons | exact Tk.here | apply Tk.there))); done) | (repeat (first | exact Sb.nil | apply Sb.cons | exact Tk.here | apply Tk.there)))) (Kr.tk (A := VB (.slice la2 rest.length lc2) rest) (by (with_reducible (repeat (first | exact Tk.here | apply Tk.there)))) (fun w h hA hi => VwB.pre (hA.vw hi) (by omega))) ?_
            rintro v L' ⟨lv, es2, fv, rfl, hes2, rfl⟩ w6 H6
            simp only [List.cons_append, List.nil_append] at H6
            clear H
            obtain ⟨fa3, fc3, rfl, H⟩ := fault_open (f := none) H6 (by (with_reducible (repeat (first | exact Tk.here | apply Tk.there))))
            obtain ⟨_, la3, lc3, rfl, _, _⟩ := H.slShape (e := 53) (v := lv) (by (with_reducible (repeat (first | exact Tk.here | apply Tk.there))))
            clear H6
            have HES2 := Lib.hid hes2
            have HV3 : Hid (∀ u ∈ msCells es2, u.oneCell' = true) := ms_one (bods_v (es := es2) H (by (with_reducible (repeat (first | exact Tk.here | apply Tk.there)))))
            have hel2 : es1.length + es2.length ≤ 100000 := by
              have q1 := parses_length HAPP.out
              have q2 := congrArg List.length HES1.out
              have q3 := congrArg List.length hes2
              have q4 := congrArg List.length HPR.out
              simp at q1 q2 q3 q4
              omega
            clear hes2
            go_wp2_with (first | (first | ((with_reducible refine Ow.absorb H ?_); clear H; intro w H) | ((with_reducible refine Ow.absorbCalls H ?_); clear H; intro w H) | (with_reducible refine wpList_ld1 H (by with_unfolding_all exact rfl) (by with_unfolding_all exact rfl) (by (repeat (first | exact Tk.here | apply Tk.there))) (by decide +kernel) (by with_unfolding_all exact rfl) (by (first | exact Pt.n | (apply Pt.s; repeat (first | exact SetAt.z | apply SetAt.s)))) ?_) | (with_reducible refine wpList_ldN H (by with_unfolding_all exact rfl) (by with_unfolding_all exact rfl) (by (repeat (first | exact Tk.here | apply Tk.there))) (by (repeat (first | exact Len.z | apply Len.s))) (by decide +kernel) (by (first | exact Pt.n | (apply Pt.s; repeat (first | exact SetAt.z | apply SetAt.s)))) ?_) | ((with_reducible refine wpList_st1 H (by with_unfolding_all exact rfl) (by with_unfolding_all exact rfl) (by (first | exact Ev.c | (apply Ev.t; repeat (first | exact Nth.z | apply Nth.s)))) (by (repeat (first | exact Tk.here | apply Tk.there))) (by decide +kernel) (by with_unfolding_all exact rfl) (by (repeat (first | exact SetAt.z | apply SetAt.s))) (by (first | exact Pt.n | (apply Pt.s; repeat (first | exact SetAt.z | apply SetAt.s)))) ?_); clear H; intro w H) | ((with_reducible refine wpList_stN H (by with_unfolding_all exact rfl) (by with_unfolding_all exact rfl) (by (first | exact Ev.c | (apply Ev.t; repeat (first | exact Nth.z | apply Nth.s)))) (by (repeat (first | exact Tk.here | apply Tk.there))) (by (repeat (first | exact Len.z | apply Len.s))) (by (repeat (first | exact Len.z | apply Len.s))) (by decide +kernel) (by with_unfolding_all exact rfl) (by (first | exact Pt.n | (apply Pt.s; repeat (first | exact SetAt.z | apply SetAt.s)))) ?_); clear H; intro w H)) | (at_builtin; (with_reducible refine wpList_apS msgsEl H (by (first | exact Ev.c | (apply Ev.t; repeat (first | exact Nth.z | apply Nth.s)))) (by (first | exact Ev.c | (apply Ev.t; repeat (first | exact Nth.z | apply Nth.s)))) (by (with_reducible (repeat (first | exact Tk.here | apply Tk.there)))) (H.vw (by (with_reducible (repeat (first | exact Tk.here | apply Tk.there))))) HV3.out (by omega) ?_); clear H; intro a5 c5 w _ _ H; (simp only [Act.put, List.setIfInBounds_toArray, List.set_cons_zero, List.set_cons_succ])))
            go_roundw
            case rel =>
              have hvv := vwB_part (H.vvB (v := .slice la2 rest.length lc2) (by (with_reducible (repeat (first | exact Tk.here | apply Tk.there))))) HAB.out (n' := rest.length - (rest.length)) (C := lc2 - (rest.length)) rfl (by omega) (by omega) (by omega)
              rw [List.take_of_length_le (by simp)] at hvv
              have hown : (Value.slice A (rest.length - (rest.length)) (lc2 - (rest.length))).ownBlock = (Value.slice la2 rest.length lc2).ownBlock := by
                rcases HAB.out with h | ⟨h, _⟩
                · rw [h]; cases la2 <;> simp [Value.ownBlock, Addr.add]; split <;> rfl
                · rw [h]; cases la2 <;> rfl
              have H7 := bod_append (es := es1) (fs := es2) (H.rebaseB (v := .slice la2 rest.length lc2) (l := rest) (by (with_reducible (repeat (first | exact Tk.here | apply Tk.there)))) HNE.out hvv hown) (by (first | ((with_reducible (repeat (first | exact Sb.nil | apply Sb.cons | exact Tk.here | apply Tk.there))); done) | (repeat (first | exact Sb.nil | apply Sb.cons | exact Tk.here | apply Tk.there))))
              refine ⟨k + 1, pre ++ rest.take (rest.length), rest.drop (rest.length), es1 ++ es2, ms1 ++ ms2, r2, A, lc2 - (rest.length), a5, c5, by rw [List.append_assoc, List.take_append_drop, HPR.out], HAPP.out, by simp [HES1.out, HES2.out], by simp, by rw [List.length_append], by simp, by right; simp, by omega, ?_⟩
              rw [List.length_append, msCells_append, List.length_drop]
              exact H7.sel (by (first | ((with_reducible (repeat (first | exact Sb.nil | apply Sb.cons | exact Tk.here | apply Tk.there))); done) | (repeat (first | exact Sb.nil | apply Sb.cons | exact Tk.here | apply Tk.there))))
            case measure => simp [intOf]; omega
          · have hNi : ((rest.length : Nat) : Int) ≤ rest.length := by omega
            have hNlc : ((rest.length : Nat) : Int) ≤ lc2 := by omega
            obtain ⟨ms2, f2, r2, hp2⟩ := parses_exists _ (r ++ rest.take (rest.length)) (Nat.le_refl _)
            have happ := (parses_app HPP.out (rest.take (rest.length))).1 rfl _ _ _ hp2
            have hf2 : f2 = none := by
              cases f2 with
              | none => rfl
              | some g =>
                have h2 := (parses_app happ (rest.drop (rest.length))).2 g rfl
                rw [List.append_assoc, List.take_append_drop, HPR.out] at h2
                exact (by have := (parses_unique h2 HP.out).2.1; cases this)
            subst hf2
            have HAPP := Lib.hid happ
            have hrl : r.length ≤ pre.length := by have := parses_length HPP.out; omega
            have hrb : Byte r := (byte_of_parses (fun x hx => HBY.out x (by rw [← HPR.out]; exact List.mem_append_left _ hx)) HPP.out).1
            have hqb : Byte (rest.take (rest.length)) := fun x hx => HBY.out x (by rw [← HPR.out]; exact List.mem_append_right _ (List.take_subset _ _ hx))
            obtain ⟨A, hA⟩ : ∃ A, (if lc2 = (rest.length) then la2 else Option.map (fun x => x.add (rest.length)) la2) = A := ⟨_, rfl⟩
            have HAB : Hid (A = la2.map (fun x => x.add (rest.length)) ∨ (A = la2 ∧ ((rest.length) = 0 ∨ rest.length - (rest.length) = 0))) := by
              unfold Hid
              rw [← hA]
              by_cases h : lc2 = (rest.length)
              · right; rw [if_pos h]; exact ⟨rfl, by omega⟩
              · left; rw [if_neg h]
            have HPB := Lib.hid hp2
            have HRB := Lib.hid hrb
            have HQB := Lib.hid hqb
            clear happ hp2 hrb hqb
            go_wp2_with (first | ((with_reducible refine Ow.absorb H ?_); clear H; intro w H) | ((with_reducible refine Ow.absorbCalls H ?_); clear H; intro w H) | (with_reducible refine wpList_ld1 H (by with_unfolding_all exact rfl) (by with_unfolding_all exact rfl) (by (repeat (first | exact Tk.here | apply Tk.there))) (by decide +kernel) (by with_unfolding_all exact rfl) (by (first | exact Pt.n | (apply Pt.s; repeat (first | exact SetAt.z | apply SetAt.s)))) ?_) | (with_reducible refine wpList_ldN H (by with_unfolding_all exact rfl) (by with_unfolding_all exact rfl) (by (repeat (first | exact Tk.here | apply Tk.there))) (by (repeat (first | exact Len.z | apply Len.s))) (by decide +kernel) (by (first | exact Pt.n | (apply Pt.s; repeat (first | exact SetAt.z | apply SetAt.s)))) ?_) | ((with_reducible refine wpList_st1 H (by with_unfolding_all exact rfl) (by with_unfolding_all exact rfl) (by (first | exact Ev.c | (apply Ev.t; repeat (first | exact Nth.z | apply Nth.s)))) (by (repeat (first | exact Tk.here | apply Tk.there))) (by decide +kernel) (by with_unfolding_all exact rfl) (by (repeat (first | exact SetAt.z | apply SetAt.s))) (by (first | exact Pt.n | (apply Pt.s; repeat (first | exact SetAt.z | apply SetAt.s)))) ?_); clear H; intro w H) | ((with_reducible refine wpList_stN H (by with_unfolding_all exact rfl) (by with_unfolding_all exact rfl) (by (first | exact Ev.c | (apply Ev.t; repeat (first | exact Nth.z | apply Nth.s)))) (by (repeat (first | exact Tk.here | apply Tk.there))) (by (repeat (first | exact Len.z | apply Len.s))) (by (repeat (first | exact Len.z | apply Len.s))) (by decide +kernel) (by with_unfolding_all exact rfl) (by (first | exact Pt.n | (apply Pt.s; repeat (first | exact SetAt.z | apply SetAt.s)))) ?_); clear H; intro w H))
            refine (feed_spec sp _ r (rest.take (rest.length)) HRB.out HQB.out (by simp; omega) ms2 none r2 HPB.out).call H (by (first | ((with_reducible (repeat (first | exact Sb.nil | apply Sb.cons | exact Tk.here | apply Tk.there))); done) | (repeat (first | exact Sb.nil | apply Sb.cons | exact Tk.here | apply Tk.there)))) (Kr.tk (A := VB (.slice la2 rest.length lc2) rest) (by (with_reducible (repeat (first | exact Tk.here | apply Tk.there)))) (fun w h hA hi => VwB.pre (hA.vw hi) (by omega))) ?_
            rintro v L' ⟨lv, es2, fv, rfl, hes2, rfl⟩ w6 H6
            simp only [List.cons_append, List.nil_append] at H6
            clear H
            obtain ⟨fa3, fc3, rfl, H⟩ := fault_open (f := none) H6 (by (with_reducible (repeat (first | exact Tk.here | apply Tk.there))))
            obtain ⟨_, la3, lc3, rfl, _, _⟩ := H.slShape (e := 53) (v := lv) (by (with_reducible (repeat (first | exact Tk.here | apply Tk.there))))
            clear H6
            have HES2 := Lib.hid hes2
            have HV3 : Hid (∀ u ∈ msCells es2, u.oneCell' = true) := ms_one (bods_v (es := es2) H (by (with_reducible (repeat (first | exact Tk.here | apply Tk.there)))))
            have hel2 : es1.length + es2.length ≤ 100000 := by
              have q1 := parses_length HAPP.out
              have q2 := congrArg List.length HES1.out
              have q3 := congrArg List.length hes2
              have q4 := congrArg List.length HPR.out
              simp at q1 q2 q3 q4
              omega
            clear hes2
            go_wp2_with (first | (first | ((with_reducible refine Ow.absorb H ?_); clear H; intro w H) | ((with_reducible refine Ow.absorbCalls H ?_); clear H; intro w H) | (with_reducible refine wpList_ld1 H (by with_unfolding_all exact rfl) (by with_unfolding_all exact rfl) (by (repeat (first | exact Tk.here | apply Tk.there))) (by decide +kernel) (by with_unfolding_all exact rfl) (by (first | exact Pt.n | (apply Pt.s; repeat (first | exact SetAt.z | apply SetAt.s)))) ?_) | (with_reducible refine wpList_ldN H (by with_unfolding_all exact rfl) (by with_unfolding_all exact rfl) (by (repeat (first | exact Tk.here | apply Tk.there))) (by (repeat (first | exact Len.z | apply Len.s))) (by decide +kernel) (by (first | exact Pt.n | (apply Pt.s; repeat (first | exact SetAt.z | apply SetAt.s)))) ?_) | ((with_reducible refine wpList_st1 H (by with_unfolding_all exact rfl) (by with_unfolding_all exact rfl) (by (first | exact Ev.c | (apply Ev.t; repeat (first | exact Nth.z | apply Nth.s)))) (by (repeat (first | exact Tk.here | apply Tk.there))) (by decide +kernel) (by with_unfolding_all exact rfl) (by (repeat (first | exact SetAt.z | apply SetAt.s))) (by (first | exact Pt.n | (apply Pt.s; repeat (first | exact SetAt.z | apply SetAt.s)))) ?_); clear H; intro w H) | ((with_reducible refine wpList_stN H (by with_unfolding_all exact rfl) (by with_unfolding_all exact rfl) (by (first | exact Ev.c | (apply Ev.t; repeat (first | exact Nth.z | apply Nth.s)))) (by (repeat (first | exact Tk.here | apply Tk.there))) (by (repeat (first | exact Len.z | apply Len.s))) (by (repeat (first | exact Len.z | apply Len.s))) (by decide +kernel) (by with_unfolding_all exact rfl) (by (first | exact Pt.n | (apply Pt.s; repeat (first | exact SetAt.z | apply SetAt.s)))) ?_); clear H; intro w H)) | (at_builtin; (with_reducible refine wpList_apS msgsEl H (by (first | exact Ev.c | (apply Ev.t; repeat (first | exact Nth.z | apply Nth.s)))) (by (first | exact Ev.c | (apply Ev.t; repeat (first | exact Nth.z | apply Nth.s)))) (by (with_reducible (repeat (first | exact Tk.here | apply Tk.there)))) (H.vw (by (with_reducible (repeat (first | exact Tk.here | apply Tk.there))))) HV3.out (by omega) ?_); clear H; intro a5 c5 w _ _ H; (simp only [Act.put, List.setIfInBounds_toArray, List.set_cons_zero, List.set_cons_succ])))
            go_roundw
            case rel =>
              have hvv := vwB_part (H.vvB (v := .slice la2 rest.length lc2) (by (with_reducible (repeat (first | exact Tk.here | apply Tk.there))))) HAB.out (n' := rest.length - (rest.length)) (C := lc2 - (rest.length)) rfl (by omega) (by omega) (by omega)
              rw [List.take_of_length_le (by simp)] at hvv
              have hown : (Value.slice A (rest.length - (rest.length)) (lc2 - (rest.length))).ownBlock = (Value.slice la2 rest.length lc2).ownBlock := by
                rcases HAB.out with h | ⟨h, _⟩
                · rw [h]; cases la2 <;> simp [Value.ownBlock, Addr.add]; split <;> rfl
                · rw [h]; cases la2 <;> rfl
              have H7 := bod_append (es := es1) (fs := es2) (H.rebaseB (v := .slice la2 rest.length lc2) (l := rest) (by (with_reducible (repeat (first | exact Tk.here | apply Tk.there)))) HNE.out hvv hown) (by (first | ((with_reducible (repeat (first | exact Sb.nil | apply Sb.cons | exact Tk.here | apply Tk.there))); done) | (repeat (first | exact Sb.nil | apply Sb.cons | exact Tk.here | apply Tk.there))))
              refine ⟨k + 1, pre ++ rest.take (rest.length), rest.drop (rest.length), es1 ++ es2, ms1 ++ ms2, r2, A, lc2 - (rest.length), a5, c5, by rw [List.append_assoc, List.take_append_drop, HPR.out], HAPP.out, by simp [HES1.out, HES2.out], by simp, by rw [List.length_append], by simp, by right; simp, by omega, ?_⟩
              rw [List.length_append, msCells_append, List.length_drop]
              exact H7.sel (by (first | ((with_reducible (repeat (first | exact Sb.nil | apply Sb.cons | exact Tk.here | apply Tk.there))); done) | (repeat (first | exact Sb.nil | apply Sb.cons | exact Tk.here | apply Tk.there))))
            case measure => simp [intOf]; omega

namespace markBack
theorem walk {W : World} (n0 : Nat) {a0 : Option Addr} {l0 c0 : Nat} (g0 : Rd Try.prog W n0 48 (Value.slice a0 l0 c0).cells.toList) (n1 : Nat) {a1 : Option Addr} {l1 c1 : Nat} (g1 : Rd Try.prog W n1 30 (Value.slice a1 l1 c1).cells.toList) (n2 : Nat) {a2 : Option Addr} {l2 c2 : Nat} (g2 : Rd Try.prog W n2 48 (Value.slice a2 l2 c2).cells.toList) :
    Calls Try.prog 5 #[.slice a0 l0 c0, .slice a1 l1 c1, .slice a2 l2 c2] W fun e w' => e = .returned (.bool true) ∧ Only [] W w' := by
  obtain ⟨h1, h2, h3⟩ := Rd.ints g0 Try.underlying48 Try.underlying3 (by kernel_rfl)
  obtain ⟨k1, k2, k3⟩ := Rd.byteses g1 Try.underlying30 (by kernel_rfl) Try.underlying22 Try.underlying5 (by kernel_rfl)
  obtain ⟨m1, m2, m3⟩ := Rd.ints g2 Try.underlying48 Try.underlying3 (by kernel_rfl)
  unfold maxLen at h2 k2 m2
  exact back_walk W _ _ _ _ _ _ _ _ _ (by omega) (by omega) (by omega) h3 k3 m3
end markBack
namespace markBack
open Go.ChangeShapes Go.WideShapes Go.ChangeAt
set_option linter.unusedVariables false

theorem own : ownKnob Try.prog.godebug = none := by kernel_rfl
theorem laidOut : laidOutB Try.prog = true := by kernel_rfl

set_option maxRecDepth 100000 in
theorem lifted (os : Os) (started : os.Started) (H : Type) (enc : TypeId × Value → H) :
    ReturnsInHanded {} Try.checked os 5 .any (Rows.markBackSpec.pre6 enc Try.prog Try.f5 Rows.markBackRow.domain false) (Rows.markBackSpec.post enc Try.prog Try.f5 false true false false) := by
  refine returnsInHanded_of_change (C := Try.checked) own started (by kernel_rfl) Try.func5
    (ChangeSpec.witness6 (enc := enc) (C := Try.checked) false ⟨#[], #[.slice none 0 0, .slice none 0 0, .slice none 0 0], []⟩ 8 (by kernel_rfl) (by kernel_rfl) (by kernel_rfl) (by kernel_rfl)) ?_
  intro W base args ds gs before hval0 hW hcnd hreach
  have hval : ∀ (j : Nat) t v, Try.f5.params[j]? = some t → args[j]? = some v → Value.okWide Try.prog W .any base t v := hval0
  have hW' := hW
  obtain ⟨p, q, hA0, hV, rfl, hfz, hnd⟩ := hW
  have hA : DataW.TrodAll enc Try.prog W 0 (fun _ => true) true Try.f5.params.toList args.toList ds p := hA0
  rw [Try.params5] at hA hval
  obtain ⟨v0, vs0, d0, ds0, p0, q0, hargs, rfl, rfl, h0, r0⟩ := trodAll_cons hA
  obtain ⟨v1, vs1, d1, ds1, p1, q1, rfl, rfl, rfl, h1, r1⟩ := trodAll_cons r0
  obtain ⟨v2, vs2, d2, ds2, p2, q2, rfl, rfl, rfl, h2, r2⟩ := trodAll_cons r1
  obtain ⟨rfl, rfl, rfl⟩ := trodAll_nil r2
  obtain rfl : args = #[v0, v1, v2] := by cases args; simp_all
  obtain ⟨rfl, rfl⟩ := trodVars_none hV
  have k0 := h0
  have lt0 : ∀ x ∈ p0, x.block < W.heap.size := by obtain ⟨m, hm⟩ := k0; exact DataW.trod_lt m _ _ _ hm
  obtain ⟨n0, g0⟩ := Rd.ofTrod' h0
  obtain ⟨a0, l0, c0, rfl⟩ := okWide_slice Try.underlying48 (hval 0 48 v0 rfl rfl)
  have k1 := h1
  have lt1 : ∀ x ∈ p1, x.block < W.heap.size := by obtain ⟨m, hm⟩ := k1; exact DataW.trod_lt m _ _ _ hm
  obtain ⟨n1, g1⟩ := Rd.ofTrod' h1
  obtain ⟨a1, l1, c1, rfl⟩ := okWide_slice Try.underlying30 (hval 1 30 v1 rfl rfl)
  have k2 := h2
  have lt2 : ∀ x ∈ p2, x.block < W.heap.size := by obtain ⟨m, hm⟩ := k2; exact DataW.trod_lt m _ _ _ hm
  obtain ⟨n2, g2⟩ := Rd.ofTrod' h2
  obtain ⟨a2, l2, c2, rfl⟩ := okWide_slice Try.underlying48 (hval 2 48 v2 rfl rfl)
  refine (walk n0 g0 n1 g1 n2 g2).mono fun e W' ⟨he, hg⟩ => ?_
  subst he
  have bel := hg.belowNil
  exact ⟨_, rfl, _, _, _, [], _, [], hW', trodAll_mk1 (shut_bool Try.underlying4 _), (trodAll_cons_mk (Below.trod laidOut (by kernel_rfl) (of_decide_eq_true (by kernel_rfl)) k0 bel lt0) (trodAll_cons_mk (Below.trod laidOut (by kernel_rfl) (of_decide_eq_true (by kernel_rfl)) k1 bel lt1) (trodAll_cons_mk (Below.trod laidOut (by kernel_rfl) (of_decide_eq_true (by kernel_rfl)) k2 bel lt2) trodAll_mk0))), rfl, bel.frame _, fun h => by cases h⟩

theorem over : Rows.markBackRow.holds Try.pinned (OpenSpec.ofChange Rows.markBackSpec) :=
  OpenClaim.holds_of_wide 5 Try.f5 rfl rfl rfl rfl rfl rfl rfl ⟨rfl, rfl, rfl, rfl, rfl⟩ rfl rfl rfl rfl rfl (by kernel_rfl) Try.func5 (by kernel_rfl)
    (of_decide_eq_true (by kernel_rfl)) (by unfold Func.isWrapper; first | (rw [if_pos (by decide +kernel)]; kernel_rfl) | (rw [if_neg (by decide +kernel)]; exact ⟨rfl, rfl⟩))
    (fun os started H enc _ => lifted os started H enc)

/-- The statement. -/
theorem proved : Rows.MarkBackSaid := over
#print axioms proved
end markBack
end Go.Proofs.Ytcpoaghogpkagaa
