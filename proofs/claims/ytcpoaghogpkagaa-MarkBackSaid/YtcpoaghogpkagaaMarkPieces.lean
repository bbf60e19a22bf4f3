/-
  MarkPieces: for all bytes and all cuts the law returns true and leaves its argument alone (no condition).
-/
import Derived.Test.YtcpoaghogpkagaaMarkApp
import Derived.ShutString
import Derived.Deep.QuietTactic
import Derived.BigQuiet
namespace Go.Proofs.Ytcpoaghogpkagaa
set_option linter.unusedSimpArgs false
set_option linter.unusedVariables false
open Go.RowKit Go.Pm


theorem sats_flat {L M : List HP} {k : Hl} (h : sats [sats L, sats M] k) : sats (L ++ M) k := by
  obtain ⟨h1, h2, a, ⟨h3, h4, b, e, d2, rfl⟩, d, rfl⟩ := h
  have h40 : h3.add h4 = h3 := by funext c; simp [Hl.add, e c]
  rw [h40] at d ⊢
  exact (sats_append _ _ _).2 ⟨h1, h3, a, b, d, rfl⟩
theorem bod_append {W : World} {K : Hl} {L R : List HP} {w : World} {es fs : List Ms} (H : Ow W K L w) (h : Sb L [Bod es, Bod fs] R) : Ow W K (Bod (es ++ fs) :: R) w :=
  H.shut h fun k hk => by unfold Bod; rw [List.map_append]; exact sats_flat hk

theorem faultV_mk {w : World} {dv : Value} {f : Option (Int × List Int)} (h : VwB w dv (dataOf f)) : FaultV w (.agg #[.int .i64 (codeOf f), .int .i64 (subOf f), dv]) f := ⟨dv, rfl, h⟩
theorem ms_one {w : World} {es : List Ms} (h : ∀ m ∈ es, VwB w m.bv m.body) : ∀ u ∈ msCells es, u.oneCell' = true := by
  intro u hu
  obtain ⟨m, hm, hu⟩ := List.mem_flatMap.1 hu
  obtain ⟨a, c, he, _, _⟩ := (h m hm).shape
  simp only [Ms.cells, List.mem_cons, List.not_mem_nil, or_false] at hu
  rcases hu with rfl | rfl
  · rfl
  · rw [he]; rfl

def PieceTo (m : Nat) (W : World) (K : Hl) (L : List HP) (v : Value) (w : World) : Prop := ∃ pa q c, v = .slice pa q.length c ∧ q.length ≤ m ∧ q.length ≤ c ∧ c ≤ maxLen ∧ Byte q ∧ Kn K (fun w => VwB w v q) ∧ Ow W K L w

def PieceIs (W : World) (K : Hl) (v : Value) (p : List Int) (L : List HP) (w : World) : Prop := Kn K (fun w => VwB w v p) ∧ Ow W K L w

def cutp (i j n k : Nat) : Nat := if k = 0 then 0 else if k = 1 then i else if k = 2 then j else n

/-- So much was fed to the second splitter. -/
def PiecesJ (W : World) (K : Hl) (y b15 : Nat) (L : List HP) (q : List Int) (i j k : Nat) (s14 s16 : Value) (w : World) : Prop :=
  ∃ (es : List Ms) (ms : List (Int × List Int)) (f : Option (Int × List Int)) (r : List Int) (la : Option Addr) (lc : Nat) (fa : Option Addr) (fc : Nat),
    Parses (q.take (cutp i j q.length k)) ms f r ∧ es.map Ms.pair = ms ∧ s14 = .slice la es.length lc ∧ s16 = .bool f.isNone ∧
    Ow W K (pts b15 [.int .i64 (codeOf f), .int .i64 (subOf f), .slice fa (dataOf f).length fc] 38 :: VB (.slice fa (dataOf f).length fc) (dataOf f) :: Sl 53 2 (.slice la es.length lc) es.length (msCells es) :: Bod es :: Spl y r f.isSome :: L) w

set_option maxRecDepth 100000 in
set_option maxHeartbeats 4000000 in
theorem pieces_walk (W : World) (v : Value) (l : List Int) (cut more : Int) (hv : VwB W v l) (hy : Byte l) :
    Calls Try.prog 6 #[v, .int .i64 cut, .int .i64 more] W fun e w' => e = .returned (.bool true) ∧ Only [] W w' := by
  have HKP : Hid (Kn (World.all W) (fun w => VwB w v l)) := Kn.all (fun w h => hv.only h) (fun w w' hw h => vwB_heap hw h)
  have HY := Lib.hid hy
  obtain ⟨pa, pc, rfl, hpl, hpm⟩ := hv.shape
  unfold maxLen at hpm
  clear hv hy
  have H := Ow.start W
  obtain ⟨K, hK⟩ : ∃ K, K = World.all W := ⟨_, rfl⟩
  rw [← hK] at H HKP
  have HK := Lib.hid hK
  clear hK
  go_enter Try.func6, Try.ntmps6
  go_wp2_with (first | ((with_reducible refine Ow.absorb H ?_); clear H; intro w H) | ((with_reducible refine Ow.absorbCalls H ?_); clear H; intro w H) | (with_reducible refine wpList_ld1 H (by with_unfolding_all exact rfl) (by with_unfolding_all exact rfl) (by (repeat (first | exact Tk.here | apply Tk.there))) (by decide +kernel) (by with_unfolding_all exact rfl) (by (first | exact Pt.n | (apply Pt.s; repeat (first | exact SetAt.z | apply SetAt.s)))) ?_) | (with_reducible refine wpList_ldN H (by with_unfolding_all exact rfl) (by with_unfolding_all exact rfl) (by (repeat (first | exact Tk.here | apply Tk.there))) (by (repeat (first | exact Len.z | apply Len.s))) (by decide +kernel) (by (first | exact Pt.n | (apply Pt.s; repeat (first | exact SetAt.z | apply SetAt.s)))) ?_) | ((with_reducible refine wpList_st1 H (by with_unfolding_all exact rfl) (by with_unfolding_all exact rfl) (by (first | exact Ev.c | (apply Ev.t; repeat (first | exact Nth.z | apply Nth.s)))) (by (repeat (first | exact Tk.here | apply Tk.there))) (by decide +kernel) (by with_unfolding_all exact rfl) (by (repeat (first | exact SetAt.z | apply SetAt.s))) (by (first | exact Pt.n | (apply Pt.s; repeat (first | exact SetAt.z | apply SetAt.s)))) ?_); clear H; intro w H) | ((with_reducible refine wpList_stN H (by with_unfolding_all exact rfl) (by with_unfolding_all exact rfl) (by (first | exact Ev.c | (apply Ev.t; repeat (first | exact Nth.z | apply Nth.s)))) (by (repeat (first | exact Tk.here | apply Tk.there))) (by (repeat (first | exact Len.z | apply Len.s))) (by (repeat (first | exact Len.z | apply Len.s))) (by decide +kernel) (by with_unfolding_all exact rfl) (by (first | exact Pt.n | (apply Pt.s; repeat (first | exact SetAt.z | apply SetAt.s)))) ?_); clear H; intro w H))
  refine (works_any _).mono ?_
  rintro e w1 ⟨rfl, hw1⟩
  replace H := H.only hw1
  clear hw1
  go_upto_region 3 with (first | ((with_reducible refine Ow.absorb H ?_); clear H; intro w H) | ((with_reducible refine Ow.absorbCalls H ?_); clear H; intro w H) | (with_reducible refine wpList_ld1 H (by with_unfolding_all exact rfl) (by with_unfolding_all exact rfl) (by (repeat (first | exact Tk.here | apply Tk.there))) (by decide +kernel) (by with_unfolding_all exact rfl) (by (first | exact Pt.n | (apply Pt.s; repeat (first | exact SetAt.z | apply SetAt.s)))) ?_) | (with_reducible refine wpList_ldN H (by with_unfolding_all exact rfl) (by with_unfolding_all exact rfl) (by (repeat (first | exact Tk.here | apply Tk.there))) (by (repeat (first | exact Len.z | apply Len.s))) (by decide +kernel) (by (first | exact Pt.n | (apply Pt.s; repeat (first | exact SetAt.z | apply SetAt.s)))) ?_) | ((with_reducible refine wpList_st1 H (by with_unfolding_all exact rfl) (by with_unfolding_all exact rfl) (by (first | exact Ev.c | (apply Ev.t; repeat (first | exact Nth.z | apply Nth.s)))) (by (repeat (first | exact Tk.here | apply Tk.there))) (by decide +kernel) (by with_unfolding_all exact rfl) (by (repeat (first | exact SetAt.z | apply SetAt.s))) (by (first | exact Pt.n | (apply Pt.s; repeat (first | exact SetAt.z | apply SetAt.s)))) ?_); clear H; intro w H) | ((with_reducible refine wpList_stN H (by with_unfolding_all exact rfl) (by with_unfolding_all exact rfl) (by (first | exact Ev.c | (apply Ev.t; repeat (first | exact Nth.z | apply Nth.s)))) (by (repeat (first | exact Tk.here | apply Tk.there))) (by (repeat (first | exact Len.z | apply Len.s))) (by (repeat (first | exact Len.z | apply Len.s))) (by decide +kernel) (by with_unfolding_all exact rfl) (by (first | exact Pt.n | (apply Pt.s; repeat (first | exact SetAt.z | apply SetAt.s)))) ?_); clear H; intro w H))
  go_cut [0] (fun s0 wx => PieceTo 600 W K [] s0 wx)
  case first =>
    by_cases h4 : l.length ≤ 600
    · have h4i : (l.length : Int) ≤ 600 := by omega
      go_wp2_with (first | ((with_reducible refine Ow.absorb H ?_); clear H; intro w H) | ((with_reducible refine Ow.absorbCalls H ?_); clear H; intro w H) | (with_reducible refine wpList_ld1 H (by with_unfolding_all exact rfl) (by with_unfolding_all exact rfl) (by (repeat (first | exact Tk.here | apply Tk.there))) (by decide +kernel) (by with_unfolding_all exact rfl) (by (first | exact Pt.n | (apply Pt.s; repeat (first | exact SetAt.z | apply SetAt.s)))) ?_) | (with_reducible refine wpList_ldN H (by with_unfolding_all exact rfl) (by with_unfolding_all exact rfl) (by (repeat (first | exact Tk.here | apply Tk.there))) (by (repeat (first | exact Len.z | apply Len.s))) (by decide +kernel) (by (first | exact Pt.n | (apply Pt.s; repeat (first | exact SetAt.z | apply SetAt.s)))) ?_) | ((with_reducible refine wpList_st1 H (by with_unfolding_all exact rfl) (by with_unfolding_all exact rfl) (by (first | exact Ev.c | (apply Ev.t; repeat (first | exact Nth.z | apply Nth.s)))) (by (repeat (first | exact Tk.here | apply Tk.there))) (by decide +kernel) (by with_unfolding_all exact rfl) (by (repeat (first | exact SetAt.z | apply SetAt.s))) (by (first | exact Pt.n | (apply Pt.s; repeat (first | exact SetAt.z | apply SetAt.s)))) ?_); clear H; intro w H) | ((with_reducible refine wpList_stN H (by with_unfolding_all exact rfl) (by with_unfolding_all exact rfl) (by (first | exact Ev.c | (apply Ev.t; repeat (first | exact Nth.z | apply Nth.s)))) (by (repeat (first | exact Tk.here | apply Tk.there))) (by (repeat (first | exact Len.z | apply Len.s))) (by (repeat (first | exact Len.z | apply Len.s))) (by decide +kernel) (by with_unfolding_all exact rfl) (by (first | exact Pt.n | (apply Pt.s; repeat (first | exact SetAt.z | apply SetAt.s)))) ?_); clear H; intro w H))
      go_meet
      exact ⟨pa, l, pc, rfl, h4, hpl, by unfold maxLen; omega, HY.out, HKP.out, H⟩
    · have h4i : (600 : Int) < l.length := by omega
      have h4j : (600 : Int) ≤ pc := by omega
      go_wp2_with (first | ((with_reducible refine Ow.absorb H ?_); clear H; intro w H) | ((with_reducible refine Ow.absorbCalls H ?_); clear H; intro w H) | (with_reducible refine wpList_ld1 H (by with_unfolding_all exact rfl) (by with_unfolding_all exact rfl) (by (repeat (first | exact Tk.here | apply Tk.there))) (by decide +kernel) (by with_unfolding_all exact rfl) (by (first | exact Pt.n | (apply Pt.s; repeat (first | exact SetAt.z | apply SetAt.s)))) ?_) | (with_reducible refine wpList_ldN H (by with_unfolding_all exact rfl) (by with_unfolding_all exact rfl) (by (repeat (first | exact Tk.here | apply Tk.there))) (by (repeat (first | exact Len.z | apply Len.s))) (by decide +kernel) (by (first | exact Pt.n | (apply Pt.s; repeat (first | exact SetAt.z | apply SetAt.s)))) ?_) | ((with_reducible refine wpList_st1 H (by with_unfolding_all exact rfl) (by with_unfolding_all exact rfl) (by (first | exact Ev.c | (apply Ev.t; repeat (first | exact Nth.z | apply Nth.s)))) (by (repeat (first | exact Tk.here | apply Tk.there))) (by decide +kernel) (by with_unfolding_all exact rfl) (by (repeat (first | exact SetAt.z | apply SetAt.s))) (by (first | exact Pt.n | (apply Pt.s; repeat (first | exact SetAt.z | apply SetAt.s)))) ?_); clear H; intro w H) | ((with_reducible refine wpList_stN H (by with_unfolding_all exact rfl) (by with_unfolding_all exact rfl) (by (first | exact Ev.c | (apply Ev.t; repeat (first | exact Nth.z | apply Nth.s)))) (by (repeat (first | exact Tk.here | apply Tk.there))) (by (repeat (first | exact Len.z | apply Len.s))) (by (repeat (first | exact Len.z | apply Len.s))) (by decide +kernel) (by with_unfolding_all exact rfl) (by (first | exact Pt.n | (apply Pt.s; repeat (first | exact SetAt.z | apply SetAt.s)))) ?_); clear H; intro w H))
      go_meet
      have h600 : (l.take 600).length = 600 := by simp; omega
      refine ⟨pa, l.take 600, pc, by rw [h600], by omega, by omega, by unfold maxLen; omega, byte_take HY.out _, ?_, H⟩
      exact HKP.out.imp (fun w hv => hv.pre (by omega))
  case rest =>
    clear H HKP HY hpl hpm
    rename World => w2
    obtain ⟨qa, q, qc, rfl, hq6, hqc, hqm, hqy, hqk, H⟩ := hcut
    obtain ⟨w, rfl⟩ : ∃ w, w = w2 := ⟨_, rfl⟩
    unfold maxLen at hqm
    have HQK := Lib.hid hqk
    have HQY := Lib.hid hqy
    obtain ⟨ms, f, r, hp⟩ := parses_exists _ q (Nat.le_refl _)
    have HP := Lib.hid hp
    clear hqk hqy hp
    go_upto_region 4 with (first | ((with_reducible refine Ow.absorb H ?_); clear H; intro w H) | ((with_reducible refine Ow.absorbCalls H ?_); clear H; intro w H) | (with_reducible refine wpList_ld1 H (by with_unfolding_all exact rfl) (by with_unfolding_all exact rfl) (by (repeat (first | exact Tk.here | apply Tk.there))) (by decide +kernel) (by with_unfolding_all exact rfl) (by (first | exact Pt.n | (apply Pt.s; repeat (first | exact SetAt.z | apply SetAt.s)))) ?_) | (with_reducible refine wpList_ldN H (by with_unfolding_all exact rfl) (by with_unfolding_all exact rfl) (by (repeat (first | exact Tk.here | apply Tk.there))) (by (repeat (first | exact Len.z | apply Len.s))) (by decide +kernel) (by (first | exact Pt.n | (apply Pt.s; repeat (first | exact SetAt.z | apply SetAt.s)))) ?_) | ((with_reducible refine wpList_st1 H (by with_unfolding_all exact rfl) (by with_unfolding_all exact rfl) (by (first | exact Ev.c | (apply Ev.t; repeat (first | exact Nth.z | apply Nth.s)))) (by (repeat (first | exact Tk.here | apply Tk.there))) (by decide +kernel) (by with_unfolding_all exact rfl) (by (repeat (first | exact SetAt.z | apply SetAt.s))) (by (first | exact Pt.n | (apply Pt.s; repeat (first | exact SetAt.z | apply SetAt.s)))) ?_); clear H; intro w H) | ((with_reducible refine wpList_stN H (by with_unfolding_all exact rfl) (by with_unfolding_all exact rfl) (by (first | exact Ev.c | (apply Ev.t; repeat (first | exact Nth.z | apply Nth.s)))) (by (repeat (first | exact Tk.here | apply Tk.there))) (by (repeat (first | exact Len.z | apply Len.s))) (by (repeat (first | exact Len.z | apply Len.s))) (by decide +kernel) (by with_unfolding_all exact rfl) (by (first | exact Pt.n | (apply Pt.s; repeat (first | exact SetAt.z | apply SetAt.s)))) ?_); clear H; intro w H))
    go_wp2_with (first | ((with_reducible refine Ow.absorb H ?_); clear H; intro w H) | ((with_reducible refine Ow.absorbCalls H ?_); clear H; intro w H) | (with_reducible refine wpList_ld1 H (by with_unfolding_all exact rfl) (by with_unfolding_all exact rfl) (by (repeat (first | exact Tk.here | apply Tk.there))) (by decide +kernel) (by with_unfolding_all exact rfl) (by (first | exact Pt.n | (apply Pt.s; repeat (first | exact SetAt.z | apply SetAt.s)))) ?_) | (with_reducible refine wpList_ldN H (by with_unfolding_all exact rfl) (by with_unfolding_all exact rfl) (by (repeat (first | exact Tk.here | apply Tk.there))) (by (repeat (first | exact Len.z | apply Len.s))) (by decide +kernel) (by (first | exact Pt.n | (apply Pt.s; repeat (first | exact SetAt.z | apply SetAt.s)))) ?_) | ((with_reducible refine wpList_st1 H (by with_unfolding_all exact rfl) (by with_unfolding_all exact rfl) (by (first | exact Ev.c | (apply Ev.t; repeat (first | exact Nth.z | apply Nth.s)))) (by (repeat (first | exact Tk.here | apply Tk.there))) (by decide +kernel) (by with_unfolding_all exact rfl) (by (repeat (first | exact SetAt.z | apply SetAt.s))) (by (first | exact Pt.n | (apply Pt.s; repeat (first | exact SetAt.z | apply SetAt.s)))) ?_); clear H; intro w H) | ((with_reducible refine wpList_stN H (by with_unfolding_all exact rfl) (by with_unfolding_all exact rfl) (by (first | exact Ev.c | (apply Ev.t; repeat (first | exact Nth.z | apply Nth.s)))) (by (repeat (first | exact Tk.here | apply Tk.there))) (by (repeat (first | exact Len.z | apply Len.s))) (by (repeat (first | exact Len.z | apply Len.s))) (by decide +kernel) (by with_unfolding_all exact rfl) (by (first | exact Pt.n | (apply Pt.s; repeat (first | exact SetAt.z | apply SetAt.s)))) ?_); clear H; intro w H))
    refine (new_any _).mono ?_
    rintro e w3 ⟨rfl, hs3, hw3⟩
    replace H := H.freshPts hw3 hs3
    clear hs3 hw3
    go_wp2_with (first | ((with_reducible refine Ow.absorb H ?_); clear H; intro w H) | ((with_reducible refine Ow.absorbCalls H ?_); clear H; intro w H) | (with_reducible refine wpList_ld1 H (by with_unfolding_all exact rfl) (by with_unfolding_all exact rfl) (by (repeat (first | exact Tk.here | apply Tk.there))) (by decide +kernel) (by with_unfolding_all exact rfl) (by (first | exact Pt.n | (apply Pt.s; repeat (first | exact SetAt.z | apply SetAt.s)))) ?_) | (with_reducible refine wpList_ldN H (by with_unfolding_all exact rfl) (by with_unfolding_all exact rfl) (by (repeat (first | exact Tk.here | apply Tk.there))) (by (repeat (first | exact Len.z | apply Len.s))) (by decide +kernel) (by (first | exact Pt.n | (apply Pt.s; repeat (first | exact SetAt.z | apply SetAt.s)))) ?_) | ((with_reducible refine wpList_st1 H (by with_unfolding_all exact rfl) (by with_unfolding_all exact rfl) (by (first | exact Ev.c | (apply Ev.t; repeat (first | exact Nth.z | apply Nth.s)))) (by (repeat (first | exact Tk.here | apply Tk.there))) (by decide +kernel) (by with_unfolding_all exact rfl) (by (repeat (first | exact SetAt.z | apply SetAt.s))) (by (first | exact Pt.n | (apply Pt.s; repeat (first | exact SetAt.z | apply SetAt.s)))) ?_); clear H; intro w H) | ((with_reducible refine wpList_stN H (by with_unfolding_all exact rfl) (by with_unfolding_all exact rfl) (by (first | exact Ev.c | (apply Ev.t; repeat (first | exact Nth.z | apply Nth.s)))) (by (repeat (first | exact Tk.here | apply Tk.there))) (by (repeat (first | exact Len.z | apply Len.s))) (by (repeat (first | exact Len.z | apply Len.s))) (by decide +kernel) (by with_unfolding_all exact rfl) (by (first | exact Pt.n | (apply Pt.s; repeat (first | exact SetAt.z | apply SetAt.s)))) ?_); clear H; intro w H))
    refine (new_any _).mono ?_
    rintro e w4 ⟨rfl, hs4, hw4⟩
    replace H := H.freshPts hw4 hs4
    clear hs4 hw4
    generalize w.heap.size = x at *
    generalize w3.heap.size = y at *
    have H2 := H.vbNil.vbNil
    have H3 := H2.shut (A := Spl x [] false) (M := [pts x [_, .bool true, .bool false] 56, VB _ []]) (by (first | ((with_reducible (repeat (first | exact Sb.nil | apply Sb.cons | exact Tk.here | apply Tk.there))); done) | (repeat (first | exact Sb.nil | apply Sb.cons | exact Tk.here | apply Tk.there)))) (fun k hk => ⟨_, hk⟩)
    have H4 := H3.shut (A := Spl y [] false) (M := [pts y [_, .bool true, .bool false] 56, VB _ []]) (by (first | ((with_reducible (repeat (first | exact Sb.nil | apply Sb.cons | exact Tk.here | apply Tk.there))); done) | (repeat (first | exact Sb.nil | apply Sb.cons | exact Tk.here | apply Tk.there)))) (fun k hk => ⟨_, hk⟩)
    clear H H2 H3
    have H := H4
    clear H4
    go_wp2_with (first | ((with_reducible refine Ow.absorb H ?_); clear H; intro w H) | ((with_reducible refine Ow.absorbCalls H ?_); clear H; intro w H) | (with_reducible refine wpList_ld1 H (by with_unfolding_all exact rfl) (by with_unfolding_all exact rfl) (by (repeat (first | exact Tk.here | apply Tk.there))) (by decide +kernel) (by with_unfolding_all exact rfl) (by (first | exact Pt.n | (apply Pt.s; repeat (first | exact SetAt.z | apply SetAt.s)))) ?_) | (with_reducible refine wpList_ldN H (by with_unfolding_all exact rfl) (by with_unfolding_all exact rfl) (by (repeat (first | exact Tk.here | apply Tk.there))) (by (repeat (first | exact Len.z | apply Len.s))) (by decide +kernel) (by (first | exact Pt.n | (apply Pt.s; repeat (first | exact SetAt.z | apply SetAt.s)))) ?_) | ((with_reducible refine wpList_st1 H (by with_unfolding_all exact rfl) (by with_unfolding_all exact rfl) (by (first | exact Ev.c | (apply Ev.t; repeat (first | exact Nth.z | apply Nth.s)))) (by (repeat (first | exact Tk.here | apply Tk.there))) (by decide +kernel) (by with_unfolding_all exact rfl) (by (repeat (first | exact SetAt.z | apply SetAt.s))) (by (first | exact Pt.n | (apply Pt.s; repeat (first | exact SetAt.z | apply SetAt.s)))) ?_); clear H; intro w H) | ((with_reducible refine wpList_stN H (by with_unfolding_all exact rfl) (by with_unfolding_all exact rfl) (by (first | exact Ev.c | (apply Ev.t; repeat (first | exact Nth.z | apply Nth.s)))) (by (repeat (first | exact Tk.here | apply Tk.there))) (by (repeat (first | exact Len.z | apply Len.s))) (by (repeat (first | exact Len.z | apply Len.s))) (by decide +kernel) (by with_unfolding_all exact rfl) (by (first | exact Pt.n | (apply Pt.s; repeat (first | exact SetAt.z | apply SetAt.s)))) ?_); clear H; intro w H))
    refine (feed_spec x _ [] q (by simp [Byte]) HQY.out (by simp; omega) ms f r HP.out).call H (by (first | ((with_reducible (repeat (first | exact Sb.nil | apply Sb.cons | exact Tk.here | apply Tk.there))); done) | (repeat (first | exact Sb.nil | apply Sb.cons | exact Tk.here | apply Tk.there)))) (Kr.kn HQK.out) ?_
    rintro v L' ⟨lv, es, fv, rfl, hes, rfl⟩ w6 H6
    simp only [List.cons_append, List.nil_append] at H6
    clear H
    obtain ⟨fa, fc, rfl, H⟩ := fault_open H6 (by (with_reducible (repeat (first | exact Tk.here | apply Tk.there))))
    obtain ⟨_, la_, lc, rfl, _, _⟩ := H.slShape (e := 53) (by (with_reducible (repeat (first | exact Tk.here | apply Tk.there))))
    clear H6
    go_wp2_with (first | ((with_reducible refine Ow.absorb H ?_); clear H; intro w H) | ((with_reducible refine Ow.absorbCalls H ?_); clear H; intro w H) | (with_reducible refine wpList_ld1 H (by with_unfolding_all exact rfl) (by with_unfolding_all exact rfl) (by (repeat (first | exact Tk.here | apply Tk.there))) (by decide +kernel) (by with_unfolding_all exact rfl) (by (first | exact Pt.n | (apply Pt.s; repeat (first | exact SetAt.z | apply SetAt.s)))) ?_) | (with_reducible refine wpList_ldN H (by with_unfolding_all exact rfl) (by with_unfolding_all exact rfl) (by (repeat (first | exact Tk.here | apply Tk.there))) (by (repeat (first | exact Len.z | apply Len.s))) (by decide +kernel) (by (first | exact Pt.n | (apply Pt.s; repeat (first | exact SetAt.z | apply SetAt.s)))) ?_) | ((with_reducible refine wpList_st1 H (by with_unfolding_all exact rfl) (by with_unfolding_all exact rfl) (by (first | exact Ev.c | (apply Ev.t; repeat (first | exact Nth.z | apply Nth.s)))) (by (repeat (first | exact Tk.here | apply Tk.there))) (by decide +kernel) (by with_unfolding_all exact rfl) (by (repeat (first | exact SetAt.z | apply SetAt.s))) (by (first | exact Pt.n | (apply Pt.s; repeat (first | exact SetAt.z | apply SetAt.s)))) ?_); clear H; intro w H) | ((with_reducible refine wpList_stN H (by with_unfolding_all exact rfl) (by with_unfolding_all exact rfl) (by (first | exact Ev.c | (apply Ev.t; repeat (first | exact Nth.z | apply Nth.s)))) (by (repeat (first | exact Tk.here | apply Tk.there))) (by (repeat (first | exact Len.z | apply Len.s))) (by (repeat (first | exact Len.z | apply Len.s))) (by decide +kernel) (by with_unfolding_all exact rfl) (by (first | exact Pt.n | (apply Pt.s; repeat (first | exact SetAt.z | apply SetAt.s)))) ?_); clear H; intro w H))
    have hqn : (q.length : Int) ≤ 600 := by omega
    refine (among_any _ _ _ (by omega) (by omega)).mono ?_
    rintro e w7 ⟨⟨i, rfl, hi⟩, rfl⟩
    have hi' : (i : Int) ≤ q.length := by omega
    go_wp2_with (first | ((with_reducible refine Ow.absorb H ?_); clear H; intro w H) | ((with_reducible refine Ow.absorbCalls H ?_); clear H; intro w H) | (with_reducible refine wpList_ld1 H (by with_unfolding_all exact rfl) (by with_unfolding_all exact rfl) (by (repeat (first | exact Tk.here | apply Tk.there))) (by decide +kernel) (by with_unfolding_all exact rfl) (by (first | exact Pt.n | (apply Pt.s; repeat (first | exact SetAt.z | apply SetAt.s)))) ?_) | (with_reducible refine wpList_ldN H (by with_unfolding_all exact rfl) (by with_unfolding_all exact rfl) (by (repeat (first | exact Tk.here | apply Tk.there))) (by (repeat (first | exact Len.z | apply Len.s))) (by decide +kernel) (by (first | exact Pt.n | (apply Pt.s; repeat (first | exact SetAt.z | apply SetAt.s)))) ?_) | ((with_reducible refine wpList_st1 H (by with_unfolding_all exact rfl) (by with_unfolding_all exact rfl) (by (first | exact Ev.c | (apply Ev.t; repeat (first | exact Nth.z | apply Nth.s)))) (by (repeat (first | exact Tk.here | apply Tk.there))) (by decide +kernel) (by with_unfolding_all exact rfl) (by (repeat (first | exact SetAt.z | apply SetAt.s))) (by (first | exact Pt.n | (apply Pt.s; repeat (first | exact SetAt.z | apply SetAt.s)))) ?_); clear H; intro w H) | ((with_reducible refine wpList_stN H (by with_unfolding_all exact rfl) (by with_unfolding_all exact rfl) (by (first | exact Ev.c | (apply Ev.t; repeat (first | exact Nth.z | apply Nth.s)))) (by (repeat (first | exact Tk.here | apply Tk.there))) (by (repeat (first | exact Len.z | apply Len.s))) (by (repeat (first | exact Len.z | apply Len.s))) (by decide +kernel) (by with_unfolding_all exact rfl) (by (first | exact Pt.n | (apply Pt.s; repeat (first | exact SetAt.z | apply SetAt.s)))) ?_); clear H; intro w H))
    refine (among_any _ _ _ (by omega) (by omega)).mono ?_
    rintro e w7 ⟨⟨d, rfl, hd⟩, rfl⟩
    have hd' : (i : Int) + d ≤ q.length := by omega
    go_upto_region 9 with (first | ((with_reducible refine Ow.absorb H ?_); clear H; intro w H) | ((with_reducible refine Ow.absorbCalls H ?_); clear H; intro w H) | (with_reducible refine wpList_ld1 H (by with_unfolding_all exact rfl) (by with_unfolding_all exact rfl) (by (repeat (first | exact Tk.here | apply Tk.there))) (by decide +kernel) (by with_unfolding_all exact rfl) (by (first | exact Pt.n | (apply Pt.s; repeat (first | exact SetAt.z | apply SetAt.s)))) ?_) | (with_reducible refine wpList_ldN H (by with_unfolding_all exact rfl) (by with_unfolding_all exact rfl) (by (repeat (first | exact Tk.here | apply Tk.there))) (by (repeat (first | exact Len.z | apply Len.s))) (by decide +kernel) (by (first | exact Pt.n | (apply Pt.s; repeat (first | exact SetAt.z | apply SetAt.s)))) ?_) | ((with_reducible refine wpList_st1 H (by with_unfolding_all exact rfl) (by with_unfolding_all exact rfl) (by (first | exact Ev.c | (apply Ev.t; repeat (first | exact Nth.z | apply Nth.s)))) (by (repeat (first | exact Tk.here | apply Tk.there))) (by decide +kernel) (by with_unfolding_all exact rfl) (by (repeat (first | exact SetAt.z | apply SetAt.s))) (by (first | exact Pt.n | (apply Pt.s; repeat (first | exact SetAt.z | apply SetAt.s)))) ?_); clear H; intro w H) | ((with_reducible refine wpList_stN H (by with_unfolding_all exact rfl) (by with_unfolding_all exact rfl) (by (first | exact Ev.c | (apply Ev.t; repeat (first | exact Nth.z | apply Nth.s)))) (by (repeat (first | exact Tk.here | apply Tk.there))) (by (repeat (first | exact Len.z | apply Len.s))) (by (repeat (first | exact Len.z | apply Len.s))) (by decide +kernel) (by with_unfolding_all exact rfl) (by (first | exact Pt.n | (apply Pt.s; repeat (first | exact SetAt.z | apply SetAt.s)))) ?_); clear H; intro w H))
    obtain ⟨wz, rfl⟩ : ∃ wz, wz = w := ⟨_, rfl⟩
    go_wp2_with (first | ((with_reducible refine Ow.absorb H ?_); clear H; intro w H) | ((with_reducible refine Ow.absorbCalls H ?_); clear H; intro w H) | (with_reducible refine wpList_ld1 H (by with_unfolding_all exact rfl) (by with_unfolding_all exact rfl) (by (repeat (first | exact Tk.here | apply Tk.there))) (by decide +kernel) (by with_unfolding_all exact rfl) (by (first | exact Pt.n | (apply Pt.s; repeat (first | exact SetAt.z | apply SetAt.s)))) ?_) | (with_reducible refine wpList_ldN H (by with_unfolding_all exact rfl) (by with_unfolding_all exact rfl) (by (repeat (first | exact Tk.here | apply Tk.there))) (by (repeat (first | exact Len.z | apply Len.s))) (by decide +kernel) (by (first | exact Pt.n | (apply Pt.s; repeat (first | exact SetAt.z | apply SetAt.s)))) ?_) | ((with_reducible refine wpList_st1 H (by with_unfolding_all exact rfl) (by with_unfolding_all exact rfl) (by (first | exact Ev.c | (apply Ev.t; repeat (first | exact Nth.z | apply Nth.s)))) (by (repeat (first | exact Tk.here | apply Tk.there))) (by decide +kernel) (by with_unfolding_all exact rfl) (by (repeat (first | exact SetAt.z | apply SetAt.s))) (by (first | exact Pt.n | (apply Pt.s; repeat (first | exact SetAt.z | apply SetAt.s)))) ?_); clear H; intro w H) | ((with_reducible refine wpList_stN H (by with_unfolding_all exact rfl) (by with_unfolding_all exact rfl) (by (first | exact Ev.c | (apply Ev.t; repeat (first | exact Nth.z | apply Nth.s)))) (by (repeat (first | exact Tk.here | apply Tk.there))) (by (repeat (first | exact Len.z | apply Len.s))) (by (repeat (first | exact Len.z | apply Len.s))) (by decide +kernel) (by with_unfolding_all exact rfl) (by (first | exact Pt.n | (apply Pt.s; repeat (first | exact SetAt.z | apply SetAt.s)))) ?_); clear H; intro w H))
    generalize wz.heap.size = b15 at *
    generalize w6.heap.size = b10 at *
    replace H := ((H.slLit (n := 0) (sz := 2) (cs := []) (e := 53) (by (with_reducible (repeat (first | exact Tk.here | apply Tk.there)))) rfl (by simp [maxLen])).satsNil).vbNil
    have hij : (i : Int) + d = ((i + d : Nat) : Int) := by simp
    rw [hij]
    have hij2 : i ≤ i + d := by omega
    have hjq : i + d ≤ q.length := by omega
    clear hij hd hd' hi hi'
    generalize i + d = j at *
    have HJ : Hid (∀ la, Ow W K [pts b15 [.int .i64 0, .int .i64 0, .slice none 0 0] 38, VB (.slice none 0 0) [], Sl 53 2 (.slice la 0 0) 0 [], sats [], Spl y [] false, pts b10 [.int .i64 (codeOf f), .int .i64 (subOf f), .slice fa (dataOf f).length fc] 38, VB (.slice fa (dataOf f).length fc) (dataOf f), Spl x r f.isSome, Sl 53 2 (.slice la_ es.length lc) es.length (msCells es), Bod es] w →
        PiecesJ W K y b15 [pts b10 [.int .i64 (codeOf f), .int .i64 (subOf f), .slice fa (dataOf f).length fc] 38, VB (.slice fa (dataOf f).length fc) (dataOf f), Spl x r f.isSome, Sl 53 2 (.slice la_ es.length lc) es.length (msCells es), Bod es] q i j 0 (.slice la 0 0) (.bool true) w) :=
      fun la hH => ⟨[], [], none, [], la, 0, none, 0, by simpa [cutp] using Parses.short [] (by simp), rfl, rfl, rfl, hH⟩
    go_loopw [14, 16, 17] (fun s14 s16 s17 wr => ∃ k : Nat, k ≤ 3 ∧ s17 = .int .i64 k ∧ PiecesJ W K y b15 [pts b10 [.int .i64 (codeOf f), .int .i64 (subOf f), .slice fa (dataOf f).length fc] 38, VB (.slice fa (dataOf f).length fc) (dataOf f), Spl x r f.isSome, Sl 53 2 (.slice la_ es.length lc) es.length (msCells es), Bod es] q i j k s14 s16 wr) (fun _ _ s17 _ => 3 - (intOf s17).toNat)
    case atStart => exact ⟨0, by omega, rfl, HJ.out _ (H.sel (by (first | ((with_reducible (repeat (first | exact Sb.nil | apply Sb.cons | exact Tk.here | apply Tk.there))); done) | (repeat (first | exact Sb.nil | apply Sb.cons | exact Tk.here | apply Tk.there)))))⟩
    case round =>
      clear HJ H
      obtain ⟨k, hk, rfl, es2, ms2, f2, r2, la2, lc2, fa2, fc2, hp2, hes2, rfl, rfl, H⟩ := hrel
      obtain ⟨w, rfl⟩ : ∃ w, w = wr := ⟨_, rfl⟩
      have HP2 := Lib.hid hp2
      have HES2 := Lib.hid hes2
      have HES := Lib.hid hes
      clear hp2 hes2
      by_cases hk3 : k < 3
      · have hqcc : (q.length : Int) ≤ qc := by omega
        have hqc9 : (qc : Int) ≤ 9223372036854775807 := by omega
        have hiq : (i : Int) ≤ q.length := by omega
        have hjq' : (j : Int) ≤ q.length := by omega
        have hij' : (i : Int) ≤ j := by omega
        have hiqc : (i : Int) ≤ qc := by omega
        have hjqc : (j : Int) ≤ qc := by omega
        go_upto_region 13 with (first | ((with_reducible refine Ow.absorb H ?_); clear H; intro w H) | ((with_reducible refine Ow.absorbCalls H ?_); clear H; intro w H) | (with_reducible refine wpList_ld1 H (by with_unfolding_all exact rfl) (by with_unfolding_all exact rfl) (by (repeat (first | exact Tk.here | apply Tk.there))) (by decide +kernel) (by with_unfolding_all exact rfl) (by (first | exact Pt.n | (apply Pt.s; repeat (first | exact SetAt.z | apply SetAt.s)))) ?_) | (with_reducible refine wpList_ldN H (by with_unfolding_all exact rfl) (by with_unfolding_all exact rfl) (by (repeat (first | exact Tk.here | apply Tk.there))) (by (repeat (first | exact Len.z | apply Len.s))) (by decide +kernel) (by (first | exact Pt.n | (apply Pt.s; repeat (first | exact SetAt.z | apply SetAt.s)))) ?_) | ((with_reducible refine wpList_st1 H (by with_unfolding_all exact rfl) (by with_unfolding_all exact rfl) (by (first | exact Ev.c | (apply Ev.t; repeat (first | exact Nth.z | apply Nth.s)))) (by (repeat (first | exact Tk.here | apply Tk.there))) (by decide +kernel) (by with_unfolding_all exact rfl) (by (repeat (first | exact SetAt.z | apply SetAt.s))) (by (first | exact Pt.n | (apply Pt.s; repeat (first | exact SetAt.z | apply SetAt.s)))) ?_); clear H; intro w H) | ((with_reducible refine wpList_stN H (by with_unfolding_all exact rfl) (by with_unfolding_all exact rfl) (by (first | exact Ev.c | (apply Ev.t; repeat (first | exact Nth.z | apply Nth.s)))) (by (repeat (first | exact Tk.here | apply Tk.there))) (by (repeat (first | exact Len.z | apply Len.s))) (by (repeat (first | exact Len.z | apply Len.s))) (by decide +kernel) (by with_unfolding_all exact rfl) (by (first | exact Pt.n | (apply Pt.s; repeat (first | exact SetAt.z | apply SetAt.s)))) ?_); clear H; intro w H))
        go_cut [18] (fun s18 wx => ∃ pa n pc, s18 = .slice pa n pc ∧ n = ((q.drop (cutp i j q.length k)).take (cutp i j q.length (k + 1) - cutp i j q.length k)).length ∧ PieceIs W K s18 ((q.drop (cutp i j q.length k)).take (cutp i j q.length (k + 1) - cutp i j q.length k)) [pts b15 [.int .i64 (codeOf f2), .int .i64 (subOf f2), .slice fa2 (dataOf f2).length fc2] 38, VB (.slice fa2 (dataOf f2).length fc2) (dataOf f2), Sl 53 2 (.slice la2 es2.length lc2) es2.length (msCells es2), Bod es2, Spl y r2 f2.isSome, pts b10 [.int .i64 (codeOf f), .int .i64 (subOf f), .slice fa (dataOf f).length fc] 38, VB (.slice fa (dataOf f).length fc) (dataOf f), Spl x r f.isSome, Sl 53 2 (.slice la_ es.length lc) es.length (msCells es), Bod es] wx)
        case first =>
          have hkk : k = 0 ∨ k = 1 ∨ k = 2 := by omega
          obtain ⟨A1, hA1⟩ : ∃ A, (if qc = i then qa else Option.map (fun x => x.add i) qa) = A := ⟨_, rfl⟩
          obtain ⟨A2, hA2⟩ : ∃ A, (if qc = j then qa else Option.map (fun x => x.add j) qa) = A := ⟨_, rfl⟩
          have HB1 : Hid (A1 = qa.map (fun x => x.add i) ∨ (A1 = qa ∧ (i = 0 ∨ j - i = 0))) := by
            unfold Hid
            rw [← hA1]
            by_cases h : qc = i
            · right; rw [if_pos h]; exact ⟨rfl, by omega⟩
            · left; rw [if_neg h]
          have HB2 : Hid (A2 = qa.map (fun x => x.add j) ∨ (A2 = qa ∧ (j = 0 ∨ q.length - j = 0))) := by
            unfold Hid
            rw [← hA2]
            by_cases h : qc = j
            · right; rw [if_pos h]; exact ⟨rfl, by omega⟩
            · left; rw [if_neg h]
          rcases hkk with rfl | rfl | rfl
          all_goals
            go_region
            (try go_wp2_with fail)
            go_meet
            refine ⟨_, _, _, rfl, ?_, ?_, ?_⟩
            · first | (simp [cutp]; done) | (simp [cutp]; omega)
            · refine HQK.out.imp (fun w hv => vwB_part hv ?_ ?_ ?_ ?_ ?_)
              · first | exact .inr ⟨rfl, .inl (by simp [cutp])⟩ | (simpa [cutp] using HB1.out) | (simpa [cutp] using HB2.out)
              all_goals first | (simp [cutp]; done) | (simp [cutp]; omega)
            · exact (H.allocC _ _).drop.drew
        case rest =>
          clear H
          rename World => w8
          obtain ⟨pa, pn, pc8, rfl, hpn, ⟨hpk, H⟩⟩ := hcut
          obtain ⟨w, rfl⟩ : ∃ w, w = w8 := ⟨_, rfl⟩
          have hcat : q.take (cutp i j q.length k) ++ (q.drop (cutp i j q.length k)).take (cutp i j q.length (k + 1) - cutp i j q.length k) = q.take (cutp i j q.length (k + 1)) := by
            have hle : cutp i j q.length k ≤ cutp i j q.length (k + 1) := by
              have hkk : k = 0 ∨ k = 1 ∨ k = 2 := by omega
              rcases hkk with rfl | rfl | rfl <;> simp [cutp] <;> omega
            rw [← List.take_add]
            congr 1
            omega
          have hpb : Byte ((q.drop (cutp i j q.length k)).take (cutp i j q.length (k + 1) - cutp i j q.length k)) := HQY.out.part _ _
          have hpl : ((q.drop (cutp i j q.length k)).take (cutp i j q.length (k + 1) - cutp i j q.length k)).length ≤ 600 := by simp; omega
          generalize (q.drop (cutp i j q.length k)).take (cutp i j q.length (k + 1) - cutp i j q.length k) = p at *
          subst hpn
          have HCAT := Lib.hid hcat
          have HPB := Lib.hid hpb
          have HPK := Lib.hid hpk
          have hr2 : Byte r2 := (byte_of_parses (byte_take HQY.out _) HP2.out).1
          have hrl : r2.length ≤ 600 := by have := parses_length HP2.out; simp at this; omega
          obtain ⟨ms3, f3, r3, ok, d', hout⟩ := outcome_exists r2 f2.isSome p (parses_left HP2.out).2
          have hmore := parses_more HP2.out (parses_left HP2.out).2 hout
          rw [hcat] at hmore
          have HMORE := Lib.hid hmore
          have hbb := outcome_byte hout hr2 hpb
          clear hcat hpb hpk hmore
          go_upto_region 14 with (first | ((with_reducible refine Ow.absorb H ?_); clear H; intro w H) | ((with_reducible refine Ow.absorbCalls H ?_); clear H; intro w H) | (with_reducible refine wpList_ld1 H (by with_unfolding_all exact rfl) (by with_unfolding_all exact rfl) (by (repeat (first | exact Tk.here | apply Tk.there))) (by decide +kernel) (by with_unfolding_all exact rfl) (by (first | exact Pt.n | (apply Pt.s; repeat (first | exact SetAt.z | apply SetAt.s)))) ?_) | (with_reducible refine wpList_ldN H (by with_unfolding_all exact rfl) (by with_unfolding_all exact rfl) (by (repeat (first | exact Tk.here | apply Tk.there))) (by (repeat (first | exact Len.z | apply Len.s))) (by decide +kernel) (by (first | exact Pt.n | (apply Pt.s; repeat (first | exact SetAt.z | apply SetAt.s)))) ?_) | ((with_reducible refine wpList_st1 H (by with_unfolding_all exact rfl) (by with_unfolding_all exact rfl) (by (first | exact Ev.c | (apply Ev.t; repeat (first | exact Nth.z | apply Nth.s)))) (by (repeat (first | exact Tk.here | apply Tk.there))) (by decide +kernel) (by with_unfolding_all exact rfl) (by (repeat (first | exact SetAt.z | apply SetAt.s))) (by (first | exact Pt.n | (apply Pt.s; repeat (first | exact SetAt.z | apply SetAt.s)))) ?_); clear H; intro w H) | ((with_reducible refine wpList_stN H (by with_unfolding_all exact rfl) (by with_unfolding_all exact rfl) (by (first | exact Ev.c | (apply Ev.t; repeat (first | exact Nth.z | apply Nth.s)))) (by (repeat (first | exact Tk.here | apply Tk.there))) (by (repeat (first | exact Len.z | apply Len.s))) (by (repeat (first | exact Len.z | apply Len.s))) (by decide +kernel) (by with_unfolding_all exact rfl) (by (first | exact Pt.n | (apply Pt.s; repeat (first | exact SetAt.z | apply SetAt.s)))) ?_); clear H; intro w H))
          go_cut [19, 20, 21] (fun s19 s20 s21 wx => FedX W K [Spl y r3 d', pts b15 [.int .i64 (codeOf f2), .int .i64 (subOf f2), .slice fa2 (dataOf f2).length fc2] 38, VB (.slice fa2 (dataOf f2).length fc2) (dataOf f2), Sl 53 2 (.slice la2 es2.length lc2) es2.length (msCells es2), Bod es2, pts b10 [.int .i64 (codeOf f), .int .i64 (subOf f), .slice fa (dataOf f).length fc] 38, VB (.slice fa (dataOf f).length fc) (dataOf f), Spl x r f.isSome, Sl 53 2 (.slice la_ es.length lc) es.length (msCells es), Bod es] 53 ms3 f3 ok s19 s20 s21 wx)
          case first =>
            rcases hout with ⟨hd, hp, rfl, rfl⟩ | ⟨hd, rfl, rfl, rfl, rfl, rfl, rfl⟩
            · rw [hd] at H
              go_wp2_with (first | ((with_reducible refine Ow.absorb H ?_); clear H; intro w H) | ((with_reducible refine Ow.absorbCalls H ?_); clear H; intro w H) | (with_reducible refine wpList_ld1 H (by with_unfolding_all exact rfl) (by with_unfolding_all exact rfl) (by (repeat (first | exact Tk.here | apply Tk.there))) (by decide +kernel) (by with_unfolding_all exact rfl) (by (first | exact Pt.n | (apply Pt.s; repeat (first | exact SetAt.z | apply SetAt.s)))) ?_) | (with_reducible refine wpList_ldN H (by with_unfolding_all exact rfl) (by with_unfolding_all exact rfl) (by (repeat (first | exact Tk.here | apply Tk.there))) (by (repeat (first | exact Len.z | apply Len.s))) (by decide +kernel) (by (first | exact Pt.n | (apply Pt.s; repeat (first | exact SetAt.z | apply SetAt.s)))) ?_) | ((with_reducible refine wpList_st1 H (by with_unfolding_all exact rfl) (by with_unfolding_all exact rfl) (by (first | exact Ev.c | (apply Ev.t; repeat (first | exact Nth.z | apply Nth.s)))) (by (repeat (first | exact Tk.here | apply Tk.there))) (by decide +kernel) (by with_unfolding_all exact rfl) (by (repeat (first | exact SetAt.z | apply SetAt.s))) (by (first | exact Pt.n | (apply Pt.s; repeat (first | exact SetAt.z | apply SetAt.s)))) ?_); clear H; intro w H) | ((with_reducible refine wpList_stN H (by with_unfolding_all exact rfl) (by with_unfolding_all exact rfl) (by (first | exact Ev.c | (apply Ev.t; repeat (first | exact Nth.z | apply Nth.s)))) (by (repeat (first | exact Tk.here | apply Tk.there))) (by (repeat (first | exact Len.z | apply Len.s))) (by (repeat (first | exact Len.z | apply Len.s))) (by decide +kernel) (by with_unfolding_all exact rfl) (by (first | exact Pt.n | (apply Pt.s; repeat (first | exact SetAt.z | apply SetAt.s)))) ?_); clear H; intro w H))
              refine (feed_spec y _ r2 p hr2 HPB.out (by omega) ms3 f3 r3 hp).call H (by (first | ((with_reducible (repeat (first | exact Sb.nil | apply Sb.cons | exact Tk.here | apply Tk.there))); done) | (repeat (first | exact Sb.nil | apply Sb.cons | exact Tk.here | apply Tk.there)))) (Kr.kn HPK.out) ?_
              rintro v L' ⟨lv, es3, fv, rfl, hes3, rfl⟩ w6 H6
              simp only [List.cons_append, List.nil_append] at H6
              clear H
              obtain ⟨fa3, fc3, rfl, H⟩ := fault_open (f := f3) H6 (by (with_reducible (repeat (first | exact Tk.here | apply Tk.there))))
              obtain ⟨_, la3, lc3, rfl, _, _⟩ := H.slShape (e := 53) (v := lv) (by (with_reducible (repeat (first | exact Tk.here | apply Tk.there))))
              clear H6
              go_wp2_with (first | ((with_reducible refine Ow.absorb H ?_); clear H; intro w H) | ((with_reducible refine Ow.absorbCalls H ?_); clear H; intro w H) | (with_reducible refine wpList_ld1 H (by with_unfolding_all exact rfl) (by with_unfolding_all exact rfl) (by (repeat (first | exact Tk.here | apply Tk.there))) (by decide +kernel) (by with_unfolding_all exact rfl) (by (first | exact Pt.n | (apply Pt.s; repeat (first | exact SetAt.z | apply SetAt.s)))) ?_) | (with_reducible refine wpList_ldN H (by with_unfolding_all exact rfl) (by with_unfolding_all exact rfl) (by (repeat (first | exact Tk.here | apply Tk.there))) (by (repeat (first | exact Len.z | apply Len.s))) (by decide +kernel) (by (first | exact Pt.n | (apply Pt.s; repeat (first | exact SetAt.z | apply SetAt.s)))) ?_) | ((with_reducible refine wpList_st1 H (by with_unfolding_all exact rfl) (by with_unfolding_all exact rfl) (by (first | exact Ev.c | (apply Ev.t; repeat (first | exact Nth.z | apply Nth.s)))) (by (repeat (first | exact Tk.here | apply Tk.there))) (by decide +kernel) (by with_unfolding_all exact rfl) (by (repeat (first | exact SetAt.z | apply SetAt.s))) (by (first | exact Pt.n | (apply Pt.s; repeat (first | exact SetAt.z | apply SetAt.s)))) ?_); clear H; intro w H) | ((with_reducible refine wpList_stN H (by with_unfolding_all exact rfl) (by with_unfolding_all exact rfl) (by (first | exact Ev.c | (apply Ev.t; repeat (first | exact Nth.z | apply Nth.s)))) (by (repeat (first | exact Tk.here | apply Tk.there))) (by (repeat (first | exact Len.z | apply Len.s))) (by (repeat (first | exact Len.z | apply Len.s))) (by decide +kernel) (by with_unfolding_all exact rfl) (by (first | exact Pt.n | (apply Pt.s; repeat (first | exact SetAt.z | apply SetAt.s)))) ?_); clear H; intro w H))
              go_meet
              exact ⟨_, es3, la3, lc3, fa3, fc3, rfl, rfl, rfl, hes3, H.sel (by (first | ((with_reducible (repeat (first | exact Sb.nil | apply Sb.cons | exact Tk.here | apply Tk.there))); done) | (repeat (first | exact Sb.nil | apply Sb.cons | exact Tk.here | apply Tk.there))))⟩
            · rw [hd] at H
              obtain ⟨vb, H⟩ := H.open (A := Spl y [] true) (by (with_reducible (repeat (first | exact Tk.here | apply Tk.there)))) (Bs := fun vb => [pts y [vb, .bool true, .bool true] 56, VB vb []]) (fun _ h => h)
              simp only [List.cons_append, List.nil_append] at H
              go_wp2_with (first | ((with_reducible refine Ow.absorb H ?_); clear H; intro w H) | ((with_reducible refine Ow.absorbCalls H ?_); clear H; intro w H) | (with_reducible refine wpList_ld1 H (by with_unfolding_all exact rfl) (by with_unfolding_all exact rfl) (by (repeat (first | exact Tk.here | apply Tk.there))) (by decide +kernel) (by with_unfolding_all exact rfl) (by (first | exact Pt.n | (apply Pt.s; repeat (first | exact SetAt.z | apply SetAt.s)))) ?_) | (with_reducible refine wpList_ldN H (by with_unfolding_all exact rfl) (by with_unfolding_all exact rfl) (by (repeat (first | exact Tk.here | apply Tk.there))) (by (repeat (first | exact Len.z | apply Len.s))) (by decide +kernel) (by (first | exact Pt.n | (apply Pt.s; repeat (first | exact SetAt.z | apply SetAt.s)))) ?_) | ((with_reducible refine wpList_st1 H (by with_unfolding_all exact rfl) (by with_unfolding_all exact rfl) (by (first | exact Ev.c | (apply Ev.t; repeat (first | exact Nth.z | apply Nth.s)))) (by (repeat (first | exact Tk.here | apply Tk.there))) (by decide +kernel) (by with_unfolding_all exact rfl) (by (repeat (first | exact SetAt.z | apply SetAt.s))) (by (first | exact Pt.n | (apply Pt.s; repeat (first | exact SetAt.z | apply SetAt.s)))) ?_); clear H; intro w H) | ((with_reducible refine wpList_stN H (by with_unfolding_all exact rfl) (by with_unfolding_all exact rfl) (by (first | exact Ev.c | (apply Ev.t; repeat (first | exact Nth.z | apply Nth.s)))) (by (repeat (first | exact Tk.here | apply Tk.there))) (by (repeat (first | exact Len.z | apply Len.s))) (by (repeat (first | exact Len.z | apply Len.s))) (by decide +kernel) (by with_unfolding_all exact rfl) (by (first | exact Pt.n | (apply Pt.s; repeat (first | exact SetAt.z | apply SetAt.s)))) ?_); clear H; intro w H))
              refine (feed_dead _ y _ _ (H.blk (by (with_reducible (repeat (first | exact Tk.here | apply Tk.there)))))).mono ?_
              rintro e w6 ⟨rfl, hw6⟩
              replace H := H.only hw6
              clear hw6
              go_wp2_with (first | ((with_reducible refine Ow.absorb H ?_); clear H; intro w H) | ((with_reducible refine Ow.absorbCalls H ?_); clear H; intro w H) | (with_reducible refine wpList_ld1 H (by with_unfolding_all exact rfl) (by with_unfolding_all exact rfl) (by (repeat (first | exact Tk.here | apply Tk.there))) (by decide +kernel) (by with_unfolding_all exact rfl) (by (first | exact Pt.n | (apply Pt.s; repeat (first | exact SetAt.z | apply SetAt.s)))) ?_) | (with_reducible refine wpList_ldN H (by with_unfolding_all exact rfl) (by with_unfolding_all exact rfl) (by (repeat (first | exact Tk.here | apply Tk.there))) (by (repeat (first | exact Len.z | apply Len.s))) (by decide +kernel) (by (first | exact Pt.n | (apply Pt.s; repeat (first | exact SetAt.z | apply SetAt.s)))) ?_) | ((with_reducible refine wpList_st1 H (by with_unfolding_all exact rfl) (by with_unfolding_all exact rfl) (by (first | exact Ev.c | (apply Ev.t; repeat (first | exact Nth.z | apply Nth.s)))) (by (repeat (first | exact Tk.here | apply Tk.there))) (by decide +kernel) (by with_unfolding_all exact rfl) (by (repeat (first | exact SetAt.z | apply SetAt.s))) (by (first | exact Pt.n | (apply Pt.s; repeat (first | exact SetAt.z | apply SetAt.s)))) ?_); clear H; intro w H) | ((with_reducible refine wpList_stN H (by with_unfolding_all exact rfl) (by with_unfolding_all exact rfl) (by (first | exact Ev.c | (apply Ev.t; repeat (first | exact Nth.z | apply Nth.s)))) (by (repeat (first | exact Tk.here | apply Tk.there))) (by (repeat (first | exact Len.z | apply Len.s))) (by (repeat (first | exact Len.z | apply Len.s))) (by decide +kernel) (by with_unfolding_all exact rfl) (by (first | exact Pt.n | (apply Pt.s; repeat (first | exact SetAt.z | apply SetAt.s)))) ?_); clear H; intro w H))
              go_meet
              have H7 := H.shut (A := Spl y [] true) (M := [pts y [vb, .bool true, .bool true] 56, VB vb []]) (by (first | ((with_reducible (repeat (first | exact Sb.nil | apply Sb.cons | exact Tk.here | apply Tk.there))); done) | (repeat (first | exact Sb.nil | apply Sb.cons | exact Tk.here | apply Tk.there)))) (fun k hk => ⟨_, hk⟩)
              have H8 := (H7.vbNil.slNil (e := 53) (sz := 2)).satsNil
              exact ⟨_, [], none, 0, none, 0, rfl, rfl, rfl, rfl, H8.sel (by (first | ((with_reducible (repeat (first | exact Sb.nil | apply Sb.cons | exact Tk.here | apply Tk.there))); done) | (repeat (first | exact Sb.nil | apply Sb.cons | exact Tk.here | apply Tk.there))))⟩
          case rest =>
            clear H
            rename World => w9
            obtain ⟨b20, es3, la3, lc3, fa3, fc3, rfl, rfl, rfl, hes3, H⟩ := hcut
            obtain ⟨w, rfl⟩ : ∃ w, w = w9 := ⟨_, rfl⟩
            have HES3 := Lib.hid hes3
            have HV3 : Hid (∀ u ∈ msCells es3, u.oneCell' = true) := ms_one (bods_v (es := es3) H (by (with_reducible (repeat (first | exact Tk.here | apply Tk.there)))))
            have hel : es2.length + es3.length ≤ 1200 := by
              have h1 := parses_length HP2.out
              have h2 := congrArg List.length HES2.out
              have h3 := congrArg List.length hes3
              have h4 := parses_length HMORE.out.1
              simp at h1 h2 h3 h4
              omega
            clear hes3 hout hbb
            obtain ⟨hm1, hm2, hm3⟩ := HMORE.out
            cases f2 with
            | some g =>
              simp only [Option.isSome_some, if_true, Bool.not_true, Bool.false_and] at hm1 hm2 hm3
              subst hm2 hm3
              go_wp2_with (first | (first | ((with_reducible refine Ow.absorb H ?_); clear H; intro w H) | ((with_reducible refine Ow.absorbCalls H ?_); clear H; intro w H) | (with_reducible refine wpList_ld1 H (by with_unfolding_all exact rfl) (by with_unfolding_all exact rfl) (by (repeat (first | exact Tk.here | apply Tk.there))) (by decide +kernel) (by with_unfolding_all exact rfl) (by (first | exact Pt.n | (apply Pt.s; repeat (first | exact SetAt.z | apply SetAt.s)))) ?_) | (with_reducible refine wpList_ldN H (by with_unfolding_all exact rfl) (by with_unfolding_all exact rfl) (by (repeat (first | exact Tk.here | apply Tk.there))) (by (repeat (first | exact Len.z | apply Len.s))) (by decide +kernel) (by (first | exact Pt.n | (apply Pt.s; repeat (first | exact SetAt.z | apply SetAt.s)))) ?_) | ((with_reducible refine wpList_st1 H (by with_unfolding_all exact rfl) (by with_unfolding_all exact rfl) (by (first | exact Ev.c | (apply Ev.t; repeat (first | exact Nth.z | apply Nth.s)))) (by (repeat (first | exact Tk.here | apply Tk.there))) (by decide +kernel) (by with_unfolding_all exact rfl) (by (repeat (first | exact SetAt.z | apply SetAt.s))) (by (first | exact Pt.n | (apply Pt.s; repeat (first | exact SetAt.z | apply SetAt.s)))) ?_); clear H; intro w H) | ((with_reducible refine wpList_stN H (by with_unfolding_all exact rfl) (by with_unfolding_all exact rfl) (by (first | exact Ev.c | (apply Ev.t; repeat (first | exact Nth.z | apply Nth.s)))) (by (repeat (first | exact Tk.here | apply Tk.there))) (by (repeat (first | exact Len.z | apply Len.s))) (by (repeat (first | exact Len.z | apply Len.s))) (by decide +kernel) (by with_unfolding_all exact rfl) (by (first | exact Pt.n | (apply Pt.s; repeat (first | exact SetAt.z | apply SetAt.s)))) ?_); clear H; intro w H)) | (at_builtin; (with_reducible refine wpList_apS msgsEl H (by (first | exact Ev.c | (apply Ev.t; repeat (first | exact Nth.z | apply Nth.s)))) (by (first | exact Ev.c | (apply Ev.t; repeat (first | exact Nth.z | apply Nth.s)))) (by (with_reducible (repeat (first | exact Tk.here | apply Tk.there)))) (H.vw (by (with_reducible (repeat (first | exact Tk.here | apply Tk.there))))) HV3.out (by omega) ?_); clear H; intro a5 c5 w _ _ H; (simp only [Act.put, List.setIfInBounds_toArray, List.set_cons_zero, List.set_cons_succ])))
              go_roundw
              case rel =>
                have H7 := bod_append (es := es2) (fs := es3) H (by (first | ((with_reducible (repeat (first | exact Sb.nil | apply Sb.cons | exact Tk.here | apply Tk.there))); done) | (repeat (first | exact Sb.nil | apply Sb.cons | exact Tk.here | apply Tk.there))))
                refine ⟨k + 1, by omega, by go_num, es2 ++ es3, ms2 ++ ms3, some g, r3, a5, c5, fa2, fc2, hm1, by simp [HES2.out, HES3.out], by rw [List.length_append], rfl, ?_⟩
                rw [List.length_append, msCells_append]
                exact H7.sel (by (first | ((with_reducible (repeat (first | exact Sb.nil | apply Sb.cons | exact Tk.here | apply Tk.there))); done) | (repeat (first | exact Sb.nil | apply Sb.cons | exact Tk.here | apply Tk.there))))
              case measure => simp [intOf]; omega
            | none =>
              simp only [Option.isSome_none, Bool.false_eq_true, if_false, Bool.not_false, Bool.true_and] at hm1 hm2 hm3
              subst hm2 hm3
              cases f3 with
              | none =>
                go_wp2_with (first | (first | ((with_reducible refine Ow.absorb H ?_); clear H; intro w H) | ((with_reducible refine Ow.absorbCalls H ?_); clear H; intro w H) | (with_reducible refine wpList_ld1 H (by with_unfolding_all exact rfl) (by with_unfolding_all exact rfl) (by (repeat (first | exact Tk.here | apply Tk.there))) (by decide +kernel) (by with_unfolding_all exact rfl) (by (first | exact Pt.n | (apply Pt.s; repeat (first | exact SetAt.z | apply SetAt.s)))) ?_) | (with_reducible refine wpList_ldN H (by with_unfolding_all exact rfl) (by with_unfolding_all exact rfl) (by (repeat (first | exact Tk.here | apply Tk.there))) (by (repeat (first | exact Len.z | apply Len.s))) (by decide +kernel) (by (first | exact Pt.n | (apply Pt.s; repeat (first | exact SetAt.z | apply SetAt.s)))) ?_) | ((with_reducible refine wpList_st1 H (by with_unfolding_all exact rfl) (by with_unfolding_all exact rfl) (by (first | exact Ev.c | (apply Ev.t; repeat (first | exact Nth.z | apply Nth.s)))) (by (repeat (first | exact Tk.here | apply Tk.there))) (by decide +kernel) (by with_unfolding_all exact rfl) (by (repeat (first | exact SetAt.z | apply SetAt.s))) (by (first | exact Pt.n | (apply Pt.s; repeat (first | exact SetAt.z | apply SetAt.s)))) ?_); clear H; intro w H) | ((with_reducible refine wpList_stN H (by with_unfolding_all exact rfl) (by with_unfolding_all exact rfl) (by (first | exact Ev.c | (apply Ev.t; repeat (first | exact Nth.z | apply Nth.s)))) (by (repeat (first | exact Tk.here | apply Tk.there))) (by (repeat (first | exact Len.z | apply Len.s))) (by (repeat (first | exact Len.z | apply Len.s))) (by decide +kernel) (by with_unfolding_all exact rfl) (by (first | exact Pt.n | (apply Pt.s; repeat (first | exact SetAt.z | apply SetAt.s)))) ?_); clear H; intro w H)) | (at_builtin; (with_reducible refine wpList_apS msgsEl H (by (first | exact Ev.c | (apply Ev.t; repeat (first | exact Nth.z | apply Nth.s)))) (by (first | exact Ev.c | (apply Ev.t; repeat (first | exact Nth.z | apply Nth.s)))) (by (with_reducible (repeat (first | exact Tk.here | apply Tk.there)))) (H.vw (by (with_reducible (repeat (first | exact Tk.here | apply Tk.there))))) HV3.out (by omega) ?_); clear H; intro a5 c5 w _ _ H; (simp only [Act.put, List.setIfInBounds_toArray, List.set_cons_zero, List.set_cons_succ])))
                go_roundw
                case rel =>
                  have H7 := bod_append (es := es2) (fs := es3) H (by (first | ((with_reducible (repeat (first | exact Sb.nil | apply Sb.cons | exact Tk.here | apply Tk.there))); done) | (repeat (first | exact Sb.nil | apply Sb.cons | exact Tk.here | apply Tk.there))))
                  refine ⟨k + 1, by omega, by go_num, es2 ++ es3, ms2 ++ ms3, none, r3, a5, c5, fa2, fc2, hm1, by simp [HES2.out, HES3.out], by rw [List.length_append], rfl, ?_⟩
                  rw [List.length_append, msCells_append]
                  exact H7.sel (by (first | ((with_reducible (repeat (first | exact Sb.nil | apply Sb.cons | exact Tk.here | apply Tk.there))); done) | (repeat (first | exact Sb.nil | apply Sb.cons | exact Tk.here | apply Tk.there))))
                case measure => simp [intOf]; omega
              | some g =>
                go_wp2_with (first | (first | ((with_reducible refine Ow.absorb H ?_); clear H; intro w H) | ((with_reducible refine Ow.absorbCalls H ?_); clear H; intro w H) | (with_reducible refine wpList_ld1 H (by with_unfolding_all exact rfl) (by with_unfolding_all exact rfl) (by (repeat (first | exact Tk.here | apply Tk.there))) (by decide +kernel) (by with_unfolding_all exact rfl) (by (first | exact Pt.n | (apply Pt.s; repeat (first | exact SetAt.z | apply SetAt.s)))) ?_) | (with_reducible refine wpList_ldN H (by with_unfolding_all exact rfl) (by with_unfolding_all exact rfl) (by (repeat (first | exact Tk.here | apply Tk.there))) (by (repeat (first | exact Len.z | apply Len.s))) (by decide +kernel) (by (first | exact Pt.n | (apply Pt.s; repeat (first | exact SetAt.z | apply SetAt.s)))) ?_) | ((with_reducible refine wpList_st1 H (by with_unfolding_all exact rfl) (by with_unfolding_all exact rfl) (by (first | exact Ev.c | (apply Ev.t; repeat (first | exact Nth.z | apply Nth.s)))) (by (repeat (first | exact Tk.here | apply Tk.there))) (by decide +kernel) (by with_unfolding_all exact rfl) (by (repeat (first | exact SetAt.z | apply SetAt.s))) (by (first | exact Pt.n | (apply Pt.s; repeat (first | exact SetAt.z | apply SetAt.s)))) ?_); clear H; intro w H) | ((with_reducible refine wpList_stN H (by with_unfolding_all exact rfl) (by with_unfolding_all exact rfl) (by (first | exact Ev.c | (apply Ev.t; repeat (first | exact Nth.z | apply Nth.s)))) (by (repeat (first | exact Tk.here | apply Tk.there))) (by (repeat (first | exact Len.z | apply Len.s))) (by (repeat (first | exact Len.z | apply Len.s))) (by decide +kernel) (by with_unfolding_all exact rfl) (by (first | exact Pt.n | (apply Pt.s; repeat (first | exact SetAt.z | apply SetAt.s)))) ?_); clear H; intro w H)) | (at_builtin; (with_reducible refine wpList_apS msgsEl H (by (first | exact Ev.c | (apply Ev.t; repeat (first | exact Nth.z | apply Nth.s)))) (by (first | exact Ev.c | (apply Ev.t; repeat (first | exact Nth.z | apply Nth.s)))) (by (with_reducible (repeat (first | exact Tk.here | apply Tk.there)))) (H.vw (by (with_reducible (repeat (first | exact Tk.here | apply Tk.there))))) HV3.out (by omega) ?_); clear H; intro a5 c5 w _ _ H; (simp only [Act.put, List.setIfInBounds_toArray, List.set_cons_zero, List.set_cons_succ])))
                go_roundw
                case rel =>
                  have H7 := bod_append (es := es2) (fs := es3) H (by (first | ((with_reducible (repeat (first | exact Sb.nil | apply Sb.cons | exact Tk.here | apply Tk.there))); done) | (repeat (first | exact Sb.nil | apply Sb.cons | exact Tk.here | apply Tk.there))))
                  refine ⟨k + 1, by omega, by go_num, es2 ++ es3, ms2 ++ ms3, some g, r3, a5, c5, fa3, fc3, hm1, by simp [HES2.out, HES3.out], by rw [List.length_append], rfl, ?_⟩
                  rw [List.length_append, msCells_append]
                  exact H7.sel (by (first | ((with_reducible (repeat (first | exact Sb.nil | apply Sb.cons | exact Tk.here | apply Tk.there))); done) | (repeat (first | exact Sb.nil | apply Sb.cons | exact Tk.here | apply Tk.there))))
                case measure => simp [intOf]; omega
      · obtain rfl : k = 3 := by omega
        have hq3 : q.take (cutp i j q.length 3) = q := by simp [cutp]
        have HPE := HP2.out
        rw [hq3] at HPE
        obtain ⟨rfl, rfl, rfl⟩ := parses_unique HP.out HPE
        have hyb := byte_of_parses HQY.out HP.out
        have heq : es.map Ms.pair = es2.map Ms.pair := HES.out.trans HES2.out.symm
        have hlen : es2.length = es.length := by have := congrArg List.length heq; simpa using this.symm
        obtain ⟨vx, H⟩ := H.open (A := Spl x r f.isSome) (by (with_reducible (repeat (first | exact Tk.here | apply Tk.there)))) (Bs := fun vb => [pts x [vb, .bool true, .bool f.isSome] 56, VB vb r]) (fun _ h => h)
        simp only [List.cons_append, List.nil_append] at H
        obtain ⟨vy, H⟩ := H.open (A := Spl y r f.isSome) (by (with_reducible (repeat (first | exact Tk.here | apply Tk.there)))) (Bs := fun vb => [pts y [vb, .bool true, .bool f.isSome] 56, VB vb r]) (fun _ h => h)
        simp only [List.cons_append, List.nil_append] at H
        obtain ⟨xa, xc, rfl, _, _⟩ := (H.vvB (v := vx) (by (with_reducible (repeat (first | exact Tk.here | apply Tk.there))))).shape
        obtain ⟨ya, yc, rfl, _, _⟩ := (H.vvB (v := vy) (by (with_reducible (repeat (first | exact Tk.here | apply Tk.there))))).shape
        have HFY : Hid (FByte f) := hyb.2.2
        have HMB : Hid (∀ p ∈ ms, Byte p.2) := hyb.2.1
        have HEQ := Lib.hid heq
        have HLE := Lib.hid hlen
        have hll : es.length ≤ 1000000 := by
          have h1 := parses_length HP.out
          have h2 := congrArg List.length HES.out
          simp at h2
          omega
        rw [hlen] at H ⊢
        clear hyb heq hlen hq3 HPE
        go_wp2_with (first
          | (first | ((with_reducible refine Ow.absorb H ?_); clear H; intro w H) | ((with_reducible refine Ow.absorbCalls H ?_); clear H; intro w H) | (with_reducible refine wpList_ld1 H (by with_unfolding_all exact rfl) (by with_unfolding_all exact rfl) (by (repeat (first | exact Tk.here | apply Tk.there))) (by decide +kernel) (by with_unfolding_all exact rfl) (by (first | exact Pt.n | (apply Pt.s; repeat (first | exact SetAt.z | apply SetAt.s)))) ?_) | (with_reducible refine wpList_ldN H (by with_unfolding_all exact rfl) (by with_unfolding_all exact rfl) (by (repeat (first | exact Tk.here | apply Tk.there))) (by (repeat (first | exact Len.z | apply Len.s))) (by decide +kernel) (by (first | exact Pt.n | (apply Pt.s; repeat (first | exact SetAt.z | apply SetAt.s)))) ?_) | ((with_reducible refine wpList_st1 H (by with_unfolding_all exact rfl) (by with_unfolding_all exact rfl) (by (first | exact Ev.c | (apply Ev.t; repeat (first | exact Nth.z | apply Nth.s)))) (by (repeat (first | exact Tk.here | apply Tk.there))) (by decide +kernel) (by with_unfolding_all exact rfl) (by (repeat (first | exact SetAt.z | apply SetAt.s))) (by (first | exact Pt.n | (apply Pt.s; repeat (first | exact SetAt.z | apply SetAt.s)))) ?_); clear H; intro w H) | ((with_reducible refine wpList_stN H (by with_unfolding_all exact rfl) (by with_unfolding_all exact rfl) (by (first | exact Ev.c | (apply Ev.t; repeat (first | exact Nth.z | apply Nth.s)))) (by (repeat (first | exact Tk.here | apply Tk.there))) (by (repeat (first | exact Len.z | apply Len.s))) (by (repeat (first | exact Len.z | apply Len.s))) (by decide +kernel) (by with_unfolding_all exact rfl) (by (first | exact Pt.n | (apply Pt.s; repeat (first | exact SetAt.z | apply SetAt.s)))) ?_); clear H; intro w H))
          | (go_at_call 18; (with_reducible refine (faults_ok _ _ _ f (faultV_mk (H.vvB (by (with_reducible (repeat (first | exact Tk.here | apply Tk.there)))))) (faultV_mk (H.vvB (by (with_reducible (repeat (first | exact Tk.here | apply Tk.there)))))) HFY.out).mono ?_); rintro e w9 ⟨rfl, hw9⟩; replace H := H.only hw9)
          | (go_at_call 19; (with_reducible refine (held_any _ _ _ _ _ r (H.blk (by (with_reducible (repeat (first | exact Tk.here | apply Tk.there))))) (H.vvB (by (with_reducible (repeat (first | exact Tk.here | apply Tk.there)))))).mono ?_); rintro e w10 ⟨rfl, rfl⟩))
        obtain ⟨w, rfl⟩ : ∃ w, w = w9 := ⟨_, rfl⟩
        have HM1 : Hid (MsV w (.slice la_ es.length lc) es) := ⟨H.vw (by (with_reducible (repeat (first | exact Tk.here | apply Tk.there)))), fun m hm => ⟨bods_v (es := es) H (by (with_reducible (repeat (first | exact Tk.here | apply Tk.there)))) m hm, HMB.out m.pair (by rw [← HES.out]; exact List.mem_map_of_mem hm)⟩⟩
        have HM2 : Hid (MsV w (.slice la2 es.length lc2) es2) := ⟨by rw [HLE.out]; exact H.vw (v := .slice la2 es.length lc2) (by (with_reducible (repeat (first | exact Tk.here | apply Tk.there)))), fun m hm => ⟨bods_v (es := es2) H (by (with_reducible (repeat (first | exact Tk.here | apply Tk.there)))) m hm, HMB.out m.pair (by rw [← HES.out, HEQ.out]; exact List.mem_map_of_mem hm)⟩⟩
        have HPR : Hid (∀ i (h1 : i < es.length) (h2 : i < es2.length), es[i].kind = es2[i].kind ∧ es[i].body = es2[i].body) := fun i h1 h2 => by
          have h := congrArg (fun l => l[i]?) HEQ.out
          simp [List.getElem?_map, List.getElem?_eq_getElem h1, List.getElem?_eq_getElem h2, Ms.pair] at h
          exact h
        have HOO : Hid (Only [] W w) := by have := H; rw [HK.out] at this; exact this.fin
        clear H HES2 HP HP2 HFY HQK HQY
        go_loopw [22] (fun s22 wr => ∃ k n : Nat, k ≤ es.length ∧ s22 = .int .i64 k ∧ wr = w.drewN n) (fun s22 _ => es.length - (intOf s22).toNat)
        case atStart => exact ⟨0, 0, Nat.zero_le _, rfl, rfl⟩
        case round =>
          obtain ⟨k, n, hk, rfl, hw⟩ := hrel
          have HO : Only [] w wr := by rw [hw]; exact (Only.refl _ _).drewN n
          have HW := Lib.hid hw
          clear hw
          by_cases hlt : k < es.length
          · have hne : es ≠ [] := by rintro rfl; simp at hlt
            have hlt2 : k < es2.length := by have := HLE.out; omega
            have hne2 : es2 ≠ [] := by rintro rfl; simp at hlt2
            obtain ⟨b1, o1, c1, hv1, _, hm1, hl1, hc1⟩ := msgs_open HM1.out.vw hne
            obtain ⟨b2, o2, c2, hv2, _, hm2, hl2, hc2⟩ := msgs_open HM2.out.vw hne2
            obtain rfl : la_ = some ⟨b1, o1, none⟩ := by injection hv1
            obtain rfl : la2 = some ⟨b2, o2, none⟩ := by injection hv2
            obtain ⟨d1, d2⟩ := hc1 k hlt
            obtain ⟨d3, d4⟩ := hc2 k hlt2
            obtain ⟨p1, p2⟩ := HPR.out k hlt hlt2
            have hx1 := HM1.out.bod es[k] (List.getElem_mem hlt)
            have hx2 := HM2.out.bod es2[k] (List.getElem_mem hlt2)
            rw [p2] at hx1
            rw [p1] at d1
            have HV1 := Lib.hid hx1
            have HV2 := Lib.hid hx2
            clear p1 p2 hx1 hx2 hv1 hv2 hc1 hc2
            generalize es2[k].kind = z at *
            generalize es[k].bv = v1 at *
            generalize es2[k].bv = v2 at *
            have e1 : wr.cell? ⟨b1, o1 + k * 2, none⟩ = some (.int .i64 z) := by rw [HW.out]; exact d1
            have e2 : wr.cell? ⟨b1, o1 + k * 2 + 1, none⟩ = some v1 := by rw [HW.out]; exact d2
            have e3 : wr.cell? ⟨b2, o2 + k * 2, none⟩ = some (.int .i64 z) := by rw [HW.out]; exact d3
            have e4 : wr.cell? ⟨b2, o2 + k * 2 + 1, none⟩ = some v2 := by rw [HW.out]; exact d4
            obtain ⟨x1, y1, hx1, _, _⟩ := HV1.out.1.shape
            obtain ⟨x2, y2, hx2, _, _⟩ := HV2.out.1.shape
            subst hx1 hx2
            have hlt' : (k : Int) < (es.length : Int) := by omega
            clear d1 d2 d3 d4
            go_wp2_with fail
            go_quiet ((go_at_call 11; exact calls_still _ rfl (bytes_eq w _ (by (repeat (first | with_reducible exact Only.refl _ _ | with_reducible assumption | with_reducible apply Only.drew | with_reducible apply Only.drewN | with_reducible apply Only.alloc | (refine Only.setCell ?_ (by first | (left; simp; done) | (right; omega)) _ _)))) _ _ _ HV1.out.1 HV2.out.1 HV1.out.2)))
            go_wp2_with fail
            go_roundw
            case rel => exact ⟨k + 1, n + nq, by omega, by go_num, by rw [HW.out]; simp [World.drewN]; omega⟩
            case measure => simp [intOf]; omega
          · obtain rfl : k = es.length := by omega
            go_wp2_with fail
            go_ret
            exact ⟨rfl, HOO.out.then HO⟩

namespace markPieces
theorem walk {W : World} (n0 : Nat) {a0 : Option Addr} {l0 c0 : Nat} (g0 : Rd Try.prog W n0 22 (Value.slice a0 l0 c0).cells.toList) (n1 : Nat) {a1 : Int} (_ : Rd Try.prog W n1 3 (Value.int .i64 a1).cells.toList) (n2 : Nat) {a2 : Int} (_ : Rd Try.prog W n2 3 (Value.int .i64 a2).cells.toList) :
    Calls Try.prog 6 #[.slice a0 l0 c0, .int .i64 a1, .int .i64 a2] W fun e w' => e = .returned (.bool true) ∧ Only [] W w' := by
  obtain ⟨l, _, hv, hy⟩ := Rd.bytes g0 Try.underlying22 Try.underlying5 (by kernel_rfl)
  exact pieces_walk W _ l _ _ hv hy
end markPieces
namespace markPieces
open Go.ChangeShapes Go.WideShapes Go.ChangeAt
set_option linter.unusedVariables false

theorem own : ownKnob Try.prog.godebug = none := by kernel_rfl
theorem laidOut : laidOutB Try.prog = true := by kernel_rfl

set_option maxRecDepth 100000 in
theorem lifted (os : Os) (started : os.Started) (H : Type) (enc : TypeId × Value → H) :
    ReturnsInHanded {} Try.checked os 6 .any (Rows.markPiecesSpec.pre6 enc Try.prog Try.f6 Rows.markPiecesRow.domain false) (Rows.markPiecesSpec.post enc Try.prog Try.f6 false true false false) := by
  refine returnsInHanded_of_change (C := Try.checked) own started (by kernel_rfl) Try.func6
    (ChangeSpec.witness6 (enc := enc) (C := Try.checked) false ⟨#[], #[.slice none 0 0, .int .i64 0, .int .i64 0], []⟩ 8 (by kernel_rfl) (by kernel_rfl) (by kernel_rfl) (by kernel_rfl)) ?_
  intro W base args ds gs before hval0 hW hcnd hreach
  have hval : ∀ (j : Nat) t v, Try.f6.params[j]? = some t → args[j]? = some v → Value.okWide Try.prog W .any base t v := hval0
  have hW' := hW
  obtain ⟨p, q, hA0, hV, rfl, hfz, hnd⟩ := hW
  have hA : DataW.TrodAll enc Try.prog W 0 (fun _ => true) true Try.f6.params.toList args.toList ds p := hA0
  rw [Try.params6] at hA hval
  obtain ⟨v0, vs0, d0, ds0, p0, q0, hargs, rfl, rfl, h0, r0⟩ := trodAll_cons hA
  obtain ⟨v1, vs1, d1, ds1, p1, q1, rfl, rfl, rfl, h1, r1⟩ := trodAll_cons r0
  obtain ⟨v2, vs2, d2, ds2, p2, q2, rfl, rfl, rfl, h2, r2⟩ := trodAll_cons r1
  obtain ⟨rfl, rfl, rfl⟩ := trodAll_nil r2
  obtain rfl : args = #[v0, v1, v2] := by cases args; simp_all
  obtain ⟨rfl, rfl⟩ := trodVars_none hV
  have k0 := h0
  have lt0 : ∀ x ∈ p0, x.block < W.heap.size := by obtain ⟨m, hm⟩ := k0; exact DataW.trod_lt m _ _ _ hm
  obtain ⟨n0, g0⟩ := Rd.ofTrod' h0
  obtain ⟨a0, l0, c0, rfl⟩ := okWide_slice Try.underlying22 (hval 0 22 v0 rfl rfl)
  have k1 := h1
  have lt1 : ∀ x ∈ p1, x.block < W.heap.size := by obtain ⟨m, hm⟩ := k1; exact DataW.trod_lt m _ _ _ hm
  obtain ⟨n1, g1⟩ := Rd.ofTrod' h1
  obtain ⟨a1, rfl⟩ := okWide_int Try.underlying3 (hval 1 3 v1 rfl rfl)
  have k2 := h2
  have lt2 : ∀ x ∈ p2, x.block < W.heap.size := by obtain ⟨m, hm⟩ := k2; exact DataW.trod_lt m _ _ _ hm
  obtain ⟨n2, g2⟩ := Rd.ofTrod' h2
  obtain ⟨a2, rfl⟩ := okWide_int Try.underlying3 (hval 2 3 v2 rfl rfl)
  refine (walk n0 g0 n1 g1 n2 g2).mono fun e W' ⟨he, hg⟩ => ?_
  subst he
  have bel := hg.belowNil
  exact ⟨_, rfl, _, _, _, [], _, [], hW', trodAll_mk1 (shut_bool Try.underlying4 _), (trodAll_cons_mk (Below.trod laidOut (by kernel_rfl) (of_decide_eq_true (by kernel_rfl)) k0 bel lt0) (trodAll_cons_mk (Below.trod laidOut (by kernel_rfl) (of_decide_eq_true (by kernel_rfl)) k1 bel lt1) (trodAll_cons_mk (Below.trod laidOut (by kernel_rfl) (of_decide_eq_true (by kernel_rfl)) k2 bel lt2) trodAll_mk0))), rfl, bel.frame _, fun h => by cases h⟩

theorem over : Rows.markPiecesRow.holds Try.pinned (OpenSpec.ofChange Rows.markPiecesSpec) :=
  OpenClaim.holds_of_wide 6 Try.f6 rfl rfl rfl rfl rfl rfl rfl ⟨rfl, rfl, rfl, rfl, rfl⟩ rfl rfl rfl rfl rfl (by kernel_rfl) Try.func6 (by kernel_rfl)
    (of_decide_eq_true (by kernel_rfl)) (by unfold Func.isWrapper; first | (rw [if_pos (by decide +kernel)]; kernel_rfl) | (rw [if_neg (by decide +kernel)]; exact ⟨rfl, rfl⟩))
    (fun os started H enc _ => lifted os started H enc)

/-- The statement. -/
theorem proved : Rows.MarkPiecesSaid := over
#print axioms proved
end markPieces
end Go.Proofs.Ytcpoaghogpkagaa
