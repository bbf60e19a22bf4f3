/-
  Package mark: Feed, in words of owned memory.
-/
import Derived.Test.YtcpoaghogpkagaaMarkFeed
import Derived.Test.YtcpoaghogpkagaaView
namespace Go.Proofs.Ytcpoaghogpkagaa
set_option linter.unusedSimpArgs false
set_option linter.unusedVariables false
open Go.RowKit Go.Pm


def codeOf (f : Option (Int × List Int)) : Int := if f.isNone then 0 else 1
def subOf (f : Option (Int × List Int)) : Int := (f.getD (0, [])).1
def dataOf (f : Option (Int × List Int)) : List Int := (f.getD (0, [])).2
/-- A fault. -/
def FaultP (fv : Value) (f : Option (Int × List Int)) : HP := fun h => ∃ dv, fv = .agg #[.int .i64 (codeOf f), .int .i64 (subOf f), dv] ∧ VB dv (dataOf f) h
/-- A splitter. -/
def Spl (sp : Nat) (l : List Int) (d : Bool) : HP := fun h => ∃ vb, sats [pts sp [vb, .bool true, .bool d] 56, VB vb l] h
/-- The bodies of messages. -/
def Bod (es : List Ms) : HP := sats (es.map fun m => VB m.bv m.body)

def FeedR (sp : Nat) (ms : List (Int × List Int)) (f : Option (Int × List Int)) (r : List Int) (v : Value) (L' : List HP) : Prop :=
  ∃ lv es fv, v = .tuple #[lv, fv, .bool f.isNone] ∧ es.map Ms.pair = ms ∧ L' = [Spl sp r f.isSome, Sl 53 2 lv es.length (msCells es), Bod es, FaultP fv f]

theorem bod_push {W : World} {K : Hl} {L M R : List HP} {w : World} {es : List Ms} (m : Ms) (H : Ow W K L w) (h : Tk L (Bod es) M) (k : Tk M (VB m.bv m.body) R) : Ow W K (Bod (es ++ [m]) :: R) w := by
  have := H.snoc h k
  unfold Bod
  simpa using this

/-- A message is taken: the splitter's bytes go on behind it. -/
theorem next_own {W : World} {K : Hl} {L R R2 : List HP} {w : World} {sp : Nat} {vb : Value} {m d : Bool} {l : List Int} {n : Nat} {e : Ending} {w' : World} (H : Ow W K L w) (h1 : Tk L (pts sp [vb, .bool m, .bool d] 56) R) (h2 : Tk R (VB vb l) R2) (hne : l ≠ [])
    (hn : NextYes w sp vb m d l n e w') : ∃ mv vb', e = .returned (.tuple #[.agg #[.int .i64 (at_ l 18), mv], .bool true]) ∧ Ow W K (VB vb' (l.drop n) :: pts sp [vb', .bool m, .bool d] 56 :: SlB 5 mv ((l.take n).drop 19) :: R2) w' := by
  obtain ⟨mv, vb', rfl, hmv, hS, hV, hvb, hO⟩ := hn
  have H2 : Ow W K (pts sp [vb, .bool m, .bool d] 56 :: VB vb l :: R2) w := (H.tk h1).perm (h2.perm.cons _)
  have H3 := H2.stepSl .here hO hS hmv
  exact ⟨mv, vb', rfl, H3.rebaseB (.there (.there .here)) hne hV hvb⟩

theorem Parses.inv {l : List Int} {ms : List (Int × List Int)} {f : Option (Int × List Int)} {r : List Int} (h : Parses l ms f r) :
    (l.length < 19 ∧ ms = [] ∧ f = none ∧ r = l) ∨ (∃ s d, 19 ≤ l.length ∧ checkF (l.take 19) = some (s, d) ∧ ms = [] ∧ f = some (s, d) ∧ r = []) ∨
    (19 ≤ l.length ∧ checkF (l.take 19) = none ∧ (l.length : Int) < lenOf l ∧ ms = [] ∧ f = none ∧ r = l) ∨
    (∃ (n : Nat) (ms2 : List (Int × List Int)), 19 ≤ n ∧ lenOf l = n ∧ n ≤ l.length ∧ checkF (l.take 19) = none ∧ Parses (l.drop n) ms2 f r ∧ ms = (at_ l 18, (l.take n).drop 19) :: ms2) := by
  cases h with
  | short _ h => exact .inl ⟨h, rfl, rfl, rfl⟩
  | bad _ f0 h hf => exact .inr (.inl ⟨f0.1, f0.2, h, hf, rfl, rfl, rfl⟩)
  | wait _ h hf hn => exact .inr (.inr (.inl ⟨h, hf, hn, rfl, rfl, rfl⟩))
  | msg _ n ms2 _ _ h hn hl hf hr => exact .inr (.inr (.inr ⟨n, ms2, h, hn, hl, hf, hr, rfl⟩))

def FeedSJ (W : World) (K : Hl) (sp rb : Nat) (ms : List (Int × List Int)) (f : Option (Int × List Int)) (r : List Int) (lv : Value) (w : World) : Prop :=
  ∃ es l vb ms', Byte l ∧ Parses l ms' f r ∧ es.map Ms.pair ++ ms' = ms ∧
    Ow W K [pts rb [.int .i64 0, .int .i64 0, .slice none 0 0] 38, pts sp [vb, .bool true, .bool false] 56, VB vb l, Sl 53 2 lv es.length (msCells es), Bod es] w

theorem heldLen_own {W : World} {K : Hl} {L R R2 : List HP} {w : World} {sp : Nat} {vb : Value} {m d : Bool} {l : List Int} (H : Ow W K L w) (h : Tk L (pts sp [vb, .bool m, .bool d] 56) R) (k : Tk L (VB vb l) R2) : heldLen w sp = l.length :=
  heldLen_eq (H.blk h) (H.vvB k)

set_option maxRecDepth 100000 in
set_option maxHeartbeats 2000000 in
theorem feed_spec (sp : Nat) (bv : Value) (held b : List Int) (hy1 : Byte held) (hy2 : Byte b) (hlen : held.length + b.length ≤ 1000000) (ms : List (Int × List Int)) (f : Option (Int × List Int)) (r : List Int) (hp : Parses (held ++ b) ms f r) :
    Pact Try.prog 14 #[.pointer (some ⟨sp, 0, none⟩), bv] (fun w => VwB w bv b) [Spl sp held false] (FeedR sp ms f r) := by
  intro W K w0 HK H
  have HPL : Hid (ms.length ≤ 1000000) := by have := parses_length hp; simp at this; unfold Hid; omega
  have HY : Hid (Byte (held ++ b)) := hy1.append hy2
  have HP := Lib.hid hp
  have HLEN := Lib.hid hlen
  obtain ⟨vb, H⟩ := H.open .here (Bs := fun vb => [pts sp [vb, .bool true, .bool false] 56, VB vb held]) (fun _ h => h)
  simp only [List.cons_append, List.nil_append] at H
  obtain ⟨va, vc, rfl, _, _⟩ := (H.vvB (.there .here)).shape
  obtain ⟨ba, bc, rfl, _, _⟩ := (HK.of H).shape
  clear hy1 hy2 hp hlen
  go_enter Try.func14, Try.ntmps14
  go_wp2_with (first | ((with_reducible refine Ow.absorb H ?_); clear H; intro w H) | ((with_reducible refine Ow.absorbCalls H ?_); clear H; intro w H) | (with_reducible refine wpList_ld1 H (by with_unfolding_all exact rfl) (by with_unfolding_all exact rfl) (by (repeat (first | exact Tk.here | apply Tk.there))) (by decide +kernel) (by with_unfolding_all exact rfl) (by (first | exact Pt.n | (apply Pt.s; repeat (first | exact SetAt.z | apply SetAt.s)))) ?_) | (with_reducible refine wpList_ldN H (by with_unfolding_all exact rfl) (by with_unfolding_all exact rfl) (by (repeat (first | exact Tk.here | apply Tk.there))) (by (repeat (first | exact Len.z | apply Len.s))) (by decide +kernel) (by (first | exact Pt.n | (apply Pt.s; repeat (first | exact SetAt.z | apply SetAt.s)))) ?_) | ((with_reducible refine wpList_st1 H (by with_unfolding_all exact rfl) (by with_unfolding_all exact rfl) (by (first | exact Ev.c | (apply Ev.t; repeat (first | exact Nth.z | apply Nth.s)))) (by (repeat (first | exact Tk.here | apply Tk.there))) (by decide +kernel) (by with_unfolding_all exact rfl) (by (repeat (first | exact SetAt.z | apply SetAt.s))) (by (first | exact Pt.n | (apply Pt.s; repeat (first | exact SetAt.z | apply SetAt.s)))) ?_); clear H; intro w H) | ((with_reducible refine wpList_stN H (by with_unfolding_all exact rfl) (by with_unfolding_all exact rfl) (by (first | exact Ev.c | (apply Ev.t; repeat (first | exact Nth.z | apply Nth.s)))) (by (repeat (first | exact Tk.here | apply Tk.there))) (by (repeat (first | exact Len.z | apply Len.s))) (by (repeat (first | exact Len.z | apply Len.s))) (by decide +kernel) (by with_unfolding_all exact rfl) (by (first | exact Pt.n | (apply Pt.s; repeat (first | exact SetAt.z | apply SetAt.s)))) ?_); clear H; intro w H))
  refine (concat_any _ _ [.slice va held.length vc, .slice ba b.length bc] [held, b] 2 rfl ⟨H.blk .here, rfl, fun i hi => ?_⟩ (by omega) (by have := HLEN.out; simp; omega)).mono ?_
  · match i, hi with
    | 0, _ => exact H.vvB (.there (.there (.there .here)))
    | 1, _ => exact HK.of H
  rintro e w1 ⟨v1, rfl, ho1, hw1⟩
  rw [show [held, b].flatten = held ++ b by simp] at ho1
  replace H := H.freshB hw1 ho1
  clear ho1 hw1
  obtain ⟨a1, c1, hv1, _, _⟩ := (H.vwB .here).shape
  rw [List.length_append] at hv1
  subst hv1
  go_wp2_with (first | ((with_reducible refine Ow.absorb H ?_); clear H; intro w H) | ((with_reducible refine Ow.absorbCalls H ?_); clear H; intro w H) | (with_reducible refine wpList_ld1 H (by with_unfolding_all exact rfl) (by with_unfolding_all exact rfl) (by (repeat (first | exact Tk.here | apply Tk.there))) (by decide +kernel) (by with_unfolding_all exact rfl) (by (first | exact Pt.n | (apply Pt.s; repeat (first | exact SetAt.z | apply SetAt.s)))) ?_) | (with_reducible refine wpList_ldN H (by with_unfolding_all exact rfl) (by with_unfolding_all exact rfl) (by (repeat (first | exact Tk.here | apply Tk.there))) (by (repeat (first | exact Len.z | apply Len.s))) (by decide +kernel) (by (first | exact Pt.n | (apply Pt.s; repeat (first | exact SetAt.z | apply SetAt.s)))) ?_) | ((with_reducible refine wpList_st1 H (by with_unfolding_all exact rfl) (by with_unfolding_all exact rfl) (by (first | exact Ev.c | (apply Ev.t; repeat (first | exact Nth.z | apply Nth.s)))) (by (repeat (first | exact Tk.here | apply Tk.there))) (by decide +kernel) (by with_unfolding_all exact rfl) (by (repeat (first | exact SetAt.z | apply SetAt.s))) (by (first | exact Pt.n | (apply Pt.s; repeat (first | exact SetAt.z | apply SetAt.s)))) ?_); clear H; intro w H) | ((with_reducible refine wpList_stN H (by with_unfolding_all exact rfl) (by with_unfolding_all exact rfl) (by (first | exact Ev.c | (apply Ev.t; repeat (first | exact Nth.z | apply Nth.s)))) (by (repeat (first | exact Tk.here | apply Tk.there))) (by (repeat (first | exact Len.z | apply Len.s))) (by (repeat (first | exact Len.z | apply Len.s))) (by decide +kernel) (by with_unfolding_all exact rfl) (by (first | exact Pt.n | (apply Pt.s; repeat (first | exact SetAt.z | apply SetAt.s)))) ?_); clear H; intro w H))
  replace H := (H.toVB (by (with_reducible (repeat (first | exact Tk.here | apply Tk.there))))).slNil (e := 53) (sz := 2) |>.satsNil
  have HJ : Hid (FeedSJ W K sp w0.heap.size ms f r (.slice none 0 0) w) := by
    refine ⟨[], held ++ b, .slice a1 (held.length + b.length) c1, ms, HY.out, HP.out, by simp, ?_⟩
    exact (H.sb (M := [pts w0.heap.size [.int .i64 0, .int .i64 0, .slice none 0 0] 38, pts sp [.slice a1 (held.length + b.length) c1, .bool true, .bool false] 56, VB (.slice a1 (held.length + b.length) c1) (held ++ b), Sl 53 2 (.slice none 0 0) 0 [], sats []]) (by (first | ((with_reducible (repeat (first | exact Sb.nil | apply Sb.cons | exact Tk.here | apply Tk.there))); done) | (repeat (first | exact Sb.nil | apply Sb.cons | exact Tk.here | apply Tk.there))))).dropAll
  clear H HY HP
  go_loopw [7] (fun lv wr => FeedSJ W K sp w0.heap.size ms f r lv wr) (fun _ wr => heldLen wr sp)
  case atStart => exact HJ.out
  case round =>
    clear HJ
    obtain ⟨es, l, vb, ms', hY, hp, hms, H⟩ := hrel
    obtain ⟨a, c, rfl, h1, h2⟩ := (H.vvB (by (with_reducible (repeat (first | exact Tk.here | apply Tk.there))))).shape
    have HY := Lib.hid hY
    have HMS := Lib.hid hms
    clear hY hms
    rcases hp.inv with ⟨h, rfl, rfl, rfl⟩ | ⟨s, d, h, hf, rfl, rfl, rfl⟩ | ⟨h, hf, hn, rfl, rfl, rfl⟩ | ⟨n, ms2, h, hn, hl, hf, hr, rfl⟩
    all_goals clear hp
    · go_wp2_with (first | ((with_reducible refine Ow.absorb H ?_); clear H; intro w H) | ((with_reducible refine Ow.absorbCalls H ?_); clear H; intro w H) | (with_reducible refine wpList_ld1 H (by with_unfolding_all exact rfl) (by with_unfolding_all exact rfl) (by (repeat (first | exact Tk.here | apply Tk.there))) (by decide +kernel) (by with_unfolding_all exact rfl) (by (first | exact Pt.n | (apply Pt.s; repeat (first | exact SetAt.z | apply SetAt.s)))) ?_) | (with_reducible refine wpList_ldN H (by with_unfolding_all exact rfl) (by with_unfolding_all exact rfl) (by (repeat (first | exact Tk.here | apply Tk.there))) (by (repeat (first | exact Len.z | apply Len.s))) (by decide +kernel) (by (first | exact Pt.n | (apply Pt.s; repeat (first | exact SetAt.z | apply SetAt.s)))) ?_) | ((with_reducible refine wpList_st1 H (by with_unfolding_all exact rfl) (by with_unfolding_all exact rfl) (by (first | exact Ev.c | (apply Ev.t; repeat (first | exact Nth.z | apply Nth.s)))) (by (repeat (first | exact Tk.here | apply Tk.there))) (by decide +kernel) (by with_unfolding_all exact rfl) (by (repeat (first | exact SetAt.z | apply SetAt.s))) (by (first | exact Pt.n | (apply Pt.s; repeat (first | exact SetAt.z | apply SetAt.s)))) ?_); clear H; intro w H) | ((with_reducible refine wpList_stN H (by with_unfolding_all exact rfl) (by with_unfolding_all exact rfl) (by (first | exact Ev.c | (apply Ev.t; repeat (first | exact Nth.z | apply Nth.s)))) (by (repeat (first | exact Tk.here | apply Tk.there))) (by (repeat (first | exact Len.z | apply Len.s))) (by (repeat (first | exact Len.z | apply Len.s))) (by decide +kernel) (by with_unfolding_all exact rfl) (by (first | exact Pt.n | (apply Pt.s; repeat (first | exact SetAt.z | apply SetAt.s)))) ?_); clear H; intro w H))
      refine bodyPost_ret (v := .tuple #[u7, .agg #[.int .i64 0, .int .i64 0, .slice none 0 0], .bool true]) ?_ rfl ?_
      · simp [results, Try.results14, H.rv (P := Try.prog) .here 38 (by (repeat (first | exact Len.z | apply Len.s))) (by decide +kernel), asAddr, Sem.run_bind]
      · refine ⟨_, _, ⟨u7, es, _, rfl, by simpa using HMS.out, rfl⟩, rfl, ?_⟩
        replace H := H.shut (A := Spl sp r false) (M := [pts sp [_, .bool true, .bool false] 56, VB _ r]) (by (first | ((with_reducible (repeat (first | exact Sb.nil | apply Sb.cons | exact Tk.here | apply Tk.there))); done) | (repeat (first | exact Sb.nil | apply Sb.cons | exact Tk.here | apply Tk.there)))) (fun k hk => ⟨_, hk⟩)
        replace H := (H.vbNil).imp (B := FaultP _ none) (fun k hk => ⟨_, rfl, hk⟩)
        exact H.sel (by (first | ((with_reducible (repeat (first | exact Sb.nil | apply Sb.cons | exact Tk.here | apply Tk.there))); done) | (repeat (first | exact Sb.nil | apply Sb.cons | exact Tk.here | apply Tk.there))))
    · have HF := Lib.hid hf
      have HV19 := Lib.hid ((H.vvB (by (with_reducible (repeat (first | exact Tk.here | apply Tk.there))))).pre (k := 19) h)
      have HY19 : Hid (Byte (l.take 19)) := fun n hn => HY.out n (List.take_subset _ _ hn)
      clear hf
      go_wp2_with (first | ((with_reducible refine Ow.absorb H ?_); clear H; intro w H) | ((with_reducible refine Ow.absorbCalls H ?_); clear H; intro w H) | (with_reducible refine wpList_ld1 H (by with_unfolding_all exact rfl) (by with_unfolding_all exact rfl) (by (repeat (first | exact Tk.here | apply Tk.there))) (by decide +kernel) (by with_unfolding_all exact rfl) (by (first | exact Pt.n | (apply Pt.s; repeat (first | exact SetAt.z | apply SetAt.s)))) ?_) | (with_reducible refine wpList_ldN H (by with_unfolding_all exact rfl) (by with_unfolding_all exact rfl) (by (repeat (first | exact Tk.here | apply Tk.there))) (by (repeat (first | exact Len.z | apply Len.s))) (by decide +kernel) (by (first | exact Pt.n | (apply Pt.s; repeat (first | exact SetAt.z | apply SetAt.s)))) ?_) | ((with_reducible refine wpList_st1 H (by with_unfolding_all exact rfl) (by with_unfolding_all exact rfl) (by (first | exact Ev.c | (apply Ev.t; repeat (first | exact Nth.z | apply Nth.s)))) (by (repeat (first | exact Tk.here | apply Tk.there))) (by decide +kernel) (by with_unfolding_all exact rfl) (by (repeat (first | exact SetAt.z | apply SetAt.s))) (by (first | exact Pt.n | (apply Pt.s; repeat (first | exact SetAt.z | apply SetAt.s)))) ?_); clear H; intro w H) | ((with_reducible refine wpList_stN H (by with_unfolding_all exact rfl) (by with_unfolding_all exact rfl) (by (first | exact Ev.c | (apply Ev.t; repeat (first | exact Nth.z | apply Nth.s)))) (by (repeat (first | exact Tk.here | apply Tk.there))) (by (repeat (first | exact Len.z | apply Len.s))) (by (repeat (first | exact Len.z | apply Len.s))) (by decide +kernel) (by with_unfolding_all exact rfl) (by (first | exact Pt.n | (apply Pt.s; repeat (first | exact SetAt.z | apply SetAt.s)))) ?_); clear H; intro w H))
      refine (check_any _ _ (Only.refl _ _) _ (l.take 19) HV19.out HY19.out (by simp; omega)).mono ?_
      rintro e w3 hcw
      unfold CheckAs at hcw
      rw [HF.out] at hcw
      obtain ⟨dv, rfl, hdv, hw3⟩ := hcw
      replace H := (H.freshB hw3 hdv).toVB (by (with_reducible (repeat (first | exact Tk.here | apply Tk.there))))
      obtain ⟨da, dc, hdvs, _, _⟩ := (H.vvB (v := dv) (by (with_reducible (repeat (first | exact Tk.here | apply Tk.there))))).shape
      subst hdvs
      clear hdv hw3 HV19
      go_wp2_with (first | ((with_reducible refine Ow.absorb H ?_); clear H; intro w H) | ((with_reducible refine Ow.absorbCalls H ?_); clear H; intro w H) | (with_reducible refine wpList_ld1 H (by with_unfolding_all exact rfl) (by with_unfolding_all exact rfl) (by (repeat (first | exact Tk.here | apply Tk.there))) (by decide +kernel) (by with_unfolding_all exact rfl) (by (first | exact Pt.n | (apply Pt.s; repeat (first | exact SetAt.z | apply SetAt.s)))) ?_) | (with_reducible refine wpList_ldN H (by with_unfolding_all exact rfl) (by with_unfolding_all exact rfl) (by (repeat (first | exact Tk.here | apply Tk.there))) (by (repeat (first | exact Len.z | apply Len.s))) (by decide +kernel) (by (first | exact Pt.n | (apply Pt.s; repeat (first | exact SetAt.z | apply SetAt.s)))) ?_) | ((with_reducible refine wpList_st1 H (by with_unfolding_all exact rfl) (by with_unfolding_all exact rfl) (by (first | exact Ev.c | (apply Ev.t; repeat (first | exact Nth.z | apply Nth.s)))) (by (repeat (first | exact Tk.here | apply Tk.there))) (by decide +kernel) (by with_unfolding_all exact rfl) (by (repeat (first | exact SetAt.z | apply SetAt.s))) (by (first | exact Pt.n | (apply Pt.s; repeat (first | exact SetAt.z | apply SetAt.s)))) ?_); clear H; intro w H) | ((with_reducible refine wpList_stN H (by with_unfolding_all exact rfl) (by with_unfolding_all exact rfl) (by (first | exact Ev.c | (apply Ev.t; repeat (first | exact Nth.z | apply Nth.s)))) (by (repeat (first | exact Tk.here | apply Tk.there))) (by (repeat (first | exact Len.z | apply Len.s))) (by (repeat (first | exact Len.z | apply Len.s))) (by decide +kernel) (by with_unfolding_all exact rfl) (by (first | exact Pt.n | (apply Pt.s; repeat (first | exact SetAt.z | apply SetAt.s)))) ?_); clear H; intro w H))
      have hg := H.blk (b := w3.heap.size) (by (with_reducible (repeat (first | exact Tk.here | apply Tk.there))))
      have hr := H.blk (b := w0.heap.size) (by (with_reducible (repeat (first | exact Tk.here | apply Tk.there))))
      have hne : w3.heap.size ≠ w0.heap.size := H.ne (b := w3.heap.size) (by (with_reducible (repeat (first | exact Tk.here | apply Tk.there)))) (c := w0.heap.size) (by (with_reducible (repeat (first | exact Tk.here | apply Tk.there))))
      (have g0 : (w).cell? ⟨w3.heap.size, 0, none⟩ = some (.int .i64 1) := ((hg).cell 0).trans rfl; have g1 : (w).cell? ⟨w3.heap.size, 1, none⟩ = some (.int .i64 s) := ((hg).cell 1).trans rfl; have g2 : (w).cell? ⟨w3.heap.size, 2, none⟩ = some (.slice da d.length dc) := ((hg).cell 2).trans rfl)
      (have r0 : (w).cell? ⟨w0.heap.size, 0, none⟩ = some (.int .i64 0) := ((hr).cell 0).trans rfl; have r1 : (w).cell? ⟨w0.heap.size, 1, none⟩ = some (.int .i64 0) := ((hr).cell 1).trans rfl; have r2 : (w).cell? ⟨w0.heap.size, 2, none⟩ = some (.slice none 0 0) := ((hr).cell 2).trans rfl)
      (have rf0 := (hr).free 0; have rf1 := (hr).free 1; have rf2 := (hr).free 2)
      clear hg hr
      go_region
      go_wp2_with fail
      ((apply Ow.forget (W := W) (K := K)); (case H => (repeat (first | with_reducible assumption | with_reducible apply Ow.drew | with_reducible apply Ow.drewN | with_reducible apply Ow.allocC | with_reducible apply Ow.set | exact Tk.here | apply Tk.there | exact SetAt.z | apply SetAt.s))); clear H; intro w H)
      refine bodyPost_ret (v := .tuple #[u7, .agg #[.int .i64 1, .int .i64 s, .slice da d.length dc], .bool false]) ?_ rfl ?_
      · simp [results, Try.results14, H.rv (P := Try.prog) .here 38 (by (repeat (first | exact Len.z | apply Len.s))) (by decide +kernel), Act.put, asAddr, Sem.run_bind]
      · refine ⟨_, _, ⟨u7, es, _, rfl, by simpa using HMS.out, rfl⟩, rfl, ?_⟩
        replace H := (H.tk (A := VB (.slice da d.length dc) d) (by (with_reducible (repeat (first | exact Tk.here | apply Tk.there))))).imp (B := FaultP _ (some (s, d))) (fun k hk => ⟨_, rfl, hk⟩)
        replace H := H.vbNil
        replace H := H.shut (A := Spl sp [] true) (M := [pts sp [_, .bool true, .bool true] 56, VB _ []]) (by (first | ((with_reducible (repeat (first | exact Sb.nil | apply Sb.cons | exact Tk.here | apply Tk.there))); done) | (repeat (first | exact Sb.nil | apply Sb.cons | exact Tk.here | apply Tk.there)))) (fun k hk => ⟨_, hk⟩)
        exact H.sel (by (first | ((with_reducible (repeat (first | exact Sb.nil | apply Sb.cons | exact Tk.here | apply Tk.there))); done) | (repeat (first | exact Sb.nil | apply Sb.cons | exact Tk.here | apply Tk.there))))
    · have HF := Lib.hid hf
      have HV19 := Lib.hid ((H.vvB (by (with_reducible (repeat (first | exact Tk.here | apply Tk.there))))).pre (k := 19) h)
      have HY19 : Hid (Byte (r.take 19)) := fun n hn => HY.out n (List.take_subset _ _ hn)
      clear hf
      go_wp2_with (first | ((with_reducible refine Ow.absorb H ?_); clear H; intro w H) | ((with_reducible refine Ow.absorbCalls H ?_); clear H; intro w H) | (with_reducible refine wpList_ld1 H (by with_unfolding_all exact rfl) (by with_unfolding_all exact rfl) (by (repeat (first | exact Tk.here | apply Tk.there))) (by decide +kernel) (by with_unfolding_all exact rfl) (by (first | exact Pt.n | (apply Pt.s; repeat (first | exact SetAt.z | apply SetAt.s)))) ?_) | (with_reducible refine wpList_ldN H (by with_unfolding_all exact rfl) (by with_unfolding_all exact rfl) (by (repeat (first | exact Tk.here | apply Tk.there))) (by (repeat (first | exact Len.z | apply Len.s))) (by decide +kernel) (by (first | exact Pt.n | (apply Pt.s; repeat (first | exact SetAt.z | apply SetAt.s)))) ?_) | ((with_reducible refine wpList_st1 H (by with_unfolding_all exact rfl) (by with_unfolding_all exact rfl) (by (first | exact Ev.c | (apply Ev.t; repeat (first | exact Nth.z | apply Nth.s)))) (by (repeat (first | exact Tk.here | apply Tk.there))) (by decide +kernel) (by with_unfolding_all exact rfl) (by (repeat (first | exact SetAt.z | apply SetAt.s))) (by (first | exact Pt.n | (apply Pt.s; repeat (first | exact SetAt.z | apply SetAt.s)))) ?_); clear H; intro w H) | ((with_reducible refine wpList_stN H (by with_unfolding_all exact rfl) (by with_unfolding_all exact rfl) (by (first | exact Ev.c | (apply Ev.t; repeat (first | exact Nth.z | apply Nth.s)))) (by (repeat (first | exact Tk.here | apply Tk.there))) (by (repeat (first | exact Len.z | apply Len.s))) (by (repeat (first | exact Len.z | apply Len.s))) (by decide +kernel) (by with_unfolding_all exact rfl) (by (first | exact Pt.n | (apply Pt.s; repeat (first | exact SetAt.z | apply SetAt.s)))) ?_); clear H; intro w H))
      refine (check_any _ _ (Only.refl _ _) _ (r.take 19) HV19.out HY19.out (by simp; omega)).mono ?_
      rintro e w3 hcw
      unfold CheckAs at hcw
      rw [HF.out] at hcw
      obtain ⟨rfl, hw3⟩ := hcw
      replace H := H.only hw3
      clear hw3 HV19
      go_wp2_with (first | ((with_reducible refine Ow.absorb H ?_); clear H; intro w H) | ((with_reducible refine Ow.absorbCalls H ?_); clear H; intro w H) | (with_reducible refine wpList_ld1 H (by with_unfolding_all exact rfl) (by with_unfolding_all exact rfl) (by (repeat (first | exact Tk.here | apply Tk.there))) (by decide +kernel) (by with_unfolding_all exact rfl) (by (first | exact Pt.n | (apply Pt.s; repeat (first | exact SetAt.z | apply SetAt.s)))) ?_) | (with_reducible refine wpList_ldN H (by with_unfolding_all exact rfl) (by with_unfolding_all exact rfl) (by (repeat (first | exact Tk.here | apply Tk.there))) (by (repeat (first | exact Len.z | apply Len.s))) (by decide +kernel) (by (first | exact Pt.n | (apply Pt.s; repeat (first | exact SetAt.z | apply SetAt.s)))) ?_) | ((with_reducible refine wpList_st1 H (by with_unfolding_all exact rfl) (by with_unfolding_all exact rfl) (by (first | exact Ev.c | (apply Ev.t; repeat (first | exact Nth.z | apply Nth.s)))) (by (repeat (first | exact Tk.here | apply Tk.there))) (by decide +kernel) (by with_unfolding_all exact rfl) (by (repeat (first | exact SetAt.z | apply SetAt.s))) (by (first | exact Pt.n | (apply Pt.s; repeat (first | exact SetAt.z | apply SetAt.s)))) ?_); clear H; intro w H) | ((with_reducible refine wpList_stN H (by with_unfolding_all exact rfl) (by with_unfolding_all exact rfl) (by (first | exact Ev.c | (apply Ev.t; repeat (first | exact Nth.z | apply Nth.s)))) (by (repeat (first | exact Tk.here | apply Tk.there))) (by (repeat (first | exact Len.z | apply Len.s))) (by (repeat (first | exact Len.z | apply Len.s))) (by decide +kernel) (by with_unfolding_all exact rfl) (by (first | exact Pt.n | (apply Pt.s; repeat (first | exact SetAt.z | apply SetAt.s)))) ?_); clear H; intro w H))
      refine (next_no _ sp _ _ _ r (H.blk (by (with_reducible (repeat (first | exact Tk.here | apply Tk.there))))) (H.vvB (by (with_reducible (repeat (first | exact Tk.here | apply Tk.there))))) HY.out h hn).mono ?_
      rintro e w4 ⟨rfl, hw4⟩
      replace H := H.only hw4
      clear hw4
      go_wp2_with (first | ((with_reducible refine Ow.absorb H ?_); clear H; intro w H) | ((with_reducible refine Ow.absorbCalls H ?_); clear H; intro w H) | (with_reducible refine wpList_ld1 H (by with_unfolding_all exact rfl) (by with_unfolding_all exact rfl) (by (repeat (first | exact Tk.here | apply Tk.there))) (by decide +kernel) (by with_unfolding_all exact rfl) (by (first | exact Pt.n | (apply Pt.s; repeat (first | exact SetAt.z | apply SetAt.s)))) ?_) | (with_reducible refine wpList_ldN H (by with_unfolding_all exact rfl) (by with_unfolding_all exact rfl) (by (repeat (first | exact Tk.here | apply Tk.there))) (by (repeat (first | exact Len.z | apply Len.s))) (by decide +kernel) (by (first | exact Pt.n | (apply Pt.s; repeat (first | exact SetAt.z | apply SetAt.s)))) ?_) | ((with_reducible refine wpList_st1 H (by with_unfolding_all exact rfl) (by with_unfolding_all exact rfl) (by (first | exact Ev.c | (apply Ev.t; repeat (first | exact Nth.z | apply Nth.s)))) (by (repeat (first | exact Tk.here | apply Tk.there))) (by decide +kernel) (by with_unfolding_all exact rfl) (by (repeat (first | exact SetAt.z | apply SetAt.s))) (by (first | exact Pt.n | (apply Pt.s; repeat (first | exact SetAt.z | apply SetAt.s)))) ?_); clear H; intro w H) | ((with_reducible refine wpList_stN H (by with_unfolding_all exact rfl) (by with_unfolding_all exact rfl) (by (first | exact Ev.c | (apply Ev.t; repeat (first | exact Nth.z | apply Nth.s)))) (by (repeat (first | exact Tk.here | apply Tk.there))) (by (repeat (first | exact Len.z | apply Len.s))) (by (repeat (first | exact Len.z | apply Len.s))) (by decide +kernel) (by with_unfolding_all exact rfl) (by (first | exact Pt.n | (apply Pt.s; repeat (first | exact SetAt.z | apply SetAt.s)))) ?_); clear H; intro w H))
      refine bodyPost_ret (v := .tuple #[u7, .agg #[.int .i64 0, .int .i64 0, .slice none 0 0], .bool true]) ?_ rfl ?_
      · simp [results, Try.results14, H.rv (P := Try.prog) .here 38 (by (repeat (first | exact Len.z | apply Len.s))) (by decide +kernel), asAddr, Sem.run_bind]
      · refine ⟨_, _, ⟨u7, es, _, rfl, by simpa using HMS.out, rfl⟩, rfl, ?_⟩
        replace H := H.shut (A := Spl sp r false) (M := [pts sp [_, .bool true, .bool false] 56, VB _ r]) (by (first | ((with_reducible (repeat (first | exact Sb.nil | apply Sb.cons | exact Tk.here | apply Tk.there))); done) | (repeat (first | exact Sb.nil | apply Sb.cons | exact Tk.here | apply Tk.there)))) (fun k hk => ⟨_, hk⟩)
        replace H := (H.vbNil).imp (B := FaultP _ none) (fun k hk => ⟨_, rfl, hk⟩)
        exact H.sel (by (first | ((with_reducible (repeat (first | exact Sb.nil | apply Sb.cons | exact Tk.here | apply Tk.there))); done) | (repeat (first | exact Sb.nil | apply Sb.cons | exact Tk.here | apply Tk.there))))
    · have HF := Lib.hid hf
      have HN := Lib.hid hn
      have HPR := Lib.hid hr
      have HV19 := Lib.hid ((H.vvB (by (with_reducible (repeat (first | exact Tk.here | apply Tk.there))))).pre (k := 19) (by omega))
      have HY19 : Hid (Byte (l.take 19)) := fun n hn => HY.out n (List.take_subset _ _ hn)
      have HLR : Hid (heldLen wr sp = l.length) := heldLen_own H (by (with_reducible (repeat (first | exact Tk.here | apply Tk.there)))) (by (with_reducible (repeat (first | exact Tk.here | apply Tk.there))))
      clear hf hn hr
      go_wp2_with (first | ((with_reducible refine Ow.absorb H ?_); clear H; intro w H) | ((with_reducible refine Ow.absorbCalls H ?_); clear H; intro w H) | (with_reducible refine wpList_ld1 H (by with_unfolding_all exact rfl) (by with_unfolding_all exact rfl) (by (repeat (first | exact Tk.here | apply Tk.there))) (by decide +kernel) (by with_unfolding_all exact rfl) (by (first | exact Pt.n | (apply Pt.s; repeat (first | exact SetAt.z | apply SetAt.s)))) ?_) | (with_reducible refine wpList_ldN H (by with_unfolding_all exact rfl) (by with_unfolding_all exact rfl) (by (repeat (first | exact Tk.here | apply Tk.there))) (by (repeat (first | exact Len.z | apply Len.s))) (by decide +kernel) (by (first | exact Pt.n | (apply Pt.s; repeat (first | exact SetAt.z | apply SetAt.s)))) ?_) | ((with_reducible refine wpList_st1 H (by with_unfolding_all exact rfl) (by with_unfolding_all exact rfl) (by (first | exact Ev.c | (apply Ev.t; repeat (first | exact Nth.z | apply Nth.s)))) (by (repeat (first | exact Tk.here | apply Tk.there))) (by decide +kernel) (by with_unfolding_all exact rfl) (by (repeat (first | exact SetAt.z | apply SetAt.s))) (by (first | exact Pt.n | (apply Pt.s; repeat (first | exact SetAt.z | apply SetAt.s)))) ?_); clear H; intro w H) | ((with_reducible refine wpList_stN H (by with_unfolding_all exact rfl) (by with_unfolding_all exact rfl) (by (first | exact Ev.c | (apply Ev.t; repeat (first | exact Nth.z | apply Nth.s)))) (by (repeat (first | exact Tk.here | apply Tk.there))) (by (repeat (first | exact Len.z | apply Len.s))) (by (repeat (first | exact Len.z | apply Len.s))) (by decide +kernel) (by with_unfolding_all exact rfl) (by (first | exact Pt.n | (apply Pt.s; repeat (first | exact SetAt.z | apply SetAt.s)))) ?_); clear H; intro w H))
      refine (check_any _ _ (Only.refl _ _) _ (l.take 19) HV19.out HY19.out (by simp; omega)).mono ?_
      rintro e w3 hcw
      unfold CheckAs at hcw
      rw [HF.out] at hcw
      obtain ⟨rfl, hw3⟩ := hcw
      replace H := H.only hw3
      clear hw3 HV19
      go_wp2_with (first | ((with_reducible refine Ow.absorb H ?_); clear H; intro w H) | ((with_reducible refine Ow.absorbCalls H ?_); clear H; intro w H) | (with_reducible refine wpList_ld1 H (by with_unfolding_all exact rfl) (by with_unfolding_all exact rfl) (by (repeat (first | exact Tk.here | apply Tk.there))) (by decide +kernel) (by with_unfolding_all exact rfl) (by (first | exact Pt.n | (apply Pt.s; repeat (first | exact SetAt.z | apply SetAt.s)))) ?_) | (with_reducible refine wpList_ldN H (by with_unfolding_all exact rfl) (by with_unfolding_all exact rfl) (by (repeat (first | exact Tk.here | apply Tk.there))) (by (repeat (first | exact Len.z | apply Len.s))) (by decide +kernel) (by (first | exact Pt.n | (apply Pt.s; repeat (first | exact SetAt.z | apply SetAt.s)))) ?_) | ((with_reducible refine wpList_st1 H (by with_unfolding_all exact rfl) (by with_unfolding_all exact rfl) (by (first | exact Ev.c | (apply Ev.t; repeat (first | exact Nth.z | apply Nth.s)))) (by (repeat (first | exact Tk.here | apply Tk.there))) (by decide +kernel) (by with_unfolding_all exact rfl) (by (repeat (first | exact SetAt.z | apply SetAt.s))) (by (first | exact Pt.n | (apply Pt.s; repeat (first | exact SetAt.z | apply SetAt.s)))) ?_); clear H; intro w H) | ((with_reducible refine wpList_stN H (by with_unfolding_all exact rfl) (by with_unfolding_all exact rfl) (by (first | exact Ev.c | (apply Ev.t; repeat (first | exact Nth.z | apply Nth.s)))) (by (repeat (first | exact Tk.here | apply Tk.there))) (by (repeat (first | exact Len.z | apply Len.s))) (by (repeat (first | exact Len.z | apply Len.s))) (by decide +kernel) (by with_unfolding_all exact rfl) (by (first | exact Pt.n | (apply Pt.s; repeat (first | exact SetAt.z | apply SetAt.s)))) ?_); clear H; intro w H))
      have hne : l ≠ [] := by rintro rfl; simp at hl; omega
      refine (next_yes _ sp _ _ _ l n (H.blk (by (with_reducible (repeat (first | exact Tk.here | apply Tk.there))))) (H.vvB (by (with_reducible (repeat (first | exact Tk.here | apply Tk.there))))) HY.out h (H.neB (b := sp) (by (with_reducible (repeat (first | exact Tk.here | apply Tk.there)))) (v := .slice a l.length c) (by (with_reducible (repeat (first | exact Tk.here | apply Tk.there)))) hne) HN.out hl).mono ?_
      rintro e w4 hx
      obtain ⟨mv, vb4, rfl, H4⟩ := next_own H (by (with_reducible (repeat (first | exact Tk.here | apply Tk.there)))) (by (with_reducible (repeat (first | exact Tk.here | apply Tk.there)))) hne hx
      obtain ⟨ma, mc, hmv, _, _⟩ := (H4.vwB (by (with_reducible (repeat (first | exact Tk.here | apply Tk.there))))).shape
      rw [show ((l.take n).drop 19).length = n - 19 by simp; omega] at hmv
      subst hmv
      clear H hx hne
      have H := H4
      clear H4
      have HEL : Hid (es.length + 1 ≤ 1000000) := by
        have h1 := congrArg List.length HMS.out
        have h3 := HPL.out
        simp at h1
        unfold Hid
        omega
      go_wp2_with (first | (first | ((with_reducible refine Ow.absorb H ?_); clear H; intro w H) | ((with_reducible refine Ow.absorbCalls H ?_); clear H; intro w H) | (with_reducible refine wpList_ld1 H (by with_unfolding_all exact rfl) (by with_unfolding_all exact rfl) (by (repeat (first | exact Tk.here | apply Tk.there))) (by decide +kernel) (by with_unfolding_all exact rfl) (by (first | exact Pt.n | (apply Pt.s; repeat (first | exact SetAt.z | apply SetAt.s)))) ?_) | (with_reducible refine wpList_ldN H (by with_unfolding_all exact rfl) (by with_unfolding_all exact rfl) (by (repeat (first | exact Tk.here | apply Tk.there))) (by (repeat (first | exact Len.z | apply Len.s))) (by decide +kernel) (by (first | exact Pt.n | (apply Pt.s; repeat (first | exact SetAt.z | apply SetAt.s)))) ?_) | ((with_reducible refine wpList_st1 H (by with_unfolding_all exact rfl) (by with_unfolding_all exact rfl) (by (first | exact Ev.c | (apply Ev.t; repeat (first | exact Nth.z | apply Nth.s)))) (by (repeat (first | exact Tk.here | apply Tk.there))) (by decide +kernel) (by with_unfolding_all exact rfl) (by (repeat (first | exact SetAt.z | apply SetAt.s))) (by (first | exact Pt.n | (apply Pt.s; repeat (first | exact SetAt.z | apply SetAt.s)))) ?_); clear H; intro w H) | ((with_reducible refine wpList_stN H (by with_unfolding_all exact rfl) (by with_unfolding_all exact rfl) (by (first | exact Ev.c | (apply Ev.t; repeat (first | exact Nth.z | apply Nth.s)))) (by (repeat (first | exact Tk.here | apply Tk.there))) (by (repeat (first | exact Len.z | apply Len.s))) (by (repeat (first | exact Len.z | apply Len.s))) (by decide +kernel) (by with_unfolding_all exact rfl) (by (first | exact Pt.n | (apply Pt.s; repeat (first | exact SetAt.z | apply SetAt.s)))) ?_); clear H; intro w H)) | (at_builtin; (with_reducible refine wpList_ap1 msgsEl H (by (first | exact Ev.c | (apply Ev.t; repeat (first | exact Nth.z | apply Nth.s)))) (by (first | exact Ev.c | (apply Ev.t; repeat (first | exact Nth.z | apply Nth.s)))) (by (with_reducible (repeat (first | exact Tk.here | apply Tk.there)))) (by (with_reducible (repeat (first | exact Tk.here | apply Tk.there)))) (by (repeat (first | exact Len.z | apply Len.s))) rfl rfl (by have := HEL.out; omega) ?_); clear H; intro a5 c5 w _ _ H; (simp only [Act.put, List.setIfInBounds_toArray, List.set_cons_zero, List.set_cons_succ])))
      refine ⟨⟨es ++ [⟨at_ l 18, .slice ma (n - 19) mc, (l.take n).drop 19⟩], l.drop n, vb4, ms2, fun x hx => HY.out x (List.drop_subset _ _ hx), HPR.out, by simpa [Ms.pair] using HMS.out, ?_⟩, ?_⟩
      · have H5 := bod_push ⟨at_ l 18, .slice ma (n - 19) mc, (l.take n).drop 19⟩ (H.toVB (by (with_reducible (repeat (first | exact Tk.here | apply Tk.there))))) (by (with_reducible (repeat (first | exact Tk.here | apply Tk.there)))) (by (with_reducible (repeat (first | exact Tk.here | apply Tk.there))))
        rw [List.length_append, msCells_append]
        exact H5.sel (by (first | ((with_reducible (repeat (first | exact Sb.nil | apply Sb.cons | exact Tk.here | apply Tk.there))); done) | (repeat (first | exact Sb.nil | apply Sb.cons | exact Tk.here | apply Tk.there))))
      · have hlen5 := heldLen_own H (sp := sp) (vb := vb4) (by (with_reducible (repeat (first | exact Tk.here | apply Tk.there)))) (l := l.drop n) (by (with_reducible (repeat (first | exact Tk.here | apply Tk.there))))
        rw [hlen5, HLR.out]
        simp
        omega
end Go.Proofs.Ytcpoaghogpkagaa
