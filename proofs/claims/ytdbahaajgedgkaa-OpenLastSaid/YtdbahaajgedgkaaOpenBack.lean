/-
  OpenBack: for every OPEN the law returns true and leaves its argument alone (no condition).
-/
import Derived.Test.YtdbahaajgedgkaaOpenBuilds
import Derived.Test.YtdbahaajgedgkaaOpenReads
namespace Go.Proofs.Ytdbahaajgedgkaa
open Go.RowKit Go.Pm


theorem CapsAre.append {a c : Opn} {l m : List Int} (b : Opn) (h : CapsAre a l b) (k : CapsAre b m c) : CapsAre a (l ++ m) c := by
  induction h with
  | nil => exact k
  | cons o o1 o2 n x r h h0 h1 _ ih =>
    have := CapsAre.cons o o1 c n x (r ++ m) h h0 h1 (ih k)
    simpa using this

/-- What is known when an OPEN was read behind what was known ahead of it. -/
def Opn.ontoM (o s : Opn) : Opn := if o.multi then { s with multi := true } else s
def Opn.ontoR (o s : Opn) : Opn := if o.refresh then { s with refresh := true } else s
def Opn.ontoG (o s : Opn) : Opn := if o.graceful then s.withG o.time o.restarts o.keeps else s
def Opn.ontoF (o s : Opn) : Opn := if o.four then { s with four := true, sys := o.sys } else s
def Opn.onto (o s : Opn) : Opn := o.ontoF (o.ontoG (o.ontoR (o.ontoM s)))

theorem caps_one (s t : Opn) (c : Int) (x : List Int) (h : CapIs s c x t) (h0 : 0 ≤ c) (h1 : c < 256) (l : List Int) (hl : l = c :: (x.length : Int) :: x) : CapsAre s l t := by
  have := CapsAre.cons s t t c x [] h h0 h1 (.nil t)
  subst hl
  simpa using this

theorem caps_are (o s : Opn) (hf : o.Fits) (hr : o.Right) : CapsAre s (caps o) (o.onto s) := by
  unfold caps Opn.onto
  refine CapsAre.append (o.ontoG (o.ontoR (o.ontoM s))) (CapsAre.append (o.ontoR (o.ontoM s)) (CapsAre.append (o.ontoM s) ?_ ?_) ?_) ?_
  · unfold capM Opn.ontoM
    split
    · exact caps_one _ _ 1 [0, 1, 0, 1] (.multi _) (by omega) (by omega) _ rfl
    · exact .nil _
  · unfold capR Opn.ontoR
    split
    · exact caps_one _ _ 2 [] (.refresh _) (by omega) (by omega) _ rfl
    · exact .nil _
  · unfold capG Opn.ontoG
    split
    · exact caps_one _ _ 64 (gcaps o.time o.restarts o.keeps) (.graceful _ _ _ _ hr.2.2.1.1 hr.2.2.1.2) (by omega) (by omega) _ (by simp [gcaps, be16])
    · exact .nil _
  · unfold capF Opn.ontoF
    split
    · exact caps_one _ _ 65 (be32 o.sys) (.four _ _ hf.sys0 hf.sys1) (by omega) (by omega) _ (by simp [be32])
    · exact .nil _

def parB (o : Opn) : List Int := if caps o = [] then [] else 2 :: ((caps o).length : Int) :: caps o

theorem openB_body (o : Opn) : openB o = bodyB (asOf o) o.hold o.id (parB o) := by
  unfold openB bodyB headB parB
  by_cases h : caps o = []
  · simp [h]
  · simp [h]
    omega

theorem pars_are (o s : Opn) (hf : o.Fits) (hr : o.Right) : ParsAre s (parB o) (o.onto s) := by
  have h := caps_are o s hf hr
  unfold parB
  split
  · rename_i hc
    rw [hc] at h
    generalize o.onto s = z at h ⊢
    cases h
    exact .nil _
  · have := ParsAre.cons s (o.onto s) (o.onto s) (caps o) [] h (.nil _)
    simpa using this

theorem onto_start (o : Opn) (hr : o.Right) : o.onto (start (asOf o) o.hold o.id) = o := by
  obtain ⟨h1, ⟨h2, h3, h4⟩, h5, h6⟩ := hr
  obtain ⟨sys, hold, id, multi, four, refresh, graceful, time, restarts, keeps⟩ := o
  simp only at h1 h2 h3 h4 h5 h6
  cases multi <;> cases refresh <;> cases graceful <;> cases four <;>
    simp_all [Opn.onto, Opn.ontoM, Opn.ontoR, Opn.ontoG, Opn.ontoF, Opn.withG, start, asOf]

theorem asOf_range (o : Opn) (hf : o.Fits) : 0 ≤ asOf o ∧ asOf o ≤ 65535 := by
  have := hf.sys0
  unfold asOf
  split <;> omega

/-- What Read says of what Build built. -/
theorem read_back (w : World) (v : Value) (o : Opn) (hf : o.Fits) (hr : o.Right) (hv : VwB w v (openB o)) : Calls Try.prog 10 #[v] w (ReadAs w o) := by
  have hb := byte_openB o
  have ha := asOf_range o hf
  have hp := pars_are o (start (asOf o) o.hold o.id) hf hr
  have hs := onto_start o hr
  rw [openB_body] at hv hb
  rw [hs] at hp
  obtain ⟨⟨h1, h2, h3, h4⟩, ⟨h5, h6, _⟩, _⟩ := hr
  have := hf.id0
  exact read_yes w v (asOf o) o.hold o.id (parB o) o hb hv ha.1 ha.2 h1 h2 h3 h4 (by omega) hf.id1 hp h6

set_option maxHeartbeats 1000000 in
theorem back_walk (o : Opn) (hf : o.Fits) (w : World) :
    Calls Try.prog 4 #[.agg o.cells] w fun e w' => e = .returned (.bool true) ∧ Only [] w w' := by
  have HF := Lib.hid hf; clear hf
  by_cases hr : o.Right
  · have HR := Lib.hid hr; clear hr
    go_enter Try.func4, Try.ntmps4
    unfold Opn.cells
    go_wp2_with fail
    refine (works_any _).mono ?_
    rintro e w0 ⟨rfl, hw0⟩
    have hb0 := boxed w o hw0
    (have b0 : (w0).cell? ⟨w.heap.size, 0, none⟩ = some (.int .u32 o.sys) := ((hb0).cell 0).trans rfl; have b1 : (w0).cell? ⟨w.heap.size, 1, none⟩ = some (.int .i64 o.hold) := ((hb0).cell 1).trans rfl; have b2 : (w0).cell? ⟨w.heap.size, 2, none⟩ = some (.int .u32 o.id) := ((hb0).cell 2).trans rfl; have b3 : (w0).cell? ⟨w.heap.size, 3, none⟩ = some (.bool o.multi) := ((hb0).cell 3).trans rfl; have b4 : (w0).cell? ⟨w.heap.size, 4, none⟩ = some (.bool o.four) := ((hb0).cell 4).trans rfl; have b5 : (w0).cell? ⟨w.heap.size, 5, none⟩ = some (.bool o.refresh) := ((hb0).cell 5).trans rfl; have b6 : (w0).cell? ⟨w.heap.size, 6, none⟩ = some (.bool o.graceful) := ((hb0).cell 6).trans rfl; have b7 : (w0).cell? ⟨w.heap.size, 7, none⟩ = some (.int .i64 o.time) := ((hb0).cell 7).trans rfl; have b8 : (w0).cell? ⟨w.heap.size, 8, none⟩ = some (.bool o.restarts) := ((hb0).cell 8).trans rfl; have b9 : (w0).cell? ⟨w.heap.size, 9, none⟩ = some (.bool o.keeps) := ((hb0).cell 9).trans rfl)
    have HW0 := Lib.hid hw0; clear hw0
    have HB0 := Lib.hid hb0; clear hb0
    go_wp2_with fail
    refine (build_yes _ o HF.out HR.out).mono ?_
    rintro e w1 ⟨v, rfl, ho, hw⟩
    clear b0 b1 b2 b3 b4 b5 b6 b7 b8 b9
    have hb0 := HB0.out.keep hw (by simp)
    have HO := Lib.hid ho; clear ho
    have HW := Lib.hid hw; clear hw
    have HB1 := Lib.hid hb0; clear hb0
    go_wp2_with fail
    refine (read_back _ _ o HF.out HR.out HO.out.vw).mono ?_
    rintro e w2 ⟨rfl, hw2⟩
    have hb0 := HB1.out.keep hw2 (by simp)
    (have b0 : (w2).cell? ⟨w.heap.size, 0, none⟩ = some (.int .u32 o.sys) := ((hb0).cell 0).trans rfl; have b1 : (w2).cell? ⟨w.heap.size, 1, none⟩ = some (.int .i64 o.hold) := ((hb0).cell 1).trans rfl; have b2 : (w2).cell? ⟨w.heap.size, 2, none⟩ = some (.int .u32 o.id) := ((hb0).cell 2).trans rfl; have b3 : (w2).cell? ⟨w.heap.size, 3, none⟩ = some (.bool o.multi) := ((hb0).cell 3).trans rfl; have b4 : (w2).cell? ⟨w.heap.size, 4, none⟩ = some (.bool o.four) := ((hb0).cell 4).trans rfl; have b5 : (w2).cell? ⟨w.heap.size, 5, none⟩ = some (.bool o.refresh) := ((hb0).cell 5).trans rfl; have b6 : (w2).cell? ⟨w.heap.size, 6, none⟩ = some (.bool o.graceful) := ((hb0).cell 6).trans rfl; have b7 : (w2).cell? ⟨w.heap.size, 7, none⟩ = some (.int .i64 o.time) := ((hb0).cell 7).trans rfl; have b8 : (w2).cell? ⟨w.heap.size, 8, none⟩ = some (.bool o.restarts) := ((hb0).cell 8).trans rfl; have b9 : (w2).cell? ⟨w.heap.size, 9, none⟩ = some (.bool o.keeps) := ((hb0).cell 9).trans rfl)
    have hlt := hb0.lt
    have HW2 := Lib.hid hw2; clear hw2 hb0
    unfold Opn.cells
    go_wp2_with fail
    go_ret
    exact ⟨rfl, (((((Only.refl _ _).alloc _).then HW0.out).then HW.out).then HW2.out |>.alloc _).alloc _⟩
  · have HR := Lib.hid hr; clear hr
    go_enter Try.func4, Try.ntmps4
    unfold Opn.cells
    go_wp2_with fail
    refine (works_any _).mono ?_
    rintro e w0 ⟨rfl, hw0⟩
    have hb0 := boxed w o hw0
    (have b0 : (w0).cell? ⟨w.heap.size, 0, none⟩ = some (.int .u32 o.sys) := ((hb0).cell 0).trans rfl; have b1 : (w0).cell? ⟨w.heap.size, 1, none⟩ = some (.int .i64 o.hold) := ((hb0).cell 1).trans rfl; have b2 : (w0).cell? ⟨w.heap.size, 2, none⟩ = some (.int .u32 o.id) := ((hb0).cell 2).trans rfl; have b3 : (w0).cell? ⟨w.heap.size, 3, none⟩ = some (.bool o.multi) := ((hb0).cell 3).trans rfl; have b4 : (w0).cell? ⟨w.heap.size, 4, none⟩ = some (.bool o.four) := ((hb0).cell 4).trans rfl; have b5 : (w0).cell? ⟨w.heap.size, 5, none⟩ = some (.bool o.refresh) := ((hb0).cell 5).trans rfl; have b6 : (w0).cell? ⟨w.heap.size, 6, none⟩ = some (.bool o.graceful) := ((hb0).cell 6).trans rfl; have b7 : (w0).cell? ⟨w.heap.size, 7, none⟩ = some (.int .i64 o.time) := ((hb0).cell 7).trans rfl; have b8 : (w0).cell? ⟨w.heap.size, 8, none⟩ = some (.bool o.restarts) := ((hb0).cell 8).trans rfl; have b9 : (w0).cell? ⟨w.heap.size, 9, none⟩ = some (.bool o.keeps) := ((hb0).cell 9).trans rfl)
    have HW0 := Lib.hid hw0; clear hw0 hb0
    go_wp2_with fail
    refine (build_no _ o HR.out).mono ?_
    rintro e w1 ⟨rfl, hw⟩
    have HW := Lib.hid hw; clear hw
    clear b0 b1 b2 b3 b4 b5 b6 b7 b8 b9
    go_wp2_with fail
    go_ret
    exact ⟨rfl, (((Only.refl _ _).alloc _).then HW0.out).then HW.out⟩

namespace openBack
theorem walk {W : World} (n0 : Nat) {cs0 : Array Value} (g0 : Rd Try.prog W n0 25 (Value.agg cs0).cells.toList) :
    Calls Try.prog 4 #[.agg cs0] W fun e w' => e = .returned (.bool true) ∧ Only [] W w' := by
  obtain ⟨o, h1, h2⟩ := open_arg g0
  have : cs0 = o.cells := by
    apply Array.toList_inj.1
    exact h1
  subst this
  exact back_walk o h2 W
end openBack
namespace openBack
open Go.ChangeShapes Go.WideShapes Go.ChangeAt
set_option linter.unusedVariables false

theorem own : ownKnob Try.prog.godebug = none := by kernel_rfl
theorem laidOut : laidOutB Try.prog = true := by kernel_rfl

set_option maxRecDepth 100000 in
theorem lifted (os : Os) (started : os.Started) (H : Type) (enc : TypeId × Value → H) :
    ReturnsInHanded {} Try.checked os 4 .any (Rows.openBackSpec.pre6 enc Try.prog Try.f4 Rows.openBackRow.domain false) (Rows.openBackSpec.post enc Try.prog Try.f4 false true false false) := by
  refine returnsInHanded_of_change (C := Try.checked) own started (by kernel_rfl) Try.func4
    (ChangeSpec.witness6 (enc := enc) (C := Try.checked) false ⟨#[], #[.agg #[.int .u32 0, .int .i64 0, .int .u32 0, .bool false, .bool false, .bool false, .bool false, .int .i64 0, .bool false, .bool false]], []⟩ 8 (by kernel_rfl) (by kernel_rfl) (by kernel_rfl) (by kernel_rfl)) ?_
  intro W base args ds gs before hval0 hW hcnd hreach
  have hval : ∀ (j : Nat) t v, Try.f4.params[j]? = some t → args[j]? = some v → Value.okWide Try.prog W .any base t v := hval0
  have hW' := hW
  obtain ⟨p, q, hA0, hV, rfl, hfz, hnd⟩ := hW
  have hA : DataW.TrodAll enc Try.prog W 0 (fun _ => true) true Try.f4.params.toList args.toList ds p := hA0
  rw [Try.params4] at hA hval
  obtain ⟨v0, vs0, d0, ds0, p0, q0, hargs, rfl, rfl, h0, r0⟩ := trodAll_cons hA
  obtain ⟨rfl, rfl, rfl⟩ := trodAll_nil r0
  obtain rfl : args = #[v0] := by cases args; simp_all
  obtain ⟨rfl, rfl⟩ := trodVars_none hV
  have k0 := h0
  have lt0 : ∀ x ∈ p0, x.block < W.heap.size := by obtain ⟨m, hm⟩ := k0; exact DataW.trod_lt m _ _ _ hm
  obtain ⟨n0, g0⟩ := Rd.ofTrod' h0
  obtain ⟨cs0, rfl, hs0⟩ := okWide_struct Try.underlying25 (hval 0 25 v0 rfl rfl)
  refine (walk n0 g0).mono fun e W' ⟨he, hg⟩ => ?_
  subst he
  have bel := hg.belowNil
  exact ⟨_, rfl, _, _, _, [], _, [], hW', trodAll_mk1 (shut_bool Try.underlying4 _), (trodAll_cons_mk (Below.trod laidOut (by kernel_rfl) (of_decide_eq_true (by kernel_rfl)) k0 bel lt0) trodAll_mk0), rfl, bel.frame _, fun h => by cases h⟩

theorem over : Rows.openBackRow.holds Try.pinned (OpenSpec.ofChange Rows.openBackSpec) :=
  OpenClaim.holds_of_wide 4 Try.f4 rfl rfl rfl rfl rfl rfl rfl ⟨rfl, rfl, rfl, rfl, rfl⟩ rfl rfl rfl rfl rfl (by kernel_rfl) Try.func4 (by kernel_rfl)
    (of_decide_eq_true (by kernel_rfl)) (by unfold Func.isWrapper; first | (rw [if_pos (by decide +kernel)]; kernel_rfl) | (rw [if_neg (by decide +kernel)]; exact ⟨rfl, rfl⟩))
    (fun os started H enc _ => lifted os started H enc)

/-- The statement. -/
theorem proved : Rows.OpenBackSaid := over
#print axioms proved
end openBack
end Go.Proofs.Ytdbahaajgedgkaa
