/-
  Package mark: New, Held, Feed of a splitter that no call made; the law's works.
-/
import Derived.Test.YtcpoaghogpkagaaMarkFeed
import Derived.Test.YtcpoaghogpkagaaMarkRBuild
namespace Go.Proofs.Ytcpoaghogpkagaa
set_option linter.unusedSimpArgs false
set_option linter.unusedVariables false
open Go.RowKit Go.Pm


theorem new_any (w : World) : Calls Try.prog 13 #[] w fun e w' => e = .returned (.pointer (some ⟨w.heap.size, 0, none⟩)) ∧ Blk w' w.heap.size #[.slice none 0 0, .bool true, .bool false] 56 ∧ Only [] w w' := by
  go_enter Try.func13, Try.ntmps13
  go_wp2_with fail
  go_ret
  exact ⟨rfl, Blk.new _ _ _, (Only.refl _ _).alloc _⟩

theorem held_nil (w : World) : Calls Try.prog 19 #[.pointer none] w fun e w' => e = .returned (.int .i64 0) ∧ w = w' := by
  go_enter Try.func19, Try.ntmps19
  go_wp2_with fail
  go_ret
  exact ⟨rfl, rfl⟩

theorem held_any (w : World) (sp : Nat) (vb : Value) (m d : Bool) (l : List Int) (hs : Blk w sp #[vb, .bool m, .bool d] 56) (hv : VwB w vb l) :
    Calls Try.prog 19 #[.pointer (some ⟨sp, 0, none⟩)] w fun e w' => e = .returned (.int .i64 l.length) ∧ w = w' := by
  obtain ⟨a, c, rfl, _, _⟩ := hv.shape
  have s0 : w.cell? ⟨sp, 0, none⟩ = some (.slice a l.length c) := (hs.cell 0).trans rfl
  clear hs hv
  go_enter Try.func19, Try.ntmps19
  go_wp2_with fail
  go_ret
  exact ⟨rfl, rfl⟩

def FeedVoid (W : World) (e : Ending) (w' : World) : Prop := e = .returned (.tuple #[.slice none 0 0, .agg #[.int .i64 0, .int .i64 0, .slice none 0 0], .bool false]) ∧ Only [] W w'

set_option maxRecDepth 100000 in
theorem feed_nil (w : World) (bv : Value) : Calls Try.prog 14 #[.pointer none, bv] w (FeedVoid w) := by
  go_enter Try.func14, Try.ntmps14
  go_wp2_with fail
  refine world_abs (fun w' => Only [] w w' ∧ Blk w' w.heap.size #[.int .i64 0, .int .i64 0, .slice none 0 0] 38) ⟨?_, ?_⟩ ?_
  · (repeat (first | with_reducible exact Only.refl _ _ | with_reducible assumption | with_reducible apply Only.drew | with_reducible apply Only.drewN | with_reducible apply Only.alloc | (refine Only.setCell ?_ (by first | (left; simp; done) | (right; omega)) _ _)))
  · (apply blk_cast; (case h => (repeat (first | with_reducible assumption | (with_reducible apply blk_newAt; (first | omega | (simp; done) | (simp; omega))) | with_reducible apply Blk.set | with_reducible apply Blk.drewN | with_reducible apply Blk.drew | with_reducible apply Blk.alloc | (with_reducible apply Blk.setOther; (case hc => first | omega | (simp; omega)))))); (case e => (first | (simp; done) | rfl)))
  rintro w9 ⟨hO9, hR9⟩
  refine bodyPost_ret (v := .tuple #[.slice none 0 0, .agg #[.int .i64 0, .int .i64 0, .slice none 0 0], .bool false]) ?_ rfl ⟨rfl, hO9⟩
  simp [results, Try.results14, loadVar_blk hR9 (.struct _) 38 Try.underlying38 rfl rfl, asAddr, Sem.run_bind]

set_option maxRecDepth 100000 in
theorem feed_unmade (w : World) (sp : Nat) (vb bv : Value) (d : Bool) (hs : Blk w sp #[vb, .bool false, .bool d] 56) : Calls Try.prog 14 #[.pointer (some ⟨sp, 0, none⟩), bv] w (FeedVoid w) := by
  have s1 : w.cell? ⟨sp, 1, none⟩ = some (.bool false) := (hs.cell 1).trans rfl
  have hls := hs.lt
  clear hs
  go_enter Try.func14, Try.ntmps14
  go_wp2_with fail
  refine world_abs (fun w' => Only [] w w' ∧ Blk w' w.heap.size #[.int .i64 0, .int .i64 0, .slice none 0 0] 38) ⟨?_, ?_⟩ ?_
  · (repeat (first | with_reducible exact Only.refl _ _ | with_reducible assumption | with_reducible apply Only.drew | with_reducible apply Only.drewN | with_reducible apply Only.alloc | (refine Only.setCell ?_ (by first | (left; simp; done) | (right; omega)) _ _)))
  · (apply blk_cast; (case h => (repeat (first | with_reducible assumption | (with_reducible apply blk_newAt; (first | omega | (simp; done) | (simp; omega))) | with_reducible apply Blk.set | with_reducible apply Blk.drewN | with_reducible apply Blk.drew | with_reducible apply Blk.alloc | (with_reducible apply Blk.setOther; (case hc => first | omega | (simp; omega)))))); (case e => (first | (simp; done) | rfl)))
  rintro w9 ⟨hO9, hR9⟩
  refine bodyPost_ret (v := .tuple #[.slice none 0 0, .agg #[.int .i64 0, .int .i64 0, .slice none 0 0], .bool false]) ?_ rfl ⟨rfl, hO9⟩
  simp [results, Try.results14, loadVar_blk hR9 (.struct _) 38 Try.underlying38 rfl rfl, asAddr, Sem.run_bind]

set_option maxRecDepth 100000 in
theorem feed_dead (w : World) (sp : Nat) (vb bv : Value) (hs : Blk w sp #[vb, .bool true, .bool true] 56) : Calls Try.prog 14 #[.pointer (some ⟨sp, 0, none⟩), bv] w (FeedVoid w) := by
  have s1 : w.cell? ⟨sp, 1, none⟩ = some (.bool true) := (hs.cell 1).trans rfl
  have s2 : w.cell? ⟨sp, 2, none⟩ = some (.bool true) := (hs.cell 2).trans rfl
  have hls := hs.lt
  clear hs
  go_enter Try.func14, Try.ntmps14
  go_wp2_with fail
  refine world_abs (fun w' => Only [] w w' ∧ Blk w' w.heap.size #[.int .i64 0, .int .i64 0, .slice none 0 0] 38) ⟨?_, ?_⟩ ?_
  · (repeat (first | with_reducible exact Only.refl _ _ | with_reducible assumption | with_reducible apply Only.drew | with_reducible apply Only.drewN | with_reducible apply Only.alloc | (refine Only.setCell ?_ (by first | (left; simp; done) | (right; omega)) _ _)))
  · (apply blk_cast; (case h => (repeat (first | with_reducible assumption | (with_reducible apply blk_newAt; (first | omega | (simp; done) | (simp; omega))) | with_reducible apply Blk.set | with_reducible apply Blk.drewN | with_reducible apply Blk.drew | with_reducible apply Blk.alloc | (with_reducible apply Blk.setOther; (case hc => first | omega | (simp; omega)))))); (case e => (first | (simp; done) | rfl)))
  rintro w9 ⟨hO9, hR9⟩
  refine bodyPost_ret (v := .tuple #[.slice none 0 0, .agg #[.int .i64 0, .int .i64 0, .slice none 0 0], .bool false]) ?_ rfl ⟨rfl, hO9⟩
  simp [results, Try.results14, loadVar_blk hR9 (.struct _) 38 Try.underlying38 rfl rfl, asAddr, Sem.run_bind]

/-- The example: a keepalive. -/
def exB : List Int := [255, 255, 255, 255, 255, 255, 255, 255, 255, 255, 255, 255, 255, 255, 255, 255, 0, 19, 4]
theorem exB_eq : msgB 4 [] = exB := by decide
theorem exB_check : checkF exB = none := by decide
theorem exB_parses : Parses exB [(4, [])] none [] := by
  have := Parses.msg exB 19 [] none [] (by omega) (by decide) (by decide) (by decide) (.short _ (by decide))
  exact this

set_option maxRecDepth 100000 in
set_option maxHeartbeats 1000000 in
theorem works_any (w : World) : Calls Try.prog 12 #[] w fun e w' => e = .returned (.bool true) ∧ Only [] w w' := by
  have HX := Lib.hid exB_parses
  have HE := Lib.hid exB_eq
  have HY : Hid (Byte exB) := by unfold Hid Byte; decide
  go_enter Try.func12, Try.ntmps12
  go_wp2_with fail
  refine (build_yes w w (Only.refl _ _) 4 (.slice none 0 0) [] (VwB.nil _) (by simp) (by decide)).mono ?_
  rintro e w1 ⟨v1, rfl, ho1, hw1⟩
  rw [HE.out] at ho1
  obtain ⟨b, off, c, hv1, q1, q2, hlt, -⟩ := ho1.vw.open (by decide)
  rw [show exB.length = 19 from rfl] at hv1 q1
  subst hv1
  have HO1 := Lib.hid ho1
  have HW1 := Lib.hid hw1
  clear ho1 hw1
  go_wp2_with fail
  refine (new_any _).mono ?_
  rintro e w2 ⟨rfl, hs2, hw2⟩
  have HS2 := Lib.hid hs2
  have HW2 := Lib.hid hw2
  clear hs2 hw2
  go_wp2_with fail
  refine (feed_any w1 w2 HW2.out _ _ _ [] exB HS2.out (VwB.nil _) HO1.out.vw (by simp [Byte]) HY.out (by simp [Value.ownBlock]) (by decide) _ none [] HX.out).mono ?_
  rintro e w3 ⟨lv, es, fv, vb, rfl, hms, hm, hw3, hf, hs3, hvb, hne⟩
  have hl1 : es.length = 1 := by simpa using congrArg List.length hms
  obtain ⟨m, rfl⟩ := List.length_eq_one_iff.1 hl1
  simp [Ms.pair] at hms
  obtain ⟨hk, hbody⟩ := hms
  obtain ⟨g, go, gc, rfl, g1, g2, glt, gcell⟩ := msgs_open (own_vw hm.own) (by simp)
  have gk := (gcell 0 (by simp)).1
  have gb := (gcell 0 (by simp)).2
  simp only [List.getElem_cons_zero, Nat.zero_mul, Nat.add_zero, hk] at gk gb
  have hmb := hm.bod m (by simp)
  rw [hbody] at hmb
  obtain ⟨ma, mc, hmv, _, _⟩ := hmb.shape
  rw [hmv] at gb
  have hO13 : Only [w1.heap.size] w1 w3 := (HW2.out.ofNil (bs := [w1.heap.size])).then hw3 |>.mono (by simp)
  have hb13 : b ∉ [w1.heap.size] := by simp; omega
  have c0 := (hO13.cell hlt hb13 (off + 0)).trans (at_cell HO1.out.vw 0 (by decide))
  have c15 := (hO13.cell hlt hb13 (off + 15)).trans (at_cell HO1.out.vw 15 (by decide))
  have c17 := (hO13.cell hlt hb13 (off + 17)).trans (at_cell HO1.out.vw 17 (by decide))
  have c18 := (hO13.cell hlt hb13 (off + 18)).trans (at_cell HO1.out.vw 18 (by decide))
  rw [show at_ exB 0 = 255 from rfl, Nat.add_zero] at c0
  rw [show at_ exB 15 = 255 from rfl] at c15
  rw [show at_ exB 17 = 19 from rfl] at c17
  rw [show at_ exB 18 = 4 from rfl] at c18
  have hf' : fv = .agg #[.int .i64 0, .int .i64 0, .slice none 0 0] := hf
  subst hf'
  have HW3 := Lib.hid hw3
  have hlt3 : b < w3.heap.size := by have := hO13.size; omega
  clear hf hm hw3 hs3 hvb hne gcell hmb hmv hO13
  simp only [List.length_cons, List.length_nil] at *
  go_wp2_with fail
  have hO := (HW1.out.then HW2.out).trans HW3.out (fun x hx => .inr (by have := HW1.out.size; simp at hx; omega))
  go_ret
  refine ⟨rfl, ?_⟩
  (repeat (first | with_reducible exact Only.refl _ _ | with_reducible assumption | with_reducible apply Only.drew | with_reducible apply Only.drewN | with_reducible apply Only.alloc | (refine Only.setCell ?_ (by first | (left; simp; done) | (right; omega)) _ _)))
end Go.Proofs.Ytcpoaghogpkagaa
