/-
  Attributes and acts that came in; among.
-/
import Derived.Test.YtimamemekdmpeaaAs20
namespace Go.Proofs.Ytimamemekdmpeaa
set_option linter.unusedSimpArgs false
set_option linter.unusedVariables false
set_option maxRecDepth 20000
set_option maxHeartbeats 4000000
open Go.RowKit Go.Pm

theorem among_s (x : Int) (n : Nat) (h1 : 1 ≤ n) (h2 : n ≤ 1000000) (hx : I64 x) : Pact Try.prog 14 #[.int .i64 x, .int .i64 n] (fun _ => True) [] (fun v L' => ∃ k : Nat, v = .int .i64 k ∧ k < n ∧ L' = []) := by
  refine pact Try.func14 rfl Try.ntmps14 rfl ?_
  intro W K _
  unfold I64 at hx
  (repeat' (first | ((with_reducible apply gJ); (first | refine J_seq ?_ | refine J_reg ?_ | refine J_skip ?_ | refine J_block ?_ | refine J_blk ?_ | refine J_exit rfl ?_ | refine J_goto rfl ?_ | ((with_reducible apply gJ_if); (first | refine J_ift rfl ?_ | refine J_iff rfl ?_ | (refine J_if xR ?_ ?_ <;> intro _ <;> (try (exfalso; first | contradiction | omega))) | (refine J_ifb xR ?_ ?_ <;> (intro hgb; subst hgb)) | (refine J_ifb xR ?_ ?_ <;> intro _) | fail)) | refine J_label ?_ | fail)) | ((with_reducible apply gL); (first | refine JL_nil ?_ | refine L_move ?_ | refine L_assign ?_ | refine L_bin_lss ?_ | refine L_bin_rem ?_ | refine L_convert_i64 ?_ | refine L_convert_u64 ?_ | refine L_convert_r ?_ | fail)) | fail))
  have h3 : 0 ≤ x % 18446744073709551616 % (n : Int) := Int.emod_nonneg _ (by omega)
  have h4 : x % 18446744073709551616 % (n : Int) < n := Int.emod_lt_of_pos _ (by omega)
  refine J_ret1 rfl (by rfl) fun w H => ⟨_, ⟨(x % 18446744073709551616 % (n : Int)).toNat, ?_, by omega, rfl⟩, H.sel .nil⟩
  rw [w_i64 (by omega) (by omega), Int.toNat_of_nonneg h3]
theorem u32_el {w : World} (m : Nat) (d : List Value) (_ : d.length = 1) (h : Rs Try.prog w m 23 d) : ∃ z : Int, d = u32C z ∧ U32 z := by
  obtain ⟨z, e, h1, h2⟩ := (Rs.rd _ _ _ h).u32 Try.underlying23
  exact ⟨z, e, h1, h2⟩
theorem u8_el {w : World} (m : Nat) (d : List Value) (_ : d.length = 1) (h : Rs Try.prog w m 5 d) : ∃ z : Int, d = byC z ∧ U8 z := by
  have h0 := leaf_of 5 5 [5] m d (by kernel_rfl) h
  obtain ⟨z, r, e, b, h1⟩ := h0.u8 Try.underlying5
  subst e
  obtain rfl := h1.nil'
  exact ⟨z, rfl, b⟩
theorem seg_el {w : World} (m : Nat) (d : List Value) (_ : d.length = 2) (h : Rs Try.prog w m 40 d) : ∃ s : Sg, d = sgC s ∧ segV w s ∧ SgN s := by
  have h0 := leaf_of 5 40 [4, 25] m d (by kernel_rfl) h
  obtain ⟨b, r, e, h1⟩ := h0.bool Try.underlying4
  subst e
  obtain ⟨a, l, c, r, e, ⟨m', hs⟩, h2⟩ := h1.sl Try.underlying25
  subst e
  obtain rfl := h2.nil'
  obtain ⟨es, e, g1, g2, g3, g4, g5⟩ := hs.list (sz := 1) (b := 4) (enc := u32C) (ok := U32) Try.underlying25 (by kernel_rfl) (by kernel_rfl) u32_el
  subst e
  exact ⟨⟨b, a, c, es⟩, rfl, g4, by show es.length ≤ 35184372088832; simp only [reachBytes] at g3; omega, g5⟩
theorem raw_el {w : World} (m : Nat) (d : List Value) (_ : d.length = 2) (h : Rs Try.prog w m 69 d) : ∃ s : Rw, d = rwC s ∧ rawV w s ∧ RwN s := by
  have h0 := leaf_of 5 69 [3, 67] m d (by kernel_rfl) h
  obtain ⟨b, r, e, hb, h1⟩ := h0.i64 Try.underlying3
  subst e
  obtain ⟨a, l, c, r, e, ⟨m', hs⟩, h2⟩ := h1.sl Try.underlying67
  subst e
  obtain rfl := h2.nil'
  obtain ⟨es, e, g1, g2, g3, g4, g5⟩ := hs.list (sz := 1) (b := 1) (enc := byC) (ok := U8) Try.underlying67 (by kernel_rfl) (by kernel_rfl) u8_el
  subst e
  exact ⟨⟨b, a, c, es⟩, rfl, g4, hb, by show es.length ≤ 140737488355328; simp only [reachBytes] at g3; omega, g5⟩
theorem attrs_leaf {w : World} {cs : List Value} (h0 : Leaf Try.prog w [3, 22, 24, 4, 23, 4, 23, 4, 4, 23, 24, 25, 26] cs) : ∃ d : At, cs = atC d ∧ AtN d ∧ AtV w d := by
  obtain ⟨origin, r, e, b4, h5⟩ := h0.i64 Try.underlying3
  subst e
  obtain ⟨pa, pl, pc, r, e, ⟨m', hs⟩, h6⟩ := h5.sl Try.underlying22
  subst e
  obtain ⟨path, e, g1, g2, g3, g4, g5⟩ := hs.list (sz := 2) (b := 32) (enc := sgC) (ok := fun s => segV w s ∧ SgN s) Try.underlying22 (by kernel_rfl) (by kernel_rfl) seg_el
  subst e
  obtain ⟨next, r, e, b5, h7⟩ := h6.u32 Try.underlying24
  subst e
  obtain ⟨hasMed, r, e, h8⟩ := h7.bool Try.underlying4
  subst e
  obtain ⟨med, r, e, b6, h9⟩ := h8.u32 Try.underlying23
  subst e
  obtain ⟨hasLocal, r, e, h10⟩ := h9.bool Try.underlying4
  subst e
  obtain ⟨loc, r, e, b7, h11⟩ := h10.u32 Try.underlying23
  subst e
  obtain ⟨atomic, r, e, h12⟩ := h11.bool Try.underlying4
  subst e
  obtain ⟨hasMaker, r, e, h13⟩ := h12.bool Try.underlying4
  subst e
  obtain ⟨makerAS, r, e, b8, h14⟩ := h13.u32 Try.underlying23
  subst e
  obtain ⟨maker, r, e, b9, h15⟩ := h14.u32 Try.underlying24
  subst e
  obtain ⟨ca, cn, cc, r, e, ⟨m2, hc⟩, h16⟩ := h15.sl Try.underlying25
  subst e
  obtain ⟨comms, e, i1, i2, i3, i4, i5⟩ := hc.list (sz := 1) (b := 4) (enc := u32C) (ok := U32) Try.underlying25 (by kernel_rfl) (by kernel_rfl) u32_el
  subst e
  obtain ⟨oa, on, oc, r, e, ⟨m3, ho⟩, h17⟩ := h16.sl Try.underlying26
  subst e
  obtain ⟨others, e, j1, j2, j3, j4, j5⟩ := ho.list (sz := 2) (b := 32) (enc := rwC) (ok := fun s => rawV w s ∧ RwN s) Try.underlying26 (by kernel_rfl) (by kernel_rfl) raw_el
  subst e
  obtain rfl := h17.nil'
  exact ⟨⟨origin, pa, pc, path, next, hasMed, med, hasLocal, loc, atomic, hasMaker, makerAS, maker, ca, cc, comms, oa, oc, others⟩, rfl, ⟨b4, b5, b6, b7, b8, b9, fun s hs => (g5 s hs).2, i5, fun s hs => (j5 s hs).2⟩, ⟨g4, fun s hs => (g5 s hs).1⟩, i4, ⟨j4, fun s hs => (j5 s hs).1⟩⟩
theorem attrs_el {w : World} (m : Nat) (d : List Value) (h : Rs Try.prog w m 28 d) : ∃ x : At, d = atC x ∧ AtN x ∧ AtV w x :=
  attrs_leaf (leaf_of 5 28 _ m d (by kernel_rfl) h)
theorem AtV.keep {w w' : World} (hc : ∀ b o u, w.cell? ⟨b, o, none⟩ = some u → w'.cell? ⟨b, o, none⟩ = some u) {d : At} (h : AtV w d) : AtV w' d :=
  ⟨⟨vwKeep hc h.path.vw, fun s hs => vwKeep hc (h.path.segs s hs)⟩, vwKeep hc h.comms, ⟨vwKeep hc h.others.vw, fun s hs => vwKeep hc (h.others.raws s hs)⟩⟩
theorem kn_keep {W : World} {φ : World → Prop} (hk : ∀ {w w' : World}, (∀ b o u, w.cell? ⟨b, o, none⟩ = some u → w'.cell? ⟨b, o, none⟩ = some u) → φ w → φ w') (h : φ W) : Kn (World.all W) φ :=
  Kn.all (fun w ho => hk (fun b o u hu => by
    rw [World.cell?_of_block (w := W) (ho.block b (World.block_lt_of_cell? _ _ hu) (by simp))]
    exact hu) h) fun w w' hh hr => hk (fun b o u hu => by rw [cell?_heap hh]; exact hu) hr
theorem attrs_arg {W : World} {n : Nat} {cs : Array Value} (h : Rs Try.prog W n 28 (Value.agg cs).cells.toList) : ∃ d : At, cs = (atC d).toArray ∧ AtN d ∧ Kn (World.all W) (fun w => AtV w d) := by
  obtain ⟨d, e, h1, h2⟩ := attrs_el n cs.toList h
  exact ⟨d, by rw [← e], h1, kn_keep (fun hc h => AtV.keep hc h) h2⟩
structure Ac where
  do_ : Int
  id : Int
  d : At
def acC (x : Ac) : List Value := [.int .i64 x.do_, .int .i64 x.id, .int .i64 x.d.origin, .slice x.d.pa x.d.path.length x.d.pc, .int .u32 x.d.next, .bool x.d.hasMed, .int .u32 x.d.med, .bool x.d.hasLocal, .int .u32 x.d.loc, .bool x.d.atomic, .bool x.d.hasMaker, .int .u32 x.d.makerAS, .int .u32 x.d.maker, .slice x.d.ca x.d.comms.length x.d.cc, .slice x.d.oa x.d.others.length x.d.oc]
structure AcN (x : Ac) : Prop where
  do_ : I64 x.do_
  id : I64 x.id
  d : AtN x.d
theorem act_el {w : World} (m : Nat) (d : List Value) (_ : d.length = 15) (h : Rs Try.prog w m 48 d) : ∃ x : Ac, d = acC x ∧ AcN x ∧ AtV w x.d := by
  have h0 := leaf_of 5 48 [3, 3, 3, 22, 24, 4, 23, 4, 23, 4, 4, 23, 24, 25, 26] m d (by kernel_rfl) h
  obtain ⟨do_, r, e, b0, h1⟩ := h0.i64 Try.underlying3
  subst e
  obtain ⟨id, r, e, b1, h2⟩ := h1.i64 Try.underlying3
  subst e
  obtain ⟨x, e, h3, h4⟩ := attrs_leaf h2
  subst e
  exact ⟨⟨do_, id, x⟩, rfl, ⟨b0, b1, h3⟩, h4⟩
theorem acts_arg {W : World} {n : Nat} {a : Option Addr} {l c : Nat} (h : Rs Try.prog W n 42 [.slice a l c]) : ∃ es : List Ac, es.length = l ∧ es.length ≤ 140737488355328 ∧ (∀ x ∈ es, AcN x) ∧ Kn (World.all W) (fun w => Vw w (.slice a es.length c) 15 es.length (flat acC es) ∧ ∀ x ∈ es, AtV w x.d) := by
  obtain ⟨es, rfl, h1, h2, h3, h4, h5⟩ := h.list (sz := 15) (b := 128) (enc := acC) (ok := fun x => AcN x ∧ AtV W x.d) Try.underlying42 (by kernel_rfl) (by kernel_rfl) act_el
  exact ⟨es, rfl, by simp only [reachBytes] at h3; omega, fun x hx => (h5 x hx).1, kn_keep (fun hc h => ⟨vwKeep hc h.1, fun x hx => (h.2 x hx).keep hc⟩) ⟨h4, fun x hx => (h5 x hx).2⟩⟩
end Go.Proofs.Ytimamemekdmpeaa
