/-
  Policies that came in, as trees.
-/
import Derived.Test.YteekbpohocfmpaaCd24
import Derived.Test.YteekbpohocfmpaaLaw
namespace Go.Proofs.Yteekbpohocfmpaa
set_option linter.unusedSimpArgs false
set_option linter.unusedVariables false
open Go.RowKit Go.Pm

instance : Inhabited Cd := ⟨⟨0, 0, 0, 0, none, 0, []⟩⟩
instance : Inhabited St := ⟨⟨0, 0, 0, default, none, 0, [], none, 0, []⟩⟩
def CdsV (w : World) (d : Nat) (a : Option Addr) (c : Nat) (ys : List Cd) : Prop := match d with
  | 0 => True
  | d + 1 => Vw w (.slice a ys.length c) 5 ys.length (flat cdC ys) ∧ ∀ y ∈ ys, CdV w d y
def CdsR (d : Nat) (ys : List Cd) : Prop := match d with
  | 0 => ys.length ≤ 140737488355328
  | d + 1 => ys.length ≤ 140737488355328 ∧ ∀ y ∈ ys, CdR d y
theorem cd_mk {w : World} {d : Nat} {x : Cd} (hn : CdN x) (h1 : CdsV w d x.a x.c x.l) (h2 : CdsR d x.l) : CdV w d x ∧ CdR d x := by
  cases d with
  | zero => exact ⟨trivial, hn, h2⟩
  | succ d => exact ⟨h1, hn, h2.1, h2.2⟩
theorem cds_of {W : World} : ∀ (d m : Nat) (a : Option Addr) (l c : Nat), Rs Try.prog W m 43 [.slice a l c] → ∃ ys : List Cd, ys.length = l ∧ CdsV W d a c ys ∧ CdsR d ys
  | 0, m, a, l, c, h => by
    obtain ⟨h1, h2, h3, _⟩ := h.elems (sz := 5) Try.underlying43 (by kernel_rfl)
    have hb : Try.prog.bytesOf 45 = 56 := by kernel_rfl
    rw [hb] at h3
    simp only [reachBytes] at h3
    refine ⟨List.replicate l default, List.length_replicate, trivial, ?_⟩
    show (List.replicate l default).length ≤ _
    rw [List.length_replicate]
    omega
  | d + 1, m, a, l, c, h => by
    obtain ⟨ys, h0, h1, h2, h3, h4, h5⟩ := h.list (sz := 5) (b := 56) (enc := cdC) (ok := fun y => CdV W d y ∧ CdR d y) Try.underlying43 (by kernel_rfl) (by kernel_rfl) (fun m ds _ hr => by
      have hL := leaf_of 5 45 [3, 43, 34, 3, 3] m ds (by kernel_rfl) hr
      obtain ⟨z0, r0, rfl, h0, hL⟩ := hL.i64 Try.underlying3
      obtain ⟨a1, l1, c1, r1, rfl, ⟨m1, hs⟩, hL⟩ := hL.sl Try.underlying43
      obtain ⟨z2, r2, rfl, h2, hL⟩ := hL.u32 Try.underlying34
      obtain ⟨z3, r3, rfl, h3, hL⟩ := hL.i64 Try.underlying3
      obtain ⟨z4, r4, rfl, h4, hL⟩ := hL.i64 Try.underlying3
      obtain rfl := hL.nil'
      obtain ⟨ys, rfl, k1, k2⟩ := cds_of d m1 a1 l1 c1 hs
      exact ⟨⟨z0, z4, z2, z3, a1, c1, ys⟩, rfl, cd_mk ⟨h0, h4, h2, h3⟩ k1 k2⟩)
    simp only [reachBytes] at h3
    exact ⟨ys, h0, ⟨h4, fun y hy => (h5 y hy).1⟩, ⟨by omega, fun y hy => (h5 y hy).2⟩⟩
theorem ls_of {W : World} : ∀ (d m : Nat) (a : Option Addr) (l c : Nat), Rs Try.prog W m 22 [.slice a l c] → ∃ ts : List St, ts.length = l ∧ LsV W d a c ts ∧ LsR d ts
  | 0, m, a, l, c, h => by
    obtain ⟨h1, h2, h3, _⟩ := h.elems (sz := 10) Try.underlying22 (by kernel_rfl)
    have hb : Try.prog.bytesOf 47 = 128 := by kernel_rfl
    rw [hb] at h3
    simp only [reachBytes] at h3
    refine ⟨List.replicate l default, List.length_replicate, trivial, ?_⟩
    show (List.replicate l default).length ≤ _
    rw [List.length_replicate]
    omega
  | d + 1, m, a, l, c, h => by
    obtain ⟨ys, h0, h1, h2, h3, h4, h5⟩ := h.list (sz := 10) (b := 128) (enc := stC) (ok := fun s => (CdV W 5 s.cd ∧ LsV W d s.ta s.tc s.th ∧ LsV W d s.ea s.ec s.el) ∧ (StN s ∧ CdR 5 s.cd ∧ LsR d s.th ∧ LsR d s.el)) Try.underlying22 (by kernel_rfl) (by kernel_rfl) (fun m ds _ hr => by
      have hL := leaf_of 5 47 [3, 3, 43, 34, 3, 3, 22, 22, 3, 3] m ds (by kernel_rfl) hr
      obtain ⟨z0, r0, rfl, h0, hL⟩ := hL.i64 Try.underlying3
      obtain ⟨z1, r1, rfl, h1, hL⟩ := hL.i64 Try.underlying3
      obtain ⟨a2, l2, c2, r2, rfl, ⟨m2, hs2⟩, hL⟩ := hL.sl Try.underlying43
      obtain ⟨z3, r3, rfl, h3, hL⟩ := hL.u32 Try.underlying34
      obtain ⟨z4, r4, rfl, h4, hL⟩ := hL.i64 Try.underlying3
      obtain ⟨z5, r5, rfl, h5, hL⟩ := hL.i64 Try.underlying3
      obtain ⟨a6, l6, c6, r6, rfl, ⟨m6, hs6⟩, hL⟩ := hL.sl Try.underlying22
      obtain ⟨a7, l7, c7, r7, rfl, ⟨m7, hs7⟩, hL⟩ := hL.sl Try.underlying22
      obtain ⟨z8, r8, rfl, h8, hL⟩ := hL.i64 Try.underlying3
      obtain ⟨z9, r9, rfl, h9, hL⟩ := hL.i64 Try.underlying3
      obtain rfl := hL.nil'
      obtain ⟨ys, rfl, k1, k2⟩ := cds_of 5 m2 a2 l2 c2 hs2
      obtain ⟨th, rfl, t1, t2⟩ := ls_of d m6 a6 l6 c6 hs6
      obtain ⟨el, rfl, e1, e2⟩ := ls_of d m7 a7 l7 c7 hs7
      obtain ⟨v1, v2⟩ := cd_mk (w := W) (d := 5) (x := ⟨z1, z5, z3, z4, a2, c2, ys⟩) ⟨h1, h5, h3, h4⟩ k1 k2
      exact ⟨⟨z0, z8, z9, ⟨z1, z5, z3, z4, a2, c2, ys⟩, a6, c6, th, a7, c7, el⟩, rfl, ⟨v1, t1, e1⟩, ⟨h0, h8, h9, ⟨h1, h5, h3, h4⟩⟩, v2, t2, e2⟩)
    simp only [reachBytes] at h3
    exact ⟨ys, h0, ⟨h4, fun y hy => (h5 y hy).1⟩, ⟨by omega, fun y hy => (h5 y hy).2⟩⟩
theorem cd_keep {w w' : World} (hc : ∀ b o u, w.cell? ⟨b, o, none⟩ = some u → w'.cell? ⟨b, o, none⟩ = some u) : ∀ (d : Nat) (x : Cd), CdV w d x → CdV w' d x
  | 0, _, _ => trivial
  | d + 1, x, h => ⟨vwKeep hc h.1, fun y hy => cd_keep hc d y (h.2 y hy)⟩
theorem ls_keep {w w' : World} (hc : ∀ b o u, w.cell? ⟨b, o, none⟩ = some u → w'.cell? ⟨b, o, none⟩ = some u) : ∀ (d : Nat) (a : Option Addr) (c : Nat) (l : List St), LsV w d a c l → LsV w' d a c l
  | 0, _, _, _, _ => trivial
  | d + 1, a, c, l, h => ⟨vwKeep hc h.1, fun s hs => ⟨cd_keep hc 5 _ (h.2 s hs).1, ls_keep hc d _ _ _ (h.2 s hs).2.1, ls_keep hc d _ _ _ (h.2 s hs).2.2⟩⟩
theorem ls_kn {W : World} {d : Nat} {a : Option Addr} {c : Nat} {l : List St} (h : LsV W d a c l) : Kn (World.all W) (fun w => LsV w d a c l) :=
  Kn.all (fun w ho => ls_keep (fun b o u hu => by
    rw [World.cell?_of_block (w := W) (ho.block b (World.block_lt_of_cell? _ _ hu) (by simp))]
    exact hu) d a c l h) fun w w' hh hr => ls_keep (fun b o u hu => by rw [cell?_heap hh]; exact hu) d a c l hr
theorem policy_arg {W : World} {m : Nat} {cs : Array Value} (h : Rs Try.prog W m 24 (Value.agg cs).cells.toList) : ∃ (nm : ByteArray) (a : Option Addr) (c : Nat) (l : List St), cs = #[.string nm, .slice a l.length c] ∧ LsR 5 l ∧ Kn (World.all W) (fun w => LsV w 5 a c l) := by
  have hL := leaf_of 5 24 [9, 22] m _ (by kernel_rfl) h
  obtain ⟨v, r0, e0, ⟨m0, hv⟩, hL⟩ := hL.one
  obtain ⟨a, l, c, r1, rfl, ⟨m1, hs⟩, hL⟩ := hL.sl Try.underlying22
  obtain rfl := hL.nil'
  obtain ⟨ts, rfl, k1, k2⟩ := ls_of 5 m1 a l c hs
  have hu := Try.underlying9
  cases m0 with
  | zero => exact hv.elim
  | succ m0 =>
    unfold Rs at hv
    simp only [hu] at hv
    obtain ⟨s, e1, _⟩ := hv
    cases e1
    refine ⟨s, a, c, ts, ?_, k2, ls_kn k1⟩
    have : cs.toList = [.string s, .slice a ts.length c] := e0
    rw [← Array.toArray_toList (xs := cs), this]
end Go.Proofs.Yteekbpohocfmpaa
