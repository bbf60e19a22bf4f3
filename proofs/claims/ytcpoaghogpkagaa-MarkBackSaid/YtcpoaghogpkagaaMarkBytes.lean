/-
  What the library and base do with bytes, as mark uses them: Grow of nil, Clone, Concat, Equal, Bytes, SameBytes.
-/
import Derived.Test.YtcpoaghogpkagaaMarkFits
import Derived.Lib.AppendZeros
import Derived.Deep.DeepCutAuto
import Derived.Deep.RegionHeld3
import Derived.BigRegion
namespace Go.Proofs.Ytcpoaghogpkagaa
set_option linter.unusedSimpArgs false
set_option linter.unusedVariables false
open Go.RowKit Go.Pm


theorem OwnB.empty {e : TypeId} {w : World} {base g cap : Nat} {cur : Array Value} (h : Blk w g cur e) (hb : base ≤ g) (hs : cur.size = cap) (hm : cap ≤ maxLen) : OwnB e w base (.slice (some ⟨g, 0, none⟩) 0 cap) [] :=
  ⟨rfl, .inr ⟨g, cap, cur, rfl, hb, h, Nat.zero_le _, hm, by omega, rfl⟩⟩

theorem Lib.run_eql_slice_nil {P : Program} (w : World) (t e : TypeId) (a : Option Addr) (l c : Nat) (h : P.underlying t = some (.slice e)) : (binOp .eql t (.slice a l c) (.slice none 0 0)).run P w = .ok (.bool a.isNone) w := by
  simp [binOp, Sem.run_bind, run_equal_slice_nil w t e a l c h]

theorem grow_nil (n : Nat) (w : World) (hn : n ≤ 140737488355328) :
    Calls Try.prog 29 #[.slice none 0 0, .int .i64 n] w (FreshB 5 w []) := by
  obtain ⟨i, z, hi, hz, hsz, hby, hzs⟩ := bytesEl.inf
  have hm : n ≤ 9223372036854775807 := by omega
  by_cases h0 : n = 0
  · subst h0
    go_enter Try.func29, Try.ntmps29
    go_wp2
    go_ret
    exact ⟨_, rfl, OwnB.nil _ _ _, Only.refl _ _⟩
  · have hpos : 0 < n := by omega
    have HR := Lib.hid (Lib.run_append_nil_zeros (P := Try.prog) w 22 3 22 5 i z .i64 .i64 Try.underlying22 Try.underlying3 hi hz n hpos (by omega) (by omega) (by rw [hby]; omega))
    have HC1 := Lib.hid (grownCap_ge w n 0 5)
    have HC2 := Lib.hid (grownCap_le_maxLen w n 0 5 (by unfold maxLen; omega))
    generalize z.cells = zc at *
    have HZ := Lib.hid hzs
    generalize grownCap w n 0 5 = c at *
    have hc : n ≤ c := HC1.out
    have hc2 : c ≤ 9223372036854775807 := by have := HC2.out; unfold maxLen at this; omega
    go_enter Try.func29, Try.ntmps29
    go_wp2_with (at_builtin; refine Lib.wpList_append_run _ rfl _ _ _ _ rfl _ _ rfl rfl _ _ HR.out ?_)
    go_ret
    refine ⟨_, rfl, OwnB.empty (Blk.new w.drew _ _) (Nat.le_refl _) ?_ HC2.out, ((Only.refl _ _).drew).alloc _⟩
    rw [Array.size_append, size_zeroCells, size_zeroCells, HZ.out]; omega

set_option maxHeartbeats 400000 in
theorem clone_any (W w : World) (v : Value) (l : List Int) (hv : VwB W v l) (hW : Only [] W w) (hl : l.length ≤ 140737488355328) :
    Calls Try.prog 31 #[v] w (FreshB 5 w l) := by
  have HV := Lib.hid (hv.only hW)
  obtain ⟨a, cap, rfl, h1, h2⟩ := hv.shape
  have HL := Lib.hid hl
  clear hv hW hl
  cases a with
  | none =>
    have hl0 : l = [] := by
      obtain ⟨a', cap', he, _, _, _, h4, _⟩ := HV.out
      cases he
      exact List.eq_nil_of_length_eq_zero (h4 rfl).1
    subst hl0
    have hnil : (binOp .eql 22 (.slice none 0 cap) (.slice none 0 0)).run Try.prog w = .ok (.bool true) w := Lib.run_eql_slice_nil w 22 5 none _ _ Try.underlying22
    go_enter Try.func31, Try.ntmps31
    go_wp2
    go_ret
    exact ⟨_, rfl, OwnB.nil _ _ _, Only.refl _ _⟩
  | some a =>
    generalize l.length = n at *
    have hnil : (binOp .eql 22 (.slice (some a) n cap) (.slice none 0 0)).run Try.prog w = .ok (.bool false) w := Lib.run_eql_slice_nil w 22 5 (some a) _ _ Try.underlying22
    go_enter Try.func31, Try.ntmps31
    go_wp2_with (at_builtin; refine wpList_appB bytesEl rfl _ _ (by rfl) (by rfl) (by rfl) (OwnB.litAt (base := w.heap.size) [] rfl rfl (Nat.le_refl _) (by decide) rfl) (HV.out.only ((Only.refl _ _).alloc _)) (by have h1 := HV.out.size.1; have := HL.out; simp; omega) (by simp) ?_; intro v' w' hb)
    go_ret
    exact ⟨_, rfl, by simpa using hb.own, hb.since (OwnB.litAt (base := w.heap.size) [] rfl rfl (Nat.le_refl _) (by decide) rfl) ((Only.refl [] w).alloc _) (Nat.le_refl _)⟩
end Go.Proofs.Ytcpoaghogpkagaa
