/-
  Package open: capabilities and parameters, of bytes that are right.
-/
import Derived.Test.YtdbahaajgedgkaaOpenRead
namespace Go.Proofs.Ytdbahaajgedgkaa
open Go.RowKit Go.Pm


inductive CapsAre : Opn → List Int → Opn → Prop
  | nil (o : Opn) : CapsAre o [] o
  | cons (o o1 o2 : Opn) (c : Int) (x r : List Int) (h : CapIs o c x o1) (h0 : 0 ≤ c) (h1 : c < 256) (hr : CapsAre o1 r o2) : CapsAre o (c :: (x.length : Int) :: (x ++ r)) o2

theorem byte_mid {c n : Int} {x r : List Int} (h : Byte (c :: n :: (x ++ r))) : Byte x ∧ Byte r :=
  ⟨fun k hk => h k (by simp [hk]), fun k hk => h k (by simp [hk])⟩

def CapsJ (W : World) (ob : Nat) (o' : Opn) (w : World) (v : Value) : Prop :=
  ∃ o1 l, VwB w v l ∧ Byte l ∧ CapsAre o1 l o' ∧ Blk w ob o1.cells 25 ∧ Only [ob] W w ∧ v.ownBlock ≠ some ob

def vlen : Value → Nat
  | .slice _ n _ => n
  | _ => 0

set_option maxHeartbeats 1000000 in
theorem capabilities_yes (w : World) (ob : Nat) (o o' : Opn) (hB : Blk w ob o.cells 25) (v : Value) (l : List Int) (hc : CapsAre o l o') (hb : Byte l) (hv : VwB w v l) (hne : v.ownBlock ≠ some ob) :
    Calls Try.prog 25 #[.pointer (some ⟨ob, 0, none⟩), v] w fun e w' => e = .returned (.bool true) ∧ Blk w' ob o'.cells 25 ∧ Only [ob] w w' := by
  have HJ : Hid (CapsJ w ob o' w v) := ⟨o, l, hv, hb, hc, hB, Only.refl _ _, hne⟩
  clear hB hc hb hv hne
  go_enter Try.func25, Try.ntmps25
  go_wp2_with fail
  refine wp_scope_label 0 (fun a' w' => ∃ v : Value, (∃ uf : Nat → Value, a' = { tmps := #[.pointer (some ⟨ob, 0, none⟩), v, uf 2, uf 3, uf 4, uf 5, uf 6, uf 7, uf 8, uf 9, uf 10, uf 11, uf 12, uf 13, uf 14, uf 15, uf 16, uf 17, uf 18, uf 19, uf 20, uf 21, uf 22, uf 23, uf 24, uf 25, uf 26], defers := [] }) ∧ CapsJ w ob o' w' v) (fun a' _ => vlen (a'.tmps.getD 1 undef)) rfl rfl ?_ ?_
  · intro _ _
    go_step3
    go_wp2
    exact ⟨v, ex_frame rfl, HJ.out⟩
  · clear HJ
    rintro a' w' ⟨v, ⟨uf, rfl⟩, o1, l, hv, hb, hc, hB, hO, hne⟩
    intro N hN
    have HV := Lib.hid hv
    have HBY := Lib.hid hb
    have HB := Lib.hid hB
    have HO := Lib.hid hO
    have HNE := Lib.hid hne
    obtain ⟨a, cap, rfl, hl1, hl2⟩ := hv.shape
    clear hv hb hB hO hne
    cases hc
    case nil =>
      go_wp2
      simp only [Exit.jump]
      go_ret
      exact ⟨rfl, HB.out, HO.out⟩
    case cons o2 c x r h0 h1 h hr =>
      have HC := Lib.hid h
      have HR := Lib.hid hr
      clear h hr
      have HL : Hid ((c :: (x.length : Int) :: (x ++ r)).length = x.length + r.length + 2) := by simp [Hid]
      have hl := HL.out
      rw [hl] at HV HNE hl1 ⊢
      clear hl
      go_wp2_with fail
      refine (part_yes _ _ _ c x r rfl HV.out HBY.out).mono ?_
      rintro e w1 ⟨vx, vr, rfl, hvx, hvr, hox, hor, n, hw1⟩
      have HVX := Lib.hid hvx
      have HVR := Lib.hid hvr
      have HOX := Lib.hid hox
      have HOR := Lib.hid hor
      have HB1 := Lib.hid (HB.out.drewN n)
      have HO1 := Lib.hid (HO.out.drewN n)
      rw [← hw1] at HB1 HO1
      clear hvx hvr hox hor hw1
      go_wp2_with fail
      refine (capability_yes _ ob o1 o2 HB1.out vx c x HC.out (byte_mid HBY.out).1 h0 h1 HVX.out (by rw [HOX.out]; exact HNE.out)).mono ?_
      rintro e w2 ⟨rfl, hb2, ho2⟩
      have HB2 := Lib.hid hb2
      have HO2 := Lib.hid ho2
      clear hb2 ho2
      go_wp2_with fail
      have hnr : vr.ownBlock ≠ some ob := by rw [HOR.out]; exact HNE.out
      have hvr2 : VwB w2 vr r := HVR.out.keep HO2.out (fun b hb hm => hnr (by rw [hb]; simpa using hm))
      have hbr := (byte_mid HBY.out).2
      have ho3 := HO1.out.then HO2.out
      obtain ⟨ar, capr, rfl, _, _⟩ := hvr2.shape
      go_step3
      exact ⟨rfl, ⟨_, ex_frame rfl, o2, r, hvr2, hbr, HR.out, HB2.out, ho3, hnr⟩, by simp [vlen]; omega⟩

inductive ParsAre : Opn → List Int → Opn → Prop
  | nil (o : Opn) : ParsAre o [] o
  | cons (o o1 o2 : Opn) (x r : List Int) (h : CapsAre o x o1) (hr : ParsAre o1 r o2) : ParsAre o (2 :: (x.length : Int) :: (x ++ r)) o2

def ParsJ (W : World) (ob : Nat) (o' : Opn) (w : World) (v : Value) : Prop :=
  ∃ o1 l, VwB w v l ∧ Byte l ∧ ParsAre o1 l o' ∧ Blk w ob o1.cells 25 ∧ Only [ob] W w ∧ v.ownBlock ≠ some ob

set_option maxHeartbeats 1000000 in
theorem parameters_yes (w : World) (ob : Nat) (o o' : Opn) (hB : Blk w ob o.cells 25) (v : Value) (l : List Int) (hc : ParsAre o l o') (hb : Byte l) (hv : VwB w v l) (hne : v.ownBlock ≠ some ob) (hs : o'.sys ≠ 0) :
    Calls Try.prog 22 #[.pointer (some ⟨ob, 0, none⟩), v] w fun e w' => e = .returned (.tuple #[.int .i64 2, .bool false]) ∧ Blk w' ob o'.cells 25 ∧ Only [ob] w w' := by
  have HJ : Hid (ParsJ w ob o' w v) := ⟨o, l, hv, hb, hc, hB, Only.refl _ _, hne⟩
  clear hB hc hb hv hne
  have HS := Lib.hid hs
  clear hs
  go_enter Try.func22, Try.ntmps22
  go_wp2_with fail
  go_loopw [1] (fun v wr => ParsJ w ob o' wr v) (fun v _ => vlen v)
  case atStart => exact HJ.out
  case round =>
    clear HJ
    obtain ⟨o1, l, hv, hb, hc, hB, hO, hne⟩ := hrel
    have HV := Lib.hid hv
    have HBY := Lib.hid hb
    have HB := Lib.hid hB
    have HO := Lib.hid hO
    have HNE := Lib.hid hne
    have s0 : wr.cell? ⟨ob, 0, none⟩ = some (.int .u32 o1.sys) := by rw [hB.cell]; rfl
    obtain ⟨a, cap, rfl, hl1, hl2⟩ := hv.shape
    clear hv hb hB hO hne
    cases hc
    case nil =>
      have hz : (o'.sys == 0) = false := by simpa using HS.out
      have HZ := Lib.hid hz
      clear hz
      go_wp2_with fail
      go_quiet (fail)
      rw [HZ.out]
      go_wp2_with fail
      go_ret2
      exact ⟨rfl, HB.out.drewN _, HO.out.drewN _⟩
    case cons o2 x r h hr =>
      have HC := Lib.hid h
      have HR := Lib.hid hr
      clear h hr s0
      have HL : Hid ((2 :: (x.length : Int) :: (x ++ r)).length = x.length + r.length + 2) := by simp [Hid]
      have hl := HL.out
      rw [hl] at HV HNE hl1 ⊢
      clear hl
      go_wp2_with fail
      refine (part_yes _ _ _ 2 x r rfl HV.out HBY.out).mono ?_
      rintro e w1 ⟨vx, vr, rfl, hvx, hvr, hox, hor, n, hw1⟩
      have HVX := Lib.hid hvx
      have HVR := Lib.hid hvr
      have HOX := Lib.hid hox
      have HOR := Lib.hid hor
      have HB1 := Lib.hid (HB.out.drewN n)
      have HO1 := Lib.hid (HO.out.drewN n)
      rw [← hw1] at HB1 HO1
      clear hvx hvr hox hor hw1
      go_wp2_with fail
      refine (capabilities_yes _ ob o1 o2 HB1.out vx x HC.out (byte_mid HBY.out).1 HVX.out (by rw [HOX.out]; exact HNE.out)).mono ?_
      rintro e w2 ⟨rfl, hb2, ho2⟩
      have HB2 := Lib.hid hb2
      have HO2 := Lib.hid ho2
      clear hb2 ho2
      have hnr : vr.ownBlock ≠ some ob := by rw [HOR.out]; exact HNE.out
      have hvr2 : VwB w2 vr r := HVR.out.keep HO2.out (fun b hb hm => hnr (by rw [hb]; simpa using hm))
      have ho3 := HO1.out.then HO2.out
      obtain ⟨ar, capr, rfl, _, _⟩ := hvr2.shape
      have HF : Hid (ParsJ w ob o' w2 (.slice ar r.length capr)) := ⟨o2, r, hvr2, (byte_mid HBY.out).2, HR.out, HB2.out, ho3, hnr⟩
      clear hnr hvr2 ho3
      go_wp2_with fail
      exact ⟨HF.out, by simp [vlen]; omega⟩
end Go.Proofs.Ytdbahaajgedgkaa
