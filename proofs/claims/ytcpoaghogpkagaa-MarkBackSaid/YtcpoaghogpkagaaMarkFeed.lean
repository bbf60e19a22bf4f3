/-
  Package mark: New, Feed, Held.
-/
import Derived.Test.YtcpoaghogpkagaaMarkMsgs
namespace Go.Proofs.Ytcpoaghogpkagaa
set_option linter.unusedSimpArgs false
set_option linter.unusedVariables false
open Go.RowKit Go.Pm


theorem parses_length {l : List Int} {ms : List (Int × List Int)} {f : Option (Int × List Int)} {r : List Int} (h : Parses l ms f r) : ms.length + r.length ≤ l.length := by
  induction h with
  | short => simp
  | bad => simp
  | wait => simp
  | msg l n ms f r h hn hl hf hr ih => simp at ih ⊢; omega

def FaultIs (w : World) (fv : Value) : Option (Int × List Int) → Prop
  | none => fv = .agg #[.int .i64 0, .int .i64 0, .slice none 0 0]
  | some (s, d) => ∃ dv, fv = .agg #[.int .i64 1, .int .i64 s, dv] ∧ VwB w dv d

def FeedAs (W : World) (sp : Nat) (ms : List (Int × List Int)) (f : Option (Int × List Int)) (r : List Int) (e : Ending) (w' : World) : Prop :=
  ∃ lv es fv vb, e = .returned (.tuple #[lv, fv, .bool f.isNone]) ∧ es.map Ms.pair = ms ∧ OwnM 53 w' W.heap.size lv es ∧ Only [sp] W w' ∧ FaultIs w' fv f ∧ Blk w' sp #[vb, .bool true, .bool f.isSome] 56 ∧ VwB w' vb r ∧ vb.ownBlock ≠ some sp

def heldLen (w : World) (sp : Nat) : Nat := match w.cell? ⟨sp, 0, none⟩ with
  | some (.slice _ n _) => n
  | _ => 0

def FeedJ (W : World) (sp : Nat) (ms : List (Int × List Int)) (f : Option (Int × List Int)) (r : List Int) (lv : Value) (w : World) : Prop :=
  ∃ es l vb ms', OwnM 53 w (W.heap.size + 1) lv es ∧ Blk w sp #[vb, .bool true, .bool false] 56 ∧ VwB w vb l ∧ Byte l ∧ (∀ g, vb.ownBlock = some g → W.heap.size + 1 ≤ g ∧ g < w.heap.size ∧ lv.ownBlock ≠ some g) ∧ Parses l ms' f r ∧ es.map Ms.pair ++ ms' = ms ∧ Only [sp] W w ∧
    Blk w W.heap.size #[.int .i64 0, .int .i64 0, .slice none 0 0] 38

theorem heldLen_eq {w : World} {sp : Nat} {vb : Value} {m d : Bool} {l : List Int} (h : Blk w sp #[vb, .bool m, .bool d] 56) (hv : VwB w vb l) : heldLen w sp = l.length := by
  obtain ⟨a, c, rfl, _, _⟩ := hv.shape
  have s0 : w.cell? ⟨sp, 0, none⟩ = some (.slice a l.length c) := (h.cell 0).trans rfl
  unfold heldLen
  rw [s0]

set_option maxRecDepth 100000 in
set_option maxHeartbeats 2000000 in
theorem feed_any (W w : World) (hW : Only [] W w) (sp : Nat) (vb bv : Value) (held b : List Int) (hs : Blk w sp #[vb, .bool true, .bool false] 56) (hv : VwB w vb held) (hb : VwB W bv b) (hy1 : Byte held) (hy2 : Byte b)
    (hne : vb.ownBlock ≠ some sp) (hlen : held.length + b.length ≤ 1000000) (ms : List (Int × List Int)) (f : Option (Int × List Int)) (r : List Int) (hp : Parses (held ++ b) ms f r) :
    Calls Try.prog 14 #[.pointer (some ⟨sp, 0, none⟩), bv] w (FeedAs w sp ms f r) := by
  have HV := Lib.hid hv
  have HB := Lib.hid (hb.only hW)
  have HY1 := Lib.hid hy1
  have HY2 := Lib.hid hy2
  have HP := Lib.hid hp
  have HLEN := Lib.hid hlen
  have HPL : Hid (ms.length ≤ 1000000) := by have := parses_length hp; simp at this; unfold Hid; omega
  have HS := Lib.hid hs
  have HNE := Lib.hid hne
  obtain ⟨va, vc, rfl, _, _⟩ := hv.shape
  obtain ⟨ba, bc, rfl, _, _⟩ := hb.shape
  have hls := hs.lt
  have s0 : w.cell? ⟨sp, 0, none⟩ = some (.slice va held.length vc) := (hs.cell 0).trans rfl
  have s1 : w.cell? ⟨sp, 1, none⟩ = some (.bool true) := (hs.cell 1).trans rfl
  have s2 : w.cell? ⟨sp, 2, none⟩ = some (.bool false) := (hs.cell 2).trans rfl
  clear hv hb hW hs hy1 hy2 hne hp hlen
  go_enter Try.func14, Try.ntmps14
  go_wp2_with fail
  have hsl : Slices ((w.alloc (Obj.cells #[.int .i64 0, .int .i64 0, .slice none 0 0] 38)).alloc (Obj.cells #[.slice va held.length vc, .slice ba b.length bc] 22)) (w.heap.size + 1) [.slice va held.length vc, .slice ba b.length bc] [held, b] := by
    refine ⟨blk_newAt _ _ _ (by simp), rfl, fun i hi => ?_⟩
    match i, hi with
    | 0, _ => exact HV.out.only (((Only.refl _ _).alloc _).alloc _)
    | 1, _ => exact HB.out.only (((Only.refl _ _).alloc _).alloc _)
  refine (concat_any _ _ _ _ 2 rfl hsl (by omega) (by have := HLEN.out; simp; omega)).mono ?_
  rintro e w1 ⟨v1, rfl, ho1, hw1⟩
  have he : [held, b].flatten = held ++ b := by simp
  rw [he] at ho1
  obtain ⟨a1, c1, hv1, _, _⟩ := ho1.vw.shape
  rw [List.length_append] at hv1
  subst hv1
  have hsp1 : Blk w1 sp #[.slice va held.length vc, .bool true, .bool false] 56 := (((HS.out).alloc _).alloc _).keep hw1 (by simp)
  have hR1 : Blk w1 w.heap.size #[.int .i64 0, .int .i64 0, .slice none 0 0] 38 := ((Blk.new w _ _).alloc _).keep hw1 (by simp)
  have hO1 : Only [] w w1 := (((Only.refl [] w).alloc _).alloc _).then hw1
  have t0 : w1.cell? ⟨sp, 0, none⟩ = some (.slice va held.length vc) := (hsp1.cell 0).trans rfl
  have tf := hsp1.free 0
  have HO1 := Lib.hid ho1
  have HSP1 := Lib.hid hsp1
  have HR1 := Lib.hid hR1
  have HW1 := Lib.hid hO1
  have hv1ge : ∀ g, (Value.slice a1 (held.length + b.length) c1).ownBlock = some g → w.heap.size + 2 ≤ g := fun g hg => by have := ho1.ge g hg; simpa using this
  have HGE := Lib.hid hv1ge
  clear hsl ho1 hw1 hsp1 hR1 hO1 s0 s1 s2 he hv1ge
  go_wp2_with fail
  refine world_abs (fun w' => FeedJ w sp ms f r (.slice none 0 0) w') ?_ ?_
  · have B1 := HW1.out
    have B2 := HSP1.out
    have B3 := HR1.out
    have hv1n : (Value.slice a1 (held.length + b.length) c1).ownBlock ≠ some sp := fun h => by have := HGE.out sp h; omega
    refine ⟨[], held ++ b, .slice a1 (held.length + b.length) c1, ms, OwnM.nil _ _ _, ?_, HO1.out.vw.keep (bs := [sp]) ((Only.refl _ _).setCell (by simp) _ _) (fun g hg hm => hv1n (by rw [hg]; simpa using hm)), HY1.out.append HY2.out, (fun g hg => ⟨by have := HGE.out g hg; omega, by have := HO1.out.lt g hg; simpa using this, by simp [Value.ownBlock]⟩), HP.out, by simp, ?_, ?_⟩
    · apply blk_cast
      case h => (repeat (first | with_reducible assumption | with_reducible apply Blk.set))
      case e => simp
    · exact (HW1.out.ofNil).setCell (.inl (by simp)) _ _
    · exact B3.setOther _ _ (by omega)
  clear HV HB HY1 HY2 HP HS HNE HO1 HSP1 HR1 HW1 HGE t0 tf
  intro w2 hJ
  have HJ := Lib.hid hJ
  clear hJ
  go_loopw [7] (fun lv wr => FeedJ w sp ms f r lv wr) (fun _ wr => heldLen wr sp)
  case atStart => exact HJ.out
  case round =>
    clear HJ
    obtain ⟨es, l, vb, ms', hM, hS, hV, hY, hne, hp, hms, hO, hR⟩ := hrel
    obtain ⟨a, c, rfl, h1, h2⟩ := hV.shape
    have s0 : wr.cell? ⟨sp, 0, none⟩ = some (.slice a l.length c) := (hS.cell 0).trans rfl
    have hlsr := hS.lt
    (have r0 : (wr).cell? ⟨w.heap.size, 0, none⟩ = some (.int .i64 0) := ((hR).cell 0).trans rfl; have r1 : (wr).cell? ⟨w.heap.size, 1, none⟩ = some (.int .i64 0) := ((hR).cell 1).trans rfl; have r2 : (wr).cell? ⟨w.heap.size, 2, none⟩ = some (.slice none 0 0) := ((hR).cell 2).trans rfl)
    (have rf0 := (hR).free 0; have rf1 := (hR).free 1; have rf2 := (hR).free 2)
    have HM := Lib.hid hM
    have HS := Lib.hid hS
    have HV := Lib.hid hV
    have HY := Lib.hid hY
    have HNE := Lib.hid hne
    have HMS := Lib.hid hms
    have HO := Lib.hid hO
    have HR := Lib.hid hR
    clear hM hS hV hY hne hms hO hR
    cases hp
    case short h hK =>
      go_wp2_with fail
      have B1 := (HO.out : Only [sp] w wr)
      have B2 := HR.out
      have B3 := HS.out
      have hws := B1.size
      refine world_abs (fun w' => Only [w.heap.size] wr w' ∧ Blk w' w.heap.size #[.int .i64 0, .int .i64 0, .slice none 0 0] 38) ⟨?_, ?_⟩ ?_
      · repeat (first | exact Only.refl _ _ | (refine Only.setCell ?_ (.inl (by simp)) _ _))
      · (apply blk_cast; (case h => (repeat (first | with_reducible assumption | (with_reducible apply blk_newAt; (first | omega | (simp; done) | (simp; omega))) | with_reducible apply Blk.set | with_reducible apply Blk.drewN | with_reducible apply Blk.drew | with_reducible apply Blk.alloc | (with_reducible apply Blk.setOther; (case hc => first | omega | (simp; omega)))))); (case e => (first | (simp; done) | rfl)))
      rintro w9 ⟨hO9, hR9⟩
      refine bodyPost_ret (v := .tuple #[u7, .agg #[.int .i64 0, .int .i64 0, .slice none 0 0], .bool true]) ?_ rfl ?_
      · simp [results, Try.results14, loadVar_blk hR9 (.struct _) 38 Try.underlying38 rfl rfl, asAddr, Sem.run_bind]
      · have hms := HMS.out
        refine ⟨u7, es, _, _, rfl, by simpa using hms, (HM.out.keep hO9 (by simp)).lower (by omega), B1.trans hO9 (fun x hx => .inr (by simp at hx; omega)), rfl, B3.keep hO9 (by simp; omega), HV.out.keep hO9 (fun g hg hm => by have := (HNE.out g hg).1; simp at hm; omega), fun h => by have := (HNE.out sp h).1; omega⟩
    case bad f0 h hf hK =>
      obtain ⟨s, d⟩ := f0
      have HP19 := Lib.hid (HV.out.pre (k := 19) h)
      have HY19 : Hid (Byte (l.take 19)) := fun n hn => HY.out n (List.take_subset _ _ hn)
      have HF := Lib.hid hf
      clear hf
      go_wp2_with fail
      refine (check_any wr wr (Only.refl _ _) _ (l.take 19) HP19.out HY19.out (by simp; omega)).mono ?_
      rintro e w3 hcw
      unfold CheckAs at hcw
      rw [HF.out] at hcw
      obtain ⟨dv, rfl, hdv, hw3⟩ := hcw
      obtain ⟨da, dc, rfl, _, _⟩ := hdv.vw.shape
      have hS3 := HS.out.keep hw3 (by simp)
      have hR3 := HR.out.keep hw3 (by simp)
      have t0 : w3.cell? ⟨sp, 0, none⟩ = some (.slice a l.length c) := (hS3.cell 0).trans rfl
      have t2 : w3.cell? ⟨sp, 2, none⟩ = some (.bool false) := (hS3.cell 2).trans rfl
      have tf0 := hS3.free 0
      have tf2 := hS3.free 2
      have hls3 := hS3.lt
      have hlr3 := hR3.lt
      clear r0 r1 r2 rf0 rf1 rf2 s0
      (have r0 : (w3).cell? ⟨w.heap.size, 0, none⟩ = some (.int .i64 0) := ((hR3).cell 0).trans rfl; have r1 : (w3).cell? ⟨w.heap.size, 1, none⟩ = some (.int .i64 0) := ((hR3).cell 1).trans rfl; have r2 : (w3).cell? ⟨w.heap.size, 2, none⟩ = some (.slice none 0 0) := ((hR3).cell 2).trans rfl)
      (have rf0 := (hR3).free 0; have rf1 := (hR3).free 1; have rf2 := (hR3).free 2)
      have HDV := Lib.hid hdv
      have HW3 := Lib.hid hw3
      have HS3 := Lib.hid hS3
      have HR3 := Lib.hid hR3
      clear hdv hw3 hS3 hR3
      have hspn : sp ≠ w.heap.size := by omega
      go_wp2_with fail
      have B1 := HW3.out
      have B2 := HS3.out
      have B3 := HR3.out
      have hws3 := B1.size
      have hwsr := HO.out.size
      refine world_abs (fun w' => Only [sp] wr w' ∧ Blk w' sp #[.slice none 0 0, .bool true, .bool true] 56 ∧ Blk w' w.heap.size #[.int .i64 0, .int .i64 0, .slice none 0 0] 38 ∧ Blk w' w3.heap.size #[.int .i64 1, .int .i64 s, .slice da d.length dc] 38 ∧ OwnB 5 w' wr.heap.size (.slice da d.length dc) d) ⟨?_, ?_, ?_, ?_, ?_⟩ ?_
      · exact (((B1.ofNil).setCell (.inl (by simp)) _ _).setCell (.inl (by simp)) _ _).alloc _
      · (apply blk_cast; (case h => (repeat (first | with_reducible assumption | (with_reducible apply blk_newAt; (first | omega | (simp; done) | (simp; omega))) | with_reducible apply Blk.set | with_reducible apply Blk.drewN | with_reducible apply Blk.drew | with_reducible apply Blk.alloc | (with_reducible apply Blk.setOther; (case hc => first | omega | (simp; omega)))))); (case e => (first | (simp; done) | rfl)))
      · (apply blk_cast; (case h => (repeat (first | with_reducible assumption | (with_reducible apply blk_newAt; (first | omega | (simp; done) | (simp; omega))) | with_reducible apply Blk.set | with_reducible apply Blk.drewN | with_reducible apply Blk.drew | with_reducible apply Blk.alloc | (with_reducible apply Blk.setOther; (case hc => first | omega | (simp; omega)))))); (case e => (first | (simp; done) | rfl)))
      · (apply blk_cast; (case h => (repeat (first | with_reducible assumption | (with_reducible apply blk_newAt; (first | omega | (simp; done) | (simp; omega))) | with_reducible apply Blk.set | with_reducible apply Blk.drewN | with_reducible apply Blk.drew | with_reducible apply Blk.alloc | (with_reducible apply Blk.setOther; (case hc => first | omega | (simp; omega)))))); (case e => (first | (simp; done) | rfl)))
      · refine (HDV.out.keep (bs := [sp]) (((Only.refl _ _).setCell (by simp) _ _).setCell (by simp) _ _) (fun g hg hm => ?_)).alloc _
        have := HDV.out.ge g hg
        simp at hm
        omega
      rintro w5 ⟨hO5, hS5, hR5, hF5, hD5⟩
      clear r0 r1 r2 rf0 rf1 rf2 t0 t2 tf0 tf2
      (have r0 : (w5).cell? ⟨w.heap.size, 0, none⟩ = some (.int .i64 0) := ((hR5).cell 0).trans rfl; have r1 : (w5).cell? ⟨w.heap.size, 1, none⟩ = some (.int .i64 0) := ((hR5).cell 1).trans rfl; have r2 : (w5).cell? ⟨w.heap.size, 2, none⟩ = some (.slice none 0 0) := ((hR5).cell 2).trans rfl)
      (have rf0 := (hR5).free 0; have rf1 := (hR5).free 1; have rf2 := (hR5).free 2)
      (have g0 : (w5).cell? ⟨w3.heap.size, 0, none⟩ = some (.int .i64 1) := ((hF5).cell 0).trans rfl; have g1 : (w5).cell? ⟨w3.heap.size, 1, none⟩ = some (.int .i64 s) := ((hF5).cell 1).trans rfl; have g2 : (w5).cell? ⟨w3.heap.size, 2, none⟩ = some (.slice da d.length dc) := ((hF5).cell 2).trans rfl)
      have hne9 : w3.heap.size ≠ w.heap.size := by omega
      have HO5 := Lib.hid hO5
      have HS5 := Lib.hid hS5
      have HR5 := Lib.hid hR5
      have HD5 := Lib.hid hD5
      clear hO5 hS5 hR5 hF5 hD5 B1 B2 B3
      go_region
      go_wp2_with fail
      have B5 := HR5.out
      refine world_abs (fun w' => Only [w.heap.size] w5 w' ∧ Blk w' w.heap.size #[.int .i64 1, .int .i64 s, .slice da d.length dc] 38) ⟨?_, ?_⟩ ?_
      · exact ((((Only.refl _ _).setCell (.inl (by simp)) _ _).setCell (.inl (by simp)) _ _).setCell (.inl (by simp)) _ _).drew
      · (apply blk_cast; (case h => (repeat (first | with_reducible assumption | (with_reducible apply blk_newAt; (first | omega | (simp; done) | (simp; omega))) | with_reducible apply Blk.set | with_reducible apply Blk.drewN | with_reducible apply Blk.drew | with_reducible apply Blk.alloc | (with_reducible apply Blk.setOther; (case hc => first | omega | (simp; omega)))))); (case e => (first | (simp; done) | rfl)))
      rintro w9 ⟨hO9, hR9⟩
      refine bodyPost_ret (v := .tuple #[u7, .agg #[.int .i64 1, .int .i64 s, .slice da d.length dc], .bool false]) ?_ rfl ?_
      · simp [results, Try.results14, loadVar_blk hR9 (.struct _) 38 Try.underlying38 rfl rfl, asAddr, Sem.run_bind]
      · have hms := HMS.out
        have hM5 : OwnM 53 w5 (w.heap.size + 1) u7 es := HM.out.keep HO5.out (by simp; omega)
        refine ⟨u7, es, _, _, rfl, by simpa using hms, (hM5.keep hO9 (by simp)).lower (by omega), ((HO.out : Only [sp] w wr).then HO5.out).trans hO9 (fun x hx => .inr (by simp at hx; omega)), ⟨_, rfl, (HD5.out.keep hO9 (fun g hg hm => ?_)).vw⟩, HS5.out.keep hO9 (by simp; omega), VwB.nil _, by simp [Value.ownBlock]⟩
        have := HD5.out.ge g hg
        have := HR.out.lt
        simp at hm
        omega
    case wait hK h hf hn =>
      have HP19 := Lib.hid (HV.out.pre (k := 19) h)
      have HY19 : Hid (Byte (r.take 19)) := fun n hn => HY.out n (List.take_subset _ _ hn)
      have HF := Lib.hid hf
      have HN := Lib.hid hn
      clear hf hn
      go_wp2_with fail
      refine (check_any wr wr (Only.refl _ _) _ (r.take 19) HP19.out HY19.out (by simp; omega)).mono ?_
      rintro e w3 hcw
      unfold CheckAs at hcw
      rw [HF.out] at hcw
      obtain ⟨rfl, hw3⟩ := hcw
      have hS3 := HS.out.keep hw3 (by simp)
      have hR3 := HR.out.keep hw3 (by simp)
      have hls3 := hS3.lt
      have hlr3 := hR3.lt
      clear r0 r1 r2 rf0 rf1 rf2 s0
      have HW3 := Lib.hid hw3
      have HS3 := Lib.hid hS3
      have HR3 := Lib.hid hR3
      clear hw3 hS3 hR3
      go_wp2_with fail
      refine (next_no _ sp _ _ _ r (HS3.out.alloc _) (HV.out.only (HW3.out.alloc _)) HY.out h HN.out).mono ?_
      rintro e w4 ⟨rfl, hw4⟩
      have hO4 : Only [] wr w4 := (HW3.out.alloc _).then hw4
      have hR4 := HR.out.keep hO4 (by simp)
      have hlr4 := hR4.lt
      (have q0 : (w4).cell? ⟨w.heap.size, 0, none⟩ = some (.int .i64 0) := ((hR4).cell 0).trans rfl; have q1 : (w4).cell? ⟨w.heap.size, 1, none⟩ = some (.int .i64 0) := ((hR4).cell 1).trans rfl; have q2 : (w4).cell? ⟨w.heap.size, 2, none⟩ = some (.slice none 0 0) := ((hR4).cell 2).trans rfl)
      (have qf0 := (hR4).free 0; have qf1 := (hR4).free 1; have qf2 := (hR4).free 2)
      have HW4 := Lib.hid hO4
      have HR4 := Lib.hid hR4
      clear hw4 hO4 hR4
      go_wp2_with fail
      have B1 := HW4.out
      have B2 := HR4.out
      refine world_abs (fun w' => Only [w.heap.size] w4 w' ∧ Blk w' w.heap.size #[.int .i64 0, .int .i64 0, .slice none 0 0] 38) ⟨?_, ?_⟩ ?_
      · exact ((((Only.refl _ _).setCell (.inl (by simp)) _ _).setCell (.inl (by simp)) _ _).setCell (.inl (by simp)) _ _).alloc _
      · (apply blk_cast; (case h => (repeat (first | with_reducible assumption | (with_reducible apply blk_newAt; (first | omega | (simp; done) | (simp; omega))) | with_reducible apply Blk.set | with_reducible apply Blk.drewN | with_reducible apply Blk.drew | with_reducible apply Blk.alloc | (with_reducible apply Blk.setOther; (case hc => first | omega | (simp; omega)))))); (case e => (first | (simp; done) | rfl)))
      rintro w9 ⟨hO9, hR9⟩
      refine bodyPost_ret (v := .tuple #[u7, .agg #[.int .i64 0, .int .i64 0, .slice none 0 0], .bool true]) ?_ rfl ?_
      · simp [results, Try.results14, loadVar_blk hR9 (.struct _) 38 Try.underlying38 rfl rfl, asAddr, Sem.run_bind]
      · have hms := HMS.out
        have hws := HO.out.size
        refine ⟨u7, es, _, _, rfl, by simpa using hms, ((HM.out.keep B1 (by simp)).keep hO9 (by simp)).lower (by omega), ((HO.out : Only [sp] w wr).trans B1 (by simp)).trans hO9 (fun x hx => .inr (by simp at hx; omega)), rfl, (HS.out.keep B1 (by simp)).keep hO9 (by simp; omega), (HV.out.only B1).keep hO9 (fun g hg hm => by have := (HNE.out g hg).1; simp at hm; omega), fun h => by have := (HNE.out sp h).1; omega⟩
    case msg n ms2 h hn hl hf hr =>
      have HP19 := Lib.hid (HV.out.pre (k := 19) (by omega))
      have HY19 : Hid (Byte (l.take 19)) := fun n hn => HY.out n (List.take_subset _ _ hn)
      have HF := Lib.hid hf
      have HN := Lib.hid hn
      have HPR := Lib.hid hr
      clear hf hn hr
      go_wp2_with fail
      refine (check_any wr wr (Only.refl _ _) _ (l.take 19) HP19.out HY19.out (by simp; omega)).mono ?_
      rintro e w3 hcw
      unfold CheckAs at hcw
      rw [HF.out] at hcw
      obtain ⟨rfl, hw3⟩ := hcw
      have hS3 := HS.out.keep hw3 (by simp)
      have hls3 := hS3.lt
      clear r0 r1 r2 rf0 rf1 rf2 s0
      have HW3 := Lib.hid hw3
      have HS3 := Lib.hid hS3
      clear hw3 hS3
      go_wp2_with fail
      refine (next_yes _ sp _ _ _ l n (HS3.out.alloc _) (HV.out.only (HW3.out.alloc _)) HY.out h (fun hh => by have := (HNE.out sp hh).1; omega) HN.out hl).mono ?_
      rintro e w4 ⟨mv, vb4, rfl, hmv, hS4, hV4, hvb4, hO4⟩
      have hO34 : Only [] wr (w3.alloc (.cells #[.int .i64 0, .int .i64 0, .slice none 0 0] 38)) := HW3.out.alloc _
      have hO4' : Only [sp] wr w4 := (hO34.ofNil (bs := [sp])).then hO4
      obtain ⟨ma, mc, hmvs, _, _⟩ := hmv.vw.shape
      have hmlen : ((l.take n).drop 19).length = n - 19 := by simp; omega
      rw [hmlen] at hmvs
      subst hmvs
      have HM4 := Lib.hid (HM.out.keep hO4' (by simp; omega))
      have HMV := Lib.hid hmv
      have HS4 := Lib.hid hS4
      have HV4 := Lib.hid hV4
      have HVB4 := Lib.hid hvb4
      have HW4 := Lib.hid hO4'
      have HSZ := Lib.hid hO34.size
      have HEL : Hid (es.length + 1 ≤ 1000000) := by
        have h1 := HMS.out
        have h2 := congrArg List.length h1
        have h3 := HPL.out
        simp at h2
        unfold Hid
        omega
      clear hmv hS4 hV4 hvb4 hO4 hO34 hO4' hmlen
      go_wp2_with (at_builtin; (refine wpList_app msgsEl rfl _ _ (by rfl) (by rfl) (by rfl) (HM4.out.keep (bs := []) (((Only.refl _ _).alloc _).alloc _) (by simp)).own (vw_one _ ⟨at_ l 18, .slice ma (n - 19) mc, (l.take n).drop 19⟩ 53 _ rfl _ (by simp)) (by simp [Ms.cells]; exact ⟨rfl, rfl⟩) (by have := HEL.out; omega) (by have := HW4.out.size; have := HO.out.size; have := HR.out.lt; simp; omega) ?_); intro v5 w5 hb5)
      have hwr := HR.out.lt
      have hsz := HSZ.out
      simp at hsz
      have hsz4 : (w3.alloc (.cells #[.int .i64 0, .int .i64 0, .slice none 0 0] 38)).heap.size = w3.heap.size + 1 := by simp
      have hown7 := own_ge HM.out.own
      have hlt7 := own_lt HM.out.own
      have hws := HO.out.size
      have hO4 := HW4.out
      have hO45 : Only u7.ownBlock.toList w4 w5 := (((Only.refl [] w4).alloc _).alloc _).ofNil.then hb5.only
      have hR4 := HR.out.keep hO4 (by simp; omega)
      have hM5 := OwnM.push HM4.out (((Only.refl [] w4).alloc _).alloc _) hb5 (m := ⟨at_ l 18, .slice ma (n - 19) mc, (l.take n).drop 19⟩) (HMV.out.vw.only (((Only.refl [] w4).alloc _).alloc _)) (fun g hg => by
        have h1 := HMV.out.ge g hg
        have h2 := HMV.out.lt g hg
        refine ⟨by omega, by simp; omega, fun h3 => ?_⟩
        have := hlt7 g h3
        omega)
      have hn7 : ∀ x, x < w.heap.size + 1 → x ∉ u7.ownBlock.toList := fun x hx hm => by
        have := hown7 x (by simpa using hm)
        omega
      have hS5 := HS4.out.keep hO45 (hn7 sp (by omega))
      have hvb := HNE.out
      rw [← HVB4.out] at hvb
      have hV5 := HV4.out.keep hO45 (fun g hg hm => (hvb g hg).2.2 (by simpa using hm))
      have hlen5 := heldLen_eq hS5 hV5
      have hlenr := heldLen_eq HS.out HV.out
      refine ⟨⟨_, l.drop n, vb4, ms2, hM5, hS5, hV5, fun x hx => HY.out x (List.drop_subset _ _ hx), fun g hg => ⟨(hvb g hg).1, ?_, ?_⟩, HPR.out, ?_, ?_, ?_⟩, ?_⟩
      · have := (hvb g hg).2.1
        have := hO4.size
        have := hO45.size
        omega
      · have h1 := hvb g hg
        rcases hb5.lies with h2 | h2
        · rw [h2]; exact h1.2.2
        · intro h3
          have h4 := h2 g h3
          have h5 := hO4.size
          simp at h4
          omega
      · have := HMS.out
        simp [Ms.pair] at this ⊢
        exact this
      · exact ((HO.out : Only [sp] w wr).then hO4).trans hO45 (fun x hx => .inr (by have := hown7 x (by simpa using hx); omega))
      · exact hR4.keep hO45 (hn7 _ (by omega))
      · rw [hlen5, hlenr]
        simp
        omega
end Go.Proofs.Ytcpoaghogpkagaa
