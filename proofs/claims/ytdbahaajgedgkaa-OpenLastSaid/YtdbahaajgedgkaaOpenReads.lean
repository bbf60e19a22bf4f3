/-
  Package open: Read, of bytes that are right.
-/
import Derived.Test.YtdbahaajgedgkaaOpenCaps
import Derived.Deep.RegionHeld3
import Derived.Handy
namespace Go.Proofs.Ytdbahaajgedgkaa
open Go.RowKit Go.Pm


def bodyB (sy hold id : Int) (p : List Int) : List Int := 4 :: (be16 sy ++ (be16 hold ++ (be32 id ++ ((p.length : Int) :: p))))
def start (sy hold id : Int) : Opn := { sys := sy, hold := hold, id := id, multi := false, four := false, refresh := false, graceful := false, time := 0, restarts := false, keeps := false }

def ReadAs (W : World) (o : Opn) (e : Ending) (w' : World) : Prop := e = .returned (.tuple #[.agg o.cells, .agg #[.int .i64 0, .int .i64 0, .slice none 0 0], .bool true]) ∧ Only [] W w'

set_option maxRecDepth 20000 in
set_option maxHeartbeats 1000000 in
theorem read_yes (w : World) (v : Value) (sy hold id : Int) (p : List Int) (o' : Opn) (hb : Byte (bodyB sy hold id p)) (hv : VwB w v (bodyB sy hold id p)) (ha0 : 0 ≤ sy) (ha1 : sy ≤ 65535) (hh0 : 0 ≤ hold) (hh1 : hold ≤ 65535) (hh2 : hold ≠ 1) (hh3 : hold ≠ 2)
    (hi0 : 0 < id) (hi1 : id ≤ 4294967295) (hp : ParsAre (start sy hold id) p o') (hs : o'.sys ≠ 0) :
    Calls Try.prog 10 #[v] w (ReadAs w o') := by
  have hlen : (bodyB sy hold id p).length = p.length + 10 := by simp [bodyB, be16, be32]
  obtain ⟨b, off, cap, rfl, hc1, hc2, hlt, hc⟩ := hv.open (by intro h; rw [h] at hlen; simp at hlen)
  have c0 := hc 0 (by omega)
  have c9 := hc 9 (by omega)
  rw [Nat.add_zero] at c0
  have e0 : (bodyB sy hold id p)[0]'(by omega) = 4 := rfl
  have e9 : (bodyB sy hold id p)[9]'(by omega) = p.length := rfl
  rw [e0] at c0
  rw [e9] at c9
  have h1 := hv.part (i := 1) (k := p.length + 9) (c := cap - 1) rfl (by omega) (by omega) (by omega)
  have h3 := hv.part (i := 3) (k := p.length + 7) (c := cap - 3) rfl (by omega) (by omega) (by omega)
  have h5 := hv.part (i := 5) (k := p.length + 5) (c := cap - 5) rfl (by omega) (by omega) (by omega)
  have hp9 := hb.at 9 (by omega)
  rw [e9] at hp9
  have hbp : Byte p := fun n hn => hb n (by simp [bodyB, hn])
  have hcut := hv.cut (i := 10) (k := p.length) (k' := (bodyB sy hold id p).length - 10) (c := cap - 10) (m := p) (by simp [bodyB, be16, be32]) (by omega) (by omega) rfl
  have H1 := Lib.hid h1
  have H3 := Lib.hid h3
  have H5 := Lib.hid h5
  have HC := Lib.hid hcut
  have HBY := Lib.hid hb
  have HBP := Lib.hid hbp
  have HP := Lib.hid hp
  have HS := Lib.hid hs
  have hp1 := hp9.2
  clear e0 e9 h1 h3 h5 hcut hb hbp hp hs hv hc hp9
  rw [hlen] at *
  generalize p.length = N at *
  go_enter Try.func10, Try.ntmps10
  go_wp2_with fail
  have g1 : g16 (((bodyB sy hold id p).drop 1).take (N + 9)) = sy := by
    show sy / 256 % 256 * 256 + sy % 256 = sy
    omega
  have g3 : g16 (((bodyB sy hold id p).drop 3).take (N + 7)) = hold := by
    show hold / 256 % 256 * 256 + hold % 256 = hold
    omega
  have g5 : g32 (((bodyB sy hold id p).drop 5).take (N + 5)) = id := by
    show (id / 65536 / 256 % 256 * 256 + id / 65536 % 256) * 65536 + (id / 256 % 256 * 256 + id % 256) = id
    omega
  have G1 := Lib.hid g1
  have G3 := Lib.hid g3
  have G5 := Lib.hid g5
  clear g1 g3 g5
  have hA : Only [] w ((w.alloc (.cells #[.int .u32 0, .int .i64 0, .int .u32 0, .bool false, .bool false, .bool false, .bool false, .int .i64 0, .bool false, .bool false] 25)).alloc (.cells #[.int .i64 0, .int .i64 0, .slice none 0 0] 34)) := ((Only.refl _ _).alloc _).alloc _
  have hz : ((w.alloc (.cells #[.int .u32 0, .int .i64 0, .int .u32 0, .bool false, .bool false, .bool false, .bool false, .int .i64 0, .bool false, .bool false] 25)).alloc (.cells #[.int .i64 0, .int .i64 0, .slice none 0 0] 34)).heap.size = w.heap.size + 2 := by simp
  have hR := (Blk.new w #[.int .u32 0, .int .i64 0, .int .u32 0, .bool false, .bool false, .bool false, .bool false, .int .i64 0, .bool false, .bool false] 25).alloc (.cells #[.int .i64 0, .int .i64 0, .slice none 0 0] 34)
  have hF := Blk.new (w.alloc (.cells #[.int .u32 0, .int .i64 0, .int .u32 0, .bool false, .bool false, .bool false, .bool false, .int .i64 0, .bool false, .bool false] 25)) #[.int .i64 0, .int .i64 0, .slice none 0 0] 34
  rw [show (w.alloc (.cells #[.int .u32 0, .int .i64 0, .int .u32 0, .bool false, .bool false, .bool false, .bool false, .int .i64 0, .bool false, .bool false] 25)).heap.size = w.heap.size + 1 by simp] at hF
  generalize (w.alloc (.cells #[.int .u32 0, .int .i64 0, .int .u32 0, .bool false, .bool false, .bool false, .bool false, .int .i64 0, .bool false, .bool false] 25)).alloc (.cells #[.int .i64 0, .int .i64 0, .slice none 0 0] 34) = w2 at hA hz hR hF ⊢
  have K1 := Lib.hid (H1.out.only hA)
  have K3 := Lib.hid (H3.out.only hA)
  have K5 := Lib.hid (H5.out.only hA)
  have KC := Lib.hid (HC.out.only hA)
  have L1 := Lib.hid H1.out.size.1
  have L3 := Lib.hid H3.out.size.1
  have L5 := Lib.hid H5.out.size.1
  rw [← hA.cell hlt (by simp)] at c0 c9
  have HA := Lib.hid hA
  have HR := Lib.hid hR
  have HFL := Lib.hid hF
  clear hA hR hF H1 H3 H5 HC
  have HWR : Hid (IntKind.u32.wrap sy = sy) := wraps_u32 sy ha0 (by omega)
  have hd1 : (hold == 1) = false := by simpa using hh2
  have hd2 : (hold == 2) = false := by simpa using hh3
  have hd0 : (id == 0) = false := by simp; omega
  have hn1 : cap ≠ 1 := by omega
  have hn3 : cap ≠ 3 := by omega
  have hn5 : cap ≠ 5 := by omega
  have hq1 : (1 : Int) ≤ (N : Int) + 10 := by omega
  have hq3 : (3 : Int) ≤ (N : Int) + 10 := by omega
  have hq5 : (5 : Int) ≤ (N : Int) + 10 := by omega
  go_upto_region 5 with fail
  go_cut [5] (fun s5 wx => ∃ g : Nat, s5 = .pointer (some ⟨g, 0, none⟩) ∧ w2.heap.size ≤ g ∧ Blk wx g (start sy hold id).cells 25 ∧ Only [] w2 wx)
  case first =>
    go_region_held3 (fun W => True) (trivial)
      (first
        | (go_at_call 21; with_reducible refine (get32_any _ _ _ (K5.out.only (by repeat (first | exact Only.refl _ _ | refine Only.drew ?_ | refine Only.drewN ?_ _ | refine Only.alloc ?_ _))) (Byte.part HBY.out 5 _) (by rw [L5.out]; omega)).mono ?_; rintro e w5 ⟨rfl, n5, rfl⟩; rw [G5.out])
        | (go_at_call 20; with_reducible refine (get16_any _ _ _ (K3.out.only (by repeat (first | exact Only.refl _ _ | refine Only.drew ?_ | refine Only.drewN ?_ _ | refine Only.alloc ?_ _))) (Byte.part HBY.out 3 _) (by rw [L3.out]; omega)).mono ?_; rintro e w4 ⟨rfl, n4, rfl⟩; rw [G3.out])
        | (go_at_call 20; with_reducible refine (get16_any _ _ _ (K1.out.only (by repeat (first | exact Only.refl _ _ | refine Only.drew ?_ | refine Only.drewN ?_ _ | refine Only.alloc ?_ _))) (Byte.part HBY.out 1 _) (by rw [L1.out]; omega)).mono ?_; rintro e w3 ⟨rfl, n3, rfl⟩; rw [G1.out])
        )
    all_goals
      go_wp2_with fail
      go_meet
      refine ⟨w.heap.size + 2, rfl, by omega, ?_, ?_⟩
      · rw [HWR.out]
        unfold start Opn.cells
        have hzz : w.heap.size + 2 = w2.heap.size := hz.symm
        rw [hzz]
        (apply blk_cast; (case h => (repeat (first | with_reducible assumption | (with_reducible apply blk_newAt; (first | omega | (simp; done) | (simp; omega))) | with_reducible apply Blk.set | with_reducible apply Blk.drewN | with_reducible apply Blk.drew | with_reducible apply Blk.alloc | (with_reducible apply Blk.setOther; (case hc => first | omega | (simp; omega)))))); (case e => (first | (simp; done) | rfl)))
      · (repeat (first | with_reducible exact Only.refl _ _ | with_reducible assumption | with_reducible apply Only.drew | with_reducible apply Only.drewN | with_reducible apply Only.alloc | (refine Only.setCell ?_ (by first | (left; simp; done) | (right; omega)) _ _)))
  case rest =>
    obtain ⟨g, rfl, hg, hb5, ho5⟩ := hcut
    have s1 : wc.cell? ⟨g, 1, none⟩ = some (.int .i64 hold) := by rw [hb5.cell]; rfl
    have s2 : wc.cell? ⟨g, 2, none⟩ = some (.int .u32 id) := by rw [hb5.cell]; rfl
    have hlt2 : b < w2.heap.size := by omega
    have d9 : wc.cell? ⟨b, off + 9, none⟩ = some (.int .u8 N) := (ho5.cell hlt2 (by simp) _).trans c9
    have KC5 := Lib.hid (KC.out.only ho5)
    have HO5 := Lib.hid ho5
    have HB5 := Lib.hid hb5
    have HF5 := Lib.hid (HFL.out.keep ho5 (by simp))
    have HR5 := Lib.hid (HR.out.keep ho5 (by simp))
    have hlt5 : b < wc.heap.size := by have := ho5.size; omega
    have HOB := Lib.hid (ownBlock_if (c := cap = 10) b off (off + 10) (N + 10 - 10) (cap - 10))
    have hgl := hb5.lt
    clear ho5 hb5 c9 c0
    go_wp2_with fail
    all_goals
      refine (parameters_yes _ g _ o' HB5.out _ p HP.out HBP.out (by simpa [*] using KC5.out) (by intro hh; simp [Value.ownBlock] at hh; omega) HS.out).mono ?_
      rintro e w6 ⟨rfl, hb6, ho6⟩
      have hgn : g ≠ w.heap.size := by omega
      have hgm : g ≠ w.heap.size + 1 := by omega
      have hR6 := HR5.out.keep ho6 (by simpa using hgn.symm)
      have hF6 := HF5.out.keep ho6 (by simpa using hgm.symm)
      (have t0 : (w6).cell? ⟨g, 0, none⟩ = some (.int .u32 o'.sys) := ((hb6).cell 0).trans rfl; have t1 : (w6).cell? ⟨g, 1, none⟩ = some (.int .i64 o'.hold) := ((hb6).cell 1).trans rfl; have t2 : (w6).cell? ⟨g, 2, none⟩ = some (.int .u32 o'.id) := ((hb6).cell 2).trans rfl; have t3 : (w6).cell? ⟨g, 3, none⟩ = some (.bool o'.multi) := ((hb6).cell 3).trans rfl; have t4 : (w6).cell? ⟨g, 4, none⟩ = some (.bool o'.four) := ((hb6).cell 4).trans rfl; have t5 : (w6).cell? ⟨g, 5, none⟩ = some (.bool o'.refresh) := ((hb6).cell 5).trans rfl; have t6 : (w6).cell? ⟨g, 6, none⟩ = some (.bool o'.graceful) := ((hb6).cell 6).trans rfl; have t7 : (w6).cell? ⟨g, 7, none⟩ = some (.int .i64 o'.time) := ((hb6).cell 7).trans rfl; have t8 : (w6).cell? ⟨g, 8, none⟩ = some (.bool o'.restarts) := ((hb6).cell 8).trans rfl; have t9 : (w6).cell? ⟨g, 9, none⟩ = some (.bool o'.keeps) := ((hb6).cell 9).trans rfl)
      (have r0 : (w6).cell? ⟨w.heap.size, 0, none⟩ = some (.int .u32 0) := ((hR6).cell 0).trans rfl; have r1 : (w6).cell? ⟨w.heap.size, 1, none⟩ = some (.int .i64 0) := ((hR6).cell 1).trans rfl; have r2 : (w6).cell? ⟨w.heap.size, 2, none⟩ = some (.int .u32 0) := ((hR6).cell 2).trans rfl; have r3 : (w6).cell? ⟨w.heap.size, 3, none⟩ = some (.bool false) := ((hR6).cell 3).trans rfl; have r4 : (w6).cell? ⟨w.heap.size, 4, none⟩ = some (.bool false) := ((hR6).cell 4).trans rfl; have r5 : (w6).cell? ⟨w.heap.size, 5, none⟩ = some (.bool false) := ((hR6).cell 5).trans rfl; have r6 : (w6).cell? ⟨w.heap.size, 6, none⟩ = some (.bool false) := ((hR6).cell 6).trans rfl; have r7 : (w6).cell? ⟨w.heap.size, 7, none⟩ = some (.int .i64 0) := ((hR6).cell 7).trans rfl; have r8 : (w6).cell? ⟨w.heap.size, 8, none⟩ = some (.bool false) := ((hR6).cell 8).trans rfl; have r9 : (w6).cell? ⟨w.heap.size, 9, none⟩ = some (.bool false) := ((hR6).cell 9).trans rfl)
      (have rf0 := (hR6).free 0; have rf1 := (hR6).free 1; have rf2 := (hR6).free 2; have rf3 := (hR6).free 3; have rf4 := (hR6).free 4; have rf5 := (hR6).free 5; have rf6 := (hR6).free 6; have rf7 := (hR6).free 7; have rf8 := (hR6).free 8; have rf9 := (hR6).free 9)
      (have q0 : (w6).cell? ⟨w.heap.size + 1, 0, none⟩ = some (.int .i64 0) := ((hF6).cell 0).trans rfl; have q1 : (w6).cell? ⟨w.heap.size + 1, 1, none⟩ = some (.int .i64 0) := ((hF6).cell 1).trans rfl; have q2 : (w6).cell? ⟨w.heap.size + 1, 2, none⟩ = some (.slice none 0 0) := ((hF6).cell 2).trans rfl)
      (have qf0 := (hF6).free 0; have qf1 := (hF6).free 1; have qf2 := (hF6).free 2)
      have HO6 := Lib.hid ho6
      have HZ6 := Lib.hid hR6; have HZF := Lib.hid hF6
      clear s1 s2 d9 hb6 ho6 hR6 hF6
      go_wp2_with fail
      have hW6 : Only [] w w6 := (HA.out.then HO5.out).trans HO6.out (fun x hx => .inr (by simp at hx; omega))
      have B1 := HZ6.out
      have B2 := HZF.out
      refine world_abs (fun w' => Only [] w w' ∧ Blk w' w.heap.size o'.cells 25 ∧ Blk w' (w.heap.size + 1) #[.int .i64 0, .int .i64 0, .slice none 0 0] 34) ⟨?_, ?_, ?_⟩ ?_
      · (repeat (first | with_reducible exact Only.refl _ _ | with_reducible assumption | with_reducible apply Only.drew | with_reducible apply Only.drewN | with_reducible apply Only.alloc | (refine Only.setCell ?_ (by first | (left; simp; done) | (right; omega)) _ _)))
      · unfold Opn.cells
        (apply blk_cast; (case h => (repeat (first | with_reducible assumption | (with_reducible apply blk_newAt; (first | omega | (simp; done) | (simp; omega))) | with_reducible apply Blk.set | with_reducible apply Blk.drewN | with_reducible apply Blk.drew | with_reducible apply Blk.alloc | (with_reducible apply Blk.setOther; (case hc => first | omega | (simp; omega)))))); (case e => (first | (simp; done) | rfl)))
      · (apply blk_cast; (case h => (repeat (first | with_reducible assumption | (with_reducible apply blk_newAt; (first | omega | (simp; done) | (simp; omega))) | with_reducible apply Blk.set | with_reducible apply Blk.drewN | with_reducible apply Blk.drew | with_reducible apply Blk.alloc | (with_reducible apply Blk.setOther; (case hc => first | omega | (simp; omega)))))); (case e => (first | (simp; done) | rfl)))
      · rintro w7 ⟨hO, hX, hY⟩
        refine bodyPost_ret (v := .tuple #[.agg o'.cells, .agg #[.int .i64 0, .int .i64 0, .slice none 0 0], .bool true]) ?_ rfl ⟨rfl, hO⟩
        simp [results, Try.results10, loadVar_blk hX (.struct _) 25 Try.underlying25 rfl rfl, loadVar_blk hY (.struct _) 34 Try.underlying34 rfl rfl, asAddr, Sem.run_bind]
end Go.Proofs.Ytdbahaajgedgkaa
