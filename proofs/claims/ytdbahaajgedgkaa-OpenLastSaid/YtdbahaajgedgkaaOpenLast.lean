/-
  OpenLast: for every two OPENs, every code and all bytes the law returns true and leaves its arguments alone (no condition).
-/
import Derived.Test.YtdbahaajgedgkaaOpenBack
import Derived.BigRegion
namespace Go.Proofs.Ytdbahaajgedgkaa
open Go.RowKit Go.Pm


def amongI (x n : Int) : Int := (x % 18446744073709551616) % n

theorem amongI_bd (x n : Int) (h : 1 ≤ n) : 0 ≤ amongI x n ∧ amongI x n < n := by
  unfold amongI
  exact ⟨Int.emod_nonneg _ (by omega), Int.emod_lt_of_pos _ (by omega)⟩

theorem among_eq (x n : Int) (hn : 1 ≤ n) (hn' : n ≤ 9223372036854775807) : wrap64 ((IntKind.u64.wrap x).tmod n) = amongI x n := by
  have h1 : IntKind.u64.wrap x = x % 18446744073709551616 := rfl
  have h0 : 0 ≤ x % 18446744073709551616 := Int.emod_nonneg _ (by omega)
  have h2 := amongI_bd x n hn
  unfold amongI at *
  rw [h1, Int.tmod_eq_emod_of_nonneg h0, IntWalk.wrap64_in _ ⟨by omega, by omega⟩]

theorem among_any (x n : Int) (w : World) (hn : 1 ≤ n) (hn' : n ≤ 9223372036854775807) (hx : -9223372036854775808 ≤ x) (hx' : x ≤ 9223372036854775807) :
    Calls Try.prog 11 #[.int .i64 x, .int .i64 n] w fun e w' => e = .returned (.int .i64 (amongI x n)) ∧ w = w' := by
  have H := Lib.hid (among_eq x n hn hn')
  have hlt : ¬ n < 1 := by omega
  go_enter Try.func11, Try.ntmps11
  go_wp2
  go_ret
  exact ⟨by rw [← H.out]; rfl, rfl⟩

/-- Four and Graceful are set. -/
def Opn.full (o : Opn) : Opn := { o with four := true, graceful := true }
def Opn.want (o p : Opn) : Opn := { o with sys := p.sys, time := p.time, restarts := p.restarts, keeps := p.keeps, multi := o.multi || p.multi, refresh := o.refresh || p.refresh }

theorem full_want (o p : Opn) : p.full.onto o.full = (o.full).want p.full := by
  obtain ⟨sys, hold, id, multi, four, refresh, graceful, time, restarts, keeps⟩ := o
  obtain ⟨sys', hold', id', multi', four', refresh', graceful', time', restarts', keeps'⟩ := p
  cases multi' <;> cases refresh' <;> simp [Opn.onto, Opn.ontoM, Opn.ontoR, Opn.ontoG, Opn.ontoF, Opn.withG, Opn.full, Opn.want]

theorem ParsAre.append {a c : Opn} {l m : List Int} (b : Opn) (h : ParsAre a l b) (k : ParsAre b m c) : ParsAre a (l ++ m) c := by
  induction h with
  | nil => exact k
  | cons o o1 o2 x r h _ ih =>
    have := ParsAre.cons o o1 c x (r ++ m) h (ih k)
    simpa using this

def moreB (code : Int) (more : List Int) : List Int := [2, 2 + (more.length : Int), code] ++ [(more.length : Int)] ++ more

theorem more_pars (s : Opn) (code : Int) (more : List Int) (h1 : code ≠ 1) (h2 : code ≠ 2) (h3 : code ≠ 64) (h4 : code ≠ 65) (h5 : 0 ≤ code) (h6 : code < 256) : ParsAre s (moreB code more) s := by
  have := ParsAre.cons s s s (code :: (more.length : Int) :: more) [] (caps_one s s code more (.other s code more h1 h2 h3 h4) h5 h6 _ rfl) (.nil _)
  have e : moreB code more = 2 :: (((code :: (more.length : Int) :: more).length : Nat) : Int) :: ((code :: (more.length : Int) :: more) ++ []) := by
    simp [moreB]
    omega
  rw [e]
  exact this

theorem parB_len (o : Opn) : (parB o).length ≤ 24 := by
  have := caps_len o
  unfold parB
  split <;> simp <;> omega
theorem byte_parB (o : Opn) : Byte (parB o) := by
  have := byte_openB o
  rw [openB_body] at this
  intro n hn
  exact this n (by simp [bodyB, hn])

def allB (o p : Opn) (code : Int) (more : List Int) : List Int := parB o ++ parB p ++ moreB code more
def lastB (o p : Opn) (code : Int) (more : List Int) : List Int := headB o ++ [((allB o p code more).length : Int)] ++ allB o p code more
theorem allB_len (o p : Opn) (code : Int) (more : List Int) : (allB o p code more).length = (parB o).length + (parB p).length + 4 + more.length := by
  simp [allB, moreB]; omega

theorem read_last (w : World) (v : Value) (o p : Opn) (code : Int) (more : List Int) (ho : o.full.Fits) (hor : o.full.Right) (hp : p.full.Fits) (hpr : p.full.Right) (h1 : code ≠ 1) (h2 : code ≠ 2) (h3 : code ≠ 64) (h4 : code ≠ 65) (h5 : 0 ≤ code) (h6 : code < 256)
    (hm : Byte more) (hl : more.length ≤ 60) (hv : VwB w v (lastB o.full p.full code more)) : Calls Try.prog 10 #[v] w (ReadAs w (o.full.want p.full)) := by
  have hbo := byte_openB o.full
  have ha := asOf_range o.full ho
  have l1 := parB_len o.full
  have l2 := parB_len p.full
  have e : lastB o.full p.full code more = bodyB (asOf o.full) o.full.hold o.full.id (allB o.full p.full code more) := by
    simp [lastB, bodyB, headB]
  have hall : ParsAre (start (asOf o.full) o.full.hold o.full.id) (allB o.full p.full code more) (o.full.want p.full) := by
    rw [← full_want]
    refine ParsAre.append (p.full.onto o.full) (ParsAre.append o.full ?_ (pars_are _ _ hp hpr)) (more_pars _ code more h1 h2 h3 h4 h5 h6)
    have := pars_are o.full (start (asOf o.full) o.full.hold o.full.id) ho hor
    rw [onto_start _ hor] at this
    exact this
  have hlen := allB_len o.full p.full code more
  have hb : Byte (lastB o.full p.full code more) := by
    have hh : Byte (headB o.full) := by
      rw [openB_body] at hbo
      intro n hn
      refine hbo n ?_
      simp only [bodyB, headB, List.append_assoc, List.cons_append, List.nil_append, List.mem_cons, List.mem_append] at hn ⊢
      rcases hn with h | h | h | h <;> simp [h]
    unfold lastB
    refine (hh.append ?_).append ?_
    · intro n hn
      simp at hn
      subst hn
      omega
    · unfold allB
      refine ((byte_parB _).append (byte_parB _)).append ?_
      intro n hn
      simp only [moreB, List.cons_append, List.nil_append, List.mem_cons] at hn
      rcases hn with rfl | rfl | rfl | rfl | hn
      · omega
      · omega
      · omega
      · omega
      · exact hm n hn
  rw [e] at hv hb
  obtain ⟨⟨q1, q2, q3, q4⟩, ⟨q5, q6, _⟩, _⟩ := hor
  have := ho.id0
  exact read_yes w v (asOf o.full) o.full.hold o.full.id _ _ hb hv ha.1 ha.2 q1 q2 q3 q4 (by omega) ho.id1 hall hpr.2.1.2.1

theorem headB_len (o : Opn) : (headB o).length = 9 := by simp [headB, be16, be32]
theorem openB_len (o : Opn) : (openB o).length = (parB o).length + 10 := by rw [openB_body]; simp [bodyB, be16, be32]
theorem openB_head (o : Opn) : (openB o).take 9 = headB o := by rw [openB_body]; simp [bodyB, headB, be16, be32]
theorem openB_par (o : Opn) : (openB o).drop 10 = parB o := by rw [openB_body]; simp [bodyB, be16, be32]

set_option maxRecDepth 100000 in
set_option maxHeartbeats 2000000 in
theorem last_walk (o p : Opn) (ho : o.Fits) (hp : p.Fits) (x : Int) (hx0 : -9223372036854775808 ≤ x) (hx1 : x ≤ 9223372036854775807) (W w : World) (hW : Only [] W w) (ma : Option Addr) (mn mc : Nat) (m : List Int) (hm : VwB W (.slice ma mn mc) m) (hmb : Byte m) :
    Calls Try.prog 5 #[.agg o.cells, .agg p.cells, .int .i64 x, .slice ma mn mc] w fun e w' => e = .returned (.bool true) ∧ Only [] w w' := by
  have HM := Lib.hid (hm.only hW)
  have HMB := Lib.hid hmb
  have HOF := Lib.hid ho
  have HPF := Lib.hid hp
  clear hm hmb hW ho hp
  go_enter Try.func5, Try.ntmps5
  unfold Opn.cells
  go_wp2_with fail
  refine (works_any _).mono ?_
  rintro e w0 ⟨rfl, hw0⟩
  have hb0 := ((Blk.new w o.cells 25).alloc (.cells p.cells 25)).keep hw0 (by simp)
  have hb1 := (blk_newAt (w.alloc (.cells o.cells 25)) p.cells 25 (n := w.heap.size + 1) (by simp)).keep hw0 (by simp)
  (have b0 : (w0).cell? ⟨w.heap.size, 0, none⟩ = some (.int .u32 o.sys) := ((hb0).cell 0).trans rfl; have b1 : (w0).cell? ⟨w.heap.size, 1, none⟩ = some (.int .i64 o.hold) := ((hb0).cell 1).trans rfl; have b2 : (w0).cell? ⟨w.heap.size, 2, none⟩ = some (.int .u32 o.id) := ((hb0).cell 2).trans rfl; have b3 : (w0).cell? ⟨w.heap.size, 3, none⟩ = some (.bool o.multi) := ((hb0).cell 3).trans rfl; have b4 : (w0).cell? ⟨w.heap.size, 4, none⟩ = some (.bool o.four) := ((hb0).cell 4).trans rfl; have b5 : (w0).cell? ⟨w.heap.size, 5, none⟩ = some (.bool o.refresh) := ((hb0).cell 5).trans rfl; have b6 : (w0).cell? ⟨w.heap.size, 6, none⟩ = some (.bool o.graceful) := ((hb0).cell 6).trans rfl; have b7 : (w0).cell? ⟨w.heap.size, 7, none⟩ = some (.int .i64 o.time) := ((hb0).cell 7).trans rfl; have b8 : (w0).cell? ⟨w.heap.size, 8, none⟩ = some (.bool o.restarts) := ((hb0).cell 8).trans rfl; have b9 : (w0).cell? ⟨w.heap.size, 9, none⟩ = some (.bool o.keeps) := ((hb0).cell 9).trans rfl)
  (have c0 : (w0).cell? ⟨w.heap.size + 1, 0, none⟩ = some (.int .u32 p.sys) := ((hb1).cell 0).trans rfl; have c1 : (w0).cell? ⟨w.heap.size + 1, 1, none⟩ = some (.int .i64 p.hold) := ((hb1).cell 1).trans rfl; have c2 : (w0).cell? ⟨w.heap.size + 1, 2, none⟩ = some (.int .u32 p.id) := ((hb1).cell 2).trans rfl; have c3 : (w0).cell? ⟨w.heap.size + 1, 3, none⟩ = some (.bool p.multi) := ((hb1).cell 3).trans rfl; have c4 : (w0).cell? ⟨w.heap.size + 1, 4, none⟩ = some (.bool p.four) := ((hb1).cell 4).trans rfl; have c5 : (w0).cell? ⟨w.heap.size + 1, 5, none⟩ = some (.bool p.refresh) := ((hb1).cell 5).trans rfl; have c6 : (w0).cell? ⟨w.heap.size + 1, 6, none⟩ = some (.bool p.graceful) := ((hb1).cell 6).trans rfl; have c7 : (w0).cell? ⟨w.heap.size + 1, 7, none⟩ = some (.int .i64 p.time) := ((hb1).cell 7).trans rfl; have c8 : (w0).cell? ⟨w.heap.size + 1, 8, none⟩ = some (.bool p.restarts) := ((hb1).cell 8).trans rfl; have c9 : (w0).cell? ⟨w.heap.size + 1, 9, none⟩ = some (.bool p.keeps) := ((hb1).cell 9).trans rfl)
  (have fb0 := (hb0).free 0; have fb1 := (hb0).free 1; have fb2 := (hb0).free 2; have fb3 := (hb0).free 3; have fb4 := (hb0).free 4; have fb5 := (hb0).free 5; have fb6 := (hb0).free 6; have fb7 := (hb0).free 7; have fb8 := (hb0).free 8; have fb9 := (hb0).free 9)
  (have fc0 := (hb1).free 0; have fc1 := (hb1).free 1; have fc2 := (hb1).free 2; have fc3 := (hb1).free 3; have fc4 := (hb1).free 4; have fc5 := (hb1).free 5; have fc6 := (hb1).free 6; have fc7 := (hb1).free 7; have fc8 := (hb1).free 8; have fc9 := (hb1).free 9)
  have HW0 := Lib.hid (((Only.refl [] w).alloc _).alloc _ |>.then hw0)
  have HB0 := Lib.hid hb0
  have HB1 := Lib.hid hb1
  clear hw0 hb0 hb1
  go_wp2_with fail
  refine calls_abs (fun w' => Only [] w w' ∧ Blk w' w.heap.size o.full.cells 25 ∧ Blk w' (w.heap.size + 1) p.full.cells 25) ⟨?_, ?_, ?_⟩ ?_
  · have h0 := HW0.out
    (repeat (first | with_reducible exact Only.refl _ _ | with_reducible assumption | with_reducible apply Only.drew | with_reducible apply Only.drewN | with_reducible apply Only.alloc | (refine Only.setCell ?_ (by first | (left; simp; done) | (right; omega)) _ _)))
  · have h0 := HB0.out
    unfold Opn.cells at h0 ⊢
    (apply blk_cast; (case h => (repeat (first | with_reducible assumption | (with_reducible apply blk_newAt; (first | omega | (simp; done) | (simp; omega))) | with_reducible apply Blk.set | with_reducible apply Blk.drewN | with_reducible apply Blk.drew | with_reducible apply Blk.alloc | (with_reducible apply Blk.setOther; (case hc => first | omega | (simp; omega)))))); (case e => (first | (simp; done) | rfl)))
  · have h0 := HB1.out
    unfold Opn.cells at h0 ⊢
    (apply blk_cast; (case h => (repeat (first | with_reducible assumption | (with_reducible apply blk_newAt; (first | omega | (simp; done) | (simp; omega))) | with_reducible apply Blk.set | with_reducible apply Blk.drewN | with_reducible apply Blk.drew | with_reducible apply Blk.alloc | (with_reducible apply Blk.setOther; (case hc => first | omega | (simp; omega)))))); (case e => (first | (simp; done) | rfl)))
  rintro w1 ⟨hw1, hb0, hb1⟩
  (have d0 : (w1).cell? ⟨w.heap.size + 1, 0, none⟩ = some (.int .u32 p.sys) := ((hb1).cell 0).trans rfl; have d1 : (w1).cell? ⟨w.heap.size + 1, 1, none⟩ = some (.int .i64 p.hold) := ((hb1).cell 1).trans rfl; have d2 : (w1).cell? ⟨w.heap.size + 1, 2, none⟩ = some (.int .u32 p.id) := ((hb1).cell 2).trans rfl; have d3 : (w1).cell? ⟨w.heap.size + 1, 3, none⟩ = some (.bool p.multi) := ((hb1).cell 3).trans rfl; have d4 : (w1).cell? ⟨w.heap.size + 1, 4, none⟩ = some (.bool true) := ((hb1).cell 4).trans rfl; have d5 : (w1).cell? ⟨w.heap.size + 1, 5, none⟩ = some (.bool p.refresh) := ((hb1).cell 5).trans rfl; have d6 : (w1).cell? ⟨w.heap.size + 1, 6, none⟩ = some (.bool true) := ((hb1).cell 6).trans rfl; have d7 : (w1).cell? ⟨w.heap.size + 1, 7, none⟩ = some (.int .i64 p.time) := ((hb1).cell 7).trans rfl; have d8 : (w1).cell? ⟨w.heap.size + 1, 8, none⟩ = some (.bool p.restarts) := ((hb1).cell 8).trans rfl; have d9 : (w1).cell? ⟨w.heap.size + 1, 9, none⟩ = some (.bool p.keeps) := ((hb1).cell 9).trans rfl)
  have HW1 := Lib.hid hw1
  have HC0 := Lib.hid hb0
  have HC1 := Lib.hid hb1
  clear hw1 hb0 hb1 HW0 HB0 HB1 b0 b1 b2 b3 b4 b5 b6 b7 b8 b9 c0 c1 c2 c3 c4 c5 c6 c7 c8 c9 fb0 fb1 fb2 fb3 fb4 fb5 fb6 fb7 fb8 fb9 fc0 fc1 fc2 fc3 fc4 fc5 fc6 fc7 fc8 fc9
  have hof : o.full.Fits := ⟨HOF.out.1, HOF.out.2, HOF.out.3, HOF.out.4⟩
  have hpf : p.full.Fits := ⟨HPF.out.1, HPF.out.2, HPF.out.3, HPF.out.4⟩
  have HOG := Lib.hid hof
  have HPG := Lib.hid hpf
  clear hof hpf
  by_cases hr : o.full.Right
  · have HR := Lib.hid hr; clear hr
    refine (build_yes _ o.full HOG.out HR.out).mono ?_
    rintro e w2 ⟨v1, rfl, ho1, hw2⟩
    have hb1 := HC1.out.keep hw2 (by simp)
    clear d0 d1 d2 d3 d4 d5 d6 d7 d8 d9
    (have d0 : (w2).cell? ⟨w.heap.size + 1, 0, none⟩ = some (.int .u32 p.sys) := ((hb1).cell 0).trans rfl; have d1 : (w2).cell? ⟨w.heap.size + 1, 1, none⟩ = some (.int .i64 p.hold) := ((hb1).cell 1).trans rfl; have d2 : (w2).cell? ⟨w.heap.size + 1, 2, none⟩ = some (.int .u32 p.id) := ((hb1).cell 2).trans rfl; have d3 : (w2).cell? ⟨w.heap.size + 1, 3, none⟩ = some (.bool p.multi) := ((hb1).cell 3).trans rfl; have d4 : (w2).cell? ⟨w.heap.size + 1, 4, none⟩ = some (.bool true) := ((hb1).cell 4).trans rfl; have d5 : (w2).cell? ⟨w.heap.size + 1, 5, none⟩ = some (.bool p.refresh) := ((hb1).cell 5).trans rfl; have d6 : (w2).cell? ⟨w.heap.size + 1, 6, none⟩ = some (.bool true) := ((hb1).cell 6).trans rfl; have d7 : (w2).cell? ⟨w.heap.size + 1, 7, none⟩ = some (.int .i64 p.time) := ((hb1).cell 7).trans rfl; have d8 : (w2).cell? ⟨w.heap.size + 1, 8, none⟩ = some (.bool p.restarts) := ((hb1).cell 8).trans rfl; have d9 : (w2).cell? ⟨w.heap.size + 1, 9, none⟩ = some (.bool p.keeps) := ((hb1).cell 9).trans rfl)
    have HO1 := Lib.hid ho1; have HW2 := Lib.hid hw2
    have HE1 := Lib.hid hb1
    clear ho1 hw2 hb1
    go_wp2_with fail
    by_cases hr : p.full.Right
    · have HRP := Lib.hid hr; clear hr
      refine (build_yes _ p.full HPG.out HRP.out).mono ?_
      rintro e w3 ⟨v2, rfl, ho2, hw3⟩
      clear d0 d1 d2 d3 d4 d5 d6 d7 d8 d9
      have hl1 := openB_len o.full
      have hl2 := openB_len p.full
      have hp1 := parB_len o.full
      have hp2 := parB_len p.full
      obtain ⟨g1, f1, cp1, rfl, hcp1, hcm1, hlt1, -⟩ := (HO1.out.vw).open (by intro h; rw [h] at hl1; simp at hl1)
      obtain ⟨g2, f2, cp2, rfl, hcp2, hcm2, hlt2, -⟩ := (ho2.vw).open (by intro h; rw [h] at hl2; simp at hl2)
      have hv1 := HO1.out.vw.only hw3
      have hv2 := ho2.vw
      have hu1 := HC0.out.keep HW2.out (by simp) |>.keep hw3 (by simp)
      have hu2 := HE1.out.keep hw3 (by simp)
      have HW3 := Lib.hid ((HW1.out.then HW2.out).then hw3)
      have HV1 := Lib.hid hv1; have HV2 := Lib.hid hv2; have HU1 := Lib.hid hu1; have HU2 := Lib.hid hu2
      clear hv1 hv2 hu1 hu2 hw3 ho2 HW1 HO1 HW2 HE1 HC0 HC1
      have HL1 := Lib.hid hl1
      have HL2 := Lib.hid hl2
      have hn1 : 10 ≤ (openB o.full).length := by omega
      have hn2 : 10 ≤ (openB p.full).length := by omega
      have hn3 : (openB o.full).length ≤ 40 := by omega
      have hn4 : (openB p.full).length ≤ 40 := by omega
      clear hl1 hl2
      generalize hN1 : (openB o.full).length = N1 at *
      generalize hN2 : (openB p.full).length = N2 at *
      have HN1 := Lib.hid hN1
      have HN2 := Lib.hid hN2
      clear hN1 hN2
      obtain ⟨hms, hmn, hmc⟩ := HM.out.size
      unfold maxLen at hmc hcm1 hcm2
      go_upto_region 10 with fail
      go_cut [3] (fun s3 wx => wx = w3 ∧ ∃ k : Nat, k ≤ 60 ∧ (m.take 60).length = k ∧ k ≤ mn ∧ s3 = .slice ma k mc)
      case first =>
        by_cases h60 : mn ≤ 60
        · go_wp2_with fail
          go_meet
          exact ⟨rfl, mn, h60, by rw [List.length_take]; omega, Nat.le_refl _, rfl⟩
        · go_wp2_with fail
          go_meet
          exact ⟨rfl, 60, by omega, by rw [List.length_take]; omega, by omega, rfl⟩
      case rest =>
        obtain ⟨rfl, k, hk, hkl, hkm, rfl⟩ := hcut
        rename World => w3
        go_wp2_with fail
        have hab := amongI_bd x 256 (by omega)
        refine (among_any x 256 _ (by omega) (by omega) hx0 hx1).mono ?_
        rintro e w4 ⟨rfl, rfl⟩
        generalize amongI x 256 = code at *
        obtain ⟨hab0, hab1⟩ := hab
        by_cases hc : code = 1 ∨ code = 2 ∨ code = 64 ∨ code = 65
        · have hw := HW3.out
          rcases hc with rfl | rfl | rfl | rfl
          all_goals
            go_wp2_with fail
            go_ret
            exact ⟨rfl, hw⟩
        · have q1 : (code == 1) = false := by simp; omega
          have q2 : (code == 2) = false := by simp; omega
          have q3 : (code == 64) = false := by simp; omega
          have q4 : (code == 65) = false := by simp; omega
          have HQ := Lib.hid hc
          clear hc
          go_wp2_with fail
          have hd1 : parB o.full = ((openB o.full).drop 10).take (N1 - 10) := by rw [openB_par, List.take_of_length_le]; have := HL1.out; omega
          have hd2 : parB p.full = ((openB p.full).drop 10).take (N2 - 10) := by rw [openB_par, List.take_of_length_le]; have := HL2.out; omega
          have K1 := Lib.hid (HV1.out.cut (i := 10) (k := N1 - 10) (k' := N1 - 10) (c := cp1 - 10) hd1 (by omega) rfl rfl)
          have K2 := Lib.hid (HV2.out.cut (i := 10) (k := N2 - 10) (k' := N2 - 10) (c := cp2 - 10) hd2 (by omega) rfl rfl)
          clear hd1 hd2
          have hi1 : (10 : Int) ≤ (N1 : Int) := by omega
          have hi2 : (10 : Int) ≤ (N2 : Int) := by omega
          go_cut [9, 11, 13] (fun s9 s11 s13 wx => s9 = .slice (some ⟨g1, f1, none⟩) N1 cp1 ∧ s11 = .slice (some ⟨g2, f2, none⟩) N2 cp2 ∧ OwnB 5 wx w3.heap.size s13 (parB o.full ++ parB p.full) ∧ Only [] w3 wx)
          case first =>
            by_cases e1 : cp1 = 10
            all_goals by_cases e2 : cp2 = 10
            all_goals
              have K1' := K1.out
              have K2' := K2.out
              simp only [e1, e2, if_true, if_false, Nat.sub_self] at K1' K2'
              have KK1 := Lib.hid K1'
              have KK2 := Lib.hid K2'
              clear K1 K2 K1' K2'
              go_region_held3 (fun W => True) (trivial)
                (first
                  | (have tk := hs1; refine step_appB bytesEl rfl _ _ rfl rfl rfl ho1 (KK2.out.only hs1) (by simp; omega) (by have := hs1.size; omega) ?_; intro v' w' hb2; have ho2 := hb2.own; have hs2 := hb2.since ho1 hs1 (Nat.le_refl _))
                  | (refine step_appB bytesEl rfl _ _ rfl rfl rfl (OwnB.litAt (base := w3.heap.size) [] rfl rfl (Nat.le_refl _) (by decide) rfl).drew (KK1.out.only (((Only.refl [] w3).alloc _).drew)) (by simp; omega) (by simp) ?_; intro v' w1 hb1; have ho1 := hb1.own; have hs1 := hb1.since (OwnB.litAt (base := w3.heap.size) [] rfl rfl (Nat.le_refl _) (by decide) rfl).drew (((Only.refl [] w3).alloc _).drew) (Nat.le_refl _)))
              go_wp2_with fail
              go_meet
              exact ⟨by simp [e1], by simp [e2], by simpa using ho2, hs2⟩
          case rest =>
            rename World => wA
            obtain ⟨rfl, rfl, ha, has⟩ := hcut
            have HA := Lib.hid ha
            have HAS := Lib.hid has
            have hal : (parB o.full ++ parB p.full).length ≤ 48 := by simp; omega
            have HLA := Lib.hid hal
            have hws := has.size
            have hm60 : VwB w (.slice ma k mc) (m.take 60) := by
              have h := HM.out.pre hkm
              have : m.take k = m.take 60 := by
                have h1 : (m.take 60).length = min 60 m.length := by simp
                rcases Nat.lt_or_ge m.length 60 with h2 | h2
                · rw [List.take_of_length_le (by omega), List.take_of_length_le (by omega)]
                · rw [show k = 60 by omega]
              rw [← this]; exact h
            have H60 := Lib.hid hm60
            have HKL := Lib.hid hkl
            clear hm60 hkl
            clear ha has K1 K2 hal
            generalize hla : parB o.full ++ parB p.full = la at *
            have HLE := Lib.hid hla
            clear hla
            go_upto_region 15 with fail
            go_cut [13] (fun s13 wx => ∃ a6 c6 N6, s13 = .slice a6 N6 c6 ∧ N6 = la.length + 4 + k ∧ OwnB 5 wx w3.heap.size (.slice a6 N6 c6) (la ++ moreB code (m.take 60)) ∧ Only [] w3 wx)
            case first =>
              go_wp2_with (first
                | (have tk := hb5; at_builtin; refine wpList_appB bytesEl rfl _ _ rfl rfl rfl hb5.own (H60.out.only (HW3.out.then S5.out)) (by have := HLA.out; have := HKL.out; simp at this ⊢; omega) (by have := S5.out.size; omega) ?_; intro v6 w6 hb6; have S6 := Lib.hid (hb6.since hb5.own S5.out (Nat.le_refl _)))
                | (have tk := hb4; at_builtin; refine wpList_appB bytesEl rfl _ _ rfl rfl rfl (hb4.own.alloc _) (VwB.litAt [(k : Int)] rfl rfl (by decide) (by simp)) (by have := HLA.out; simp; omega) (by have := S4.out.size; simp; omega) ?_; intro v5 w5 hb5; have S5 := Lib.hid (hb5.since (hb4.own.alloc _) (S4.out.alloc _) (Nat.le_refl _)))
                | (at_builtin; refine wpList_appB bytesEl rfl _ _ rfl rfl rfl (HA.out.alloc _) (VwB.litAt [2, 2 + (k : Int), code] rfl rfl (by decide) (by simp)) (by have := HLA.out; simp; omega) (by simp; omega) ?_; intro v4 w4 hb4; have S4 := Lib.hid (hb4.since (HA.out.alloc _) (HAS.out.alloc _) (Nat.le_refl _))))
              go_meet
              have hall : la ++ [2, 2 + (k : Int), code] ++ [(k : Int)] ++ m.take 60 = la ++ moreB code (m.take 60) := by simp [moreB, HKL.out]
              have h6 := hb6.own
              rw [hall] at h6
              obtain ⟨a6, c6, hv6, q6, q7⟩ := h6.vw.shape
              have hlen : (la ++ moreB code (m.take 60)).length = la.length + 4 + k := by have := HKL.out; simp [moreB] at this ⊢; omega
              rw [hlen] at hv6
              exact ⟨a6, c6, _, hv6, rfl, hv6 ▸ h6, S6.out⟩
            case rest =>
              rename World => wB
              obtain ⟨a6, c6, N6, rfl, hN6, h6, hs6⟩ := hcut
              have hn6 : N6 < 256 := by have := HLA.out; omega
              have HO6 := Lib.hid h6
              have S6 := Lib.hid hs6
              have HN6 := Lib.hid hN6
              clear h6 hs6 hN6
              have hh9 : VwB w3 (.slice (some ⟨g1, f1, none⟩) 9 cp1) (headB o.full) := by
                have := HV1.out.pre (k := 9) (by omega)
                rwa [openB_head] at this
              have HH9 := Lib.hid hh9
              clear hh9
              go_upto_region 16 with fail
              go_cut [14] (fun s14 wx => ∃ a9 c9 N9, s14 = .slice a9 N9 c9 ∧ OwnB 5 wx wB.heap.size (.slice a9 N9 c9) (lastB o.full p.full code (m.take 60)) ∧ Only [] wB wx)
              case first =>
                go_wp2_with (first
                  | (have tk := hb8; at_builtin; refine wpList_appB bytesEl rfl _ _ rfl rfl rfl hb8.own (HO6.out.vw.only S8.out) (by have h1 := HO6.out.vw.size.1; have := headB_len o.full; simp at h1 ⊢; omega) (by have := S8.out.size; omega) ?_; intro v9 w9 hb9; have S9 := Lib.hid (hb9.since hb8.own S8.out (Nat.le_refl _)))
                  | (have tk := hb7; at_builtin; refine wpList_appB bytesEl rfl _ _ rfl rfl rfl (hb7.own.alloc _) (VwB.litAt [(N6 : Int)] rfl rfl (by decide) (by simp)) (by have := headB_len o.full; simp; omega) (by have := S7.out.size; simp; omega) ?_; intro v8 w8 hb8; have S8 := Lib.hid (hb8.since (hb7.own.alloc _) (S7.out.alloc _) (Nat.le_refl _)))
                  | (at_builtin; refine wpList_appB bytesEl rfl _ _ rfl rfl rfl (OwnB.litAt (base := wB.heap.size) [] rfl rfl (Nat.le_refl _) (by decide) rfl) (HH9.out.only (S6.out.alloc _)) (by have := headB_len o.full; simp; omega) (by simp) ?_; intro v7 w7 hb7; have S7 := Lib.hid (hb7.since (OwnB.litAt (base := wB.heap.size) [] rfl rfl (Nat.le_refl _) (by decide) rfl) ((Only.refl [] wB).alloc _) (Nat.le_refl _))))
                go_meet
                have h9 := hb9.own
                have he : [] ++ headB o.full ++ [(N6 : Int)] ++ (la ++ moreB code (m.take 60)) = lastB o.full p.full code (m.take 60) := by
                  have h1 := HO6.out.vw.size.1
                  unfold lastB allB
                  rw [HLE.out, h1]
                  simp
                rw [he] at h9
                obtain ⟨a9, c9, hv9, q6, q7⟩ := h9.vw.shape
                exact ⟨a9, c9, _, hv9, hv9 ▸ h9, S9.out⟩
              case rest =>
                rename World => wC
                obtain ⟨a9, c9, N9, rfl, h9, hs9⟩ := hcut
                have hk60 : (m.take 60).length ≤ 60 := by have := HKL.out; omega
                have hb60 : Byte (m.take 60) := fun n hn => HMB.out n (List.take_subset _ _ hn)
                have HC9 := Lib.hid (read_last wC (.slice a9 N9 c9) o p code (m.take 60) HOG.out HR.out HPG.out HRP.out (fun h => HQ.out (Or.inl h)) (fun h => HQ.out (Or.inr (Or.inl h))) (fun h => HQ.out (Or.inr (Or.inr (Or.inl h)))) (fun h => HQ.out (Or.inr (Or.inr (Or.inr h)))) hab0 hab1 hb60 hk60 h9.vw)
                have SC := Lib.hid (S6.out.then hs9)
                clear h9 hs9 HO6 S6 HAS HA q1 q2 q3 q4 hk60 hb60
                go_wp2_with fail
                refine HC9.out.mono ?_
                rintro e wD ⟨rfl, hsD⟩
                have hu1 := HU1.out.keep (SC.out.then hsD) (by simp)
                have hu2 := HU2.out.keep (SC.out.then hsD) (by simp)
                have hq1 := hu1.lt
                have hq2 := hu2.lt
                (have b0 : (wD).cell? ⟨w.heap.size, 0, none⟩ = some (.int .u32 o.sys) := ((hu1).cell 0).trans rfl; have b1 : (wD).cell? ⟨w.heap.size, 1, none⟩ = some (.int .i64 o.hold) := ((hu1).cell 1).trans rfl; have b2 : (wD).cell? ⟨w.heap.size, 2, none⟩ = some (.int .u32 o.id) := ((hu1).cell 2).trans rfl; have b3 : (wD).cell? ⟨w.heap.size, 3, none⟩ = some (.bool o.multi) := ((hu1).cell 3).trans rfl; have b4 : (wD).cell? ⟨w.heap.size, 4, none⟩ = some (.bool true) := ((hu1).cell 4).trans rfl; have b5 : (wD).cell? ⟨w.heap.size, 5, none⟩ = some (.bool o.refresh) := ((hu1).cell 5).trans rfl; have b6 : (wD).cell? ⟨w.heap.size, 6, none⟩ = some (.bool true) := ((hu1).cell 6).trans rfl; have b7 : (wD).cell? ⟨w.heap.size, 7, none⟩ = some (.int .i64 o.time) := ((hu1).cell 7).trans rfl; have b8 : (wD).cell? ⟨w.heap.size, 8, none⟩ = some (.bool o.restarts) := ((hu1).cell 8).trans rfl; have b9 : (wD).cell? ⟨w.heap.size, 9, none⟩ = some (.bool o.keeps) := ((hu1).cell 9).trans rfl)
                have HSD := Lib.hid ((HW3.out.then SC.out).then hsD)
                have HU1D := Lib.hid hu1
                have HU2D := Lib.hid hu2
                clear hu1 hu2 hsD HC9
                unfold Opn.cells
                go_wp2_with fail
                have B0 := HU2D.out
                have B1 := HSD.out
                refine world_abs (fun w' => Only [] w w' ∧ Blk w' wD.heap.size (o.full.want p.full).cells 25 ∧ Blk w' (wD.heap.size + 1 + 1) o.full.cells 25 ∧ Blk w' (w.heap.size + 1) p.full.cells 25 ∧ Blk w' w.heap.size o.full.cells 25) ⟨?_, ?_, ?_, ?_, ?_⟩ ?_
                · (repeat (first | with_reducible exact Only.refl _ _ | with_reducible assumption | with_reducible apply Only.drew | with_reducible apply Only.drewN | with_reducible apply Only.alloc | (refine Only.setCell ?_ (by first | (left; simp; done) | (right; omega)) _ _)))
                · unfold Opn.cells
                  (apply blk_cast; (case h => (repeat (first | with_reducible assumption | (with_reducible apply blk_newAt; (first | omega | (simp; done) | (simp; omega))) | with_reducible apply Blk.set | with_reducible apply Blk.drewN | with_reducible apply Blk.drew | with_reducible apply Blk.alloc | (with_reducible apply Blk.setOther; (case hc => first | omega | (simp; omega)))))); (case e => (first | (simp; done) | rfl)))
                · unfold Opn.cells
                  (apply blk_cast; (case h => (repeat (first | with_reducible assumption | (with_reducible apply blk_newAt; (first | omega | (simp; done) | (simp; omega))) | with_reducible apply Blk.set | with_reducible apply Blk.drewN | with_reducible apply Blk.drew | with_reducible apply Blk.alloc | (with_reducible apply Blk.setOther; (case hc => first | omega | (simp; omega)))))); (case e => (first | (simp; done) | rfl)))
                · (apply blk_cast; (case h => (repeat (first | with_reducible assumption | (with_reducible apply blk_newAt; (first | omega | (simp; done) | (simp; omega))) | with_reducible apply Blk.set | with_reducible apply Blk.drewN | with_reducible apply Blk.drew | with_reducible apply Blk.alloc | (with_reducible apply Blk.setOther; (case hc => first | omega | (simp; omega)))))); (case e => (first | (simp; done) | rfl)))
                · have := HU1D.out
                  (apply blk_cast; (case h => (repeat (first | with_reducible assumption | (with_reducible apply blk_newAt; (first | omega | (simp; done) | (simp; omega))) | with_reducible apply Blk.set | with_reducible apply Blk.drewN | with_reducible apply Blk.drew | with_reducible apply Blk.alloc | (with_reducible apply Blk.setOther; (case hc => first | omega | (simp; omega)))))); (case e => (first | (simp; done) | rfl)))
                rintro wE ⟨hE, hQ, hT, hP, hO⟩
                have HO := Lib.hid hO
                clear hO
                (have b0 : (wE).cell? ⟨wD.heap.size + 1 + 1, 0, none⟩ = some (.int .u32 o.sys) := ((hT).cell 0).trans rfl; have b1 : (wE).cell? ⟨wD.heap.size + 1 + 1, 1, none⟩ = some (.int .i64 o.hold) := ((hT).cell 1).trans rfl; have b2 : (wE).cell? ⟨wD.heap.size + 1 + 1, 2, none⟩ = some (.int .u32 o.id) := ((hT).cell 2).trans rfl; have b3 : (wE).cell? ⟨wD.heap.size + 1 + 1, 3, none⟩ = some (.bool o.multi) := ((hT).cell 3).trans rfl; have b4 : (wE).cell? ⟨wD.heap.size + 1 + 1, 4, none⟩ = some (.bool true) := ((hT).cell 4).trans rfl; have b5 : (wE).cell? ⟨wD.heap.size + 1 + 1, 5, none⟩ = some (.bool o.refresh) := ((hT).cell 5).trans rfl; have b6 : (wE).cell? ⟨wD.heap.size + 1 + 1, 6, none⟩ = some (.bool true) := ((hT).cell 6).trans rfl; have b7 : (wE).cell? ⟨wD.heap.size + 1 + 1, 7, none⟩ = some (.int .i64 o.time) := ((hT).cell 7).trans rfl; have b8 : (wE).cell? ⟨wD.heap.size + 1 + 1, 8, none⟩ = some (.bool o.restarts) := ((hT).cell 8).trans rfl; have b9 : (wE).cell? ⟨wD.heap.size + 1 + 1, 9, none⟩ = some (.bool o.keeps) := ((hT).cell 9).trans rfl)
                (have f0 := (hT).free 0; have f1 := (hT).free 1; have f2 := (hT).free 2; have f3 := (hT).free 3; have f4 := (hT).free 4; have f5 := (hT).free 5; have f6 := (hT).free 6; have f7 := (hT).free 7; have f8 := (hT).free 8; have f9 := (hT).free 9)
                (have c0 : (wE).cell? ⟨w.heap.size + 1, 0, none⟩ = some (.int .u32 p.sys) := ((hP).cell 0).trans rfl; have c1 : (wE).cell? ⟨w.heap.size + 1, 1, none⟩ = some (.int .i64 p.hold) := ((hP).cell 1).trans rfl; have c2 : (wE).cell? ⟨w.heap.size + 1, 2, none⟩ = some (.int .u32 p.id) := ((hP).cell 2).trans rfl; have c3 : (wE).cell? ⟨w.heap.size + 1, 3, none⟩ = some (.bool p.multi) := ((hP).cell 3).trans rfl; have c4 : (wE).cell? ⟨w.heap.size + 1, 4, none⟩ = some (.bool true) := ((hP).cell 4).trans rfl; have c5 : (wE).cell? ⟨w.heap.size + 1, 5, none⟩ = some (.bool p.refresh) := ((hP).cell 5).trans rfl; have c6 : (wE).cell? ⟨w.heap.size + 1, 6, none⟩ = some (.bool true) := ((hP).cell 6).trans rfl; have c7 : (wE).cell? ⟨w.heap.size + 1, 7, none⟩ = some (.int .i64 p.time) := ((hP).cell 7).trans rfl; have c8 : (wE).cell? ⟨w.heap.size + 1, 8, none⟩ = some (.bool p.restarts) := ((hP).cell 8).trans rfl; have c9 : (wE).cell? ⟨w.heap.size + 1, 9, none⟩ = some (.bool p.keeps) := ((hP).cell 9).trans rfl)
                have hne : w.heap.size + 1 ≠ wD.heap.size + 1 + 1 := by omega
                have hne2 : wD.heap.size ≠ wD.heap.size + 1 + 1 := by omega
                have HE := Lib.hid hE
                have HQ2 := Lib.hid hQ
                have HT := Lib.hid hT
                have HP := Lib.hid hP
                clear hE hQ hT hP B0 B1 HSD HU2D HU1D
                go_cut [18] (fun s18 wx => s18 = .pointer (some ⟨wD.heap.size + 1 + 1, 0, none⟩) ∧ Only [] w wx ∧ Blk wx wD.heap.size (o.full.want p.full).cells 25 ∧ Blk wx (wD.heap.size + 1 + 1) ({ o.full with sys := p.sys, time := p.time, restarts := p.restarts, keeps := p.keeps } : Opn).cells 25 ∧ Blk wx (w.heap.size + 1) p.full.cells 25 ∧ Blk wx w.heap.size o.full.cells 25)
                case first =>
                  have hk : ∀ (i j : Nat) (v : Value) (X : World), (X.setCell ⟨wD.heap.size + 1 + 1, j, none⟩ v).cell? ⟨w.heap.size + 1, i, none⟩ = X.cell? ⟨w.heap.size + 1, i, none⟩ := fun i j v X => World.cell?_of_block (w := X) (heap_setCell X _ j v _ hne)
                  go_region_held3 (fun W => W.cell? ⟨w.heap.size + 1, 0, none⟩ = some (.int .u32 p.sys) ∧ W.cell? ⟨w.heap.size + 1, 7, none⟩ = some (.int .i64 p.time) ∧ W.cell? ⟨w.heap.size + 1, 8, none⟩ = some (.bool p.restarts) ∧ W.cell? ⟨w.heap.size + 1, 9, none⟩ = some (.bool p.keeps)) (first | go_keep | (simp only [World.cell?_drew, hk]; exact ⟨c0, c7, c8, c9⟩)) (fail)
                  have hT := HT.out
                  have hP := HP.out
                  have hQ := HQ2.out
                  have hE := HE.out
                  unfold Opn.cells at hT hQ
                  go_wp2_with fail
                  go_meet
                  have hO := HO.out
                  refine ⟨rfl, ?_, ?_, ?_, ?_, ?_⟩
                  · (repeat (first | with_reducible exact Only.refl _ _ | with_reducible assumption | with_reducible apply Only.drew | with_reducible apply Only.drewN | with_reducible apply Only.alloc | (refine Only.setCell ?_ (by first | (left; simp; done) | (right; omega)) _ _)))
                  · unfold Opn.cells
                    (apply blk_cast; (case h => (repeat (first | with_reducible assumption | (with_reducible apply blk_newAt; (first | omega | (simp; done) | (simp; omega))) | with_reducible apply Blk.set | with_reducible apply Blk.drewN | with_reducible apply Blk.drew | with_reducible apply Blk.alloc | (with_reducible apply Blk.setOther; (case hc => first | omega | (simp; omega)))))); (case e => (first | (simp; done) | rfl)))
                  · unfold Opn.cells
                    (apply blk_cast; (case h => (repeat (first | with_reducible assumption | (with_reducible apply blk_newAt; (first | omega | (simp; done) | (simp; omega))) | with_reducible apply Blk.set | with_reducible apply Blk.drewN | with_reducible apply Blk.drew | with_reducible apply Blk.alloc | (with_reducible apply Blk.setOther; (case hc => first | omega | (simp; omega)))))); (case e => (first | (simp; done) | rfl)))
                  · (apply blk_cast; (case h => (repeat (first | with_reducible assumption | (with_reducible apply blk_newAt; (first | omega | (simp; done) | (simp; omega))) | with_reducible apply Blk.set | with_reducible apply Blk.drewN | with_reducible apply Blk.drew | with_reducible apply Blk.alloc | (with_reducible apply Blk.setOther; (case hc => first | omega | (simp; omega)))))); (case e => (first | (simp; done) | rfl)))
                  · (apply blk_cast; (case h => (repeat (first | with_reducible assumption | (with_reducible apply blk_newAt; (first | omega | (simp; done) | (simp; omega))) | with_reducible apply Blk.set | with_reducible apply Blk.drewN | with_reducible apply Blk.drew | with_reducible apply Blk.alloc | (with_reducible apply Blk.setOther; (case hc => first | omega | (simp; omega)))))); (case e => (first | (simp; done) | rfl)))
                case rest =>
                  clear b0 b1 b2 b3 b4 b5 b6 b7 b8 b9 c0 c1 c2 c3 c4 c5 c6 c7 c8 c9 f0 f1 f2 f3 f4 f5 f6 f7 f8 f9
                  rename World => wF
                  obtain ⟨rfl, hE, hQ, hT, hP, hO⟩ := hcut
                  have o3 : wF.cell? ⟨w.heap.size, 3, none⟩ = some (.bool o.multi) := (hO.cell 3).trans rfl
                  have o5 : wF.cell? ⟨w.heap.size, 5, none⟩ = some (.bool o.refresh) := (hO.cell 5).trans rfl
                  have p3 : wF.cell? ⟨w.heap.size + 1, 3, none⟩ = some (.bool p.multi) := (hP.cell 3).trans rfl
                  have p5 : wF.cell? ⟨w.heap.size + 1, 5, none⟩ = some (.bool p.refresh) := (hP.cell 5).trans rfl
                  have t3 : wF.cell? ⟨wD.heap.size + 1 + 1, 3, none⟩ = some (.bool o.multi) := (hT.cell 3).trans rfl
                  have t5 : wF.cell? ⟨wD.heap.size + 1 + 1, 5, none⟩ = some (.bool o.refresh) := (hT.cell 5).trans rfl
                  have f3 := hT.free 3
                  have f5 := hT.free 5
                  have hne3 : w.heap.size ≠ wD.heap.size + 1 + 1 := by omega
                  have HE := Lib.hid hE
                  have HQ2 := Lib.hid hQ
                  have HT := Lib.hid hT
                  clear hE hQ hT hP hO
                  go_upto_region 20 with fail
                  go_cut [0, 18] (fun s0 s18 wx => s18 = .pointer (some ⟨wD.heap.size + 1 + 1, 0, none⟩) ∧ Only [] w wx ∧ Blk wx wD.heap.size (o.full.want p.full).cells 25 ∧ Blk wx (wD.heap.size + 1 + 1) (o.full.want p.full).cells 25)
                  case first =>
                    have hk : ∀ (i j : Nat) (v : Value) (X : World), (X.setCell ⟨wD.heap.size + 1 + 1, j, none⟩ v).cell? ⟨w.heap.size + 1, i, none⟩ = X.cell? ⟨w.heap.size + 1, i, none⟩ := fun i j v X => World.cell?_of_block (w := X) (heap_setCell X _ j v _ hne)
                    have hk2 : ∀ (i j : Nat) (v : Value) (X : World), (X.setCell ⟨wD.heap.size + 1 + 1, j, none⟩ v).cell? ⟨w.heap.size, i, none⟩ = X.cell? ⟨w.heap.size, i, none⟩ := fun i j v X => World.cell?_of_block (w := X) (heap_setCell X _ j v _ hne3)
                    cases hm1 : o.multi
                    all_goals cases hm2 : o.refresh
                    all_goals
                      rw [hm1] at o3 t3
                      rw [hm2] at o5 t5
                      go_region
                      all_goals
                        go_wp2_with fail
                        go_meet
                        have hE := HE.out
                        have hT := HT.out
                        have hQ := HQ2.out
                        refine ⟨rfl, ?_, ?_, ?_⟩
                        · (repeat (first | with_reducible exact Only.refl _ _ | with_reducible assumption | with_reducible apply Only.drew | with_reducible apply Only.drewN | with_reducible apply Only.alloc | (refine Only.setCell ?_ (by first | (left; simp; done) | (right; omega)) _ _)))
                        · unfold Opn.cells at hQ ⊢
                          (apply blk_cast; (case h => (repeat (first | with_reducible assumption | (with_reducible apply blk_newAt; (first | omega | (simp; done) | (simp; omega))) | with_reducible apply Blk.set | with_reducible apply Blk.drewN | with_reducible apply Blk.drew | with_reducible apply Blk.alloc | (with_reducible apply Blk.setOther; (case hc => first | omega | (simp; omega)))))); (case e => (first | (simp; done) | rfl)))
                        · unfold Opn.cells at hT ⊢
                          apply blk_cast
                          case h => (repeat (first | with_reducible assumption | with_reducible apply Blk.set | with_reducible apply Blk.drewN | with_reducible apply Blk.drew))
                          case e => simp [Opn.want, Opn.full, hm1, hm2]
                  case rest =>
                    rename World => wG
                    obtain ⟨rfl, hE, hQ, hT⟩ := hcut
                    (have q0 : (wG).cell? ⟨wD.heap.size, 0, none⟩ = some (.int .u32 (o.full.want p.full).sys) := ((hQ).cell 0).trans rfl; have q1 : (wG).cell? ⟨wD.heap.size, 1, none⟩ = some (.int .i64 (o.full.want p.full).hold) := ((hQ).cell 1).trans rfl; have q2 : (wG).cell? ⟨wD.heap.size, 2, none⟩ = some (.int .u32 (o.full.want p.full).id) := ((hQ).cell 2).trans rfl; have q3 : (wG).cell? ⟨wD.heap.size, 3, none⟩ = some (.bool (o.full.want p.full).multi) := ((hQ).cell 3).trans rfl; have q4 : (wG).cell? ⟨wD.heap.size, 4, none⟩ = some (.bool (o.full.want p.full).four) := ((hQ).cell 4).trans rfl; have q5 : (wG).cell? ⟨wD.heap.size, 5, none⟩ = some (.bool (o.full.want p.full).refresh) := ((hQ).cell 5).trans rfl; have q6 : (wG).cell? ⟨wD.heap.size, 6, none⟩ = some (.bool (o.full.want p.full).graceful) := ((hQ).cell 6).trans rfl; have q7 : (wG).cell? ⟨wD.heap.size, 7, none⟩ = some (.int .i64 (o.full.want p.full).time) := ((hQ).cell 7).trans rfl; have q8 : (wG).cell? ⟨wD.heap.size, 8, none⟩ = some (.bool (o.full.want p.full).restarts) := ((hQ).cell 8).trans rfl; have q9 : (wG).cell? ⟨wD.heap.size, 9, none⟩ = some (.bool (o.full.want p.full).keeps) := ((hQ).cell 9).trans rfl)
                    (have t0 : (wG).cell? ⟨wD.heap.size + 1 + 1, 0, none⟩ = some (.int .u32 (o.full.want p.full).sys) := ((hT).cell 0).trans rfl; have t1 : (wG).cell? ⟨wD.heap.size + 1 + 1, 1, none⟩ = some (.int .i64 (o.full.want p.full).hold) := ((hT).cell 1).trans rfl; have t2 : (wG).cell? ⟨wD.heap.size + 1 + 1, 2, none⟩ = some (.int .u32 (o.full.want p.full).id) := ((hT).cell 2).trans rfl; have t3 : (wG).cell? ⟨wD.heap.size + 1 + 1, 3, none⟩ = some (.bool (o.full.want p.full).multi) := ((hT).cell 3).trans rfl; have t4 : (wG).cell? ⟨wD.heap.size + 1 + 1, 4, none⟩ = some (.bool (o.full.want p.full).four) := ((hT).cell 4).trans rfl; have t5 : (wG).cell? ⟨wD.heap.size + 1 + 1, 5, none⟩ = some (.bool (o.full.want p.full).refresh) := ((hT).cell 5).trans rfl; have t6 : (wG).cell? ⟨wD.heap.size + 1 + 1, 6, none⟩ = some (.bool (o.full.want p.full).graceful) := ((hT).cell 6).trans rfl; have t7 : (wG).cell? ⟨wD.heap.size + 1 + 1, 7, none⟩ = some (.int .i64 (o.full.want p.full).time) := ((hT).cell 7).trans rfl; have t8 : (wG).cell? ⟨wD.heap.size + 1 + 1, 8, none⟩ = some (.bool (o.full.want p.full).restarts) := ((hT).cell 8).trans rfl; have t9 : (wG).cell? ⟨wD.heap.size + 1 + 1, 9, none⟩ = some (.bool (o.full.want p.full).keeps) := ((hT).cell 9).trans rfl)
                    have HE := Lib.hid hE
                    clear hE hQ hT
                    go_wp2_with fail
                    go_ret
                    exact ⟨rfl, HE.out⟩
    · refine (build_no _ p.full hr).mono ?_
      rintro e w3 ⟨rfl, hw3⟩
      have HW3 := Lib.hid hw3; clear hw3 hr
      clear d0 d1 d2 d3 d4 d5 d6 d7 d8 d9
      go_wp2_with fail
      go_ret
      exact ⟨rfl, (HW1.out.then HW2.out).then HW3.out⟩
  · refine (build_no _ o.full hr).mono ?_
    rintro e w2 ⟨rfl, hw2⟩
    have hb1 := HC1.out.keep hw2 (by simp)
    clear d0 d1 d2 d3 d4 d5 d6 d7 d8 d9
    (have d0 : (w2).cell? ⟨w.heap.size + 1, 0, none⟩ = some (.int .u32 p.sys) := ((hb1).cell 0).trans rfl; have d1 : (w2).cell? ⟨w.heap.size + 1, 1, none⟩ = some (.int .i64 p.hold) := ((hb1).cell 1).trans rfl; have d2 : (w2).cell? ⟨w.heap.size + 1, 2, none⟩ = some (.int .u32 p.id) := ((hb1).cell 2).trans rfl; have d3 : (w2).cell? ⟨w.heap.size + 1, 3, none⟩ = some (.bool p.multi) := ((hb1).cell 3).trans rfl; have d4 : (w2).cell? ⟨w.heap.size + 1, 4, none⟩ = some (.bool true) := ((hb1).cell 4).trans rfl; have d5 : (w2).cell? ⟨w.heap.size + 1, 5, none⟩ = some (.bool p.refresh) := ((hb1).cell 5).trans rfl; have d6 : (w2).cell? ⟨w.heap.size + 1, 6, none⟩ = some (.bool true) := ((hb1).cell 6).trans rfl; have d7 : (w2).cell? ⟨w.heap.size + 1, 7, none⟩ = some (.int .i64 p.time) := ((hb1).cell 7).trans rfl; have d8 : (w2).cell? ⟨w.heap.size + 1, 8, none⟩ = some (.bool p.restarts) := ((hb1).cell 8).trans rfl; have d9 : (w2).cell? ⟨w.heap.size + 1, 9, none⟩ = some (.bool p.keeps) := ((hb1).cell 9).trans rfl)
    have HW2 := Lib.hid hw2
    clear hw2 hb1 hr
    go_wp2_with fail
    by_cases hr : p.full.Right
    · have HRP := Lib.hid hr; clear hr
      refine (build_yes _ p.full HPG.out HRP.out).mono ?_
      rintro e w3 ⟨v2, rfl, ho2, hw3⟩
      have HW3 := Lib.hid hw3; clear hw3 ho2
      clear d0 d1 d2 d3 d4 d5 d6 d7 d8 d9
      go_wp2_with fail
      go_ret
      exact ⟨rfl, (HW1.out.then HW2.out).then HW3.out⟩
    · refine (build_no _ p.full hr).mono ?_
      rintro e w3 ⟨rfl, hw3⟩
      have HW3 := Lib.hid hw3; clear hw3 hr
      clear d0 d1 d2 d3 d4 d5 d6 d7 d8 d9
      go_wp2_with fail
      go_ret
      exact ⟨rfl, (HW1.out.then HW2.out).then HW3.out⟩

namespace openLast
theorem walk {W : World} (n0 : Nat) {cs0 : Array Value} (g0 : Rd Try.prog W n0 25 (Value.agg cs0).cells.toList) (n1 : Nat) {cs1 : Array Value} (g1 : Rd Try.prog W n1 25 (Value.agg cs1).cells.toList) (n2 : Nat) {a2 : Int} (g2 : Rd Try.prog W n2 3 (Value.int .i64 a2).cells.toList)
    (n3 : Nat) {a3 : Option Addr} {l3 c3 : Nat} (g3 : Rd Try.prog W n3 26 (Value.slice a3 l3 c3).cells.toList) :
    Calls Try.prog 5 #[.agg cs0, .agg cs1, .int .i64 a2, .slice a3 l3 c3] W fun e w' => e = .returned (.bool true) ∧ Only [] W w' := by
  obtain ⟨o, h1, h2⟩ := open_arg g0
  obtain ⟨p, h3, h4⟩ := open_arg g1
  have e0 : cs0 = o.cells := Array.toList_inj.1 h1
  have e1 : cs1 = p.cells := Array.toList_inj.1 h3
  subst e0 e1
  have b2 := Rd.i64 (show Rd Try.prog W n2 3 [.int .i64 a2] from g2) Try.underlying3
  obtain ⟨m, _, hm, hmb⟩ := Rd.bytes (show Rd Try.prog W n3 26 [.slice a3 l3 c3] from g3) Try.underlying26 Try.underlying5 (by kernel_rfl)
  exact last_walk o p h2 h4 a2 b2.1 b2.2 W W (Only.refl _ _) a3 l3 c3 m hm hmb
end openLast
namespace openLast
open Go.ChangeShapes Go.WideShapes Go.ChangeAt
set_option linter.unusedVariables false

theorem own : ownKnob Try.prog.godebug = none := by kernel_rfl
theorem laidOut : laidOutB Try.prog = true := by kernel_rfl

set_option maxRecDepth 100000 in
theorem lifted (os : Os) (started : os.Started) (H : Type) (enc : TypeId × Value → H) :
    ReturnsInHanded {} Try.checked os 5 .any (Rows.openLastSpec.pre6 enc Try.prog Try.f5 Rows.openLastRow.domain false) (Rows.openLastSpec.post enc Try.prog Try.f5 false true false false) := by
  refine returnsInHanded_of_change (C := Try.checked) own started (by kernel_rfl) Try.func5
    (ChangeSpec.witness6 (enc := enc) (C := Try.checked) false ⟨#[], #[.agg #[.int .u32 0, .int .i64 0, .int .u32 0, .bool false, .bool false, .bool false, .bool false, .int .i64 0, .bool false, .bool false], .agg #[.int .u32 0, .int .i64 0, .int .u32 0, .bool false, .bool false, .bool false, .bool false, .int .i64 0, .bool false, .bool false], .int .i64 0, .slice none 0 0], []⟩ 8 (by kernel_rfl) (by kernel_rfl) (by kernel_rfl) (by kernel_rfl)) ?_
  intro W base args ds gs before hval0 hW hcnd hreach
  have hval : ∀ (j : Nat) t v, Try.f5.params[j]? = some t → args[j]? = some v → Value.okWide Try.prog W .any base t v := hval0
  have hW' := hW
  obtain ⟨p, q, hA0, hV, rfl, hfz, hnd⟩ := hW
  have hA : DataW.TrodAll enc Try.prog W 0 (fun _ => true) true Try.f5.params.toList args.toList ds p := hA0
  rw [Try.params5] at hA hval
  obtain ⟨v0, vs0, d0, ds0, p0, q0, hargs, rfl, rfl, h0, r0⟩ := trodAll_cons hA
  obtain ⟨v1, vs1, d1, ds1, p1, q1, rfl, rfl, rfl, h1, r1⟩ := trodAll_cons r0
  obtain ⟨v2, vs2, d2, ds2, p2, q2, rfl, rfl, rfl, h2, r2⟩ := trodAll_cons r1
  obtain ⟨v3, vs3, d3, ds3, p3, q3, rfl, rfl, rfl, h3, r3⟩ := trodAll_cons r2
  obtain ⟨rfl, rfl, rfl⟩ := trodAll_nil r3
  obtain rfl : args = #[v0, v1, v2, v3] := by cases args; simp_all
  obtain ⟨rfl, rfl⟩ := trodVars_none hV
  have k0 := h0
  have lt0 : ∀ x ∈ p0, x.block < W.heap.size := by obtain ⟨m, hm⟩ := k0; exact DataW.trod_lt m _ _ _ hm
  obtain ⟨n0, g0⟩ := Rd.ofTrod' h0
  obtain ⟨cs0, rfl, hs0⟩ := okWide_struct Try.underlying25 (hval 0 25 v0 rfl rfl)
  have k1 := h1
  have lt1 : ∀ x ∈ p1, x.block < W.heap.size := by obtain ⟨m, hm⟩ := k1; exact DataW.trod_lt m _ _ _ hm
  obtain ⟨n1, g1⟩ := Rd.ofTrod' h1
  obtain ⟨cs1, rfl, hs1⟩ := okWide_struct Try.underlying25 (hval 1 25 v1 rfl rfl)
  have k2 := h2
  have lt2 : ∀ x ∈ p2, x.block < W.heap.size := by obtain ⟨m, hm⟩ := k2; exact DataW.trod_lt m _ _ _ hm
  obtain ⟨n2, g2⟩ := Rd.ofTrod' h2
  obtain ⟨a2, rfl⟩ := okWide_int Try.underlying3 (hval 2 3 v2 rfl rfl)
  have k3 := h3
  have lt3 : ∀ x ∈ p3, x.block < W.heap.size := by obtain ⟨m, hm⟩ := k3; exact DataW.trod_lt m _ _ _ hm
  obtain ⟨n3, g3⟩ := Rd.ofTrod' h3
  obtain ⟨a3, l3, c3, rfl⟩ := okWide_slice Try.underlying26 (hval 3 26 v3 rfl rfl)
  refine (walk n0 g0 n1 g1 n2 g2 n3 g3).mono fun e W' ⟨he, hg⟩ => ?_
  subst he
  have bel := hg.belowNil
  exact ⟨_, rfl, _, _, _, [], _, [], hW', trodAll_mk1 (shut_bool Try.underlying4 _), (trodAll_cons_mk (Below.trod laidOut (by kernel_rfl) (of_decide_eq_true (by kernel_rfl)) k0 bel lt0) (trodAll_cons_mk (Below.trod laidOut (by kernel_rfl) (of_decide_eq_true (by kernel_rfl)) k1 bel lt1) (trodAll_cons_mk (Below.trod laidOut (by kernel_rfl) (of_decide_eq_true (by kernel_rfl)) k2 bel lt2) (trodAll_cons_mk (Below.trod laidOut (by kernel_rfl) (of_decide_eq_true (by kernel_rfl)) k3 bel lt3) trodAll_mk0)))), rfl, bel.frame _, fun h => by cases h⟩

theorem over : Rows.openLastRow.holds Try.pinned (OpenSpec.ofChange Rows.openLastSpec) :=
  OpenClaim.holds_of_wide 5 Try.f5 rfl rfl rfl rfl rfl rfl rfl ⟨rfl, rfl, rfl, rfl, rfl⟩ rfl rfl rfl rfl rfl (by kernel_rfl) Try.func5 (by kernel_rfl)
    (of_decide_eq_true (by kernel_rfl)) (by unfold Func.isWrapper; first | (rw [if_pos (by decide +kernel)]; kernel_rfl) | (rw [if_neg (by decide +kernel)]; exact ⟨rfl, rfl⟩))
    (fun os started H enc _ => lifted os started H enc)

/-- The statement. -/
theorem proved : Rows.OpenLastSaid := over
#print axioms proved
end openLast
end Go.Proofs.Ytdbahaajgedgkaa
