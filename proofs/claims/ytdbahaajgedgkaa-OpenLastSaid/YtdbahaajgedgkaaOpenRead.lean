/-
  Package open: what Read goes through.
-/
import Derived.Test.YtdbahaajgedgkaaOpenPut
import Derived.Test.YtdbahaajgedgkaaRead
import Derived.Deep.DeepCutAuto
namespace Go.Proofs.Ytdbahaajgedgkaa
open Go.RowKit Go.Pm


def g16 (l : List Int) : Int := l.getD 0 0 * 256 + l.getD 1 0
def g32 (l : List Int) : Int := g16 l * 65536 + g16 (l.drop 2)

theorem g16_range {l : List Int} (h : Byte l) : 0 ≤ g16 l ∧ g16 l ≤ 65535 := by
  have key : ∀ i, 0 ≤ l.getD i 0 ∧ l.getD i 0 < 256 := by
    intro i
    by_cases hi : i < l.length
    · simpa [List.getD, List.getElem?_eq_getElem hi] using h.at i hi
    · simp [List.getD, List.getElem?_eq_none (Nat.le_of_not_lt hi)]
  have := key 0
  have := key 1
  unfold g16
  omega

set_option maxHeartbeats 400000 in
theorem get16_any (w : World) (v : Value) (l : List Int) (hv : VwB w v l) (hb : Byte l) (h2 : 2 ≤ l.length) :
    Calls Try.prog 20 #[v] w fun e w' => e = .returned (.int .i64 (g16 l)) ∧ ∃ n, w' = w.drewN n := by
  obtain ⟨b, off, cap, rfl, hc1, hc2, hlt, hc⟩ := hv.open (by rintro rfl; simp at h2)
  have c0 := hc 0 (by omega)
  have c1 := hc 1 (by omega)
  rw [Nat.add_zero] at c0
  have r0 := hb.at 0 (by omega)
  have r1 := hb.at 1 (by omega)
  have HG : Hid (g16 l = l[0] * (256 : Int) + l[1]) := by
    simp [Hid, g16, List.getD, List.getElem?_eq_getElem (show 0 < l.length by omega), List.getElem?_eq_getElem (show 1 < l.length by omega)]
  generalize l[0] = x0 at *
  generalize l[1] = x1 at *
  clear hc hv hb
  generalize l.length = n at *
  obtain ⟨a1, a2⟩ := r0
  obtain ⟨a3, a4⟩ := r1
  have HO := Lib.hid (or_high 8 (x0 * 256) x1 (by omega) (by omega) a3 a4 (by omega) (by omega))
  go_enter Try.func20, Try.ntmps20
  go_wp2_with fail
  go_quiet (fail)
  rw [HO.out, ← HG.out]
  go_wp2
  go_ret
  exact ⟨rfl, _, rfl⟩

theorem g32_range {l : List Int} (h : Byte l) : 0 ≤ g32 l ∧ g32 l ≤ 4294967295 := by
  have h1 := g16_range h
  have h2 := g16_range (l := l.drop 2) (fun n hn => h n (List.drop_subset _ _ hn))
  unfold g32
  omega

set_option maxHeartbeats 400000 in
theorem get32_any (w : World) (v : Value) (l : List Int) (hv : VwB w v l) (hb : Byte l) (h2 : 4 ≤ l.length) :
    Calls Try.prog 21 #[v] w fun e w' => e = .returned (.int .u32 (g32 l)) ∧ ∃ n, w' = w.drewN n := by
  obtain ⟨b, off, cap, rfl, hc1, hc2, hlt, -⟩ := hv.open (by rintro rfl; simp at h2)
  have hp := hv.part (i := 2) (k := l.length - 2) (c := cap - 2) rfl (by omega) (by omega) (by omega)
  rw [List.take_of_length_le (by simp)] at hp
  have HV := Lib.hid hv
  have HP := Lib.hid hp
  have hr1 := g16_range hb
  have hr2 := g16_range (l := l.drop 2) (fun n hn => hb n (List.drop_subset _ _ hn))
  have HB2 := Lib.hid (show Byte (l.drop 2) from fun n hn => hb n (List.drop_subset _ _ hn))
  have HB := Lib.hid hb
  have HL2 : Hid (2 ≤ (l.drop 2).length) := by simp [Hid]; omega
  have HL1 : Hid (2 ≤ l.length) := by simp [Hid]; omega
  have HG : Hid (g32 l = g16 l * 65536 + g16 (l.drop 2)) := rfl
  have HO := Lib.hid (or_high32 16 (g16 l * 65536) (g16 (l.drop 2)) (by omega) (by omega) hr2.1 (by omega) (by omega) (by omega))
  clear hb hp
  obtain ⟨p1, p2⟩ := hr1
  obtain ⟨p3, p4⟩ := hr2
  clear hv
  go_enter Try.func21, Try.ntmps21
  go_wp2_with fail
  go_quiet (first
    | (go_at_call 20; refine Calls.quiet_of (get16_any _ _ l HV.out HB.out HL1.out))
    | (go_at_call 20; refine Calls.quiet_of (get16_any _ _ (l.drop 2) HP.out HB2.out HL2.out)))
  rw [HO.out, ← HG.out]
  go_wp2
  go_ret
  exact ⟨rfl, _, rfl⟩

/-- A part stands in front: its kind, its bytes, and what is behind it. -/
def PartAs (w : World) (v : Value) (c : Int) (x r : List Int) (e : Ending) (w' : World) : Prop :=
  ∃ vx vr, e = .returned (.tuple #[.int .u8 c, vx, vr, .bool true]) ∧ VwB w' vx x ∧ VwB w' vr r ∧ vx.ownBlock = v.ownBlock ∧ vr.ownBlock = v.ownBlock ∧ ∃ n, w' = w.drewN n

set_option maxRecDepth 20000 in
set_option maxHeartbeats 400000 in
theorem part_yes (w : World) (v : Value) (l : List Int) (c : Int) (x r : List Int) (hl : l = c :: (x.length : Int) :: (x ++ r)) (hv : VwB w v l) (hb : Byte l) :
    Calls Try.prog 24 #[v] w (PartAs w v c x r) := by
  have hlen : l.length = x.length + r.length + 2 := by subst hl; simp
  have hx : (l.drop 2).take x.length = x := by subst hl; simp
  have hr : (l.drop (2 + x.length)).take r.length = r := by subst hl; rw [Nat.add_comm]; simp [List.drop_append]
  obtain ⟨b, off, cap, rfl, hc1, hc2, hlt, hc⟩ := hv.open (by rintro rfl; simp at hlen)
  have c0 := hc 0 (by omega)
  have c1 := hc 1 (by omega)
  have r1 := hb.at 1 (by omega)
  have e0 : l[0]'(by omega) = c := by subst hl; rfl
  have e1 : l[1]'(by omega) = x.length := by subst hl; rfl
  rw [e0, Nat.add_zero] at c0
  rw [e1] at c1 r1
  have H1 := Lib.hid (hv.cut (i := 2) (k := x.length) (k' := 2 + x.length - 2) (c := cap - 2) (m := x) hx.symm (by omega) (by omega) (by omega))
  have H2 := Lib.hid (hv.cut (i := 2 + x.length) (k := r.length) (k' := x.length + r.length + 2 - (2 + x.length)) (c := cap - (2 + x.length)) (m := r) hr.symm (by omega) (by omega) (by omega))
  have r3 := r1.2
  clear hc hb hx hr e0 e1 hv r1
  generalize l.length = N at *
  subst hlen
  generalize x.length = X at *
  generalize r.length = R at *
  have hM : X + R + 2 ≤ 9223372036854775807 := by unfold maxLen at hc2; omega
  go_enter Try.func24, Try.ntmps24
  go_wp2_with fail
  go_quiet (fail)
  have B1 := Lib.hid (ownBlock_if (c := cap = 2) b off (off + 2) (2 + X - 2) (cap - 2))
  have B2 := Lib.hid (ownBlock_if (c := cap = 2 + X) b off (off + (2 + X)) (X + R + 2 - (2 + X)) (cap - (2 + X)))
  generalize hv1 : Value.slice (if cap = 2 then some ⟨b, off, none⟩ else some ⟨b, off + 2, none⟩) (2 + X - 2) (cap - 2) = v1 at H1 B1 ⊢
  generalize hv2 : Value.slice (if cap = 2 + X then some ⟨b, off, none⟩ else some ⟨b, off + (2 + X), none⟩) (X + R + 2 - (2 + X)) (cap - (2 + X)) = v2 at H2 B2 ⊢
  clear hv1 hv2
  go_wp2
  try simp only [Exit.inBlock, Exit.then]
  refine bodyPost_ret (results_tmp4 rfl _ _ _) rfl ?_
  exact ⟨v1, v2, rfl, H1.out.drewN _, H2.out.drewN _, B1.out, B2.out, _, rfl⟩

set_option maxRecDepth 100000 in
theorem and128 : ∀ n : Nat, n < 256 → (bits .and .u8 n 128 != 0) = decide (128 ≤ n) := by decide
theorem and128i (x : Int) (h0 : 0 ≤ x) (h1 : x < 256) : (bits .and .u8 x 128 != 0) = decide (128 ≤ x) := by
  obtain ⟨n, rfl⟩ := Int.eq_ofNat_of_zero_le h0
  rw [and128 n (by omega)]
  exact decide_eq_decide.2 (by omega)
theorem flag_dec (r : Bool) (t : Int) (h0 : 0 ≤ t) (h1 : t ≤ 4095) : (bits .and .u8 ((t + flagI r 32768) / 256 % 256) 128 != 0) = r := by
  rw [and128i _ (by omega) (by omega)]
  cases r
  · exact decide_eq_false (by simp only [flagI]; simp; omega)
  · exact decide_eq_true (by simp only [flagI]; simp; omega)
theorem flag_keeps (k : Bool) : (bits .and .u8 (flagI k 128) 128 != 0) = k := by cases k <;> decide
theorem time_dec (r : Bool) (t : Int) (h0 : 0 ≤ t) (h1 : t ≤ 4095) : bits .and .i64 (t + flagI r 32768) 4095 = t := by
  have h2 : flagI r 32768 = 0 ∨ flagI r 32768 = 32768 := by unfold flagI; cases r <;> simp
  have := and_mask 12 (by omega) (t + flagI r 32768) (by omega) (by omega)
  rw [show (2 : Int) ^ 12 - 1 = 4095 by decide, show (2 : Int) ^ 12 = 4096 by decide] at this
  rw [this]
  omega

def gcaps (t : Int) (r k : Bool) : List Int := be16 (t + flagI r 32768) ++ [0, 1, 1, flagI k 128]
def Opn.withG (o : Opn) (t : Int) (r k : Bool) : Opn := { o with graceful := true, keeps := k, restarts := r, time := t }

set_option maxRecDepth 20000 in
set_option maxHeartbeats 1000000 in
theorem restarts_yes (w : World) (ob : Nat) (o : Opn) (hB : Blk w ob o.cells 25) (v : Value) (t : Int) (r k : Bool) (ht0 : 0 ≤ t) (ht1 : t ≤ 4095) (hv : VwB w v (gcaps t r k)) (hne : v.ownBlock ≠ some ob) :
    Calls Try.prog 27 #[.pointer (some ⟨ob, 0, none⟩), v] w fun e w' => e = .returned (.bool true) ∧ Blk w' ob (o.withG t r k).cells 25 ∧ Only [ob] w w' := by
  have hlen : (gcaps t r k).length = 6 := by simp [gcaps, be16]
  have hb : Byte (gcaps t r k) := by
    intro n hn
    simp only [gcaps, be16, List.cons_append, List.nil_append, List.mem_cons, List.not_mem_nil, or_false] at hn
    rcases hn with rfl | rfl | rfl | rfl | rfl | rfl
    all_goals first | omega | (unfold flagI; split <;> omega)
  obtain ⟨b, off, cap, rfl, hc1, hc2, hlt, hc⟩ := hv.open (by intro h; rw [h] at hlen; simp at hlen)
  have hbo : b ≠ ob := fun h => hne (by rw [h]; rfl)
  have hob : ob ≠ b := fun h => hbo h.symm
  have c0 := hc 0 (by omega)
  have c5 := hc 5 (by omega)
  rw [Nat.add_zero] at c0
  have e0 : (gcaps t r k)[0]'(by omega) = (t + flagI r 32768) / 256 % 256 := rfl
  have e5 : (gcaps t r k)[5]'(by omega) = flagI k 128 := rfl
  rw [e0] at c0
  rw [e5] at c5
  have hg16 : g16 (gcaps t r k) = t + flagI r 32768 := by
    have : g16 (gcaps t r k) = (t + flagI r 32768) / 256 % 256 * 256 + (t + flagI r 32768) % 256 := rfl
    have h2 : 0 ≤ flagI r 32768 ∧ flagI r 32768 ≤ 32768 := by unfold flagI; split <;> omega
    omega
  have hp := hv.part (i := 2) (k := 4) (c := cap - 2) (m := [0, 1, 1, flagI k 128]) rfl (by omega) (by omega) (by omega)
  have HL : Hid ((gcaps t r k).length = 6) := hlen
  rw [hlen] at hv hc1 hne ⊢
  clear e0 e5 hlen
  have HV := Lib.hid hv
  have HP := Lib.hid hp
  have HBB := Lib.hid hB
  have HBY := Lib.hid hb
  have HG := Lib.hid hg16
  have s6 : w.cell? ⟨ob, 6, none⟩ = some (.bool o.graceful) := by rw [hB.cell]; rfl
  have s7 : w.cell? ⟨ob, 7, none⟩ = some (.int .i64 o.time) := by rw [hB.cell]; rfl
  have s8 : w.cell? ⟨ob, 8, none⟩ = some (.bool o.restarts) := by rw [hB.cell]; rfl
  have s9 : w.cell? ⟨ob, 9, none⟩ = some (.bool o.keeps) := by rw [hB.cell]; rfl
  have f6 := hB.free 6
  have f7 := hB.free 7
  have f8 := hB.free 8
  have f9 := hB.free 9
  clear hv hp hc hb hg16 hB
  go_enter Try.func27, Try.ntmps27
  go_wp2_with fail
  have hB1 : Blk ((w.setCell ⟨ob, 6, none⟩ (.bool true)).setCell ⟨ob, 9, none⟩ (.bool false)) ob ({ o with graceful := true, keeps := false } : Opn).cells 25 := (HBB.out.set 6 _).set 9 _
  have hO1 : Only [ob] w ((w.setCell ⟨ob, 6, none⟩ (.bool true)).setCell ⟨ob, 9, none⟩ (.bool false)) := ((Only.refl _ _).setCell (by simp) _ _).setCell (by simp) _ _
  clear s6 s7 s8 s9 f6 f7 f8 f9
  generalize (w.setCell ⟨ob, 6, none⟩ (.bool true)).setCell ⟨ob, 9, none⟩ (.bool false) = w1 at hB1 hO1 ⊢
  have hbn : b ∉ [ob] := by simpa using hbo
  have HV1 := Lib.hid (HV.out.keep hO1 (fun x hx => by cases hx; exact hbn))
  have HP1 := Lib.hid (HP.out.keep hO1 (fun x hx => by cases hx; exact hbn))
  rw [← hO1.cell hlt hbn] at c0 c5
  have hlt1 : b < w1.heap.size := Nat.lt_of_lt_of_le hlt hO1.size
  have s7 : w1.cell? ⟨ob, 7, none⟩ = some (.int .i64 o.time) := by rw [hB1.cell]; rfl
  have s8 : w1.cell? ⟨ob, 8, none⟩ = some (.bool o.restarts) := by rw [hB1.cell]; rfl
  have f7 := hB1.free 7
  have f8 := hB1.free 8
  have HB1 := Lib.hid hB1
  have HO1 := Lib.hid hO1
  clear hB1 hO1 HV HP HBB
  have hand : (bits .and .u8 ((t + flagI r 32768) / 256 % 256) 128 != 0) = r := flag_dec r t ht0 ht1
  have hmask : bits .and .i64 (t + flagI r 32768) 4095 = t := time_dec r t ht0 ht1
  have HA := Lib.hid hand
  have HM := Lib.hid hmask
  clear hand hmask
  generalize hT : t + flagI r 32768 = T at *
  go_region_held3 (fun W => W.cell? ⟨b, off, none⟩ = some (.int .u8 (T / 256 % 256)) ∧ W.frozen? ⟨ob, 7, none⟩ = false ∧ W.frozen? ⟨ob, 8, none⟩ = false) (first | assumption | go_keep)
    (first
      | (go_at_call 20; refine (get16_any _ _ _ HV1.out.drew HBY.out (by rw [HL.out]; omega)).mono ?_; rintro e w2 ⟨rfl, n2, hw2⟩; rw [HG.out]; have hS2 : w2.cell? ⟨b, off, none⟩ = some (.int .u8 (T / 256 % 256)) ∧ w2.frozen? ⟨ob, 7, none⟩ = false ∧ w2.frozen? ⟨ob, 8, none⟩ = false := by rw [hw2]; exact ⟨c0, f7, f8⟩)
      )
  rw [HA.out, HM.out]
  have hB3 : Blk (((w1.drewN (1 + n2)).setCell ⟨ob, 8, none⟩ (.bool r)).setCell ⟨ob, 7, none⟩ (.int .i64 t)) ob ({ o with graceful := true, keeps := false, restarts := r, time := t } : Opn).cells 25 := ((HB1.out.drewN _).set 8 _).set 7 _
  have hO3 : Only [ob] w (((w1.drewN (1 + n2)).setCell ⟨ob, 8, none⟩ (.bool r)).setCell ⟨ob, 7, none⟩ (.int .i64 t)) := (((HO1.out.drewN _)).setCell (by simp) _ _).setCell (by simp) _ _
  have hO4 : Only [ob] w1 (((w1.drewN (1 + n2)).setCell ⟨ob, 8, none⟩ (.bool r)).setCell ⟨ob, 7, none⟩ (.int .i64 t)) := ((((Only.refl _ _).drewN _)).setCell (by simp) _ _).setCell (by simp) _ _
  clear hS2 hw2
  generalize ((w1.drewN (1 + n2)).setCell ⟨ob, 8, none⟩ (.bool r)).setCell ⟨ob, 7, none⟩ (.int .i64 t) = w3 at hB3 hO3 hO4 ⊢
  have HP3 := Lib.hid (HP1.out.keep hO4 (fun x hx => by cases hx; exact hbn))
  rw [← hO4.cell hlt1 hbn] at c5
  have hlt3 : b < w3.heap.size := Nat.lt_of_lt_of_le hlt1 hO4.size
  have s9 : w3.cell? ⟨ob, 9, none⟩ = some (.bool false) := by rw [hB3.cell]; rfl
  have f9 := hB3.free 9
  have HB3 := Lib.hid hB3
  have HO3 := Lib.hid hO3
  have HBY3 : Hid (Byte [0, 1, 1, flagI k 128]) := by
    intro n hn
    simp only [List.mem_cons, List.not_mem_nil, or_false] at hn
    rcases hn with rfl | rfl | rfl | rfl
    all_goals first | omega | (unfold flagI; split <;> omega)
  have hk : 0 ≤ flagI k 128 ∧ flagI k 128 ≤ 255 := by unfold flagI; split <;> omega
  obtain ⟨hk0, hk1⟩ := hk
  have HK := Lib.hid (flag_keeps k)
  have H32 : Hid (g32 [0, 1, 1, flagI k 128] = 65536 + 256 + flagI k 128) := by
    show (0 * 256 + 1) * 65536 + (1 * 256 + flagI k 128) = _
    omega
  clear hB3 hO3 hO4 HB1 HO1 HV1 HP1 hlt1 s7 s8 f7 f8 c0 hlt HL HBY HG HA HM
  generalize flagI k 128 = K at *
  go_wp2_with fail
  go_loopw [1] (fun v wr => (v = .slice (some ⟨b, off + 2, none⟩) 4 (cap - 2) ∧ wr = w3) ∨ ∃ a c, v = .slice a 0 c ∧ Blk wr ob (o.withG t r k).cells 25 ∧ Only [ob] w wr) (fun v _ => match v with | .slice _ n _ => n | _ => 0)
  case atStart => exact .inl ⟨rfl, rfl⟩
  case round =>
    rcases hrel with ⟨rfl, rfl⟩ | ⟨a, c, rfl, hbb, hoo⟩
    · go_wp2_with fail
      refine (get32_any _ _ _ HP3.out HBY3.out (by simp)).mono ?_
      rintro e w4 ⟨rfl, n4, rfl⟩
      rw [H32.out]
      go_wp2_with fail
      rw [HK.out]
      refine ⟨.inr ⟨_, _, rfl, ?_, ((HO3.out.drewN _).setCell (by simp) _ _)⟩, by simp⟩
      exact (HB3.out.drewN _).set 9 _
    · have HBB := Lib.hid hbb
      have HOO := Lib.hid hoo
      clear hbb hoo
      go_wp2_with fail
      go_ret
      exact ⟨rfl, HBB.out, HOO.out⟩

/-- What a capability says, of the ones that Build writes, or of one that is unknown. -/
inductive CapIs : Opn → Int → List Int → Opn → Prop
  | multi (o : Opn) : CapIs o 1 [0, 1, 0, 1] { o with multi := true }
  | refresh (o : Opn) : CapIs o 2 [] { o with refresh := true }
  | graceful (o : Opn) (t : Int) (r k : Bool) (h0 : 0 ≤ t) (h1 : t ≤ 4095) : CapIs o 64 (gcaps t r k) (o.withG t r k)
  | four (o : Opn) (n : Int) (h0 : 0 ≤ n) (h1 : n ≤ 4294967295) : CapIs o 65 (be32 n) { o with four := true, sys := n }
  | other (o : Opn) (c : Int) (x : List Int) (h1 : c ≠ 1) (h2 : c ≠ 2) (h3 : c ≠ 64) (h4 : c ≠ 65) : CapIs o c x o

theorem g32_be32 (n : Int) (h0 : 0 ≤ n) (h1 : n ≤ 4294967295) : g32 (be32 n) = n := by
  show (n / 65536 / 256 % 256 * 256 + n / 65536 % 256) * 65536 + (n / 256 % 256 * 256 + n % 256) = n
  omega

set_option maxRecDepth 20000 in
set_option maxHeartbeats 1000000 in
theorem capability_yes (w : World) (ob : Nat) (o o' : Opn) (hB : Blk w ob o.cells 25) (v : Value) (c : Int) (x : List Int) (hc : CapIs o c x o') (hb : Byte x) (hc0 : 0 ≤ c) (hc1 : c < 256) (hv : VwB w v x) (hne : v.ownBlock ≠ some ob) :
    Calls Try.prog 26 #[.pointer (some ⟨ob, 0, none⟩), .int .u8 c, v] w fun e w' => e = .returned (.bool true) ∧ Blk w' ob o'.cells 25 ∧ Only [ob] w w' := by
  have HV := Lib.hid hv
  have HBY := Lib.hid hb
  have HNE := Lib.hid hne
  have HBB := Lib.hid hB
  obtain ⟨a, cap, rfl, hl1, hl2⟩ := hv.shape
  have s3 : w.cell? ⟨ob, 3, none⟩ = some (.bool o.multi) := by rw [hB.cell]; rfl
  have f3 := hB.free 3
  have f4 := hB.free 4
  have f0 := hB.free 0
  have f5 := hB.free 5
  have s4 : w.cell? ⟨ob, 4, none⟩ = some (.bool o.four) := by rw [hB.cell]; rfl
  have s5 : w.cell? ⟨ob, 5, none⟩ = some (.bool o.refresh) := by rw [hB.cell]; rfl
  have s0 : w.cell? ⟨ob, 0, none⟩ = some (.int .u32 o.sys) := by rw [hB.cell]; rfl
  clear hv hb hne hB
  cases hc
  case multi =>
    have H32 : Hid (g32 [0, 1, 0, 1] = 65537) := rfl
    go_enter Try.func26, Try.ntmps26
    go_wp2_with fail
    · go_ret
      exact ⟨rfl, HBB.out.set 3 _, (Only.refl _ _).setCell (by simp) _ _⟩
    · refine (get32_any _ _ _ HV.out HBY.out (by simp)).mono ?_
      rintro e w1 ⟨rfl, n, rfl⟩
      rw [H32.out]
      go_wp2_with fail
      go_ret
      exact ⟨rfl, (HBB.out.drewN _).set 3 _, ((Only.refl _ _).drewN _).setCell (by simp) _ _⟩
  case refresh =>
    go_enter Try.func26, Try.ntmps26
    go_wp2_with fail
    go_ret
    exact ⟨rfl, HBB.out.set 5 _, (Only.refl _ _).setCell (by simp) _ _⟩
  case graceful t r k h0 h1 =>
    go_enter Try.func26, Try.ntmps26
    go_wp2_with fail
    refine (restarts_yes _ ob o HBB.out _ t r k h0 h1 HV.out HNE.out).mono ?_
    rintro e w1 ⟨rfl, hb1, ho1⟩
    have H1 := Lib.hid hb1
    have H2 := Lib.hid ho1
    clear hb1 ho1
    go_wp2_with fail
    go_ret
    exact ⟨rfl, H1.out, H2.out⟩
  case four n h0 h1 =>
    have H32 := Lib.hid (g32_be32 n h0 h1)
    have HL : Hid (4 ≤ (be32 n).length) := by simp [Hid, be32]
    have HL2 : Hid ((be32 n).length = 4) := by simp [Hid, be32]
    have hl4 : (be32 n).length = 4 := HL2.out
    rw [hl4] at *
    clear hl4
    go_enter Try.func26, Try.ntmps26
    go_wp2_with fail
    refine (get32_any _ _ _ HV.out HBY.out (by rw [HL2.out]; omega)).mono ?_
    rintro e w1 ⟨rfl, m, rfl⟩
    rw [H32.out]
    go_wp2_with fail
    go_ret
    exact ⟨rfl, ((HBB.out.drewN _).set 4 _).set 0 _, (((Only.refl _ _).drewN _).setCell (by simp) _ _).setCell (by simp) _ _⟩
  case other h1 h2 h3 h4 =>
    go_enter Try.func26, Try.ntmps26
    go_wp2_with fail
    go_ret
    exact ⟨rfl, HBB.out, Only.refl _ _⟩
end Go.Proofs.Ytdbahaajgedgkaa
