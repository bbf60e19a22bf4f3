/-
  MarkFeeds: for all pieces the law returns true and leaves its argument alone (no condition).
-/
import Derived.Test.YtcpoaghogpkagaaMarkLaw
import Derived.ShutString
import Derived.Deep.DeepCutAuto
namespace Go.Proofs.Ytcpoaghogpkagaa
set_option linter.unusedSimpArgs false
set_option linter.unusedVariables false
open Go.RowKit Go.Pm


/-- Both splitters hold the same bytes, or are dead. -/
def BothAt (W : World) (K : Hl) (x y : Nat) (k : Nat) (w : World) : Prop :=
  ∃ held d, Stable held ∧ Byte held ∧ held.length ≤ k * 400 ∧ (d = true → held = []) ∧ Ow W K [Spl x held d, RSpl y held d] w

def PieceAt (W : World) (K : Hl) (L : List HP) (v : Value) (w : World) : Prop := ∃ pa q c, v = .slice pa q.length c ∧ q.length ≤ 400 ∧ Byte q ∧ Kn K (fun w => VwB w v q) ∧ Ow W K L w

theorem vwB_heap {w w' : World} {v : Value} {l : List Int} (hw : w'.heap = w.heap) (h : VwB w v l) : VwB w' v l := by
  obtain ⟨a, cap, rfl, h1, h2, h3, h4, h5⟩ := h
  refine ⟨a, cap, rfl, h1, h2, h3, h4, fun hne => ?_⟩
  obtain ⟨b, off, rfl, hc⟩ := h5 hne
  refine ⟨b, off, rfl, fun j u hu => ?_⟩
  have := hc j u hu
  unfold World.cell? at this ⊢
  rw [hw]
  exact this

/-- What a piece does to a splitter. -/
def Outcome (held : List Int) (d : Bool) (q : List Int) (ms : List (Int × List Int)) (f : Option (Int × List Int)) (r : List Int) (ok d' : Bool) : Prop :=
  (d = false ∧ Parses (held ++ q) ms f r ∧ ok = f.isNone ∧ d' = f.isSome) ∨ (d = true ∧ held = [] ∧ ms = [] ∧ f = none ∧ r = [] ∧ ok = false ∧ d' = true)
theorem outcome_exists (held : List Int) (d : Bool) (q : List Int) (hd : d = true → held = []) : ∃ ms f r ok d', Outcome held d q ms f r ok d' := by
  cases d
  · obtain ⟨ms, f, r, hp⟩ := parses_exists _ (held ++ q) (Nat.le_refl _)
    exact ⟨ms, f, r, _, _, .inl ⟨rfl, hp, rfl, rfl⟩⟩
  · exact ⟨[], none, [], false, true, .inr ⟨rfl, hd rfl, rfl, rfl, rfl, rfl, rfl⟩⟩

theorem outcome_byte {held q : List Int} {d ok d' : Bool} {ms : List (Int × List Int)} {f : Option (Int × List Int)} {r : List Int} (h : Outcome held d q ms f r ok d') (hy : Byte held) (hq : Byte q) : Byte r ∧ (∀ p ∈ ms, Byte p.2) ∧ Byte (dataOf f) := by
  rcases h with ⟨_, hp, _, _⟩ | ⟨_, _, rfl, rfl, rfl, _, _⟩
  · exact byte_of_parses (hy.append hq) hp
  · simp [Byte, dataOf]
theorem outcome_left {held q : List Int} {d ok d' : Bool} {ms : List (Int × List Int)} {f : Option (Int × List Int)} {r : List Int} (h : Outcome held d q ms f r ok d') : Stable r ∧ (d' = true → r = []) ∧ r.length ≤ held.length + q.length := by
  rcases h with ⟨_, hp, _, rfl⟩ | ⟨_, _, rfl, rfl, rfl, _, _⟩
  · have h1 := parses_left hp
    have h2 := parses_length hp
    simp at h2
    refine ⟨?_, h1.2, by omega⟩
    cases f with
    | none => exact h1.1 rfl
    | some f => rw [h1.2 rfl]; exact stable_nil
  · exact ⟨stable_nil, fun _ => rfl, by simp⟩

def FByte (f : Option (Int × List Int)) : Prop := Byte (dataOf f)
theorem faults_ok (w : World) (a b : Value) (f : Option (Int × List Int)) (ha : FaultV w a f) (hb : FaultV w b f) (hy : FByte f) :
    Calls Try.prog 18 #[a, b] w fun e w' => e = .returned (.bool true) ∧ Only [] w w' := faults_yes w a b f ha hb hy

def FedX (W : World) (K : Hl) (L : List HP) (T : TypeId) (ms : List (Int × List Int)) (f : Option (Int × List Int)) (ok : Bool) (s7 s8 s9 : Value) (w : World) : Prop :=
  ∃ (b8 : Nat) (es : List Ms) (la : Option Addr) (lc : Nat) (fa : Option Addr) (fc : Nat), s8 = .pointer (some ⟨b8, 0, none⟩) ∧ s9 = .bool ok ∧ s7 = .slice la es.length lc ∧ es.map Ms.pair = ms ∧
    Ow W K (pts b8 [.int .i64 (codeOf f), .int .i64 (subOf f), .slice fa (dataOf f).length fc] 38 :: VB (.slice fa (dataOf f).length fc) (dataOf f) :: Sl T 2 (.slice la es.length lc) es.length (msCells es) :: Bod es :: L) w

theorem fault_open {W : World} {K : Hl} {L R : List HP} {w : World} {fv : Value} {f : Option (Int × List Int)} (H : Ow W K L w) (h : Tk L (FaultP fv f) R) :
    ∃ a c, fv = .agg #[.int .i64 (codeOf f), .int .i64 (subOf f), .slice a (dataOf f).length c] ∧ Ow W K (VB (.slice a (dataOf f).length c) (dataOf f) :: R) w := by
  obtain ⟨dv, H2⟩ := H.open h (Bs := fun dv => [pu (fv = .agg #[.int .i64 (codeOf f), .int .i64 (subOf f), dv]), VB dv (dataOf f)]) (fun k hk => by
    obtain ⟨dv, h1, h2⟩ := hk
    exact ⟨dv, fun _ => none, k, ⟨h1, fun _ => rfl⟩, ⟨k, fun _ => none, h2, fun _ => rfl, fun _ => .inr rfl, by funext b; simp [Hl.add]⟩, fun _ => .inl rfl, by funext b; simp [Hl.add]⟩)
  have h1 := H2.pu .here
  obtain ⟨a, c, rfl, _, _⟩ := (H2.vvB (.there .here)).shape
  exact ⟨a, c, h1, H2.drop⟩

set_option maxRecDepth 100000 in
set_option maxHeartbeats 4000000 in
theorem feeds_walk (W : World) (a : Option Addr) (n c : Nat) (hn : n ≤ c) (hc : c ≤ maxLen)
    (hp : n = 0 ∨ ∃ (b off : Nat) (ps : Nat → Value × List Int), a = some ⟨b, off, none⟩ ∧ b < W.heap.size ∧ ∀ i, i < n → W.cell? ⟨b, off + i, none⟩ = some (ps i).1 ∧ VwB W (ps i).1 (ps i).2 ∧ Byte (ps i).2) :
    Calls Try.prog 4 #[.slice a n c] W fun e w' => e = .returned (.bool true) ∧ Only [] W w' := by
  have hn9 : n ≤ 9223372036854775807 := by unfold maxLen at hc; omega
  have HP := Lib.hid hp
  clear hp hc
  go_enter Try.func4, Try.ntmps4
  go_wp2_with fail
  refine (new_any _).mono ?_
  rintro e w1 ⟨rfl, hs1, hw1⟩
  have H := (Ow.start W).freshPts hw1 hs1
  clear hs1 hw1
  obtain ⟨K, hK⟩ : ∃ K, K = World.all W := ⟨_, rfl⟩
  rw [← hK] at H
  have HK := Lib.hid hK
  clear hK
  go_wp2_with (first | ((with_reducible refine Ow.absorb H ?_); clear H; intro w H) | ((with_reducible refine Ow.absorbCalls H ?_); clear H; intro w H) | (with_reducible refine wpList_ld1 H (by with_unfolding_all exact rfl) (by with_unfolding_all exact rfl) (by (repeat (first | exact Tk.here | apply Tk.there))) (by decide +kernel) (by with_unfolding_all exact rfl) (by (first | exact Pt.n | (apply Pt.s; repeat (first | exact SetAt.z | apply SetAt.s)))) ?_) | (with_reducible refine wpList_ldN H (by with_unfolding_all exact rfl) (by with_unfolding_all exact rfl) (by (repeat (first | exact Tk.here | apply Tk.there))) (by (repeat (first | exact Len.z | apply Len.s))) (by decide +kernel) (by (first | exact Pt.n | (apply Pt.s; repeat (first | exact SetAt.z | apply SetAt.s)))) ?_) | ((with_reducible refine wpList_st1 H (by with_unfolding_all exact rfl) (by with_unfolding_all exact rfl) (by (first | exact Ev.c | (apply Ev.t; repeat (first | exact Nth.z | apply Nth.s)))) (by (repeat (first | exact Tk.here | apply Tk.there))) (by decide +kernel) (by with_unfolding_all exact rfl) (by (repeat (first | exact SetAt.z | apply SetAt.s))) (by (first | exact Pt.n | (apply Pt.s; repeat (first | exact SetAt.z | apply SetAt.s)))) ?_); clear H; intro w H) | ((with_reducible refine wpList_stN H (by with_unfolding_all exact rfl) (by with_unfolding_all exact rfl) (by (first | exact Ev.c | (apply Ev.t; repeat (first | exact Nth.z | apply Nth.s)))) (by (repeat (first | exact Tk.here | apply Tk.there))) (by (repeat (first | exact Len.z | apply Len.s))) (by (repeat (first | exact Len.z | apply Len.s))) (by decide +kernel) (by with_unfolding_all exact rfl) (by (first | exact Pt.n | (apply Pt.s; repeat (first | exact SetAt.z | apply SetAt.s)))) ?_); clear H; intro w H))
  have HJ : Hid (BothAt W K W.heap.size w1.heap.size 0 w) := by
    refine ⟨[], false, stable_nil, by simp [Byte], by simp, by simp, ?_⟩
    have H2 := H.vbNil.vbNil
    have H3 := H2.shut (A := Spl W.heap.size [] false) (M := [pts W.heap.size [_, .bool true, .bool false] 56, VB _ []]) (by (first | ((with_reducible (repeat (first | exact Sb.nil | apply Sb.cons | exact Tk.here | apply Tk.there))); done) | (repeat (first | exact Sb.nil | apply Sb.cons | exact Tk.here | apply Tk.there)))) (fun k hk => ⟨_, hk⟩)
    have H4 := H3.shut (A := RSpl w1.heap.size [] false) (M := [pts w1.heap.size [_, .bool false] 35, VB _ []]) (by (first | ((with_reducible (repeat (first | exact Sb.nil | apply Sb.cons | exact Tk.here | apply Tk.there))); done) | (repeat (first | exact Sb.nil | apply Sb.cons | exact Tk.here | apply Tk.there)))) (fun k hk => ⟨_, hk⟩)
    exact H4.sel (by (first | ((with_reducible (repeat (first | exact Sb.nil | apply Sb.cons | exact Tk.here | apply Tk.there))); done) | (repeat (first | exact Sb.nil | apply Sb.cons | exact Tk.here | apply Tk.there))))
  clear H
  generalize W.heap.size = x at HJ ⊢
  generalize w1.heap.size = y at HJ ⊢
  go_loopw [5] (fun iv wr => ∃ k : Nat, k ≤ 20 ∧ k ≤ n ∧ iv = .int .i64 k ∧ BothAt W K x y k wr) (fun iv _ => 20 - (intOf iv).toNat)
  case atStart => exact ⟨0, by omega, by omega, rfl, HJ.out⟩
  case round =>
    clear HJ
    obtain ⟨k, hk, hkn, rfl, held, d, hst, hy, hl, hd, H⟩ := hrel
    obtain ⟨w, rfl⟩ : ∃ w, w = wr := ⟨_, rfl⟩
    have HO : Hid (Only [] W w) := by have := H; rw [HK.out] at this; exact this.fin
    by_cases hlt : k < n
    · by_cases hlt2 : k < 20
      · have hpp : ∃ (b off : Nat) (ps : Nat → Value × List Int), a = some ⟨b, off, none⟩ ∧ b < W.heap.size ∧ ∀ i, i < n → W.cell? ⟨b, off + i, none⟩ = some (ps i).1 ∧ VwB W (ps i).1 (ps i).2 ∧ Byte (ps i).2 := by
          rcases HP.out with h | h
          · omega
          · exact h
        obtain ⟨b, off, ps, rfl, hbl, hps⟩ := hpp
        obtain ⟨g1, g2, g3⟩ := hps k hlt
        obtain ⟨pa, pc, hpv, hpl, hpm⟩ := g2.shape
        rw [hpv] at g1 g2
        have e1 : w.cell? ⟨b, off + k, none⟩ = some (.slice pa (ps k).2.length pc) := (HO.out.cell hbl (by simp) _).trans g1
        have HPW := Lib.hid g2
        have HPY := Lib.hid g3
        unfold maxLen at hpm
        clear g1 g2 g3 hps hpv HP
        generalize (ps k).2 = p at *
        have hki : (k : Int) < (n : Int) := by omega
        have HKP : Hid (Kn K (fun w => VwB w (.slice pa p.length pc) p)) := by
          rw [HK.out]
          exact Kn.all (fun w h => (HPW.out).only h) (fun w w' hw h => vwB_heap hw h)
        go_upto_region 7 with (first | ((with_reducible refine Ow.absorb H ?_); clear H; intro w H) | ((with_reducible refine Ow.absorbCalls H ?_); clear H; intro w H) | (with_reducible refine wpList_ld1 H (by with_unfolding_all exact rfl) (by with_unfolding_all exact rfl) (by (repeat (first | exact Tk.here | apply Tk.there))) (by decide +kernel) (by with_unfolding_all exact rfl) (by (first | exact Pt.n | (apply Pt.s; repeat (first | exact SetAt.z | apply SetAt.s)))) ?_) | (with_reducible refine wpList_ldN H (by with_unfolding_all exact rfl) (by with_unfolding_all exact rfl) (by (repeat (first | exact Tk.here | apply Tk.there))) (by (repeat (first | exact Len.z | apply Len.s))) (by decide +kernel) (by (first | exact Pt.n | (apply Pt.s; repeat (first | exact SetAt.z | apply SetAt.s)))) ?_) | ((with_reducible refine wpList_st1 H (by with_unfolding_all exact rfl) (by with_unfolding_all exact rfl) (by (first | exact Ev.c | (apply Ev.t; repeat (first | exact Nth.z | apply Nth.s)))) (by (repeat (first | exact Tk.here | apply Tk.there))) (by decide +kernel) (by with_unfolding_all exact rfl) (by (repeat (first | exact SetAt.z | apply SetAt.s))) (by (first | exact Pt.n | (apply Pt.s; repeat (first | exact SetAt.z | apply SetAt.s)))) ?_); clear H; intro w H) | ((with_reducible refine wpList_stN H (by with_unfolding_all exact rfl) (by with_unfolding_all exact rfl) (by (first | exact Ev.c | (apply Ev.t; repeat (first | exact Nth.z | apply Nth.s)))) (by (repeat (first | exact Tk.here | apply Tk.there))) (by (repeat (first | exact Len.z | apply Len.s))) (by (repeat (first | exact Len.z | apply Len.s))) (by decide +kernel) (by with_unfolding_all exact rfl) (by (first | exact Pt.n | (apply Pt.s; repeat (first | exact SetAt.z | apply SetAt.s)))) ?_); clear H; intro w H))
        go_cut [6] (fun v wx => PieceAt W K [Spl x held d, RSpl y held d] v wx)
        case first =>
          by_cases h4 : p.length ≤ 400
          · have h4i : (p.length : Int) ≤ 400 := by omega
            go_quiet (fail)
            go_wp2_with fail
            go_meet
            exact ⟨pa, p, pc, rfl, h4, HPY.out, HKP.out, H.drewN _⟩
          · have h4i : (400 : Int) < p.length := by omega
            have h4j : (400 : Int) ≤ pc := by omega
            go_quiet (fail)
            go_wp2_with fail
            go_meet
            refine ⟨pa, p.take 400, pc, ?_, by simp; omega, fun z hz => HPY.out z (List.take_subset _ _ hz), ?_, H.drewN _⟩
            · rw [show (p.take 400).length = 400 by simp; omega]
            · exact HKP.out.imp (fun w hv => hv.pre (by omega))
        case rest =>
          clear H
          rename World => w4
          obtain ⟨pa2, q, qc, rfl, hq4, hqy, hqk, H⟩ := hcut
          obtain ⟨ms, f, r, ok, d', hout⟩ := outcome_exists held d q hd
          obtain ⟨w, rfl⟩ : ∃ w, w = w4 := ⟨_, rfl⟩
          go_upto_region 8 with (first | ((with_reducible refine Ow.absorb H ?_); clear H; intro w H) | ((with_reducible refine Ow.absorbCalls H ?_); clear H; intro w H) | (with_reducible refine wpList_ld1 H (by with_unfolding_all exact rfl) (by with_unfolding_all exact rfl) (by (repeat (first | exact Tk.here | apply Tk.there))) (by decide +kernel) (by with_unfolding_all exact rfl) (by (first | exact Pt.n | (apply Pt.s; repeat (first | exact SetAt.z | apply SetAt.s)))) ?_) | (with_reducible refine wpList_ldN H (by with_unfolding_all exact rfl) (by with_unfolding_all exact rfl) (by (repeat (first | exact Tk.here | apply Tk.there))) (by (repeat (first | exact Len.z | apply Len.s))) (by decide +kernel) (by (first | exact Pt.n | (apply Pt.s; repeat (first | exact SetAt.z | apply SetAt.s)))) ?_) | ((with_reducible refine wpList_st1 H (by with_unfolding_all exact rfl) (by with_unfolding_all exact rfl) (by (first | exact Ev.c | (apply Ev.t; repeat (first | exact Nth.z | apply Nth.s)))) (by (repeat (first | exact Tk.here | apply Tk.there))) (by decide +kernel) (by with_unfolding_all exact rfl) (by (repeat (first | exact SetAt.z | apply SetAt.s))) (by (first | exact Pt.n | (apply Pt.s; repeat (first | exact SetAt.z | apply SetAt.s)))) ?_); clear H; intro w H) | ((with_reducible refine wpList_stN H (by with_unfolding_all exact rfl) (by with_unfolding_all exact rfl) (by (first | exact Ev.c | (apply Ev.t; repeat (first | exact Nth.z | apply Nth.s)))) (by (repeat (first | exact Tk.here | apply Tk.there))) (by (repeat (first | exact Len.z | apply Len.s))) (by (repeat (first | exact Len.z | apply Len.s))) (by decide +kernel) (by with_unfolding_all exact rfl) (by (first | exact Pt.n | (apply Pt.s; repeat (first | exact SetAt.z | apply SetAt.s)))) ?_); clear H; intro w H))
          go_cut [7, 8, 9] (fun s7 s8 s9 wx => FedX W K [Spl x r d', RSpl y held d] 53 ms f ok s7 s8 s9 wx)
          case first =>
            go_wp2_with (first | ((with_reducible refine Ow.absorb H ?_); clear H; intro w H) | ((with_reducible refine Ow.absorbCalls H ?_); clear H; intro w H) | (with_reducible refine wpList_ld1 H (by with_unfolding_all exact rfl) (by with_unfolding_all exact rfl) (by (repeat (first | exact Tk.here | apply Tk.there))) (by decide +kernel) (by with_unfolding_all exact rfl) (by (first | exact Pt.n | (apply Pt.s; repeat (first | exact SetAt.z | apply SetAt.s)))) ?_) | (with_reducible refine wpList_ldN H (by with_unfolding_all exact rfl) (by with_unfolding_all exact rfl) (by (repeat (first | exact Tk.here | apply Tk.there))) (by (repeat (first | exact Len.z | apply Len.s))) (by decide +kernel) (by (first | exact Pt.n | (apply Pt.s; repeat (first | exact SetAt.z | apply SetAt.s)))) ?_) | ((with_reducible refine wpList_st1 H (by with_unfolding_all exact rfl) (by with_unfolding_all exact rfl) (by (first | exact Ev.c | (apply Ev.t; repeat (first | exact Nth.z | apply Nth.s)))) (by (repeat (first | exact Tk.here | apply Tk.there))) (by decide +kernel) (by with_unfolding_all exact rfl) (by (repeat (first | exact SetAt.z | apply SetAt.s))) (by (first | exact Pt.n | (apply Pt.s; repeat (first | exact SetAt.z | apply SetAt.s)))) ?_); clear H; intro w H) | ((with_reducible refine wpList_stN H (by with_unfolding_all exact rfl) (by with_unfolding_all exact rfl) (by (first | exact Ev.c | (apply Ev.t; repeat (first | exact Nth.z | apply Nth.s)))) (by (repeat (first | exact Tk.here | apply Tk.there))) (by (repeat (first | exact Len.z | apply Len.s))) (by (repeat (first | exact Len.z | apply Len.s))) (by decide +kernel) (by with_unfolding_all exact rfl) (by (first | exact Pt.n | (apply Pt.s; repeat (first | exact SetAt.z | apply SetAt.s)))) ?_); clear H; intro w H))
            refine (bytes_any _ _ (Only.refl _ _) _ q (hqk.of H) (by omega)).mono ?_
            rintro e w5 ⟨v5, rfl, ho5, hw5⟩
            replace H := H.freshB hw5 ho5
            obtain ⟨a5, c5, hv5, _, _⟩ := (H.vwB (by (with_reducible (repeat (first | exact Tk.here | apply Tk.there))))).shape
            subst hv5
            clear ho5 hw5
            rcases hout with ⟨rfl, hp, rfl, rfl⟩ | ⟨rfl, rfl, rfl, rfl, rfl, rfl, rfl⟩
            · go_wp2_with (first | ((with_reducible refine Ow.absorb H ?_); clear H; intro w H) | ((with_reducible refine Ow.absorbCalls H ?_); clear H; intro w H) | (with_reducible refine wpList_ld1 H (by with_unfolding_all exact rfl) (by with_unfolding_all exact rfl) (by (repeat (first | exact Tk.here | apply Tk.there))) (by decide +kernel) (by with_unfolding_all exact rfl) (by (first | exact Pt.n | (apply Pt.s; repeat (first | exact SetAt.z | apply SetAt.s)))) ?_) | (with_reducible refine wpList_ldN H (by with_unfolding_all exact rfl) (by with_unfolding_all exact rfl) (by (repeat (first | exact Tk.here | apply Tk.there))) (by (repeat (first | exact Len.z | apply Len.s))) (by decide +kernel) (by (first | exact Pt.n | (apply Pt.s; repeat (first | exact SetAt.z | apply SetAt.s)))) ?_) | ((with_reducible refine wpList_st1 H (by with_unfolding_all exact rfl) (by with_unfolding_all exact rfl) (by (first | exact Ev.c | (apply Ev.t; repeat (first | exact Nth.z | apply Nth.s)))) (by (repeat (first | exact Tk.here | apply Tk.there))) (by decide +kernel) (by with_unfolding_all exact rfl) (by (repeat (first | exact SetAt.z | apply SetAt.s))) (by (first | exact Pt.n | (apply Pt.s; repeat (first | exact SetAt.z | apply SetAt.s)))) ?_); clear H; intro w H) | ((with_reducible refine wpList_stN H (by with_unfolding_all exact rfl) (by with_unfolding_all exact rfl) (by (first | exact Ev.c | (apply Ev.t; repeat (first | exact Nth.z | apply Nth.s)))) (by (repeat (first | exact Tk.here | apply Tk.there))) (by (repeat (first | exact Len.z | apply Len.s))) (by (repeat (first | exact Len.z | apply Len.s))) (by decide +kernel) (by with_unfolding_all exact rfl) (by (first | exact Pt.n | (apply Pt.s; repeat (first | exact SetAt.z | apply SetAt.s)))) ?_); clear H; intro w H))
              refine (feed_spec x _ held q hy hqy (by omega) ms f r hp).call H (by (first | ((with_reducible (repeat (first | exact Sb.nil | apply Sb.cons | exact Tk.here | apply Tk.there))); done) | (repeat (first | exact Sb.nil | apply Sb.cons | exact Tk.here | apply Tk.there)))) (Kr.vwB (by (with_reducible (repeat (first | exact Tk.here | apply Tk.there))))) ?_
              rintro v L' ⟨lv, es, fv, rfl, hes, rfl⟩ w6 H6
              simp only [List.cons_append, List.nil_append] at H6
              clear H
              obtain ⟨fa, fc, rfl, H⟩ := fault_open H6 (by (with_reducible (repeat (first | exact Tk.here | apply Tk.there))))
              obtain ⟨_, la, lc, rfl, _, _⟩ := H.slShape (by (with_reducible (repeat (first | exact Tk.here | apply Tk.there))))
              clear H6
              go_wp2_with (first | ((with_reducible refine Ow.absorb H ?_); clear H; intro w H) | ((with_reducible refine Ow.absorbCalls H ?_); clear H; intro w H) | (with_reducible refine wpList_ld1 H (by with_unfolding_all exact rfl) (by with_unfolding_all exact rfl) (by (repeat (first | exact Tk.here | apply Tk.there))) (by decide +kernel) (by with_unfolding_all exact rfl) (by (first | exact Pt.n | (apply Pt.s; repeat (first | exact SetAt.z | apply SetAt.s)))) ?_) | (with_reducible refine wpList_ldN H (by with_unfolding_all exact rfl) (by with_unfolding_all exact rfl) (by (repeat (first | exact Tk.here | apply Tk.there))) (by (repeat (first | exact Len.z | apply Len.s))) (by decide +kernel) (by (first | exact Pt.n | (apply Pt.s; repeat (first | exact SetAt.z | apply SetAt.s)))) ?_) | ((with_reducible refine wpList_st1 H (by with_unfolding_all exact rfl) (by with_unfolding_all exact rfl) (by (first | exact Ev.c | (apply Ev.t; repeat (first | exact Nth.z | apply Nth.s)))) (by (repeat (first | exact Tk.here | apply Tk.there))) (by decide +kernel) (by with_unfolding_all exact rfl) (by (repeat (first | exact SetAt.z | apply SetAt.s))) (by (first | exact Pt.n | (apply Pt.s; repeat (first | exact SetAt.z | apply SetAt.s)))) ?_); clear H; intro w H) | ((with_reducible refine wpList_stN H (by with_unfolding_all exact rfl) (by with_unfolding_all exact rfl) (by (first | exact Ev.c | (apply Ev.t; repeat (first | exact Nth.z | apply Nth.s)))) (by (repeat (first | exact Tk.here | apply Tk.there))) (by (repeat (first | exact Len.z | apply Len.s))) (by (repeat (first | exact Len.z | apply Len.s))) (by decide +kernel) (by with_unfolding_all exact rfl) (by (first | exact Pt.n | (apply Pt.s; repeat (first | exact SetAt.z | apply SetAt.s)))) ?_); clear H; intro w H))
              go_meet
              exact ⟨_, es, la, lc, fa, fc, rfl, rfl, rfl, hes, H.sel (by (first | ((with_reducible (repeat (first | exact Sb.nil | apply Sb.cons | exact Tk.here | apply Tk.there))); done) | (repeat (first | exact Sb.nil | apply Sb.cons | exact Tk.here | apply Tk.there))))⟩
            · obtain ⟨vb, H⟩ := H.open (A := Spl x [] true) (by (with_reducible (repeat (first | exact Tk.here | apply Tk.there)))) (Bs := fun vb => [pts x [vb, .bool true, .bool true] 56, VB vb []]) (fun _ h => h)
              simp only [List.cons_append, List.nil_append] at H
              go_wp2_with (first | ((with_reducible refine Ow.absorb H ?_); clear H; intro w H) | ((with_reducible refine Ow.absorbCalls H ?_); clear H; intro w H) | (with_reducible refine wpList_ld1 H (by with_unfolding_all exact rfl) (by with_unfolding_all exact rfl) (by (repeat (first | exact Tk.here | apply Tk.there))) (by decide +kernel) (by with_unfolding_all exact rfl) (by (first | exact Pt.n | (apply Pt.s; repeat (first | exact SetAt.z | apply SetAt.s)))) ?_) | (with_reducible refine wpList_ldN H (by with_unfolding_all exact rfl) (by with_unfolding_all exact rfl) (by (repeat (first | exact Tk.here | apply Tk.there))) (by (repeat (first | exact Len.z | apply Len.s))) (by decide +kernel) (by (first | exact Pt.n | (apply Pt.s; repeat (first | exact SetAt.z | apply SetAt.s)))) ?_) | ((with_reducible refine wpList_st1 H (by with_unfolding_all exact rfl) (by with_unfolding_all exact rfl) (by (first | exact Ev.c | (apply Ev.t; repeat (first | exact Nth.z | apply Nth.s)))) (by (repeat (first | exact Tk.here | apply Tk.there))) (by decide +kernel) (by with_unfolding_all exact rfl) (by (repeat (first | exact SetAt.z | apply SetAt.s))) (by (first | exact Pt.n | (apply Pt.s; repeat (first | exact SetAt.z | apply SetAt.s)))) ?_); clear H; intro w H) | ((with_reducible refine wpList_stN H (by with_unfolding_all exact rfl) (by with_unfolding_all exact rfl) (by (first | exact Ev.c | (apply Ev.t; repeat (first | exact Nth.z | apply Nth.s)))) (by (repeat (first | exact Tk.here | apply Tk.there))) (by (repeat (first | exact Len.z | apply Len.s))) (by (repeat (first | exact Len.z | apply Len.s))) (by decide +kernel) (by with_unfolding_all exact rfl) (by (first | exact Pt.n | (apply Pt.s; repeat (first | exact SetAt.z | apply SetAt.s)))) ?_); clear H; intro w H))
              refine (feed_dead _ x _ _ (H.blk (by (with_reducible (repeat (first | exact Tk.here | apply Tk.there)))))).mono ?_
              rintro e w6 ⟨rfl, hw6⟩
              replace H := H.only hw6
              clear hw6
              go_wp2_with (first | ((with_reducible refine Ow.absorb H ?_); clear H; intro w H) | ((with_reducible refine Ow.absorbCalls H ?_); clear H; intro w H) | (with_reducible refine wpList_ld1 H (by with_unfolding_all exact rfl) (by with_unfolding_all exact rfl) (by (repeat (first | exact Tk.here | apply Tk.there))) (by decide +kernel) (by with_unfolding_all exact rfl) (by (first | exact Pt.n | (apply Pt.s; repeat (first | exact SetAt.z | apply SetAt.s)))) ?_) | (with_reducible refine wpList_ldN H (by with_unfolding_all exact rfl) (by with_unfolding_all exact rfl) (by (repeat (first | exact Tk.here | apply Tk.there))) (by (repeat (first | exact Len.z | apply Len.s))) (by decide +kernel) (by (first | exact Pt.n | (apply Pt.s; repeat (first | exact SetAt.z | apply SetAt.s)))) ?_) | ((with_reducible refine wpList_st1 H (by with_unfolding_all exact rfl) (by with_unfolding_all exact rfl) (by (first | exact Ev.c | (apply Ev.t; repeat (first | exact Nth.z | apply Nth.s)))) (by (repeat (first | exact Tk.here | apply Tk.there))) (by decide +kernel) (by with_unfolding_all exact rfl) (by (repeat (first | exact SetAt.z | apply SetAt.s))) (by (first | exact Pt.n | (apply Pt.s; repeat (first | exact SetAt.z | apply SetAt.s)))) ?_); clear H; intro w H) | ((with_reducible refine wpList_stN H (by with_unfolding_all exact rfl) (by with_unfolding_all exact rfl) (by (first | exact Ev.c | (apply Ev.t; repeat (first | exact Nth.z | apply Nth.s)))) (by (repeat (first | exact Tk.here | apply Tk.there))) (by (repeat (first | exact Len.z | apply Len.s))) (by (repeat (first | exact Len.z | apply Len.s))) (by decide +kernel) (by with_unfolding_all exact rfl) (by (first | exact Pt.n | (apply Pt.s; repeat (first | exact SetAt.z | apply SetAt.s)))) ?_); clear H; intro w H))
              go_meet
              have H7 := H.shut (A := Spl x [] true) (M := [pts x [vb, .bool true, .bool true] 56, VB vb []]) (by (first | ((with_reducible (repeat (first | exact Sb.nil | apply Sb.cons | exact Tk.here | apply Tk.there))); done) | (repeat (first | exact Sb.nil | apply Sb.cons | exact Tk.here | apply Tk.there)))) (fun k hk => ⟨_, hk⟩)
              have H8 := (H7.vbNil.slNil (e := 53) (sz := 2)).satsNil
              exact ⟨_, [], none, 0, none, 0, rfl, rfl, rfl, rfl, H8.sel (by (first | ((with_reducible (repeat (first | exact Sb.nil | apply Sb.cons | exact Tk.here | apply Tk.there))); done) | (repeat (first | exact Sb.nil | apply Sb.cons | exact Tk.here | apply Tk.there))))⟩
          case rest =>
            clear H
            rename World => w7
            obtain ⟨b8, es, la, lc, fa, fc, rfl, rfl, rfl, hes, H⟩ := hcut
            obtain ⟨w, rfl⟩ : ∃ w, w = w7 := ⟨_, rfl⟩
            go_upto_region 9 with (first | ((with_reducible refine Ow.absorb H ?_); clear H; intro w H) | ((with_reducible refine Ow.absorbCalls H ?_); clear H; intro w H) | (with_reducible refine wpList_ld1 H (by with_unfolding_all exact rfl) (by with_unfolding_all exact rfl) (by (repeat (first | exact Tk.here | apply Tk.there))) (by decide +kernel) (by with_unfolding_all exact rfl) (by (first | exact Pt.n | (apply Pt.s; repeat (first | exact SetAt.z | apply SetAt.s)))) ?_) | (with_reducible refine wpList_ldN H (by with_unfolding_all exact rfl) (by with_unfolding_all exact rfl) (by (repeat (first | exact Tk.here | apply Tk.there))) (by (repeat (first | exact Len.z | apply Len.s))) (by decide +kernel) (by (first | exact Pt.n | (apply Pt.s; repeat (first | exact SetAt.z | apply SetAt.s)))) ?_) | ((with_reducible refine wpList_st1 H (by with_unfolding_all exact rfl) (by with_unfolding_all exact rfl) (by (first | exact Ev.c | (apply Ev.t; repeat (first | exact Nth.z | apply Nth.s)))) (by (repeat (first | exact Tk.here | apply Tk.there))) (by decide +kernel) (by with_unfolding_all exact rfl) (by (repeat (first | exact SetAt.z | apply SetAt.s))) (by (first | exact Pt.n | (apply Pt.s; repeat (first | exact SetAt.z | apply SetAt.s)))) ?_); clear H; intro w H) | ((with_reducible refine wpList_stN H (by with_unfolding_all exact rfl) (by with_unfolding_all exact rfl) (by (first | exact Ev.c | (apply Ev.t; repeat (first | exact Nth.z | apply Nth.s)))) (by (repeat (first | exact Tk.here | apply Tk.there))) (by (repeat (first | exact Len.z | apply Len.s))) (by (repeat (first | exact Len.z | apply Len.s))) (by decide +kernel) (by with_unfolding_all exact rfl) (by (first | exact Pt.n | (apply Pt.s; repeat (first | exact SetAt.z | apply SetAt.s)))) ?_); clear H; intro w H))
            go_cut [10, 11, 12] (fun s7 s8 s9 wx => FedX W K [pts b8 [.int .i64 (codeOf f), .int .i64 (subOf f), .slice fa (dataOf f).length fc] 38, VB (.slice fa (dataOf f).length fc) (dataOf f), Sl 53 2 (.slice la es.length lc) es.length (msCells es), Bod es, Spl x r d', RSpl y r d'] 50 ms f ok s7 s8 s9 wx)
            case first =>
              have HK2 := Lib.hid hqk
              rcases hout with ⟨rfl, hp, rfl, rfl⟩ | ⟨rfl, rfl, rfl, rfl, rfl, rfl, rfl⟩
              · go_wp2_with (first | ((with_reducible refine Ow.absorb H ?_); clear H; intro w H) | ((with_reducible refine Ow.absorbCalls H ?_); clear H; intro w H) | (with_reducible refine wpList_ld1 H (by with_unfolding_all exact rfl) (by with_unfolding_all exact rfl) (by (repeat (first | exact Tk.here | apply Tk.there))) (by decide +kernel) (by with_unfolding_all exact rfl) (by (first | exact Pt.n | (apply Pt.s; repeat (first | exact SetAt.z | apply SetAt.s)))) ?_) | (with_reducible refine wpList_ldN H (by with_unfolding_all exact rfl) (by with_unfolding_all exact rfl) (by (repeat (first | exact Tk.here | apply Tk.there))) (by (repeat (first | exact Len.z | apply Len.s))) (by decide +kernel) (by (first | exact Pt.n | (apply Pt.s; repeat (first | exact SetAt.z | apply SetAt.s)))) ?_) | ((with_reducible refine wpList_st1 H (by with_unfolding_all exact rfl) (by with_unfolding_all exact rfl) (by (first | exact Ev.c | (apply Ev.t; repeat (first | exact Nth.z | apply Nth.s)))) (by (repeat (first | exact Tk.here | apply Tk.there))) (by decide +kernel) (by with_unfolding_all exact rfl) (by (repeat (first | exact SetAt.z | apply SetAt.s))) (by (first | exact Pt.n | (apply Pt.s; repeat (first | exact SetAt.z | apply SetAt.s)))) ?_); clear H; intro w H) | ((with_reducible refine wpList_stN H (by with_unfolding_all exact rfl) (by with_unfolding_all exact rfl) (by (first | exact Ev.c | (apply Ev.t; repeat (first | exact Nth.z | apply Nth.s)))) (by (repeat (first | exact Tk.here | apply Tk.there))) (by (repeat (first | exact Len.z | apply Len.s))) (by (repeat (first | exact Len.z | apply Len.s))) (by decide +kernel) (by with_unfolding_all exact rfl) (by (first | exact Pt.n | (apply Pt.s; repeat (first | exact SetAt.z | apply SetAt.s)))) ?_); clear H; intro w H))
                refine (rfeed_spec y _ held q hy hqy (by omega) ms f r hp (parses_count hst hp)).call H (by (first | ((with_reducible (repeat (first | exact Sb.nil | apply Sb.cons | exact Tk.here | apply Tk.there))); done) | (repeat (first | exact Sb.nil | apply Sb.cons | exact Tk.here | apply Tk.there)))) (Kr.kn HK2.out) ?_
                rintro v L' ⟨lv, es2, fv, rfl, hes2, rfl⟩ w6 H6
                simp only [List.cons_append, List.nil_append] at H6
                clear H
                obtain ⟨fa2, fc2, rfl, H⟩ := fault_open H6 (by (with_reducible (repeat (first | exact Tk.here | apply Tk.there))))
                obtain ⟨_, la2, lc2, rfl, _, _⟩ := H.slShape (e := 50) (by (with_reducible (repeat (first | exact Tk.here | apply Tk.there))))
                clear H6
                go_wp2_with (first | ((with_reducible refine Ow.absorb H ?_); clear H; intro w H) | ((with_reducible refine Ow.absorbCalls H ?_); clear H; intro w H) | (with_reducible refine wpList_ld1 H (by with_unfolding_all exact rfl) (by with_unfolding_all exact rfl) (by (repeat (first | exact Tk.here | apply Tk.there))) (by decide +kernel) (by with_unfolding_all exact rfl) (by (first | exact Pt.n | (apply Pt.s; repeat (first | exact SetAt.z | apply SetAt.s)))) ?_) | (with_reducible refine wpList_ldN H (by with_unfolding_all exact rfl) (by with_unfolding_all exact rfl) (by (repeat (first | exact Tk.here | apply Tk.there))) (by (repeat (first | exact Len.z | apply Len.s))) (by decide +kernel) (by (first | exact Pt.n | (apply Pt.s; repeat (first | exact SetAt.z | apply SetAt.s)))) ?_) | ((with_reducible refine wpList_st1 H (by with_unfolding_all exact rfl) (by with_unfolding_all exact rfl) (by (first | exact Ev.c | (apply Ev.t; repeat (first | exact Nth.z | apply Nth.s)))) (by (repeat (first | exact Tk.here | apply Tk.there))) (by decide +kernel) (by with_unfolding_all exact rfl) (by (repeat (first | exact SetAt.z | apply SetAt.s))) (by (first | exact Pt.n | (apply Pt.s; repeat (first | exact SetAt.z | apply SetAt.s)))) ?_); clear H; intro w H) | ((with_reducible refine wpList_stN H (by with_unfolding_all exact rfl) (by with_unfolding_all exact rfl) (by (first | exact Ev.c | (apply Ev.t; repeat (first | exact Nth.z | apply Nth.s)))) (by (repeat (first | exact Tk.here | apply Tk.there))) (by (repeat (first | exact Len.z | apply Len.s))) (by (repeat (first | exact Len.z | apply Len.s))) (by decide +kernel) (by with_unfolding_all exact rfl) (by (first | exact Pt.n | (apply Pt.s; repeat (first | exact SetAt.z | apply SetAt.s)))) ?_); clear H; intro w H))
                go_meet
                exact ⟨_, es2, la2, lc2, fa2, fc2, rfl, rfl, rfl, hes2, H.sel (by (first | ((with_reducible (repeat (first | exact Sb.nil | apply Sb.cons | exact Tk.here | apply Tk.there))); done) | (repeat (first | exact Sb.nil | apply Sb.cons | exact Tk.here | apply Tk.there))))⟩
              · obtain ⟨vb, H⟩ := H.open (A := RSpl y [] true) (by (with_reducible (repeat (first | exact Tk.here | apply Tk.there)))) (Bs := fun vb => [pts y [vb, .bool true] 35, VB vb []]) (fun _ h => h)
                simp only [List.cons_append, List.nil_append] at H
                go_wp2_with (first | ((with_reducible refine Ow.absorb H ?_); clear H; intro w H) | ((with_reducible refine Ow.absorbCalls H ?_); clear H; intro w H) | (with_reducible refine wpList_ld1 H (by with_unfolding_all exact rfl) (by with_unfolding_all exact rfl) (by (repeat (first | exact Tk.here | apply Tk.there))) (by decide +kernel) (by with_unfolding_all exact rfl) (by (first | exact Pt.n | (apply Pt.s; repeat (first | exact SetAt.z | apply SetAt.s)))) ?_) | (with_reducible refine wpList_ldN H (by with_unfolding_all exact rfl) (by with_unfolding_all exact rfl) (by (repeat (first | exact Tk.here | apply Tk.there))) (by (repeat (first | exact Len.z | apply Len.s))) (by decide +kernel) (by (first | exact Pt.n | (apply Pt.s; repeat (first | exact SetAt.z | apply SetAt.s)))) ?_) | ((with_reducible refine wpList_st1 H (by with_unfolding_all exact rfl) (by with_unfolding_all exact rfl) (by (first | exact Ev.c | (apply Ev.t; repeat (first | exact Nth.z | apply Nth.s)))) (by (repeat (first | exact Tk.here | apply Tk.there))) (by decide +kernel) (by with_unfolding_all exact rfl) (by (repeat (first | exact SetAt.z | apply SetAt.s))) (by (first | exact Pt.n | (apply Pt.s; repeat (first | exact SetAt.z | apply SetAt.s)))) ?_); clear H; intro w H) | ((with_reducible refine wpList_stN H (by with_unfolding_all exact rfl) (by with_unfolding_all exact rfl) (by (first | exact Ev.c | (apply Ev.t; repeat (first | exact Nth.z | apply Nth.s)))) (by (repeat (first | exact Tk.here | apply Tk.there))) (by (repeat (first | exact Len.z | apply Len.s))) (by (repeat (first | exact Len.z | apply Len.s))) (by decide +kernel) (by with_unfolding_all exact rfl) (by (first | exact Pt.n | (apply Pt.s; repeat (first | exact SetAt.z | apply SetAt.s)))) ?_); clear H; intro w H))
                refine (rfeed_dead _ y _ _ (H.blk (by (with_reducible (repeat (first | exact Tk.here | apply Tk.there)))))).mono ?_
                rintro e w6 ⟨rfl, hw6⟩
                replace H := H.only hw6
                clear hw6
                go_wp2_with (first | ((with_reducible refine Ow.absorb H ?_); clear H; intro w H) | ((with_reducible refine Ow.absorbCalls H ?_); clear H; intro w H) | (with_reducible refine wpList_ld1 H (by with_unfolding_all exact rfl) (by with_unfolding_all exact rfl) (by (repeat (first | exact Tk.here | apply Tk.there))) (by decide +kernel) (by with_unfolding_all exact rfl) (by (first | exact Pt.n | (apply Pt.s; repeat (first | exact SetAt.z | apply SetAt.s)))) ?_) | (with_reducible refine wpList_ldN H (by with_unfolding_all exact rfl) (by with_unfolding_all exact rfl) (by (repeat (first | exact Tk.here | apply Tk.there))) (by (repeat (first | exact Len.z | apply Len.s))) (by decide +kernel) (by (first | exact Pt.n | (apply Pt.s; repeat (first | exact SetAt.z | apply SetAt.s)))) ?_) | ((with_reducible refine wpList_st1 H (by with_unfolding_all exact rfl) (by with_unfolding_all exact rfl) (by (first | exact Ev.c | (apply Ev.t; repeat (first | exact Nth.z | apply Nth.s)))) (by (repeat (first | exact Tk.here | apply Tk.there))) (by decide +kernel) (by with_unfolding_all exact rfl) (by (repeat (first | exact SetAt.z | apply SetAt.s))) (by (first | exact Pt.n | (apply Pt.s; repeat (first | exact SetAt.z | apply SetAt.s)))) ?_); clear H; intro w H) | ((with_reducible refine wpList_stN H (by with_unfolding_all exact rfl) (by with_unfolding_all exact rfl) (by (first | exact Ev.c | (apply Ev.t; repeat (first | exact Nth.z | apply Nth.s)))) (by (repeat (first | exact Tk.here | apply Tk.there))) (by (repeat (first | exact Len.z | apply Len.s))) (by (repeat (first | exact Len.z | apply Len.s))) (by decide +kernel) (by with_unfolding_all exact rfl) (by (first | exact Pt.n | (apply Pt.s; repeat (first | exact SetAt.z | apply SetAt.s)))) ?_); clear H; intro w H))
                go_meet
                have H7 := H.shut (A := RSpl y [] true) (M := [pts y [vb, .bool true] 35, VB vb []]) (by (first | ((with_reducible (repeat (first | exact Sb.nil | apply Sb.cons | exact Tk.here | apply Tk.there))); done) | (repeat (first | exact Sb.nil | apply Sb.cons | exact Tk.here | apply Tk.there)))) (fun k hk => ⟨_, hk⟩)
                have H8 := (H7.vbNil.slNil (e := 50) (sz := 2)).satsNil
                exact ⟨_, [], none, 0, none, 0, rfl, rfl, rfl, rfl, H8.sel (by (first | ((with_reducible (repeat (first | exact Sb.nil | apply Sb.cons | exact Tk.here | apply Tk.there))); done) | (repeat (first | exact Sb.nil | apply Sb.cons | exact Tk.here | apply Tk.there))))⟩
            case rest =>
              clear H
              rename World => w8
              obtain ⟨b9, es2, la2, lc2, fa2, fc2, rfl, rfl, rfl, hes2, H⟩ := hcut
              obtain ⟨w, rfl⟩ : ∃ w, w = w8 := ⟨_, rfl⟩
              have hob := outcome_byte hout hy hqy
              have hol := outcome_left hout
              obtain ⟨vx, H⟩ := H.open (A := Spl x r d') (by (with_reducible (repeat (first | exact Tk.here | apply Tk.there)))) (Bs := fun vb => [pts x [vb, .bool true, .bool d'] 56, VB vb r]) (fun _ h => h)
              simp only [List.cons_append, List.nil_append] at H
              obtain ⟨vy, H⟩ := H.open (A := RSpl y r d') (by (with_reducible (repeat (first | exact Tk.here | apply Tk.there)))) (Bs := fun vb => [pts y [vb, .bool d'] 35, VB vb r]) (fun _ h => h)
              simp only [List.cons_append, List.nil_append] at H
              obtain ⟨xa, xc, rfl, _, _⟩ := (H.vvB (v := vx) (by (with_reducible (repeat (first | exact Tk.here | apply Tk.there))))).shape
              obtain ⟨ya, yc, rfl, _, _⟩ := (H.vvB (v := vy) (by (with_reducible (repeat (first | exact Tk.here | apply Tk.there))))).shape
              have HM1 : Hid (∀ X, Only [] w X → MsV X (.slice la es.length lc) es) := fun X hX => MsV.only ⟨H.vw (by (with_reducible (repeat (first | exact Tk.here | apply Tk.there)))), fun m hm => ⟨bods_v (es := es) H (by (with_reducible (repeat (first | exact Tk.here | apply Tk.there)))) m hm, hob.2.1 m.pair (by rw [← hes]; exact List.mem_map_of_mem hm)⟩⟩ hX
              have HM2 : Hid (∀ X, Only [] w X → MsV X (.slice la2 es2.length lc2) es2) := fun X hX => MsV.only ⟨H.vw (by (with_reducible (repeat (first | exact Tk.here | apply Tk.there)))), fun m hm => ⟨bods_v (es := es2) H (by (with_reducible (repeat (first | exact Tk.here | apply Tk.there)))) m hm, hob.2.1 m.pair (by rw [← hes2]; exact List.mem_map_of_mem hm)⟩⟩ hX
              have HF1 : Hid (∀ X, Only [] w X → FaultV X (.agg #[.int .i64 (codeOf f), .int .i64 (subOf f), .slice fa (dataOf f).length fc]) f) := fun X hX => ⟨_, rfl, (H.vvB (v := .slice fa (dataOf f).length fc) (by (with_reducible (repeat (first | exact Tk.here | apply Tk.there))))).only hX⟩
              have HF2 : Hid (∀ X, Only [] w X → FaultV X (.agg #[.int .i64 (codeOf f), .int .i64 (subOf f), .slice fa2 (dataOf f).length fc2]) f) := fun X hX => ⟨_, rfl, (H.vvB (v := .slice fa2 (dataOf f).length fc2) (by (with_reducible (repeat (first | exact Tk.here | apply Tk.there))))).only hX⟩
              have HFY : Hid (FByte f) := hob.2.2
              have HX1 : Hid (∀ X, Only [] w X → Blk X x #[.slice xa r.length xc, .bool true, .bool d'] 56 ∧ VwB X (.slice xa r.length xc) r) := fun X hX => ⟨(H.blk (b := x) (by (with_reducible (repeat (first | exact Tk.here | apply Tk.there))))).keep hX (by simp), (H.vvB (v := .slice xa r.length xc) (by (with_reducible (repeat (first | exact Tk.here | apply Tk.there))))).only hX⟩
              have HEQ : Hid (es.map Ms.pair = es2.map Ms.pair) := hes.trans hes2.symm
              have HSS : Hid (∀ X, Only [] w X → X.cell? ⟨b8, 0, none⟩ = some (.int .i64 (codeOf f)) ∧ X.cell? ⟨b8, 1, none⟩ = some (.int .i64 (subOf f)) ∧ X.cell? ⟨b8, 2, none⟩ = some (.slice fa (dataOf f).length fc) ∧
                  X.cell? ⟨b9, 0, none⟩ = some (.int .i64 (codeOf f)) ∧ X.cell? ⟨b9, 1, none⟩ = some (.int .i64 (subOf f)) ∧ X.cell? ⟨b9, 2, none⟩ = some (.slice fa2 (dataOf f).length fc2) ∧ X.cell? ⟨y, 0, none⟩ = some (.slice ya r.length yc)) := fun X hX => by
                have h8 := (H.blk (b := b8) (by (with_reducible (repeat (first | exact Tk.here | apply Tk.there))))).keep hX (by simp)
                have h9 := (H.blk (b := b9) (by (with_reducible (repeat (first | exact Tk.here | apply Tk.there))))).keep hX (by simp)
                have hyy := (H.blk (b := y) (by (with_reducible (repeat (first | exact Tk.here | apply Tk.there))))).keep hX (by simp)
                exact ⟨(h8.cell 0).trans rfl, (h8.cell 1).trans rfl, (h8.cell 2).trans rfl, (h9.cell 0).trans rfl, (h9.cell 1).trans rfl, (h9.cell 2).trans rfl, (hyy.cell 0).trans rfl⟩
              have HLS := Lib.hid hol
              have HRY := Lib.hid hob.1
              clear hob hol hes hes2 hout
              generalize codeOf f = fcode at *
              generalize subOf f = fsub at *
              generalize dataOf f = fdata at *
              go_upto_region 10 with fail
              go_region_held3 (fun X => X.cell? ⟨b8, 0, none⟩ = some (.int .i64 fcode) ∧ X.cell? ⟨b8, 1, none⟩ = some (.int .i64 fsub) ∧ X.cell? ⟨b8, 2, none⟩ = some (.slice fa fdata.length fc) ∧
                  X.cell? ⟨b9, 0, none⟩ = some (.int .i64 fcode) ∧ X.cell? ⟨b9, 1, none⟩ = some (.int .i64 fsub) ∧ X.cell? ⟨b9, 2, none⟩ = some (.slice fa2 fdata.length fc2) ∧ X.cell? ⟨y, 0, none⟩ = some (.slice ya r.length yc))
                (first | exact HSS.out _ (by (repeat (first | with_reducible exact Only.refl _ _ | with_reducible assumption | with_reducible apply Only.drew | with_reducible apply Only.drewN | with_reducible apply Only.alloc | (refine Only.setCell ?_ (by first | (left; simp; done) | (right; omega)) _ _)))) | exact HSS.out _ hO9)
                (first
                  | (go_at_call 17; (with_reducible refine (same_yes _ _ _ es es2 (HM1.out _ (by (repeat (first | with_reducible exact Only.refl _ _ | with_reducible assumption | with_reducible apply Only.drew | with_reducible apply Only.drewN | with_reducible apply Only.alloc | (refine Only.setCell ?_ (by first | (left; simp; done) | (right; omega)) _ _))))) (HM2.out _ (by (repeat (first | with_reducible exact Only.refl _ _ | with_reducible assumption | with_reducible apply Only.drew | with_reducible apply Only.drewN | with_reducible apply Only.alloc | (refine Only.setCell ?_ (by first | (left; simp; done) | (right; omega)) _ _))))) HEQ.out).mono ?_); rintro e w9 ⟨rfl, nn, rfl⟩)
                  | (go_at_call 18; (with_reducible refine (faults_ok _ _ _ f (HF1.out _ (by (repeat (first | with_reducible exact Only.refl _ _ | with_reducible assumption | with_reducible apply Only.drew | with_reducible apply Only.drewN | with_reducible apply Only.alloc | (refine Only.setCell ?_ (by first | (left; simp; done) | (right; omega)) _ _))))) (HF2.out _ (by (repeat (first | with_reducible exact Only.refl _ _ | with_reducible assumption | with_reducible apply Only.drew | with_reducible apply Only.drewN | with_reducible apply Only.alloc | (refine Only.setCell ?_ (by first | (left; simp; done) | (right; omega)) _ _))))) HFY.out).mono ?_); rintro e w9 ⟨rfl, hw9⟩; have hO9 : Only [] w w9 := Only.then (by (repeat (first | with_reducible exact Only.refl _ _ | with_reducible assumption | with_reducible apply Only.drew | with_reducible apply Only.drewN | with_reducible apply Only.alloc | (refine Only.setCell ?_ (by first | (left; simp; done) | (right; omega)) _ _)))) hw9)
                  | (go_at_call 19; (with_reducible refine (held_any _ x _ true d' r (HX1.out _ hO9).1 (HX1.out _ hO9).2).mono ?_); rintro e w10 ⟨rfl, rfl⟩))
              replace H := H.only hO9
              go_wp2_with fail
              go_roundw
              case rel =>
                refine ⟨k + 1, by omega, by omega, by go_num, r, d', HLS.out.1, HRY.out, by have := HLS.out.2.2; omega, HLS.out.2.1, ?_⟩
                have H7 := H.shut (A := Spl x r d') (M := [pts x [_, .bool true, .bool d'] 56, VB _ r]) (by (first | ((with_reducible (repeat (first | exact Sb.nil | apply Sb.cons | exact Tk.here | apply Tk.there))); done) | (repeat (first | exact Sb.nil | apply Sb.cons | exact Tk.here | apply Tk.there)))) (fun k hk => ⟨_, hk⟩)
                have H8 := H7.shut (A := RSpl y r d') (M := [pts y [_, .bool d'] 35, VB _ r]) (by (first | ((with_reducible (repeat (first | exact Sb.nil | apply Sb.cons | exact Tk.here | apply Tk.there))); done) | (repeat (first | exact Sb.nil | apply Sb.cons | exact Tk.here | apply Tk.there)))) (fun k hk => ⟨_, hk⟩)
                exact H8.sel (by (first | ((with_reducible (repeat (first | exact Sb.nil | apply Sb.cons | exact Tk.here | apply Tk.there))); done) | (repeat (first | exact Sb.nil | apply Sb.cons | exact Tk.here | apply Tk.there))))
              case measure => simp [intOf]; omega
      · have hk20 : k = 20 := by omega
        subst hk20
        go_wp2_with (first | ((with_reducible refine Ow.absorb H ?_); clear H; intro w H) | ((with_reducible refine Ow.absorbCalls H ?_); clear H; intro w H) | (with_reducible refine wpList_ld1 H (by with_unfolding_all exact rfl) (by with_unfolding_all exact rfl) (by (repeat (first | exact Tk.here | apply Tk.there))) (by decide +kernel) (by with_unfolding_all exact rfl) (by (first | exact Pt.n | (apply Pt.s; repeat (first | exact SetAt.z | apply SetAt.s)))) ?_) | (with_reducible refine wpList_ldN H (by with_unfolding_all exact rfl) (by with_unfolding_all exact rfl) (by (repeat (first | exact Tk.here | apply Tk.there))) (by (repeat (first | exact Len.z | apply Len.s))) (by decide +kernel) (by (first | exact Pt.n | (apply Pt.s; repeat (first | exact SetAt.z | apply SetAt.s)))) ?_) | ((with_reducible refine wpList_st1 H (by with_unfolding_all exact rfl) (by with_unfolding_all exact rfl) (by (first | exact Ev.c | (apply Ev.t; repeat (first | exact Nth.z | apply Nth.s)))) (by (repeat (first | exact Tk.here | apply Tk.there))) (by decide +kernel) (by with_unfolding_all exact rfl) (by (repeat (first | exact SetAt.z | apply SetAt.s))) (by (first | exact Pt.n | (apply Pt.s; repeat (first | exact SetAt.z | apply SetAt.s)))) ?_); clear H; intro w H) | ((with_reducible refine wpList_stN H (by with_unfolding_all exact rfl) (by with_unfolding_all exact rfl) (by (first | exact Ev.c | (apply Ev.t; repeat (first | exact Nth.z | apply Nth.s)))) (by (repeat (first | exact Tk.here | apply Tk.there))) (by (repeat (first | exact Len.z | apply Len.s))) (by (repeat (first | exact Len.z | apply Len.s))) (by decide +kernel) (by with_unfolding_all exact rfl) (by (first | exact Pt.n | (apply Pt.s; repeat (first | exact SetAt.z | apply SetAt.s)))) ?_); clear H; intro w H))
        refine (works_any _).mono ?_
        rintro e w5 ⟨rfl, hw5⟩
        go_wp2_with fail
        go_ret
        exact ⟨rfl, HO.out.then hw5⟩
    · obtain rfl : k = n := by omega
      go_wp2_with (first | ((with_reducible refine Ow.absorb H ?_); clear H; intro w H) | ((with_reducible refine Ow.absorbCalls H ?_); clear H; intro w H) | (with_reducible refine wpList_ld1 H (by with_unfolding_all exact rfl) (by with_unfolding_all exact rfl) (by (repeat (first | exact Tk.here | apply Tk.there))) (by decide +kernel) (by with_unfolding_all exact rfl) (by (first | exact Pt.n | (apply Pt.s; repeat (first | exact SetAt.z | apply SetAt.s)))) ?_) | (with_reducible refine wpList_ldN H (by with_unfolding_all exact rfl) (by with_unfolding_all exact rfl) (by (repeat (first | exact Tk.here | apply Tk.there))) (by (repeat (first | exact Len.z | apply Len.s))) (by decide +kernel) (by (first | exact Pt.n | (apply Pt.s; repeat (first | exact SetAt.z | apply SetAt.s)))) ?_) | ((with_reducible refine wpList_st1 H (by with_unfolding_all exact rfl) (by with_unfolding_all exact rfl) (by (first | exact Ev.c | (apply Ev.t; repeat (first | exact Nth.z | apply Nth.s)))) (by (repeat (first | exact Tk.here | apply Tk.there))) (by decide +kernel) (by with_unfolding_all exact rfl) (by (repeat (first | exact SetAt.z | apply SetAt.s))) (by (first | exact Pt.n | (apply Pt.s; repeat (first | exact SetAt.z | apply SetAt.s)))) ?_); clear H; intro w H) | ((with_reducible refine wpList_stN H (by with_unfolding_all exact rfl) (by with_unfolding_all exact rfl) (by (first | exact Ev.c | (apply Ev.t; repeat (first | exact Nth.z | apply Nth.s)))) (by (repeat (first | exact Tk.here | apply Tk.there))) (by (repeat (first | exact Len.z | apply Len.s))) (by (repeat (first | exact Len.z | apply Len.s))) (by decide +kernel) (by with_unfolding_all exact rfl) (by (first | exact Pt.n | (apply Pt.s; repeat (first | exact SetAt.z | apply SetAt.s)))) ?_); clear H; intro w H))
      refine (works_any _).mono ?_
      rintro e w5 ⟨rfl, hw5⟩
      go_wp2_with fail
      go_ret
      exact ⟨rfl, HO.out.then hw5⟩

namespace markFeeds
theorem walk {W : World} (n0 : Nat) {a0 : Option Addr} {l0 c0 : Nat} (g0 : Rd Try.prog W n0 30 (Value.slice a0 l0 c0).cells.toList) :
    Calls Try.prog 4 #[.slice a0 l0 c0] W fun e w' => e = .returned (.bool true) ∧ Only [] W w' := by
  obtain ⟨h1, h2, h3⟩ := Rd.byteses g0 Try.underlying30 (by kernel_rfl) Try.underlying22 Try.underlying5 (by kernel_rfl)
  exact feeds_walk W _ _ _ h1 h2 h3
end markFeeds
namespace markFeeds
open Go.ChangeShapes Go.WideShapes Go.ChangeAt
set_option linter.unusedVariables false

theorem own : ownKnob Try.prog.godebug = none := by kernel_rfl
theorem laidOut : laidOutB Try.prog = true := by kernel_rfl

set_option maxRecDepth 100000 in
theorem lifted (os : Os) (started : os.Started) (H : Type) (enc : TypeId × Value → H) :
    ReturnsInHanded {} Try.checked os 4 .any (Rows.markFeedsSpec.pre6 enc Try.prog Try.f4 Rows.markFeedsRow.domain false) (Rows.markFeedsSpec.post enc Try.prog Try.f4 false true false false) := by
  refine returnsInHanded_of_change (C := Try.checked) own started (by kernel_rfl) Try.func4
    (ChangeSpec.witness6 (enc := enc) (C := Try.checked) false ⟨#[], #[.slice none 0 0], []⟩ 8 (by kernel_rfl) (by kernel_rfl) (by kernel_rfl) (by kernel_rfl)) ?_
  intro W base args ds gs before hval0 hW hcnd hreach
  have hval : ∀ (j : Nat) t v, Try.f4.params[j]? = some t → args[j]? = some v → Value.okWide Try.prog W .any base t v := hval0
  have hW' := hW
  obtain ⟨p, q, hA0, hV, rfl, hfz, hnd⟩ := hW
  have hA : DataW.TrodAll enc Try.prog W 0 (fun _ => true) true Try.f4.params.toList args.toList ds p := hA0
  rw [Try.params4] at hA hval
  obtain ⟨v0, vs0, d0, ds0, p0, q0, hargs, rfl, rfl, h0, r0⟩ := trodAll_cons hA
  obtain ⟨rfl, rfl, rfl⟩ := trodAll_nil r0
  obtain rfl : args = #[v0] := by cases args; simp_all
  obtain ⟨rfl, rfl⟩ := trodVars_none hV
  have k0 := h0
  have lt0 : ∀ x ∈ p0, x.block < W.heap.size := by obtain ⟨m, hm⟩ := k0; exact DataW.trod_lt m _ _ _ hm
  obtain ⟨n0, g0⟩ := Rd.ofTrod' h0
  obtain ⟨a0, l0, c0, rfl⟩ := okWide_slice Try.underlying30 (hval 0 30 v0 rfl rfl)
  refine (walk n0 g0).mono fun e W' ⟨he, hg⟩ => ?_
  subst he
  have bel := hg.belowNil
  exact ⟨_, rfl, _, _, _, [], _, [], hW', trodAll_mk1 (shut_bool Try.underlying4 _), (trodAll_cons_mk (Below.trod laidOut (by kernel_rfl) (of_decide_eq_true (by kernel_rfl)) k0 bel lt0) trodAll_mk0), rfl, bel.frame _, fun h => by cases h⟩

theorem over : Rows.markFeedsRow.holds Try.pinned (OpenSpec.ofChange Rows.markFeedsSpec) :=
  OpenClaim.holds_of_wide 4 Try.f4 rfl rfl rfl rfl rfl rfl rfl ⟨rfl, rfl, rfl, rfl, rfl⟩ rfl rfl rfl rfl rfl (by kernel_rfl) Try.func4 (by kernel_rfl)
    (of_decide_eq_true (by kernel_rfl)) (by unfold Func.isWrapper; first | (rw [if_pos (by decide +kernel)]; kernel_rfl) | (rw [if_neg (by decide +kernel)]; exact ⟨rfl, rfl⟩))
    (fun os started H enc _ => lifted os started H enc)

/-- The statement. -/
theorem proved : Rows.MarkFeedsSaid := over
#print axioms proved
end markFeeds
end Go.Proofs.Ytcpoaghogpkagaa
