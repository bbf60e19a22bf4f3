/-
  RibLimit: more prefixes than the limit are refused, and then nothing is changed.
-/
import Derived.Test.YtnhabkipjmgaaaaGreatZRibLimit14
import Derived.HandedShaped
namespace Go.Proofs.YtnhabkipjmgaaaaGreat
set_option linter.unusedSimpArgs false
set_option linter.unusedVariables false
open Go.RowKit Go.Pm

open T (Pf PfN Rt Ah pfC)
def lN (n : Nat) : List Pf := (List.range n).map fun i => (((i : Nat) : Int) * 65536, 16)
theorem lN_len (n : Nat) : (lN n).length = n := by unfold lN; rw [List.length_map, List.length_range]
theorem mem_lN {n : Nat} {p : Pf} : p ∈ lN n ↔ ∃ i, i < n ∧ p = (((i : Nat) : Int) * 65536, 16) := by
  unfold lN
  rw [List.mem_map]
  constructor
  · rintro ⟨i, h, rfl⟩; exact ⟨i, List.mem_range.1 h, rfl⟩
  · rintro ⟨i, h, rfl⟩; exact ⟨i, List.mem_range.2 h, rfl⟩
theorem lN_snoc (n : Nat) : lN (n + 1) = lN n ++ [(((n : Nat) : Int) * 65536, 16)] := by
  unfold lN
  rw [List.range_succ, List.map_append]
  rfl
theorem lN_take {n k : Nat} (h : k ≤ n) : (lN n).take k = lN k := by
  unfold lN
  rw [← List.map_take, List.take_range, Nat.min_eq_left h]
theorem lN_rt {n : Nat} {p : Pf} (hp : p ∈ lN n) : Rt p := by
  obtain ⟨i, _, rfl⟩ := mem_lN.1 hp
  refine ⟨show (0 : Int) ≤ 16 by decide, show (16 : Int) ≤ 32 by decide, ?_⟩
  show ((i : Nat) : Int) * 65536 % 65536 = 0
  omega
theorem lN_n {n : Nat} (h : n ≤ 30) {p : Pf} (hp : p ∈ lN n) : PfN p := by
  obtain ⟨i, hi, rfl⟩ := mem_lN.1 hp
  refine ⟨?_, show (-9223372036854775808 : Int) ≤ 16 ∧ (16 : Int) ≤ 9223372036854775807 by decide⟩
  show (0 : Int) ≤ ((i : Nat) : Int) * 65536 ∧ ((i : Nat) : Int) * 65536 ≤ 4294967295
  omega
theorem lN_ne (n : Nat) : (lN n).Pairwise (· ≠ ·) := by
  unfold lN
  rw [List.pairwise_map]
  refine List.Pairwise.imp ?_ (List.pairwise_lt_range (n := n))
  intro a b hab he
  have := congrArg Prod.fst he
  dsimp only at this
  omega
theorem upL_mem {u : Up} (ho : okN u.d.nf = true) {p : Pf} : p ∈ upL u ↔ p ∈ u.td ∧ Rt p := by
  unfold upL
  rw [ho, if_pos rfl]
  exact mem_toldF
theorem upL_all {u : Up} (ho : okN u.d.nf = true) (hd : u.td.Pairwise (· ≠ ·)) (hr : ∀ p ∈ u.td, Rt p) : (upL u).length = u.td.length := by
  have h1 := upL_len u
  have h2 := nodup_len u.td (upL u) hd (fun p hp => (upL_mem ho).2 ⟨hp, hr p hp⟩)
  omega
theorem rel_nil : Rel 0 ⟨[], [], 0⟩ := ⟨fun j hj => by
  show (0 : Int) = 0 + if j = 0 then 1 else 0
  rw [if_neg (by omega)]; rfl, fun _ h => absurd h List.not_mem_nil⟩
theorem eok_nil : T.EOk [] := ⟨.nil, fun _ h => absurd h List.not_mem_nil⟩
/-- The first one. -/
theorem lim_one {lim k : Nat} {u : Up} (hk : k ≤ lim) (h20 : k ≤ 30) (hu : UpN u) (ho : okN u.d.nf = true) (hw : u.wd = []) (ht : u.td = lN k) : ¬ noRoom lim u ⟨[], [], 0⟩ ∧ (updF lim u ⟨[], [], 0⟩).E.length = k ∧ T.EOk (updF lim u ⟨[], [], 0⟩).E ∧ (∀ q, (T.getL (updF lim u ⟨[], [], 0⟩).E q).isSome = decide (q ∈ lN k)) ∧ (∀ q ∈ lN k, lk (updF lim u ⟨[], [], 0⟩) q = some (u.d.nf, false)) := by
  have hl : (upL u).length = k := by
    rw [upL_all ho (by rw [ht]; exact lN_ne k) (by rw [ht]; exact fun p hp => lN_rt hp), ht, lN_len]
  have hg : goneF [] (upL u) u.wd = [] := by rw [hw]; exact upO_g _ _
  have hf : freshN [] (upL u) = k := by
    have h1 : (upL u).filter (fun p => !(T.getL [] p).isSome) = upL u := List.filter_eq_self.2 (fun p _ => rfl)
    unfold freshN
    rw [h1, hl]
  have hr : ¬ noRoom lim u ⟨[], [], 0⟩ := by
    unfold noRoom
    dsimp only
    rw [hg, hf]
    simp only [List.length_nil]
    omega
  obtain ⟨r1, r2, r3⟩ := upd_rel (B := 0) (lim := lim) rel_nil eok_nil stok_nil (by omega) (by rw [ht, lN_len]; omega) hu
  have hm : ∀ q, q ∈ upL u ↔ q ∈ lN k := fun q => by
    rw [upL_mem ho, ht]
    exact ⟨fun h => h.1, fun h => ⟨h, lN_rt h⟩⟩
  refine ⟨hr, ?_, r3, fun q => ?_, fun q hq => ?_⟩
  · have h1 := endF_len (u := u) (σ := ⟨[], [], 0⟩) eok_nil
    dsimp only at h1
    rw [hg, hf] at h1
    unfold updF
    rw [if_neg hr]
    simp only [List.length_nil] at h1
    omega
  · have h1 := endF_get (u := u) (σ := ⟨[], [], 0⟩) (p := q) eok_nil
    unfold updF
    rw [if_neg hr]
    have h2 := congrArg Option.isSome h1
    rw [Option.isSome_map] at h2
    rw [h2]
    by_cases hq : q ∈ lN k
    · rw [if_pos ((hm q).2 hq), decide_eq_true hq]; rfl
    · rw [if_neg (fun h => hq ((hm q).1 h)), decide_eq_false hq, hw, if_neg List.not_mem_nil]; rfl
  · rw [r2, if_neg hr, if_pos ((hm q).2 hq)]
/-- The second one. -/
theorem lim_two {lim n k : Nat} {u : Up} {σ : Tb} (hk : k = min n lim) (ho : okN u.d.nf = true) (hw : ∀ p ∈ u.wd, p ∈ lN n) (ht : u.td = lN n) (hE : T.EOk σ.E) (hl : σ.E.length = k) (hs : ∀ q, (T.getL σ.E q).isSome = decide (q ∈ lN k)) : (n ≤ lim → updE lim u σ = 0 ∧ (updF lim u σ).E.length = n) ∧ (lim < n → updE lim u σ = 4 ∧ updF lim u σ = σ) := by
  have hm : ∀ q, q ∈ upL u ↔ q ∈ lN n := fun q => by
    rw [upL_mem ho, ht]
    exact ⟨fun h => h.1, fun h => ⟨h, lN_rt h⟩⟩
  have hg : (goneF σ.E (upL u) u.wd).length = 0 := by
    rw [List.length_eq_zero_iff, List.eq_nil_iff_forall_not_mem]
    intro p hp
    have h1 := mem_goneF.1 hp
    exact h1.2.2 ((hm p).2 (hw p h1.1))
  constructor
  · intro hn
    have hf : freshN σ.E (upL u) = 0 := by
      unfold freshN
      rw [List.length_eq_zero_iff, List.filter_eq_nil_iff]
      intro p hp
      rw [hs, decide_eq_true (by have := (hm p).1 hp; rw [hk, Nat.min_eq_left hn]; exact this)]
      simp
    have hr : ¬ noRoom lim u σ := by
      unfold noRoom
      rw [hg, hf, hl]
      omega
    have h1 := endF_len (u := u) hE
    rw [hg, hf, hl] at h1
    unfold updE updF
    rw [if_neg hr, if_neg hr]
    exact ⟨rfl, by omega⟩
  · intro hn
    have hf : 0 < freshN σ.E (upL u) := by
      unfold freshN
      refine List.length_pos_of_mem (a := (((lim : Nat) : Int) * 65536, 16)) (List.mem_filter.2 ⟨(hm _).2 (mem_lN.2 ⟨lim, hn, rfl⟩), ?_⟩)
      rw [hs, decide_eq_false]
      · rfl
      · intro h
        obtain ⟨i, hi, he⟩ := mem_lN.1 h
        have := congrArg Prod.fst he
        dsimp only at this
        omega
    have hr : noRoom lim u σ := by
      unfold noRoom
      rw [hg, hl]
      omega
    unfold updE updF
    rw [if_pos hr, if_pos hr]
    exact ⟨rfl, rfl⟩
end Go.Proofs.YtnhabkipjmgaaaaGreat
namespace Go.Proofs.YtnhabkipjmgaaaaGreat
set_option linter.unusedSimpArgs false
set_option linter.unusedVariables false
set_option maxRecDepth 20000
set_option maxHeartbeats 4000000
open Go.RowKit Go.Pm

open T (Pf PfN Rt Ah pfC)
abbrev oneU2 (wa : Option Addr) (wn wc : Nat) (ta : Option Addr) (tn tc : Nat) (z : Int) : List Value := [.slice wa wn wc, .slice ta tn tc, .int .i64 0, .slice none 0 0, .int .u32 1, .bool true, .int .u32 z, .bool false, .int .u32 0, .bool false, .bool false, .int .u32 0, .int .u32 0, .slice none 0 0, .slice none 0 0, .int .i64 0]
abbrev upN (wa : Option Addr) (wc : Nat) (wd : List Pf) (ta : Option Addr) (tc : Nat) (td : List Pf) (z : Int) : Up := ⟨wa, wc, wd, ta, tc, td, oneAt z, 0⟩
/-- An update with one(z). -/
theorem updN_s (b sp tb : Nat) (lim : Int) (σ : Tb) (B : Int) (hB0 : 0 ≤ B) (hB : B < 4096) (wa : Option Addr) (wn wc : Nat) (wd : List Pf) (ta : Option Addr) (tn tc : Nat) (td : List Pf) (z : Int) (hz : U32 z) (hwn : wd.length = wn) (htn : td.length = tn) (hw : ∀ p ∈ wd, PfN p) (ht : ∀ p ∈ td, PfN p) (hw2 : wn ≤ 1000) (ht2 : tn ≤ 1000) (hn : σ.E.length ≤ 2000) (hI : I64 lim) (hE : T.EOk σ.E) (hs : StOk B σ.S σ.c) :
    Pact Tryz.prog 12 #[.pointer (some ⟨b, 0, none⟩), .agg (oneU2 wa wn wc ta tn tc z).toArray] (fun w => Vw w (.slice wa wn wc) 2 wn (flat pfC wd) ∧ Vw w (.slice ta tn tc) 2 tn (flat pfC td)) (rtL b sp tb lim σ.E σ.S σ.c)
    (fun v L' => ∃ (a : Option Addr) (l cc : Nat) (τ : Tb), τ = updF lim (upN wa wc wd ta tc td z) σ ∧ v = .tuple #[.slice a l cc, .int .i64 (updE lim (upN wa wc wd ta tc td z) σ)] ∧ L' = rtL b sp tb lim τ.E τ.S τ.c) := by
  subst hwn
  subst htn
  intro W K w hK H
  refine (upd_s b sp tb lim (upN wa wc wd ta tc td z) σ B hB0 hB ⟨hw, ht, oneAt_f z hz, hw2, ht2⟩ hn hI hE hs W K w (fun w hr => ⟨(hK w hr).1, (hK w hr).2, oneAt_v z w⟩) H).mono fun e w' h => ?_
  obtain ⟨v, L', ⟨a, cc, rfl, rfl⟩, h5, h6⟩ := h
  exact ⟨_, _, ⟨a, _, cc, _, rfl, rfl, rfl⟩, h5, h6.sel xZ⟩
structure Ll where
  i : Nat
  a : Option Addr
  c : Nat
theorem limit_s (lm n : Int) (u : Up) (hlm : I64 lm) (hn : I64 n) (hu : UpA u) : Pact Tryz.prog 3 #[.int .i64 lm, .agg (upC u).toArray, .int .i64 n] (fun w => UpV w u) [] (ret0 (.bool true)) := by
  refine pact Tryz.func3 rfl Tryz.ntmps3 rfl ?_
  intro W K hK
  (repeat' (first | ((with_reducible apply gL); (first | refine yL0 ?_ | refine yL ?_ | ((with_reducible apply gL_go); (first | (refine JL_goq (works_s) (hφ := xF) (h := ?_); rintro _ _ ⟨rfl, rfl⟩; try simp only [List.cons_append, List.nil_append]) | (refine JL_goq (among_s lm 20 (by omega) (by omega) hlm) (hφ := xF) (h := ?_); rintro _ _ ⟨k1, rfl, hk1, rfl⟩; try simp only [List.cons_append, List.nil_append]) | (refine JL_goq (among_s n 30 (by omega) (by omega) hn) (hφ := xF) (h := ?_); rintro _ _ ⟨m, rfl, hm, rfl⟩; try simp only [List.cons_append, List.nil_append]) | fail)) | (refine yM ?_; intro _) | (refine yA ?_; intro _ _ _ _) | ((with_reducible apply gL_gd); (first | (refine JL_guard xR xR ?_ ?_ <;> intro _ <;> (try (exfalso; first | contradiction | omega))) | (refine JL_guardb xR xR ?_ ?_ <;> (intro hgb; subst hgb)) | (refine JL_guardb xR xR ?_ ?_ <;> (intro hgb; fail_if_success (have : type_of% hgb := rfl))) | fail)) | fail)) | ((with_reducible apply gD); (first | (refine JD_nil ?_; try simp only [List.cons_append, List.nil_append]) | (refine JD_bar ?_; try simp only [List.cons_append, List.nil_append]) | refine yD ?_ | ((with_reducible apply gD_go); (first | (refine JD_goq (works_s) (hφ := xF) (h := ?_); rintro _ _ ⟨rfl, rfl⟩; try simp only [List.cons_append, List.nil_append]) | (refine JD_goq (among_s lm 20 (by omega) (by omega) hlm) (hφ := xF) (h := ?_); rintro _ _ ⟨k1, rfl, hk1, rfl⟩; try simp only [List.cons_append, List.nil_append]) | (refine JD_goq (among_s n 30 (by omega) (by omega) hn) (hφ := xF) (h := ?_); rintro _ _ ⟨m, rfl, hm, rfl⟩; try simp only [List.cons_append, List.nil_append]) | fail)) | fail)) | refine yJ ?_ | ((with_reducible apply gJ_if); (first | (refine J_if xR ?_ ?_ <;> intro _ <;> (try (exfalso; first | contradiction | omega))) | (refine J_ifb xR ?_ ?_ <;> (intro hgb; subst hgb)) | (refine J_ifb xR ?_ ?_ <;> intro _) | fail)) | refine J_draw (id := 11) [0, 1, 2, 3, 4, 5] [6, 7, 8, 9, 10, 11] mixed xC xD xD ?_ | refine J_draw (id := 14) [0, 1, 2, 3, 4, 5, 6, 7] [8, 9, 10, 11, 12, 13] mixed xC xD xD ?_ | fail))
  have kn := fun sp => rnew_s sp (1 + (k1 : Int)) (1 + (k1 : Int)) (by omega) (by omega) (by rw [if_neg (by omega)])
  (repeat' (first | ((with_reducible apply gL); (first | refine yL0 ?_ | refine yL ?_ | ((with_reducible apply gL_go); (first | (refine JL_goq (new_s) (hφ := xF) (h := ?_); rintro _ _ ⟨sp, rfl, rfl⟩; try simp only [List.cons_append, List.nil_append]) | (refine JL_goq (kn _) (hφ := xF) (h := ?_); rintro _ _ ⟨b, tb, rfl, rfl⟩; try simp only [List.cons_append, List.nil_append]) | fail)) | (refine yM ?_; intro _) | (refine yA ?_; intro _ _ _ _) | ((with_reducible apply gL_gd); (first | (refine JL_guard xR xR ?_ ?_ <;> intro _ <;> (try (exfalso; first | contradiction | omega))) | (refine JL_guardb xR xR ?_ ?_ <;> (intro hgb; subst hgb)) | (refine JL_guardb xR xR ?_ ?_ <;> (intro hgb; fail_if_success (have : type_of% hgb := rfl))) | fail)) | fail)) | ((with_reducible apply gD); (first | (refine JD_nil ?_; try simp only [List.cons_append, List.nil_append]) | (refine JD_bar ?_; try simp only [List.cons_append, List.nil_append]) | refine yD ?_ | ((with_reducible apply gD_go); (first | (refine JD_goq (new_s) (hφ := xF) (h := ?_); rintro _ _ ⟨sp, rfl, rfl⟩; try simp only [List.cons_append, List.nil_append]) | (refine JD_goq (kn _) (hφ := xF) (h := ?_); rintro _ _ ⟨b, tb, rfl, rfl⟩; try simp only [List.cons_append, List.nil_append]) | fail)) | fail)) | refine yJ ?_ | ((with_reducible apply gJ_if); (first | (refine J_if xR ?_ ?_ <;> intro _ <;> (try (exfalso; first | contradiction | omega))) | (refine J_ifb xR ?_ ?_ <;> (intro hgb; subst hgb)) | (refine J_ifb xR ?_ ?_ <;> intro _) | fail)) | refine J_draw (id := 11) [0, 1, 2, 3, 4, 5] [6, 7, 8, 9, 10, 11] mixed xC xD xD ?_ | refine J_draw (id := 14) [0, 1, 2, 3, 4, 5, 6, 7] [8, 9, 10, 11, 12, 13] mixed xC xD xD ?_ | fail))
  rename_i ub b1
  refine J_loop (α := Ll) ⟨0, some ⟨b1, 0, none⟩, 0⟩ (fun x => m - x.i) (fun x => x.i ≤ m) (fun x => [(0, .int .i64 (1 + k1)), (2, .int .i64 m), (4, .pointer (some ⟨ub, 0, none⟩)), (7, .pointer (some ⟨b, 0, none⟩)), (9, .slice x.a (lN x.i).length x.c), (10, .int .i64 x.i)]) (fun x => [pts b (tbC sp (1 + k1) tb) 72, T.trA tb [], stoA sp [] 0, pts ub (upC u) 31, Ar 41 2 pfC (.slice x.a (lN x.i).length x.c) (lN x.i)]) (Nat.zero_le _) ⟨rfl, rfl, rfl, rfl, rfl, rfl, trivial⟩ (fun w H => ?_) ?_
  · have H := Ow.arLit0 (T := 41) (sz := 2) (enc := pfC) (b := b1) H xA
    exact H.sel xZ
  rintro ⟨i, a, c⟩ hi
  dsimp only at hi ⊢
  have hll := lN_len i
  by_cases hlt : i < m
  · have hsn := lN_snoc i
    (repeat' (first | ((with_reducible apply gL); (first | refine yL0 ?_ | ((with_reducible apply gL_c_append); (first | (refine JL_ap1 (z := (((i : Int) * 65536, 16) : Pf)) (tabE etab_ok xR) xR xR xA xA xC xR xL xR (by omega) xR xR ?_; intro a6 c6 _ _) | fail)) | refine yL ?_ | (refine yM ?_; intro _) | (refine yA ?_; intro _ _ _ _) | ((with_reducible apply gL_gd); (first | (refine JL_guard xR xR ?_ ?_ <;> intro _ <;> (try (exfalso; first | contradiction | omega))) | (refine JL_guardb xR xR ?_ ?_ <;> (intro hgb; subst hgb)) | (refine JL_guardb xR xR ?_ ?_ <;> (intro hgb; fail_if_success (have : type_of% hgb := rfl))) | fail)) | fail)) | ((with_reducible apply gD); (first | (refine JD_nil ?_; try simp only [List.cons_append, List.nil_append]) | (refine JD_bar ?_; try simp only [List.cons_append, List.nil_append]) | refine yD ?_ | fail)) | refine yJ ?_ | ((with_reducible apply gJ_if); (first | (refine J_if xR ?_ ?_ <;> intro _ <;> (try (exfalso; first | contradiction | omega))) | (refine J_ifb xR ?_ ?_ <;> (intro hgb; subst hgb)) | (refine J_ifb xR ?_ ?_ <;> intro _) | fail)) | refine J_draw (id := 11) [0, 1, 2, 3, 4, 5] [6, 7, 8, 9, 10, 11] mixed xC xD xD ?_ | refine J_draw (id := 14) [0, 1, 2, 3, 4, 5, 6, 7] [8, 9, 10, 11, 12, 13] mixed xC xD xD ?_ | fail))
    have hl6 : (lN i).length + 1 = (lN (i + 1)).length := by rw [lN_len, lN_len]
    refine J_again ⟨i + 1, a6, c6⟩ (by dsimp only; omega) (by dsimp only; omega) ⟨rfl, rfl, rfl, rfl, ?_, rfl, trivial⟩ (fun w H => ?_)
    · dsimp only; rw [← hl6]; rfl
    · dsimp only; rw [← hl6, hsn]; exact H.sel xZ
  obtain rfl : i = m := by omega
  refine J_fact (φ := (lN i).length ≤ c ∧ c ≤ maxLen) (fun w H => (H.arShape xA).2) ?_
  rintro ⟨hc1, hc2⟩
  unfold maxLen at hc2
  obtain ⟨k, hk⟩ : ∃ k, k = min i (1 + k1) := ⟨_, rfl⟩
  have hc : ((1 + k1 : Nat) : Int) = 1 + (k1 : Int) := by omega
  have hlt2 := lN_take (n := i) (k := k) (by omega)
  have hlj := lN_take (n := i) (k := min 1 k) (by omega)
  have e4 : (lN k).length = (min (i : Int) (1 + k1)).toNat := by rw [lN_len]; omega
  have e5 : (lN (min 1 k)).length = (min (1 : Int) (min (i : Int) (1 + k1))).toNat := by rw [lN_len]; omega
  have hx1 : ∀ w, Vw w (.slice a (lN i).length c) 2 (lN i).length (flat pfC (lN i)) → Vw w (.slice a (min (i : Int) (1 + k1)).toNat c) 2 (min (i : Int) (1 + k1)).toNat (flat pfC (lN k)) := fun w h0 => by
    have h := Vw_take h0 (by intro _; rfl) rfl k (min (i : Int) (1 + k1)).toNat (by rw [hlt2]; exact e4)
    rwa [hlt2] at h
  have hx2 : ∀ w, Vw w (.slice a (lN i).length c) 2 (lN i).length (flat pfC (lN i)) → Vw w (.slice a (min (1 : Int) (min (i : Int) (1 + k1))).toNat c) 2 (min (1 : Int) (min (i : Int) (1 + k1))).toNat (flat pfC (lN (min 1 k))) := fun w h0 => by
    have h := Vw_take h0 (by intro _; rfl) rfl (min 1 k) (min (1 : Int) (min (i : Int) (1 + k1))).toNat (by rw [hlj]; exact e5)
    rwa [hlj] at h
  have u1 : U32 1 := ⟨by omega, by omega⟩
  have u2 : U32 2 := ⟨by omega, by omega⟩
  have hu1 : UpN (upN none 0 [] a c (lN k) 1) := ⟨fun _ h => absurd h List.not_mem_nil, fun p hp => lN_n (by omega) hp, oneAt_f 1 u1, Nat.zero_le _, by show (lN k).length ≤ 1000; rw [lN_len]; omega⟩
  obtain ⟨hr, l1, o1, s1, g1⟩ := lim_one (lim := 1 + k1) (k := k) (u := upN none 0 [] a c (lN k) 1) (by omega) (by omega) hu1 (oneAt_ok 1) rfl rfl
  have ok1 := updF_ok (B := 0) (lim := ((1 + k1 : Nat) : Int)) (u := upN none 0 [] a c (lN k) 1) (σ := ⟨[], [], 0⟩) hu1.d stok_nil (by omega)
  have kq1 := updN_s b sp tb (1 + k1) ⟨[], [], 0⟩ 0 (by omega) (by omega) none 0 0 [] a _ c (lN k) 1 u1 rfl e4 (fun _ h => absurd h List.not_mem_nil) (fun p hp => lN_n (by omega) hp) (by omega) (by omega) (by show (0 : Nat) ≤ 2000; omega) ⟨by omega, by omega⟩ eok_nil stok_nil
  have hup := upL_len (upN none 0 [] a c (lN k) 1)
  have hE0 : updE (1 + k1) (upN none 0 [] a c (lN k) 1) ⟨[], [], 0⟩ = 0 := by
    unfold updE
    rw [← hc, if_neg hr]
  rw [hE0] at kq1
  dsimp only at kq1
  rw [hc] at l1 o1 s1 g1 ok1
  (repeat' (first | ((with_reducible apply gL); (first | refine yL0 ?_ | refine yL ?_ | ((with_reducible apply gL_go); (first | (refine JL_goq (one_s 1 u1) (hφ := xF) (h := ?_); rintro _ _ ⟨rfl, rfl⟩; try simp only [List.cons_append, List.nil_append]) | (refine JL_goq (kq1) (hφ := (by (try simp only [List.cons_append, List.nil_append]); exact fun w hr => ⟨Vw.nil w 2, hx1 w (Src.ar xA w hr)⟩)) (h := ?_); rintro _ _ ⟨a2, l2, c2, τ, hτ, rfl, rfl⟩; try simp only [List.cons_append, List.nil_append]) | fail)) | (refine yM ?_; intro _) | (refine yA ?_; intro _ _ _ _) | ((with_reducible apply gL_gd); (first | (refine JL_guard xR xR ?_ ?_ <;> intro _ <;> (try (exfalso; first | contradiction | omega))) | (refine JL_guardb xR xR ?_ ?_ <;> (intro hgb; subst hgb)) | (refine JL_guardb xR xR ?_ ?_ <;> (intro hgb; fail_if_success (have : type_of% hgb := rfl))) | fail)) | fail)) | ((with_reducible apply gD); (first | (refine JD_nil ?_; try simp only [List.cons_append, List.nil_append]) | (refine JD_bar ?_; try simp only [List.cons_append, List.nil_append]) | refine yD ?_ | ((with_reducible apply gD_go); (first | (refine JD_goq (one_s 1 u1) (hφ := xF) (h := ?_); rintro _ _ ⟨rfl, rfl⟩; try simp only [List.cons_append, List.nil_append]) | (refine JD_goq (kq1) (hφ := (by (try simp only [List.cons_append, List.nil_append]); exact fun w hr => ⟨Vw.nil w 2, hx1 w (Src.ar xA w hr)⟩)) (h := ?_); rintro _ _ ⟨a2, l2, c2, τ, hτ, rfl, rfl⟩; try simp only [List.cons_append, List.nil_append]) | fail)) | fail)) | refine yJ ?_ | ((with_reducible apply gJ_if); (first | (refine J_if xR ?_ ?_ <;> intro _ <;> (try (exfalso; first | contradiction | omega))) | (refine J_ifb xR ?_ ?_ <;> (intro hgb; subst hgb)) | (refine J_ifb xR ?_ ?_ <;> intro _) | fail)) | refine J_draw (id := 11) [0, 1, 2, 3, 4, 5] [6, 7, 8, 9, 10, 11] mixed xC xD xD ?_ | refine J_draw (id := 14) [0, 1, 2, 3, 4, 5, 6, 7] [8, 9, 10, 11, 12, 13] mixed xC xD xD ?_ | fail))
  rw [← hτ] at l1 o1 s1 g1 ok1
  have ok2 : StOk 40 τ.S τ.c := ok1.mono (by
    have : (upN none 0 [] a c (lN k) 1).td.length = k := lN_len k
    omega)
  have hw2 : ∀ p ∈ lN (min 1 k), p ∈ lN i := fun p hp => by
    obtain ⟨j, hj, rfl⟩ := mem_lN.1 hp
    exact mem_lN.2 ⟨j, by omega, rfl⟩
  obtain ⟨t1, t2⟩ := lim_two (lim := 1 + k1) (n := i) (k := k) (u := upN a c (lN (min 1 k)) a c (lN i) 2) (σ := τ) hk (oneAt_ok 2) hw2 rfl o1 l1 s1
  rw [hc] at t1 t2
  have kq2 := updN_s b sp tb (1 + k1) τ 40 (by omega) (by omega) a _ c (lN (min 1 k)) a _ c (lN i) 2 u2 e5 rfl (fun p hp => lN_n (by omega) (hw2 p hp)) (fun p hp => lN_n (by omega) hp) (by omega) (by rw [lN_len]; omega) (by omega) ⟨by omega, by omega⟩ o1 ok2
  by_cases hcase : i ≤ 1 + k1
  · obtain ⟨q1, q2⟩ := t1 hcase
    rw [q1] at kq2
    (repeat' (first | ((with_reducible apply gL); (first | refine yL0 ?_ | refine yL ?_ | ((with_reducible apply gL_go); (first | (refine JL_goq (one_s 2 u2) (hφ := xF) (h := ?_); rintro _ _ ⟨rfl, rfl⟩; try simp only [List.cons_append, List.nil_append]) | (refine JL_goq (kq2) (hφ := (by (try simp only [List.cons_append, List.nil_append]); exact fun w hr => ⟨hx2 w (Src.ar xA w hr), Src.ar xA w hr⟩)) (h := ?_); rintro _ _ ⟨a3, l3, c3, υ, hυ, rfl, rfl⟩; try simp only [List.cons_append, List.nil_append]) | fail)) | (refine yM ?_; intro _) | (refine yA ?_; intro _ _ _ _) | ((with_reducible apply gL_gd); (first | (refine JL_guard xR xR ?_ ?_ <;> intro _ <;> (try (exfalso; first | contradiction | omega))) | (refine JL_guardb xR xR ?_ ?_ <;> (intro hgb; subst hgb)) | (refine JL_guardb xR xR ?_ ?_ <;> (intro hgb; fail_if_success (have : type_of% hgb := rfl))) | fail)) | fail)) | ((with_reducible apply gD); (first | (refine JD_nil ?_; try simp only [List.cons_append, List.nil_append]) | (refine JD_bar ?_; try simp only [List.cons_append, List.nil_append]) | refine yD ?_ | ((with_reducible apply gD_go); (first | (refine JD_goq (one_s 2 u2) (hφ := xF) (h := ?_); rintro _ _ ⟨rfl, rfl⟩; try simp only [List.cons_append, List.nil_append]) | (refine JD_goq (kq2) (hφ := (by (try simp only [List.cons_append, List.nil_append]); exact fun w hr => ⟨hx2 w (Src.ar xA w hr), Src.ar xA w hr⟩)) (h := ?_); rintro _ _ ⟨a3, l3, c3, υ, hυ, rfl, rfl⟩; try simp only [List.cons_append, List.nil_append]) | fail)) | fail)) | refine yJ ?_ | ((with_reducible apply gJ_if); (first | (refine J_if xR ?_ ?_ <;> intro _ <;> (try (exfalso; first | contradiction | omega))) | (refine J_ifb xR ?_ ?_ <;> (intro hgb; subst hgb)) | (refine J_ifb xR ?_ ?_ <;> intro _) | fail)) | refine J_draw (id := 11) [0, 1, 2, 3, 4, 5] [6, 7, 8, 9, 10, 11] mixed xC xD xD ?_ | refine J_draw (id := 14) [0, 1, 2, 3, 4, 5, 6, 7] [8, 9, 10, 11, 12, 13] mixed xC xD xD ?_ | fail))
    rw [← hυ] at q2
    have kl := rlen_s b sp tb (1 + k1) υ.E
    rw [q2] at kl
    (repeat' (first | ((with_reducible apply gL); (first | refine yL0 ?_ | refine yL ?_ | ((with_reducible apply gL_go); (first | (refine JL_goq (kl) (hφ := xF) (h := ?_); rintro _ _ ⟨rfl, rfl⟩; try simp only [List.cons_append, List.nil_append]) | fail)) | (refine yM ?_; intro _) | (refine yA ?_; intro _ _ _ _) | ((with_reducible apply gL_gd); (first | (refine JL_guard xR xR ?_ ?_ <;> intro _ <;> (try (exfalso; first | contradiction | omega))) | (refine JL_guardb xR xR ?_ ?_ <;> (intro hgb; subst hgb)) | (refine JL_guardb xR xR ?_ ?_ <;> (intro hgb; fail_if_success (have : type_of% hgb := rfl))) | fail)) | fail)) | ((with_reducible apply gD); (first | (refine JD_nil ?_; try simp only [List.cons_append, List.nil_append]) | (refine JD_bar ?_; try simp only [List.cons_append, List.nil_append]) | refine yD ?_ | ((with_reducible apply gD_go); (first | (refine JD_goq (kl) (hφ := xF) (h := ?_); rintro _ _ ⟨rfl, rfl⟩; try simp only [List.cons_append, List.nil_append]) | fail)) | fail)) | refine yJ ?_ | ((with_reducible apply gJ_if); (first | (refine J_if xR ?_ ?_ <;> intro _ <;> (try (exfalso; first | contradiction | omega))) | (refine J_ifb xR ?_ ?_ <;> (intro hgb; subst hgb)) | (refine J_ifb xR ?_ ?_ <;> intro _) | fail)) | refine J_draw (id := 11) [0, 1, 2, 3, 4, 5] [6, 7, 8, 9, 10, 11] mixed xC xD xD ?_ | refine J_draw (id := 14) [0, 1, 2, 3, 4, 5, 6, 7] [8, 9, 10, 11, 12, 13] mixed xC xD xD ?_ | fail))
    refine J_ret1 rfl (by rfl) fun w H => ⟨_, ⟨?_, rfl⟩, H.sel .nil⟩
    simp
  · obtain ⟨q1, q2⟩ := t2 (by omega)
    rw [q1, q2] at kq2
    have hp0 : (((0 : Nat) : Int) * 65536, (16 : Int)) ∈ lN k := mem_lN.2 ⟨0, by omega, rfl⟩
    obtain ⟨p0, hp00⟩ : ∃ p0 : Pf, p0 = (((0 : Nat) : Int) * 65536, (16 : Int)) := ⟨_, rfl⟩
    rw [← hp00] at hp0
    have f0 : (lN i)[0]? = some p0 := by
      rw [hp00]
      unfold lN
      rw [List.getElem?_map, List.getElem?_range (by omega)]
      rfl
    have kg := rget_s b sp tb (1 + k1) τ.E τ.S τ.c p0 (lN_n (n := k) (by omega) hp0)
    have hs0 := s1 p0
    rw [decide_eq_true hp0] at hs0
    have hx0 : rgX τ.E τ.S p0 = X1 := by
      have h := g1 p0 hp0
      unfold lk at h
      unfold rgX
      cases hg : T.getL τ.E p0 with
      | none => rw [hg] at h; cases h
      | some o => rw [hg] at h; exact congrArg Prod.fst (Option.some.inj h)
    rw [hs0, hx0] at kg
    have kl := rlen_s b sp tb (1 + k1) τ.E
    have hlk : (τ.E.length : Int) = 1 + k1 := by omega
    rw [hlk] at kl
    (repeat' (first | ((with_reducible apply gL); (first | refine yL0 ?_ | refine yL ?_ | ((with_reducible apply gL_go); (first | (refine JL_goq (one_s 2 u2) (hφ := xF) (h := ?_); rintro _ _ ⟨rfl, rfl⟩; try simp only [List.cons_append, List.nil_append]) | (refine JL_goq (kq2) (hφ := (by (try simp only [List.cons_append, List.nil_append]); exact fun w hr => ⟨hx2 w (Src.ar xA w hr), Src.ar xA w hr⟩)) (h := ?_); rintro _ _ ⟨a3, l3, c3, υ, rfl, rfl, rfl⟩; try simp only [List.cons_append, List.nil_append]) | (refine JL_goq (kg) (hφ := xF) (h := ?_); rintro _ _ ⟨d', hd', rfl, rfl⟩; try simp only [List.cons_append, List.nil_append]) | fail)) | (refine yM ?_; intro _) | (refine yA ?_; intro _ _ _ _) | ((with_reducible apply gL_gd); (first | (refine JL_guard xR xR ?_ ?_ <;> intro _ <;> (try (exfalso; first | contradiction | omega))) | (refine JL_guardb xR xR ?_ ?_ <;> (intro hgb; subst hgb)) | (refine JL_guardb xR xR ?_ ?_ <;> (intro hgb; fail_if_success (have : type_of% hgb := rfl))) | fail)) | fail)) | ((with_reducible apply gD); (first | (refine JD_nil ?_; try simp only [List.cons_append, List.nil_append]) | (refine JD_bar ?_; try simp only [List.cons_append, List.nil_append]) | refine yD ?_ | ((with_reducible apply gD_go); (first | (refine JD_goq (one_s 2 u2) (hφ := xF) (h := ?_); rintro _ _ ⟨rfl, rfl⟩; try simp only [List.cons_append, List.nil_append]) | (refine JD_goq (kq2) (hφ := (by (try simp only [List.cons_append, List.nil_append]); exact fun w hr => ⟨hx2 w (Src.ar xA w hr), Src.ar xA w hr⟩)) (h := ?_); rintro _ _ ⟨a3, l3, c3, υ, rfl, rfl, rfl⟩; try simp only [List.cons_append, List.nil_append]) | (refine JD_goq (kg) (hφ := xF) (h := ?_); rintro _ _ ⟨d', hd', rfl, rfl⟩; try simp only [List.cons_append, List.nil_append]) | fail)) | fail)) | refine yJ ?_ | ((with_reducible apply gJ_if); (first | (refine J_if xR ?_ ?_ <;> intro _ <;> (try (exfalso; first | contradiction | omega))) | (refine J_ifb xR ?_ ?_ <;> (intro hgb; subst hgb)) | (refine J_ifb xR ?_ ?_ <;> intro _) | fail)) | refine J_draw (id := 11) [0, 1, 2, 3, 4, 5] [6, 7, 8, 9, 10, 11] mixed xC xD xD ?_ | refine J_draw (id := 14) [0, 1, 2, 3, 4, 5, 6, 7] [8, 9, 10, 11, 12, 13] mixed xC xD xD ?_ | fail))
    have hmed : d'.med = 1 := by
      have h : (if d'.hasMed then some d'.med else none) = some (1 : Int) := congrArg Nf.med hd'.2
      split at h
      · exact Option.some.inj h
      · cases h
    (repeat' (first | ((with_reducible apply gL); (first | refine yL0 ?_ | refine yL ?_ | ((with_reducible apply gL_go); (first | (refine JL_goq (kl) (hφ := xF) (h := ?_); rintro _ _ ⟨rfl, rfl⟩; try simp only [List.cons_append, List.nil_append]) | (refine JL_goq (few_s u hu) (hφ := (by (try simp only [List.cons_append, List.nil_append]); exact fun w hr => hK w hr.1)) (h := ?_); rintro _ _ ⟨u', hf, rfl, rfl⟩; try simp only [List.cons_append, List.nil_append]) | fail)) | (refine yM ?_; intro _) | (refine yA ?_; intro _ _ _ _) | ((with_reducible apply gL_gd); (first | (refine JL_guard xR xR ?_ ?_ <;> intro _ <;> (try (exfalso; first | contradiction | omega))) | (refine JL_guardb xR xR ?_ ?_ <;> (intro hgb; subst hgb)) | (refine JL_guardb xR xR ?_ ?_ <;> (intro hgb; fail_if_success (have : type_of% hgb := rfl))) | fail)) | fail)) | ((with_reducible apply gD); (first | (refine JD_nil ?_; try simp only [List.cons_append, List.nil_append]) | (refine JD_bar ?_; try simp only [List.cons_append, List.nil_append]) | refine yD ?_ | ((with_reducible apply gD_go); (first | (refine JD_goq (kl) (hφ := xF) (h := ?_); rintro _ _ ⟨rfl, rfl⟩; try simp only [List.cons_append, List.nil_append]) | (refine JD_goq (few_s u hu) (hφ := (by (try simp only [List.cons_append, List.nil_append]); exact fun w hr => hK w hr.1)) (h := ?_); rintro _ _ ⟨u', hf, rfl, rfl⟩; try simp only [List.cons_append, List.nil_append]) | fail)) | fail)) | refine yJ ?_ | ((with_reducible apply gJ_if); (first | (refine J_if xR ?_ ?_ <;> intro _ <;> (try (exfalso; first | contradiction | omega))) | (refine J_ifb xR ?_ ?_ <;> (intro hgb; subst hgb)) | (refine J_ifb xR ?_ ?_ <;> intro _) | fail)) | refine J_draw (id := 11) [0, 1, 2, 3, 4, 5] [6, 7, 8, 9, 10, 11] mixed xC xD xD ?_ | refine J_draw (id := 14) [0, 1, 2, 3, 4, 5, 6, 7] [8, 9, 10, 11, 12, 13] mixed xC xD xD ?_ | fail))
    have htl := few_tl hf
    exact J_ret1 rfl (by rfl) fun w H => ⟨_, ⟨by rw [decide_eq_true (by omega)], rfl⟩, H.sel .nil⟩
end Go.Proofs.YtnhabkipjmgaaaaGreat
namespace Go.Proofs.YtnhabkipjmgaaaaGreat
set_option linter.unusedSimpArgs false
set_option linter.unusedVariables false
open Go.RowKit Go.Pm

namespace ribLimit
theorem walk {W : World} (n0 : Nat) {a0 : Int} (g0 : Rs Tryz.prog W n0 3 (Value.int .i64 a0).cells.toList) (n1 : Nat) {cs1 : Array Value} (g1 : Rs Tryz.prog W n1 31 (Value.agg cs1).cells.toList) (n2 : Nat) {a2 : Int} (g2 : Rs Tryz.prog W n2 3 (Value.int .i64 a2).cells.toList) :
    Calls Tryz.prog 3 #[.int .i64 a0, .agg cs1, .int .i64 a2] W fun e w' => e = .returned (.bool true) ∧ Only [] W w' := by
  obtain ⟨u, rfl, h1, h2, h3, h4⟩ := up_arg g1
  exact (limit_s a0 a2 u (i64Arg Tryz.underlying3 g0) (i64Arg Tryz.underlying3 g2) ⟨h1, h2, h3⟩).law h4
end ribLimit
namespace ribLimit
open Go.ChangeShapes Go.WideShapes Go.ChangeAt
set_option linter.unusedVariables false

theorem own : ownKnob Tryz.prog.godebug = none := by kernel_rfl
theorem laidOut : laidOutB Tryz.prog = true := by kernel_rfl

set_option maxRecDepth 100000 in
theorem lifted (os : Os) (started : os.Started) (H : Type) (enc : TypeId × Value → H) :
    ReturnsInHanded {} Tryz.checked os 3 .any (Rows.ribLimitSpec.pre6 enc Tryz.prog Tryz.f3 Rows.ribLimitRow.domain false) (Rows.ribLimitSpec.post enc Tryz.prog Tryz.f3 false true false false) := by
  refine returnsInHanded_of_change_sized (C := Tryz.checked) own started (by kernel_rfl) Tryz.func3
    (ChangeSpec.witness6 (enc := enc) (C := Tryz.checked) false ⟨#[], #[.int .i64 0, .agg #[.slice none 0 0, .slice none 0 0, .int .i64 0, .slice none 0 0, .int .u32 0, .bool false, .int .u32 0, .bool false, .int .u32 0, .bool false, .bool false, .int .u32 0, .int .u32 0, .slice none 0 0, .slice none 0 0, .int .i64 0], .int .i64 0], []⟩ 8 (by kernel_rfl) (by kernel_rfl) (by kernel_rfl) (by kernel_rfl)) ?_
  intro W base args ds gs before hval0 hW hcnd hsz hreach
  have hval : ∀ (j : Nat) t v, Tryz.f3.params[j]? = some t → args[j]? = some v → Value.okWide Tryz.prog W .any base t v := hval0
  have hW' := hW
  obtain ⟨p, q, hA0, hV, rfl, hfz, hnd⟩ := hW
  have hA : DataW.TrodAll enc Tryz.prog W 0 (fun _ => true) true Tryz.f3.params.toList args.toList ds p := hA0
  rw [Tryz.params3] at hA hval
  obtain ⟨v0, vs0, d0, ds0, p0, q0, hargs, rfl, rfl, h0, r0⟩ := trodAll_cons hA
  obtain ⟨v1, vs1, d1, ds1, p1, q1, rfl, rfl, rfl, h1, r1⟩ := trodAll_cons r0
  obtain ⟨v2, vs2, d2, ds2, p2, q2, rfl, rfl, rfl, h2, r2⟩ := trodAll_cons r1
  obtain ⟨rfl, rfl, rfl⟩ := trodAll_nil r2
  obtain rfl : args = #[v0, v1, v2] := by cases args; simp_all
  obtain ⟨rfl, rfl⟩ := trodVars_none hV
  have k0 := h0
  have lt0 : ∀ x ∈ p0, x.block < W.heap.size := by obtain ⟨m, hm⟩ := k0; exact DataW.trod_lt m _ _ _ hm
  obtain ⟨n0, g0⟩ := Rs.of_weights hsz 0 (by first | rfl | (simp [Tryz.params3])) rfl h0
  obtain ⟨a0, rfl⟩ := okWide_int Tryz.underlying3 (hval 0 3 v0 rfl rfl)
  have k1 := h1
  have lt1 : ∀ x ∈ p1, x.block < W.heap.size := by obtain ⟨m, hm⟩ := k1; exact DataW.trod_lt m _ _ _ hm
  obtain ⟨n1, g1⟩ := Rs.of_weights hsz 1 (by first | rfl | (simp [Tryz.params3])) rfl h1
  obtain ⟨cs1, rfl, hs1⟩ := okWide_struct Tryz.underlying31 (hval 1 31 v1 rfl rfl)
  have k2 := h2
  have lt2 : ∀ x ∈ p2, x.block < W.heap.size := by obtain ⟨m, hm⟩ := k2; exact DataW.trod_lt m _ _ _ hm
  obtain ⟨n2, g2⟩ := Rs.of_weights hsz 2 (by first | rfl | (simp [Tryz.params3])) rfl h2
  obtain ⟨a2, rfl⟩ := okWide_int Tryz.underlying3 (hval 2 3 v2 rfl rfl)
  refine (walk n0 g0 n1 g1 n2 g2).mono fun e W' ⟨he, hg⟩ => ?_
  subst he
  have bel := hg.belowNil
  exact ⟨_, rfl, _, _, _, [], _, [], hW', trodAll_mk1 (shut_bool Tryz.underlying4 _), (trodAll_cons_mk (Below.trod laidOut (by kernel_rfl) (of_decide_eq_true (by kernel_rfl)) k0 bel lt0) (trodAll_cons_mk (Below.trod laidOut (by kernel_rfl) (of_decide_eq_true (by kernel_rfl)) k1 bel lt1) (trodAll_cons_mk (Below.trod laidOut (by kernel_rfl) (of_decide_eq_true (by kernel_rfl)) k2 bel lt2) trodAll_mk0))), rfl, bel.frame _, fun h => by cases h⟩

theorem over : Rows.ribLimitRow.holds Tryz.pinned (OpenSpec.ofChange Rows.ribLimitSpec) :=
  OpenClaim.holds_of_wide 3 Tryz.f3 rfl rfl rfl rfl rfl rfl rfl ⟨rfl, rfl, rfl, rfl, rfl⟩ rfl rfl rfl rfl rfl (by kernel_rfl) Tryz.func3 (by kernel_rfl)
    (of_decide_eq_true (by kernel_rfl)) (by unfold Func.isWrapper; first | (rw [if_pos (by decide +kernel)]; kernel_rfl) | (rw [if_neg (by decide +kernel)]; exact ⟨rfl, rfl⟩))
    (fun os started H enc _ => lifted os started H enc)

/-- The statement. -/
theorem proved : Rows.RibLimitSaid := over
#print axioms proved
end ribLimit
end Go.Proofs.YtnhabkipjmgaaaaGreat
