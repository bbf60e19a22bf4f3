/-
  The document's trie: Longest.
-/
import Derived.Test.YtmimfjgnmmfhdaaTr18
namespace Go.Proofs.Ytmimfjgnmmfhdaa
set_option linter.unusedSimpArgs false
set_option linter.unusedVariables false
set_option maxRecDepth 20000
set_option maxHeartbeats 4000000
open Go.RowKit Go.Pm


structure Lw where
  k : Nat
  best : Pf
  any : Bool
theorem lon_nil (a : Int) : LonOk [] a (0, 0) false := ⟨fun h => absurd h (by simp), fun _ => ⟨rfl, by simp⟩⟩
theorem lon_skip {l : List Ent} {a : Int} {best : Pf} {any : Bool} {x : Ent} (h : LonOk l a best any) (hx : Wi x.1 (a, 32) → any = true ∧ x.1.2 ≤ best.2) : LonOk (l ++ [x]) a best any := by
  constructor
  · intro ha
    obtain ⟨⟨v, h1⟩, h2, h3⟩ := h.1 ha
    refine ⟨⟨v, by simp [h1]⟩, h2, fun e he hw => ?_⟩
    rcases List.mem_append.1 he with he | he
    · exact h3 e he hw
    · obtain rfl := List.mem_singleton.1 he
      exact (hx hw).2
  · intro ha
    obtain ⟨h1, h2⟩ := h.2 ha
    refine ⟨h1, fun e he hw => ?_⟩
    rcases List.mem_append.1 he with he | he
    · exact h2 e he hw
    · obtain rfl := List.mem_singleton.1 he
      rw [(hx hw).1] at ha
      cases ha
theorem lon_new {l : List Ent} {a : Int} {best : Pf} {any : Bool} {x : Ent} (h : LonOk l a best any) (hx : Wi x.1 (a, 32)) (hb : any = true → best.2 < x.1.2) : LonOk (l ++ [x]) a x.1 true := by
  refine ⟨fun _ => ⟨⟨x.2, by simp⟩, hx, fun e he hw => ?_⟩, fun h => by cases h⟩
  rcases List.mem_append.1 he with he | he
  · cases any
    · exact absurd hw ((h.2 rfl).2 e he)
    · have := (h.1 rfl).2.2 e he hw
      have := hb rfl
      omega
  · obtain rfl := List.mem_singleton.1 he
    exact Int.le_refl _
section
variable (rb : Nat) (a : Option Addr) (c : Nat) (l : List Ent)
theorem rlon_s (ad : Int) (ha : U32 ad) (hl : l.length ≤ 1000000) (he : ∀ e ∈ l, EnN e) : Pact Try.prog 22 #[.pointer (some ⟨rb, 0, none⟩), .int .u32 ad] (fun _ => True) (RefL rb a c l) (fun u L' => ∃ best any, LonOk l ad best any ∧ u = .tuple [.agg (pfC best).toArray, .bool any].toArray ∧ L' = RefL rb a c l) := by
  refine pact Try.func22 rfl Try.ntmps22 rfl ?_
  intro W K _
  refine J_fact (φ := l.length ≤ c ∧ c ≤ maxLen) (fun w H => (H.arShape (by (first | ((with_reducible (repeat (first | exact Tk.here | apply Tk.there))); done) | ((simp only [List.cons_append, List.nil_append]); (with_reducible (repeat (first | exact Tk.here | apply Tk.there))); done) | fail))).2) ?_
  rintro ⟨hnc, hcm⟩
  unfold maxLen at hcm
  have hpn : PfN (ad, 32) := ⟨ha, by unfold I64; show -9223372036854775808 ≤ (32 : Int) ∧ (32 : Int) ≤ 9223372036854775807; omega⟩
  (repeat' (first | ((with_reducible apply gJ); (first | refine J_seq ?_ | refine J_reg ?_ | refine J_skip ?_ | refine J_block ?_ | refine J_blk ?_ | refine J_exit rfl ?_ | refine J_goto rfl ?_ | ((with_reducible apply gJ_if); (first | refine J_ift rfl ?_ | refine J_iff rfl ?_ | (refine J_if xR ?_ ?_ <;> intro _ <;> (try (exfalso; first | contradiction | omega))) | (refine J_ifb xR ?_ ?_ <;> (intro hgb; subst hgb)) | (refine J_ifb xR ?_ ?_ <;> intro _) | fail)) | refine J_label ?_ | fail)) | ((with_reducible apply gL); (first | refine JL_nil ?_ | ((with_reducible apply gL_gd); (first | refine JL_skip xR xR ?_ | fail)) | refine L_move ?_ | refine L_assign ?_ | refine L_fieldAddr ?_ | refine L_load ?_ | refine L_nilCheck ?_ | refine L_pick ?_ | refine L_indexAddr ?_ | refine L_build ?_ | refine L_c_len ?_ | refine L_un_not ?_ | refine L_bin_lss ?_ | refine L_bin_gtr ?_ | refine L_bin_add_i64 ?_ | refine L_bin_add_r ?_ | ((with_reducible apply gL_alloc); (first | (refine JL_mc rfl xR xR (al_alloc xN xK) ?_; intro _) | fail)) | ((with_reducible apply gL_store); (first | refine JL_st xR xR xT xC xR xE xR ?_ | refine JL_stW xR xR xT xW xR xR xR ?_ | refine JL_stS xR xR xT xW xP xR xR ?_ | refine JL_stEl xR xR xT xR xL xR (tabS stab_ok xR) xR xR xO ?_ | fail)) | ((with_reducible apply gL_gd); (first | (refine JL_guard xR xR ?_ ?_ <;> intro _ <;> (try (exfalso; first | contradiction | omega))) | (refine JL_guardb xR xR ?_ ?_ <;> (intro hgb; subst hgb)) | (refine JL_guardb xR xR ?_ ?_ <;> (intro hgb; fail_if_success (have : type_of% hgb := rfl))) | fail)) | fail)) | fail))
  rename_i g4 g6
  refine J_loop (α := Lw) ⟨0, (0, 0), false⟩ (fun x => l.length - x.k) (fun x => x.k ≤ l.length ∧ LonOk (l.take x.k) ad x.best x.any) (fun x => [(0, .pointer (some ⟨rb, 0, none⟩)), (1, .int .u32 ad), (4, .pointer (some ⟨g4, 0, none⟩)), (6, .pointer (some ⟨g6, 0, none⟩)), (7, .bool x.any), (8, .int .i64 x.k)])
    (fun x => [pts rb [.slice a l.length c] 39, Ar 72 3 enC (.slice a l.length c) l, pts g4 [.int .u32 0, .int .i64 0] 31, pts g6 (pfC x.best) 31]) ⟨Nat.zero_le _, lon_nil ad⟩ ⟨rfl, rfl, rfl, rfl, rfl, rfl, trivial⟩ (fun w H => H.sel (by (first | ((with_reducible (repeat (first | exact Sb.nil | apply Sb.cons | exact Tk.here | apply Tk.there))); done) | (repeat (first | exact Sb.nil | apply Sb.cons | exact Tk.here | apply Tk.there))))) ?_
  rintro ⟨k, best, any⟩ ⟨hk, hok⟩
  dsimp only at hk hok ⊢
  by_cases hlt : k < l.length
  · obtain ⟨x, hs⟩ : ∃ x, l[k]? = some x := ⟨_, List.getElem?_eq_getElem hlt⟩
    have hx := he x (List.mem_of_getElem? hs)
    by_cases hw : Wi x.1 (ad, 32)
    · by_cases hb : any = true → best.2 < x.1.2
      · have hn := lon_new hok hw hb
        rw [← take_snoc hs] at hn
        cases any
        · (repeat' (first | ((with_reducible apply gJ); (first | refine J_seq ?_ | refine J_reg ?_ | refine J_skip ?_ | refine J_block ?_ | refine J_blk ?_ | refine J_exit rfl ?_ | refine J_goto rfl ?_ | ((with_reducible apply gJ_if); (first | refine J_ift rfl ?_ | refine J_iff rfl ?_ | (refine J_if xR ?_ ?_ <;> intro _ <;> (try (exfalso; first | contradiction | omega))) | (refine J_ifb xR ?_ ?_ <;> (intro hgb; subst hgb)) | (refine J_ifb xR ?_ ?_ <;> intro _) | fail)) | refine J_label ?_ | fail)) | ((with_reducible apply gL); (first | refine JL_nil ?_ | ((with_reducible apply gL_gd); (first | refine JL_skip xR xR ?_ | fail)) | refine L_move ?_ | refine L_assign ?_ | refine L_fieldAddr ?_ | refine L_load ?_ | refine L_nilCheck ?_ | refine L_pick ?_ | refine L_indexAddr ?_ | refine L_build ?_ | refine L_c_len ?_ | refine L_un_not ?_ | refine L_bin_lss ?_ | refine L_bin_gtr ?_ | refine L_bin_add_i64 ?_ | refine L_bin_add_r ?_ | ((with_reducible apply gL_alloc); (first | (refine JL_mc rfl xR xR (al_alloc xN xK) ?_; intro _) | fail)) | ((with_reducible apply gL_store); (first | refine JL_st xR xR xT xC xR xE xR ?_ | refine JL_stW xR xR xT xW xR xR xR ?_ | refine JL_stS xR xR xT xW xP xR xR ?_ | refine JL_stEl xR xR xT xR xL xR (tabS stab_ok xR) xR xR xO ?_ | fail)) | ((with_reducible apply gL_go); (first | (refine JL_goq (rwithin_b x.1 (ad, 32) hx.1 hpn true (decide_eq_true hw)) (hφ := xF) (h := ?_); rintro _ _ ⟨rfl, rfl⟩; try simp only [List.cons_append, List.nil_append]) | fail)) | ((with_reducible apply gL_gd); (first | (refine JL_guard xR xR ?_ ?_ <;> intro _ <;> (try (exfalso; first | contradiction | omega))) | (refine JL_guardb xR xR ?_ ?_ <;> (intro hgb; subst hgb)) | (refine JL_guardb xR xR ?_ ?_ <;> (intro hgb; fail_if_success (have : type_of% hgb := rfl))) | fail)) | fail)) | fail))
          exact J_again ⟨k + 1, x.1, true⟩ (by dsimp only; omega) ⟨hlt, hn⟩ ⟨rfl, rfl, rfl, rfl, rfl, rfl, trivial⟩ (fun w H => H.sel (by (first | ((with_reducible (repeat (first | exact Sb.nil | apply Sb.cons | exact Tk.here | apply Tk.there))); done) | (repeat (first | exact Sb.nil | apply Sb.cons | exact Tk.here | apply Tk.there)))))
        · have hb2 := hb rfl
          (repeat' (first | ((with_reducible apply gJ); (first | refine J_seq ?_ | refine J_reg ?_ | refine J_skip ?_ | refine J_block ?_ | refine J_blk ?_ | refine J_exit rfl ?_ | refine J_goto rfl ?_ | ((with_reducible apply gJ_if); (first | refine J_ift rfl ?_ | refine J_iff rfl ?_ | (refine J_if xR ?_ ?_ <;> intro _ <;> (try (exfalso; first | contradiction | omega))) | (refine J_ifb xR ?_ ?_ <;> (intro hgb; subst hgb)) | (refine J_ifb xR ?_ ?_ <;> intro _) | fail)) | refine J_label ?_ | fail)) | ((with_reducible apply gL); (first | refine JL_nil ?_ | ((with_reducible apply gL_gd); (first | refine JL_skip xR xR ?_ | fail)) | refine L_move ?_ | refine L_assign ?_ | refine L_fieldAddr ?_ | refine L_load ?_ | refine L_nilCheck ?_ | refine L_pick ?_ | refine L_indexAddr ?_ | refine L_build ?_ | refine L_c_len ?_ | refine L_un_not ?_ | refine L_bin_lss ?_ | refine L_bin_gtr ?_ | refine L_bin_add_i64 ?_ | refine L_bin_add_r ?_ | ((with_reducible apply gL_alloc); (first | (refine JL_mc rfl xR xR (al_alloc xN xK) ?_; intro _) | fail)) | ((with_reducible apply gL_store); (first | refine JL_st xR xR xT xC xR xE xR ?_ | refine JL_stW xR xR xT xW xR xR xR ?_ | refine JL_stS xR xR xT xW xP xR xR ?_ | refine JL_stEl xR xR xT xR xL xR (tabS stab_ok xR) xR xR xO ?_ | fail)) | ((with_reducible apply gL_go); (first | (refine JL_goq (rwithin_b x.1 (ad, 32) hx.1 hpn true (decide_eq_true hw)) (hφ := xF) (h := ?_); rintro _ _ ⟨rfl, rfl⟩; try simp only [List.cons_append, List.nil_append]) | fail)) | ((with_reducible apply gL_gd); (first | (refine JL_guard xR xR ?_ ?_ <;> intro _ <;> (try (exfalso; first | contradiction | omega))) | (refine JL_guardb xR xR ?_ ?_ <;> (intro hgb; subst hgb)) | (refine JL_guardb xR xR ?_ ?_ <;> (intro hgb; fail_if_success (have : type_of% hgb := rfl))) | fail)) | fail)) | fail))
          exact J_again ⟨k + 1, x.1, true⟩ (by dsimp only; omega) ⟨hlt, hn⟩ ⟨rfl, rfl, rfl, rfl, rfl, rfl, trivial⟩ (fun w H => H.sel (by (first | ((with_reducible (repeat (first | exact Sb.nil | apply Sb.cons | exact Tk.here | apply Tk.there))); done) | (repeat (first | exact Sb.nil | apply Sb.cons | exact Tk.here | apply Tk.there)))))
      · have ht : any = true := by cases any; · exact absurd (fun h => by cases h) hb
                                   · rfl
        subst ht
        have hle : x.1.2 ≤ best.2 := by rcases Int.lt_or_le best.2 x.1.2 with h | h; · exact absurd (fun _ => h) hb
                                        · exact h
        have hn := lon_skip hok (fun _ => ⟨rfl, hle⟩)
        rw [← take_snoc hs] at hn
        (repeat' (first | ((with_reducible apply gJ); (first | refine J_seq ?_ | refine J_reg ?_ | refine J_skip ?_ | refine J_block ?_ | refine J_blk ?_ | refine J_exit rfl ?_ | refine J_goto rfl ?_ | ((with_reducible apply gJ_if); (first | refine J_ift rfl ?_ | refine J_iff rfl ?_ | (refine J_if xR ?_ ?_ <;> intro _ <;> (try (exfalso; first | contradiction | omega))) | (refine J_ifb xR ?_ ?_ <;> (intro hgb; subst hgb)) | (refine J_ifb xR ?_ ?_ <;> intro _) | fail)) | refine J_label ?_ | fail)) | ((with_reducible apply gL); (first | refine JL_nil ?_ | ((with_reducible apply gL_gd); (first | refine JL_skip xR xR ?_ | fail)) | refine L_move ?_ | refine L_assign ?_ | refine L_fieldAddr ?_ | refine L_load ?_ | refine L_nilCheck ?_ | refine L_pick ?_ | refine L_indexAddr ?_ | refine L_build ?_ | refine L_c_len ?_ | refine L_un_not ?_ | refine L_bin_lss ?_ | refine L_bin_gtr ?_ | refine L_bin_add_i64 ?_ | refine L_bin_add_r ?_ | ((with_reducible apply gL_alloc); (first | (refine JL_mc rfl xR xR (al_alloc xN xK) ?_; intro _) | fail)) | ((with_reducible apply gL_store); (first | refine JL_st xR xR xT xC xR xE xR ?_ | refine JL_stW xR xR xT xW xR xR xR ?_ | refine JL_stS xR xR xT xW xP xR xR ?_ | refine JL_stEl xR xR xT xR xL xR (tabS stab_ok xR) xR xR xO ?_ | fail)) | ((with_reducible apply gL_go); (first | (refine JL_goq (rwithin_b x.1 (ad, 32) hx.1 hpn true (decide_eq_true hw)) (hφ := xF) (h := ?_); rintro _ _ ⟨rfl, rfl⟩; try simp only [List.cons_append, List.nil_append]) | fail)) | ((with_reducible apply gL_gd); (first | (refine JL_guard xR xR ?_ ?_ <;> intro _ <;> (try (exfalso; first | contradiction | omega))) | (refine JL_guardb xR xR ?_ ?_ <;> (intro hgb; subst hgb)) | (refine JL_guardb xR xR ?_ ?_ <;> (intro hgb; fail_if_success (have : type_of% hgb := rfl))) | fail)) | fail)) | fail))
        exact J_again ⟨k + 1, best, true⟩ (by dsimp only; omega) ⟨hlt, hn⟩ ⟨rfl, rfl, rfl, rfl, rfl, rfl, trivial⟩ (fun w H => H.sel (by (first | ((with_reducible (repeat (first | exact Sb.nil | apply Sb.cons | exact Tk.here | apply Tk.there))); done) | (repeat (first | exact Sb.nil | apply Sb.cons | exact Tk.here | apply Tk.there)))))
    · have hn := lon_skip (x := x) hok (fun h => absurd h hw)
      rw [← take_snoc hs] at hn
      (repeat' (first | ((with_reducible apply gJ); (first | refine J_seq ?_ | refine J_reg ?_ | refine J_skip ?_ | refine J_block ?_ | refine J_blk ?_ | refine J_exit rfl ?_ | refine J_goto rfl ?_ | ((with_reducible apply gJ_if); (first | refine J_ift rfl ?_ | refine J_iff rfl ?_ | (refine J_if xR ?_ ?_ <;> intro _ <;> (try (exfalso; first | contradiction | omega))) | (refine J_ifb xR ?_ ?_ <;> (intro hgb; subst hgb)) | (refine J_ifb xR ?_ ?_ <;> intro _) | fail)) | refine J_label ?_ | fail)) | ((with_reducible apply gL); (first | refine JL_nil ?_ | ((with_reducible apply gL_gd); (first | refine JL_skip xR xR ?_ | fail)) | refine L_move ?_ | refine L_assign ?_ | refine L_fieldAddr ?_ | refine L_load ?_ | refine L_nilCheck ?_ | refine L_pick ?_ | refine L_indexAddr ?_ | refine L_build ?_ | refine L_c_len ?_ | refine L_un_not ?_ | refine L_bin_lss ?_ | refine L_bin_gtr ?_ | refine L_bin_add_i64 ?_ | refine L_bin_add_r ?_ | ((with_reducible apply gL_alloc); (first | (refine JL_mc rfl xR xR (al_alloc xN xK) ?_; intro _) | fail)) | ((with_reducible apply gL_store); (first | refine JL_st xR xR xT xC xR xE xR ?_ | refine JL_stW xR xR xT xW xR xR xR ?_ | refine JL_stS xR xR xT xW xP xR xR ?_ | refine JL_stEl xR xR xT xR xL xR (tabS stab_ok xR) xR xR xO ?_ | fail)) | ((with_reducible apply gL_go); (first | (refine JL_goq (rwithin_b x.1 (ad, 32) hx.1 hpn false (decide_eq_false hw)) (hφ := xF) (h := ?_); rintro _ _ ⟨rfl, rfl⟩; try simp only [List.cons_append, List.nil_append]) | fail)) | ((with_reducible apply gL_gd); (first | (refine JL_guard xR xR ?_ ?_ <;> intro _ <;> (try (exfalso; first | contradiction | omega))) | (refine JL_guardb xR xR ?_ ?_ <;> (intro hgb; subst hgb)) | (refine JL_guardb xR xR ?_ ?_ <;> (intro hgb; fail_if_success (have : type_of% hgb := rfl))) | fail)) | fail)) | fail))
      exact J_again ⟨k + 1, best, any⟩ (by dsimp only; omega) ⟨hlt, hn⟩ ⟨rfl, rfl, rfl, rfl, rfl, rfl, trivial⟩ (fun w H => H.sel (by (first | ((with_reducible (repeat (first | exact Sb.nil | apply Sb.cons | exact Tk.here | apply Tk.there))); done) | (repeat (first | exact Sb.nil | apply Sb.cons | exact Tk.here | apply Tk.there)))))
  · obtain rfl : k = l.length := by omega
    rw [List.take_length] at hok
    (repeat' (first | ((with_reducible apply gJ); (first | refine J_seq ?_ | refine J_reg ?_ | refine J_skip ?_ | refine J_block ?_ | refine J_blk ?_ | refine J_exit rfl ?_ | refine J_goto rfl ?_ | ((with_reducible apply gJ_if); (first | refine J_ift rfl ?_ | refine J_iff rfl ?_ | (refine J_if xR ?_ ?_ <;> intro _ <;> (try (exfalso; first | contradiction | omega))) | (refine J_ifb xR ?_ ?_ <;> (intro hgb; subst hgb)) | (refine J_ifb xR ?_ ?_ <;> intro _) | fail)) | refine J_label ?_ | fail)) | ((with_reducible apply gL); (first | refine JL_nil ?_ | ((with_reducible apply gL_gd); (first | refine JL_skip xR xR ?_ | fail)) | refine L_move ?_ | refine L_assign ?_ | refine L_fieldAddr ?_ | refine L_load ?_ | refine L_nilCheck ?_ | refine L_pick ?_ | refine L_indexAddr ?_ | refine L_build ?_ | refine L_c_len ?_ | refine L_un_not ?_ | refine L_bin_lss ?_ | refine L_bin_gtr ?_ | refine L_bin_add_i64 ?_ | refine L_bin_add_r ?_ | ((with_reducible apply gL_alloc); (first | (refine JL_mc rfl xR xR (al_alloc xN xK) ?_; intro _) | fail)) | ((with_reducible apply gL_store); (first | refine JL_st xR xR xT xC xR xE xR ?_ | refine JL_stW xR xR xT xW xR xR xR ?_ | refine JL_stS xR xR xT xW xP xR xR ?_ | refine JL_stEl xR xR xT xR xL xR (tabS stab_ok xR) xR xR xO ?_ | fail)) | ((with_reducible apply gL_gd); (first | (refine JL_guard xR xR ?_ ?_ <;> intro _ <;> (try (exfalso; first | contradiction | omega))) | (refine JL_guardb xR xR ?_ ?_ <;> (intro hgb; subst hgb)) | (refine JL_guardb xR xR ?_ ?_ <;> (intro hgb; fail_if_success (have : type_of% hgb := rfl))) | fail)) | fail)) | fail))
    exact J_retC1 (cs := pfC best) rfl (by rfl) (by rfl) (by (first | ((with_reducible (repeat (first | exact Tk.here | apply Tk.there))); done) | ((simp only [List.cons_append, List.nil_append]); (with_reducible (repeat (first | exact Tk.here | apply Tk.there))); done) | fail)) (by rfl) fun w H => ⟨_, ⟨best, any, hok, rfl, rfl⟩, H.sel (by (first | ((with_reducible (repeat (first | exact Sb.nil | apply Sb.cons | exact Tk.here | apply Tk.there))); done) | (repeat (first | exact Sb.nil | apply Sb.cons | exact Tk.here | apply Tk.there))))⟩
end
end Go.Proofs.Ytmimfjgnmmfhdaa
