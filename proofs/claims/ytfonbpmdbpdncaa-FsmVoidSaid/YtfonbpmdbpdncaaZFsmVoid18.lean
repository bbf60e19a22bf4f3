/-
  Fs32, J10, Fs33: merged.
-/
import Derived.Test.YtfonbpmdbpdncaaZFsmVoid17
namespace Go.Proofs.Ytfonbpmdbpdncaa
set_option linter.unusedSimpArgs false
set_option linter.unusedVariables false
set_option maxRecDepth 20000
set_option maxHeartbeats 4000000
open Go.RowKit Go.Pm

abbrev zC : List Value := [.int .u32 0, .int .u32 0, .int .i64 0, .int .u32 0, .bool false, .int .i64 0, .int .i64 0, .bool false, .bool false, .int .i64 0, .int .i64 0, .int .i64 0, .int .u32 0, .int .i64 0, .int .u32 0, .bool false, .bool false, .bool false, .bool false, .int .i64 0, .bool false, .bool false, .int .i64 0, .int .i64 0, .int .i64 0, .int .i64 0, .int .i64 0, .int .u32 0, .int .i64 0, .int .u32 0, .bool false, .bool false, .bool false, .bool false, .int .i64 0, .bool false, .bool false, .int .i64 0, .int .i64 0, .int .i64 0, .int .i64 0, .slice none 0 0]
theorem at_nil (now : Int) : Pact Try.prog 34 #[.pointer none, .int .i64 now] (fun _ => True) [] (ret0 (.bool false)) := by
  refine pact Try.func34 rfl Try.ntmps34 rfl ?_
  intro W K _
  (repeat' (first | ((with_reducible apply gL); (first | refine yL0 ?_ | refine yL ?_ | ((with_reducible apply gL_gd); (first | (refine JL_guard xR xR ?_ ?_ <;> intro _ <;> (try (exfalso; first | contradiction | omega))) | (refine JL_guardb xR xR ?_ ?_ <;> (intro hgb; subst hgb)) | (refine JL_guardb xR xR ?_ ?_ <;> (intro hgb; fail_if_success (have : type_of% hgb := rfl))) | fail)) | fail)) | refine yJ ?_ | ((with_reducible apply gJ_if); (first | (refine J_if xR ?_ ?_ <;> intro _ <;> (try (exfalso; first | contradiction | omega))) | (refine J_ifb xR ?_ ?_ <;> (intro hgb; subst hgb)) | (refine J_ifb xR ?_ ?_ <;> intro _) | fail)) | fail))
  exact J_ret1 rfl (by rfl) fun w H => ⟨_, ⟨rfl, rfl⟩, H.sel .nil⟩
theorem at_zero (b : Nat) (now : Int) : Pact Try.prog 34 #[.pointer (some ⟨b, 0, none⟩), .int .i64 now] (fun _ => True) [pts b zC 52] (fun u L' => u = .bool false ∧ L' = [pts b zC 52]) := by
  refine pact Try.func34 rfl Try.ntmps34 rfl ?_
  intro W K _
  (repeat' (first | ((with_reducible apply gL); (first | refine yL0 ?_ | refine yL ?_ | ((with_reducible apply gL_gd); (first | (refine JL_guard xR xR ?_ ?_ <;> intro _ <;> (try (exfalso; first | contradiction | omega))) | (refine JL_guardb xR xR ?_ ?_ <;> (intro hgb; subst hgb)) | (refine JL_guardb xR xR ?_ ?_ <;> (intro hgb; fail_if_success (have : type_of% hgb := rfl))) | fail)) | fail)) | refine yJ ?_ | ((with_reducible apply gJ_if); (first | (refine J_if xR ?_ ?_ <;> intro _ <;> (try (exfalso; first | contradiction | omega))) | (refine J_ifb xR ?_ ?_ <;> (intro hgb; subst hgb)) | (refine J_ifb xR ?_ ?_ <;> intro _) | fail)) | fail))
  exact J_ret1 rfl (by rfl) fun w H => ⟨_, ⟨rfl, rfl⟩, H.sel xZ⟩
theorem track_z (b : Nat) (k : Int) : Pact Try.prog 19 #[.pointer (some ⟨b, 0, none⟩), .int .i64 k] (fun _ => True) [] (fun u L' => ∃ p, u = .pointer p ∧ L' = []) := by
  by_cases h0 : k = 0
  · subst h0
    intro W K w hK H
    refine (track0_s b W K w hK H).mono fun e w' h3 => ?_
    obtain ⟨u, L', ⟨h4, h5⟩, h6⟩ := h3
    exact ⟨u, L', ⟨_, h4, h5⟩, h6⟩
  by_cases h1 : k = 1
  · subst h1
    intro W K w hK H
    refine (track1_s b W K w hK H).mono fun e w' h3 => ?_
    obtain ⟨u, L', ⟨h4, h5⟩, h6⟩ := h3
    exact ⟨u, L', ⟨_, h4, h5⟩, h6⟩
  · intro W K w hK H
    refine (trackN_s (some ⟨b, 0, none⟩) k (by omega) W K w hK H).mono fun e w' h3 => ?_
    obtain ⟨u, L', ⟨h4, h5⟩, h6⟩ := h3
    exact ⟨u, L', ⟨_, h4, h5⟩, h6⟩
theorem Start_nil (now : Int) : Pact Try.prog 14 #[.pointer none, .int .i64 now] (fun _ => True) [] (ret0 (.slice none 0 0)) := by
  refine pact Try.func14 rfl Try.ntmps14 rfl ?_
  intro W K _
  (repeat' (first | ((with_reducible apply gL); (first | refine yL0 ?_ | refine yL ?_ | ((with_reducible apply gL_go); (first | (refine JL_goq (at_nil now) (hφ := xF) (h := ?_); rintro _ _ ⟨rfl, rfl⟩; try simp only [List.cons_append, List.nil_append]) | fail)) | ((with_reducible apply gL_gd); (first | (refine JL_guard xR xR ?_ ?_ <;> intro _ <;> (try (exfalso; first | contradiction | omega))) | (refine JL_guardb xR xR ?_ ?_ <;> (intro hgb; subst hgb)) | (refine JL_guardb xR xR ?_ ?_ <;> (intro hgb; fail_if_success (have : type_of% hgb := rfl))) | fail)) | fail)) | refine yJ ?_ | ((with_reducible apply gJ_if); (first | (refine J_if xR ?_ ?_ <;> intro _ <;> (try (exfalso; first | contradiction | omega))) | (refine J_ifb xR ?_ ?_ <;> (intro hgb; subst hgb)) | (refine J_ifb xR ?_ ?_ <;> intro _) | fail)) | fail))
  all_goals (first | (exfalso; omega) | skip)
  all_goals exact J_ret1 rfl (by rfl) fun w H => ⟨_, ⟨rfl, rfl⟩, H.sel xZ⟩
theorem Start_zero (b : Nat) (now : Int) : Pact Try.prog 14 #[.pointer (some ⟨b, 0, none⟩), .int .i64 now] (fun _ => True) [pts b zC 52] (fun u L' => u = .slice none 0 0 ∧ L' = [pts b zC 52]) := by
  refine pact Try.func14 rfl Try.ntmps14 rfl ?_
  intro W K _
  (repeat' (first | ((with_reducible apply gL); (first | refine yL0 ?_ | refine yL ?_ | ((with_reducible apply gL_go); (first | (refine JL_goq (at_zero b now) (hφ := xF) (h := ?_); rintro _ _ ⟨rfl, rfl⟩; try simp only [List.cons_append, List.nil_append]) | fail)) | ((with_reducible apply gL_gd); (first | (refine JL_guard xR xR ?_ ?_ <;> intro _ <;> (try (exfalso; first | contradiction | omega))) | (refine JL_guardb xR xR ?_ ?_ <;> (intro hgb; subst hgb)) | (refine JL_guardb xR xR ?_ ?_ <;> (intro hgb; fail_if_success (have : type_of% hgb := rfl))) | fail)) | fail)) | refine yJ ?_ | ((with_reducible apply gJ_if); (first | (refine J_if xR ?_ ?_ <;> intro _ <;> (try (exfalso; first | contradiction | omega))) | (refine J_ifb xR ?_ ?_ <;> (intro hgb; subst hgb)) | (refine J_ifb xR ?_ ?_ <;> intro _) | fail)) | fail))
  all_goals (first | (exfalso; omega) | skip)
  all_goals exact J_ret1 rfl (by rfl) fun w H => ⟨_, ⟨rfl, rfl⟩, H.sel xZ⟩
theorem Stop_nil (now : Int) (n : Int) : Pact Try.prog 21 #[.pointer none, .int .i64 now, .int .i64 n] (fun _ => True) [] (ret0 (.slice none 0 0)) := by
  refine pact Try.func21 rfl Try.ntmps21 rfl ?_
  intro W K _
  (repeat' (first | ((with_reducible apply gL); (first | refine yL0 ?_ | refine yL ?_ | ((with_reducible apply gL_go); (first | (refine JL_goq (at_nil now) (hφ := xF) (h := ?_); rintro _ _ ⟨rfl, rfl⟩; try simp only [List.cons_append, List.nil_append]) | fail)) | (refine yM ?_; intro _) | fail)) | refine yJ ?_ | ((with_reducible apply gJ_if); (first | (refine J_if xR ?_ ?_ <;> intro _ <;> (try (exfalso; first | contradiction | omega))) | (refine J_ifb xR ?_ ?_ <;> (intro hgb; subst hgb)) | (refine J_ifb xR ?_ ?_ <;> intro _) | fail)) | fail))
  all_goals (first | (exfalso; omega) | skip)
  all_goals exact J_ret1 rfl (by rfl) fun w H => ⟨_, ⟨rfl, rfl⟩, H.sel xZ⟩
theorem Stop_zero (b : Nat) (now : Int) (n : Int) : Pact Try.prog 21 #[.pointer (some ⟨b, 0, none⟩), .int .i64 now, .int .i64 n] (fun _ => True) [pts b zC 52] (fun u L' => u = .slice none 0 0 ∧ L' = [pts b zC 52]) := by
  refine pact Try.func21 rfl Try.ntmps21 rfl ?_
  intro W K _
  (repeat' (first | ((with_reducible apply gL); (first | refine yL0 ?_ | refine yL ?_ | ((with_reducible apply gL_go); (first | (refine JL_goq (at_zero b now) (hφ := xF) (h := ?_); rintro _ _ ⟨rfl, rfl⟩; try simp only [List.cons_append, List.nil_append]) | fail)) | (refine yM ?_; intro _) | fail)) | refine yJ ?_ | ((with_reducible apply gJ_if); (first | (refine J_if xR ?_ ?_ <;> intro _ <;> (try (exfalso; first | contradiction | omega))) | (refine J_ifb xR ?_ ?_ <;> (intro hgb; subst hgb)) | (refine J_ifb xR ?_ ?_ <;> intro _) | fail)) | fail))
  all_goals (first | (exfalso; omega) | skip)
  all_goals exact J_ret1 rfl (by rfl) fun w H => ⟨_, ⟨rfl, rfl⟩, H.sel xZ⟩
theorem Tick_nil (now : Int) : Pact Try.prog 25 #[.pointer none, .int .i64 now] (fun _ => True) [] (ret0 (.slice none 0 0)) := by
  refine pact Try.func25 rfl Try.ntmps25 rfl ?_
  intro W K _
  (repeat' (first | ((with_reducible apply gL); (first | refine yL0 ?_ | refine yL ?_ | ((with_reducible apply gL_go); (first | (refine JL_goq (at_nil now) (hφ := xF) (h := ?_); rintro _ _ ⟨rfl, rfl⟩; try simp only [List.cons_append, List.nil_append]) | fail)) | (refine yM ?_; intro _) | ((with_reducible apply gL_gd); (first | (refine JL_guard xR xR ?_ ?_ <;> intro _ <;> (try (exfalso; first | contradiction | omega))) | (refine JL_guardb xR xR ?_ ?_ <;> (intro hgb; subst hgb)) | (refine JL_guardb xR xR ?_ ?_ <;> (intro hgb; fail_if_success (have : type_of% hgb := rfl))) | fail)) | fail)) | ((with_reducible apply gD); (first | (refine JD_nil ?_; try simp only [List.cons_append, List.nil_append]) | (refine JD_bar ?_; try simp only [List.cons_append, List.nil_append]) | refine yD ?_ | fail)) | refine yJ ?_ | ((with_reducible apply gJ_if); (first | (refine J_if xR ?_ ?_ <;> intro _ <;> (try (exfalso; first | contradiction | omega))) | (refine J_ifb xR ?_ ?_ <;> (intro hgb; subst hgb)) | (refine J_ifb xR ?_ ?_ <;> intro _) | fail)) | refine J_draw (id := 12) [0, 1, 2, 3, 4, 5, 6, 7, 8, 9] [10, 11, 12] mixed xC xD xD ?_ | fail))
  all_goals (first | (exfalso; omega) | skip)
  all_goals exact J_ret1 rfl (by rfl) fun w H => ⟨_, ⟨rfl, rfl⟩, H.sel xZ⟩
theorem Tick_zero (b : Nat) (now : Int) : Pact Try.prog 25 #[.pointer (some ⟨b, 0, none⟩), .int .i64 now] (fun _ => True) [pts b zC 52] (fun u L' => u = .slice none 0 0 ∧ L' = [pts b zC 52]) := by
  refine pact Try.func25 rfl Try.ntmps25 rfl ?_
  intro W K _
  (repeat' (first | ((with_reducible apply gL); (first | refine yL0 ?_ | refine yL ?_ | ((with_reducible apply gL_go); (first | (refine JL_goq (at_zero b now) (hφ := xF) (h := ?_); rintro _ _ ⟨rfl, rfl⟩; try simp only [List.cons_append, List.nil_append]) | fail)) | (refine yM ?_; intro _) | ((with_reducible apply gL_gd); (first | (refine JL_guard xR xR ?_ ?_ <;> intro _ <;> (try (exfalso; first | contradiction | omega))) | (refine JL_guardb xR xR ?_ ?_ <;> (intro hgb; subst hgb)) | (refine JL_guardb xR xR ?_ ?_ <;> (intro hgb; fail_if_success (have : type_of% hgb := rfl))) | fail)) | fail)) | ((with_reducible apply gD); (first | (refine JD_nil ?_; try simp only [List.cons_append, List.nil_append]) | (refine JD_bar ?_; try simp only [List.cons_append, List.nil_append]) | refine yD ?_ | fail)) | refine yJ ?_ | ((with_reducible apply gJ_if); (first | (refine J_if xR ?_ ?_ <;> intro _ <;> (try (exfalso; first | contradiction | omega))) | (refine J_ifb xR ?_ ?_ <;> (intro hgb; subst hgb)) | (refine J_ifb xR ?_ ?_ <;> intro _) | fail)) | refine J_draw (id := 12) [0, 1, 2, 3, 4, 5, 6, 7, 8, 9] [10, 11, 12] mixed xC xD xD ?_ | fail))
  all_goals (first | (exfalso; omega) | skip)
  all_goals exact J_ret1 rfl (by rfl) fun w H => ⟨_, ⟨rfl, rfl⟩, H.sel xZ⟩
theorem Up_nil (now : Int) (k : Int) : Pact Try.prog 15 #[.pointer none, .int .i64 now, .int .i64 k] (fun _ => True) [] (ret0 (.slice none 0 0)) := by
  refine pact Try.func15 rfl Try.ntmps15 rfl ?_
  intro W K _
  (repeat' (first | ((with_reducible apply gL); (first | (with_reducible apply gL_app) | (with_reducible apply gL_app0) | refine yL0 ?_ | refine yL ?_ | ((with_reducible apply gL_go); (first | (refine JL_goq (at_nil now) (hφ := xF) (h := ?_); rintro _ _ ⟨rfl, rfl⟩; try simp only [List.cons_append, List.nil_append]) | (refine JL_goq (trackZ_s k) (hφ := xF) (h := ?_); rintro _ _ ⟨rfl, rfl⟩; try simp only [List.cons_append, List.nil_append]) | fail)) | ((with_reducible apply gL_gd); (first | (refine JL_guard xR xR ?_ ?_ <;> intro _ <;> (try (exfalso; first | contradiction | omega))) | (refine JL_guardb xR xR ?_ ?_ <;> (intro hgb; subst hgb)) | (refine JL_guardb xR xR ?_ ?_ <;> (intro hgb; fail_if_success (have : type_of% hgb := rfl))) | fail)) | fail)) | ((with_reducible apply gD); (first | (refine JD_nil ?_; try simp only [List.cons_append, List.nil_append]) | (refine JD_bar ?_; try simp only [List.cons_append, List.nil_append]) | (with_reducible apply gD_app) | (with_reducible apply gD_app0) | refine yD ?_ | ((with_reducible apply gD_go); (first | (refine JD_goq (at_nil now) (hφ := xF) (h := ?_); rintro _ _ ⟨rfl, rfl⟩; try simp only [List.cons_append, List.nil_append]) | (refine JD_goq (trackZ_s k) (hφ := xF) (h := ?_); rintro _ _ ⟨rfl, rfl⟩; try simp only [List.cons_append, List.nil_append]) | fail)) | fail)) | refine yJ ?_ | ((with_reducible apply gJ_if); (first | (refine J_if xR ?_ ?_ <;> intro _ <;> (try (exfalso; first | contradiction | omega))) | (refine J_ifb xR ?_ ?_ <;> (intro hgb; subst hgb)) | (refine J_ifb xR ?_ ?_ <;> intro _) | fail)) | refine J_draw (id := 7) [0, 1, 2, 3, 4, 5, 6, 7, 8, 9, 10, 11, 12, 13, 14, 15, 16, 17, 18, 19, 20, 21, 22, 23, 24, 25, 26] [27, 28, 29, 30, 31, 32] mixed xC xD xD ?_ | fail))
  all_goals (first | (exfalso; omega) | skip)
  all_goals exact J_ret1 rfl (by rfl) fun w H => ⟨_, ⟨rfl, rfl⟩, H.sel xZ⟩
theorem Up_zero (b : Nat) (now : Int) (k : Int) : Pact Try.prog 15 #[.pointer (some ⟨b, 0, none⟩), .int .i64 now, .int .i64 k] (fun _ => True) [pts b zC 52] (fun u L' => u = .slice none 0 0 ∧ L' = [pts b zC 52]) := by
  refine pact Try.func15 rfl Try.ntmps15 rfl ?_
  intro W K _
  (repeat' (first | ((with_reducible apply gL); (first | (with_reducible apply gL_app) | (with_reducible apply gL_app0) | refine yL0 ?_ | refine yL ?_ | ((with_reducible apply gL_go); (first | (refine JL_goq (at_zero b now) (hφ := xF) (h := ?_); rintro _ _ ⟨rfl, rfl⟩; try simp only [List.cons_append, List.nil_append]) | (refine JL_goq (track_z b k) (hφ := xF) (h := ?_); rintro _ _ ⟨p, rfl, rfl⟩; try simp only [List.cons_append, List.nil_append]) | fail)) | ((with_reducible apply gL_gd); (first | (refine JL_guard xR xR ?_ ?_ <;> intro _ <;> (try (exfalso; first | contradiction | omega))) | (refine JL_guardb xR xR ?_ ?_ <;> (intro hgb; subst hgb)) | (refine JL_guardb xR xR ?_ ?_ <;> (intro hgb; fail_if_success (have : type_of% hgb := rfl))) | fail)) | fail)) | ((with_reducible apply gD); (first | (refine JD_nil ?_; try simp only [List.cons_append, List.nil_append]) | (refine JD_bar ?_; try simp only [List.cons_append, List.nil_append]) | (with_reducible apply gD_app) | (with_reducible apply gD_app0) | refine yD ?_ | ((with_reducible apply gD_go); (first | (refine JD_goq (at_zero b now) (hφ := xF) (h := ?_); rintro _ _ ⟨rfl, rfl⟩; try simp only [List.cons_append, List.nil_append]) | (refine JD_goq (track_z b k) (hφ := xF) (h := ?_); rintro _ _ ⟨p, rfl, rfl⟩; try simp only [List.cons_append, List.nil_append]) | fail)) | fail)) | refine yJ ?_ | ((with_reducible apply gJ_if); (first | (refine J_if xR ?_ ?_ <;> intro _ <;> (try (exfalso; first | contradiction | omega))) | (refine J_ifb xR ?_ ?_ <;> (intro hgb; subst hgb)) | (refine J_ifb xR ?_ ?_ <;> intro _) | fail)) | refine J_draw (id := 7) [0, 1, 2, 3, 4, 5, 6, 7, 8, 9, 10, 11, 12, 13, 14, 15, 16, 17, 18, 19, 20, 21, 22, 23, 24, 25, 26] [27, 28, 29, 30, 31, 32] mixed xC xD xD ?_ | fail))
  all_goals (first | (exfalso; omega) | skip)
  all_goals exact J_ret1 rfl (by rfl) fun w H => ⟨_, ⟨rfl, rfl⟩, H.sel xZ⟩
theorem Gone_nil (now : Int) (k : Int) : Pact Try.prog 22 #[.pointer none, .int .i64 now, .int .i64 k] (fun _ => True) [] (ret0 (.slice none 0 0)) := by
  refine pact Try.func22 rfl Try.ntmps22 rfl ?_
  intro W K _
  (repeat' (first | ((with_reducible apply gL); (first | refine yL0 ?_ | refine yL ?_ | ((with_reducible apply gL_go); (first | (refine JL_goq (at_nil now) (hφ := xF) (h := ?_); rintro _ _ ⟨rfl, rfl⟩; try simp only [List.cons_append, List.nil_append]) | (refine JL_goq (trackZ_s k) (hφ := xF) (h := ?_); rintro _ _ ⟨rfl, rfl⟩; try simp only [List.cons_append, List.nil_append]) | fail)) | ((with_reducible apply gL_gd); (first | (refine JL_guard xR xR ?_ ?_ <;> intro _ <;> (try (exfalso; first | contradiction | omega))) | (refine JL_guardb xR xR ?_ ?_ <;> (intro hgb; subst hgb)) | (refine JL_guardb xR xR ?_ ?_ <;> (intro hgb; fail_if_success (have : type_of% hgb := rfl))) | fail)) | fail)) | refine yJ ?_ | ((with_reducible apply gJ_if); (first | (refine J_if xR ?_ ?_ <;> intro _ <;> (try (exfalso; first | contradiction | omega))) | (refine J_ifb xR ?_ ?_ <;> (intro hgb; subst hgb)) | (refine J_ifb xR ?_ ?_ <;> intro _) | fail)) | fail))
  all_goals (first | (exfalso; omega) | skip)
  all_goals exact J_ret1 rfl (by rfl) fun w H => ⟨_, ⟨rfl, rfl⟩, H.sel xZ⟩
theorem Gone_zero (b : Nat) (now : Int) (k : Int) : Pact Try.prog 22 #[.pointer (some ⟨b, 0, none⟩), .int .i64 now, .int .i64 k] (fun _ => True) [pts b zC 52] (fun u L' => u = .slice none 0 0 ∧ L' = [pts b zC 52]) := by
  refine pact Try.func22 rfl Try.ntmps22 rfl ?_
  intro W K _
  (repeat' (first | ((with_reducible apply gL); (first | refine yL0 ?_ | refine yL ?_ | ((with_reducible apply gL_go); (first | (refine JL_goq (at_zero b now) (hφ := xF) (h := ?_); rintro _ _ ⟨rfl, rfl⟩; try simp only [List.cons_append, List.nil_append]) | (refine JL_goq (track_z b k) (hφ := xF) (h := ?_); rintro _ _ ⟨p, rfl, rfl⟩; try simp only [List.cons_append, List.nil_append]) | fail)) | ((with_reducible apply gL_gd); (first | (refine JL_guard xR xR ?_ ?_ <;> intro _ <;> (try (exfalso; first | contradiction | omega))) | (refine JL_guardb xR xR ?_ ?_ <;> (intro hgb; subst hgb)) | (refine JL_guardb xR xR ?_ ?_ <;> (intro hgb; fail_if_success (have : type_of% hgb := rfl))) | fail)) | fail)) | refine yJ ?_ | ((with_reducible apply gJ_if); (first | (refine J_if xR ?_ ?_ <;> intro _ <;> (try (exfalso; first | contradiction | omega))) | (refine J_ifb xR ?_ ?_ <;> (intro hgb; subst hgb)) | (refine J_ifb xR ?_ ?_ <;> intro _) | fail)) | fail))
  all_goals (first | (exfalso; omega) | skip)
  all_goals exact J_ret1 rfl (by rfl) fun w H => ⟨_, ⟨rfl, rfl⟩, H.sel xZ⟩
theorem Fail_nil (now : Int) (k z sub : Int) (fa : Option Addr) (fn fc : Nat) : Pact Try.prog 23 #[.pointer none, .int .i64 now, .int .i64 k, .agg #[.int .i64 z, .int .i64 sub, .slice fa fn fc]] (fun _ => True) [] (ret0 (.slice none 0 0)) := by
  refine pact Try.func23 rfl Try.ntmps23 rfl ?_
  intro W K _
  (repeat' (first | ((with_reducible apply gL); (first | refine yL0 ?_ | refine yL ?_ | ((with_reducible apply gL_go); (first | (refine JL_goq (at_nil now) (hφ := xF) (h := ?_); rintro _ _ ⟨rfl, rfl⟩; try simp only [List.cons_append, List.nil_append]) | (refine JL_goq (trackZ_s k) (hφ := xF) (h := ?_); rintro _ _ ⟨rfl, rfl⟩; try simp only [List.cons_append, List.nil_append]) | fail)) | (refine yM ?_; intro _) | ((with_reducible apply gL_gd); (first | (refine JL_guard xR xR ?_ ?_ <;> intro _ <;> (try (exfalso; first | contradiction | omega))) | (refine JL_guardb xR xR ?_ ?_ <;> (intro hgb; subst hgb)) | (refine JL_guardb xR xR ?_ ?_ <;> (intro hgb; fail_if_success (have : type_of% hgb := rfl))) | fail)) | fail)) | refine yJ ?_ | ((with_reducible apply gJ_if); (first | (refine J_if xR ?_ ?_ <;> intro _ <;> (try (exfalso; first | contradiction | omega))) | (refine J_ifb xR ?_ ?_ <;> (intro hgb; subst hgb)) | (refine J_ifb xR ?_ ?_ <;> intro _) | fail)) | fail))
  all_goals (first | (exfalso; omega) | skip)
  all_goals exact J_ret1 rfl (by rfl) fun w H => ⟨_, ⟨rfl, rfl⟩, H.sel xZ⟩
theorem Fail_zero (b : Nat) (now : Int) (k z sub : Int) (fa : Option Addr) (fn fc : Nat) : Pact Try.prog 23 #[.pointer (some ⟨b, 0, none⟩), .int .i64 now, .int .i64 k, .agg #[.int .i64 z, .int .i64 sub, .slice fa fn fc]] (fun _ => True) [pts b zC 52] (fun u L' => u = .slice none 0 0 ∧ L' = [pts b zC 52]) := by
  refine pact Try.func23 rfl Try.ntmps23 rfl ?_
  intro W K _
  (repeat' (first | ((with_reducible apply gL); (first | refine yL0 ?_ | refine yL ?_ | ((with_reducible apply gL_go); (first | (refine JL_goq (at_zero b now) (hφ := xF) (h := ?_); rintro _ _ ⟨rfl, rfl⟩; try simp only [List.cons_append, List.nil_append]) | (refine JL_goq (track_z b k) (hφ := xF) (h := ?_); rintro _ _ ⟨p, rfl, rfl⟩; try simp only [List.cons_append, List.nil_append]) | fail)) | (refine yM ?_; intro _) | ((with_reducible apply gL_gd); (first | (refine JL_guard xR xR ?_ ?_ <;> intro _ <;> (try (exfalso; first | contradiction | omega))) | (refine JL_guardb xR xR ?_ ?_ <;> (intro hgb; subst hgb)) | (refine JL_guardb xR xR ?_ ?_ <;> (intro hgb; fail_if_success (have : type_of% hgb := rfl))) | fail)) | fail)) | refine yJ ?_ | ((with_reducible apply gJ_if); (first | (refine J_if xR ?_ ?_ <;> intro _ <;> (try (exfalso; first | contradiction | omega))) | (refine J_ifb xR ?_ ?_ <;> (intro hgb; subst hgb)) | (refine J_ifb xR ?_ ?_ <;> intro _) | fail)) | fail))
  all_goals (first | (exfalso; omega) | skip)
  all_goals exact J_ret1 rfl (by rfl) fun w H => ⟨_, ⟨rfl, rfl⟩, H.sel xZ⟩
theorem Take_nil (now : Int) (k kd : Int) (ma : Option Addr) (mn mc : Nat) : Pact Try.prog 17 #[.pointer none, .int .i64 now, .int .i64 k, .agg #[.int .i64 kd, .slice ma mn mc]] (fun _ => True) [] (ret0 (.slice none 0 0)) := by
  refine pact Try.func17 rfl Try.ntmps17 rfl ?_
  intro W K _
  (repeat' (first | ((with_reducible apply gL); (first | refine yL0 ?_ | refine yL ?_ | ((with_reducible apply gL_go); (first | (refine JL_goq (at_nil now) (hφ := xF) (h := ?_); rintro _ _ ⟨rfl, rfl⟩; try simp only [List.cons_append, List.nil_append]) | (refine JL_goq (trackZ_s k) (hφ := xF) (h := ?_); rintro _ _ ⟨rfl, rfl⟩; try simp only [List.cons_append, List.nil_append]) | fail)) | (refine yM ?_; intro _) | ((with_reducible apply gL_gd); (first | (refine JL_guard xR xR ?_ ?_ <;> intro _ <;> (try (exfalso; first | contradiction | omega))) | (refine JL_guardb xR xR ?_ ?_ <;> (intro hgb; subst hgb)) | (refine JL_guardb xR xR ?_ ?_ <;> (intro hgb; fail_if_success (have : type_of% hgb := rfl))) | fail)) | fail)) | refine yJ ?_ | ((with_reducible apply gJ_if); (first | (refine J_if xR ?_ ?_ <;> intro _ <;> (try (exfalso; first | contradiction | omega))) | (refine J_ifb xR ?_ ?_ <;> (intro hgb; subst hgb)) | (refine J_ifb xR ?_ ?_ <;> intro _) | fail)) | fail))
  all_goals (first | (exfalso; omega) | skip)
  all_goals exact J_ret1 rfl (by rfl) fun w H => ⟨_, ⟨rfl, rfl⟩, H.sel xZ⟩
theorem Take_zero (b : Nat) (now : Int) (k kd : Int) (ma : Option Addr) (mn mc : Nat) : Pact Try.prog 17 #[.pointer (some ⟨b, 0, none⟩), .int .i64 now, .int .i64 k, .agg #[.int .i64 kd, .slice ma mn mc]] (fun _ => True) [pts b zC 52] (fun u L' => u = .slice none 0 0 ∧ L' = [pts b zC 52]) := by
  refine pact Try.func17 rfl Try.ntmps17 rfl ?_
  intro W K _
  (repeat' (first | ((with_reducible apply gL); (first | refine yL0 ?_ | refine yL ?_ | ((with_reducible apply gL_go); (first | (refine JL_goq (at_zero b now) (hφ := xF) (h := ?_); rintro _ _ ⟨rfl, rfl⟩; try simp only [List.cons_append, List.nil_append]) | (refine JL_goq (track_z b k) (hφ := xF) (h := ?_); rintro _ _ ⟨p, rfl, rfl⟩; try simp only [List.cons_append, List.nil_append]) | fail)) | (refine yM ?_; intro _) | ((with_reducible apply gL_gd); (first | (refine JL_guard xR xR ?_ ?_ <;> intro _ <;> (try (exfalso; first | contradiction | omega))) | (refine JL_guardb xR xR ?_ ?_ <;> (intro hgb; subst hgb)) | (refine JL_guardb xR xR ?_ ?_ <;> (intro hgb; fail_if_success (have : type_of% hgb := rfl))) | fail)) | fail)) | refine yJ ?_ | ((with_reducible apply gJ_if); (first | (refine J_if xR ?_ ?_ <;> intro _ <;> (try (exfalso; first | contradiction | omega))) | (refine J_ifb xR ?_ ?_ <;> (intro hgb; subst hgb)) | (refine J_ifb xR ?_ ?_ <;> intro _) | fail)) | fail))
  all_goals (first | (exfalso; omega) | skip)
  all_goals exact J_ret1 rfl (by rfl) fun w H => ⟨_, ⟨rfl, rfl⟩, H.sel xZ⟩
set_option maxRecDepth 4000 in
theorem hear_nil (e : Qev) (he : EvOk e) : Pact Try.prog 9 #[.pointer none, .agg (evC e).toArray] (fun w => EvV w e) [] (ret0 (.slice none 0 0)) := by
  refine pact Try.func9 rfl Try.ntmps9 rfl ?_
  intro W K hK
  have hd := he.d
  have hb := he.ml
  have hf := he.fl
  (repeat' (first | ((with_reducible apply gL); (first | refine yL0 ?_ | refine yL ?_ | ((with_reducible apply gL_go); (first | (refine JL_goq (among_s e.d 13 (by decide) (by decide) hd) (hφ := xF) (h := ?_); rintro _ _ ⟨j, rfl, hj, rfl⟩; try simp only [List.cons_append, List.nil_append]) | (refine JL_goq (few23_s e.kd e.ma e.ml.length e.mc e.ml rfl hb) (hφ := (by (try simp only [List.cons_append, List.nil_append]); exact fun w hr => (hK w hr.1).1)) (h := ?_); rintro _ _ ⟨a', c', B, hBl, hB, rfl, rfl⟩; try simp only [List.cons_append, List.nil_append]) | (refine JL_goq (fault23_s e.z e.sub e.fa e.fl.length e.fc e.fl rfl hf) (hφ := (by (try simp only [List.cons_append, List.nil_append]); exact fun w hr => (hK w hr.1).2)) (h := ?_); rintro _ _ ⟨a', c', B, hBl, hB, rfl, rfl⟩; try simp only [List.cons_append, List.nil_append]) | (refine JL_goq (Start_nil e.now) (hφ := xF) (h := ?_); rintro _ _ ⟨rfl, rfl⟩; try simp only [List.cons_append, List.nil_append]) | (refine JL_goq (Stop_nil e.now e.n) (hφ := xF) (h := ?_); rintro _ _ ⟨rfl, rfl⟩; try simp only [List.cons_append, List.nil_append]) | (refine JL_goq (Tick_nil e.now) (hφ := xF) (h := ?_); rintro _ _ ⟨rfl, rfl⟩; try simp only [List.cons_append, List.nil_append]) | (refine JL_goq (Up_nil e.now e.tr) (hφ := xF) (h := ?_); rintro _ _ ⟨rfl, rfl⟩; try simp only [List.cons_append, List.nil_append]) | (refine JL_goq (Gone_nil e.now e.tr) (hφ := xF) (h := ?_); rintro _ _ ⟨rfl, rfl⟩; try simp only [List.cons_append, List.nil_append]) | (refine JL_goq (Fail_nil e.now e.tr e.z e.sub a' B.length c') (hφ := xF) (h := ?_); rintro _ _ ⟨rfl, rfl⟩; try simp only [List.cons_append, List.nil_append]) | (refine JL_goq (Take_nil e.now e.tr e.kd a' B.length c') (hφ := xF) (h := ?_); rintro _ _ ⟨rfl, rfl⟩; try simp only [List.cons_append, List.nil_append]) | fail)) | (refine yM ?_; intro _) | fail)) | ((with_reducible apply gD); (first | (refine JD_nil ?_; try simp only [List.cons_append, List.nil_append]) | (refine JD_bar ?_; try simp only [List.cons_append, List.nil_append]) | refine yD ?_ | ((with_reducible apply gD_go); (first | (refine JD_goq (among_s e.d 13 (by decide) (by decide) hd) (hφ := xF) (h := ?_); rintro _ _ ⟨j, rfl, hj, rfl⟩; try simp only [List.cons_append, List.nil_append]) | (refine JD_goq (few23_s e.kd e.ma e.ml.length e.mc e.ml rfl hb) (hφ := (by (try simp only [List.cons_append, List.nil_append]); exact fun w hr => (hK w hr.1).1)) (h := ?_); rintro _ _ ⟨a', c', B, hBl, hB, rfl, rfl⟩; try simp only [List.cons_append, List.nil_append]) | (refine JD_goq (fault23_s e.z e.sub e.fa e.fl.length e.fc e.fl rfl hf) (hφ := (by (try simp only [List.cons_append, List.nil_append]); exact fun w hr => (hK w hr.1).2)) (h := ?_); rintro _ _ ⟨a', c', B, hBl, hB, rfl, rfl⟩; try simp only [List.cons_append, List.nil_append]) | (refine JD_goq (Start_nil e.now) (hφ := xF) (h := ?_); rintro _ _ ⟨rfl, rfl⟩; try simp only [List.cons_append, List.nil_append]) | (refine JD_goq (Stop_nil e.now e.n) (hφ := xF) (h := ?_); rintro _ _ ⟨rfl, rfl⟩; try simp only [List.cons_append, List.nil_append]) | (refine JD_goq (Tick_nil e.now) (hφ := xF) (h := ?_); rintro _ _ ⟨rfl, rfl⟩; try simp only [List.cons_append, List.nil_append]) | (refine JD_goq (Up_nil e.now e.tr) (hφ := xF) (h := ?_); rintro _ _ ⟨rfl, rfl⟩; try simp only [List.cons_append, List.nil_append]) | (refine JD_goq (Gone_nil e.now e.tr) (hφ := xF) (h := ?_); rintro _ _ ⟨rfl, rfl⟩; try simp only [List.cons_append, List.nil_append]) | (refine JD_goq (Fail_nil e.now e.tr e.z e.sub a' B.length c') (hφ := xF) (h := ?_); rintro _ _ ⟨rfl, rfl⟩; try simp only [List.cons_append, List.nil_append]) | (refine JD_goq (Take_nil e.now e.tr e.kd a' B.length c') (hφ := xF) (h := ?_); rintro _ _ ⟨rfl, rfl⟩; try simp only [List.cons_append, List.nil_append]) | fail)) | fail)) | refine yJ ?_ | ((with_reducible apply gJ_if); (first | (refine J_if xR ?_ ?_ <;> intro _ <;> (try (exfalso; first | contradiction | omega))) | (refine J_ifb xR ?_ ?_ <;> (intro hgb; subst hgb)) | (refine J_ifb xR ?_ ?_ <;> intro _) | fail)) | refine J_draw (id := 12) [0, 1, 2, 3, 4, 5, 6, 7] [8, 9] mixed xC xD xD ?_ | refine J_draw (id := 16) [0, 1, 2, 3, 4, 5, 6, 7] [8, 9] mixed xC xD xD ?_ | fail))
  all_goals (first | (exfalso; omega) | skip)
  all_goals exact J_ret1 rfl (by rfl) fun w H => ⟨_, ⟨rfl, rfl⟩, H.sel xZ⟩
set_option maxRecDepth 4000 in
theorem hear_zero (b : Nat) (e : Qev) (he : EvOk e) : Pact Try.prog 9 #[.pointer (some ⟨b, 0, none⟩), .agg (evC e).toArray] (fun w => EvV w e) [pts b zC 52] (fun u L' => u = .slice none 0 0 ∧ L' = [pts b zC 52]) := by
  refine pact Try.func9 rfl Try.ntmps9 rfl ?_
  intro W K hK
  have hd := he.d
  have hb := he.ml
  have hf := he.fl
  (repeat' (first | ((with_reducible apply gL); (first | refine yL0 ?_ | refine yL ?_ | ((with_reducible apply gL_go); (first | (refine JL_goq (among_s e.d 13 (by decide) (by decide) hd) (hφ := xF) (h := ?_); rintro _ _ ⟨j, rfl, hj, rfl⟩; try simp only [List.cons_append, List.nil_append]) | (refine JL_goq (few23_s e.kd e.ma e.ml.length e.mc e.ml rfl hb) (hφ := (by (try simp only [List.cons_append, List.nil_append]); exact fun w hr => (hK w hr.1).1)) (h := ?_); rintro _ _ ⟨a', c', B, hBl, hB, rfl, rfl⟩; try simp only [List.cons_append, List.nil_append]) | (refine JL_goq (fault23_s e.z e.sub e.fa e.fl.length e.fc e.fl rfl hf) (hφ := (by (try simp only [List.cons_append, List.nil_append]); exact fun w hr => (hK w hr.1).2)) (h := ?_); rintro _ _ ⟨a', c', B, hBl, hB, rfl, rfl⟩; try simp only [List.cons_append, List.nil_append]) | (refine JL_goq (Start_zero b e.now) (hφ := xF) (h := ?_); rintro _ _ ⟨rfl, rfl⟩; try simp only [List.cons_append, List.nil_append]) | (refine JL_goq (Stop_zero b e.now e.n) (hφ := xF) (h := ?_); rintro _ _ ⟨rfl, rfl⟩; try simp only [List.cons_append, List.nil_append]) | (refine JL_goq (Tick_zero b e.now) (hφ := xF) (h := ?_); rintro _ _ ⟨rfl, rfl⟩; try simp only [List.cons_append, List.nil_append]) | (refine JL_goq (Up_zero b e.now e.tr) (hφ := xF) (h := ?_); rintro _ _ ⟨rfl, rfl⟩; try simp only [List.cons_append, List.nil_append]) | (refine JL_goq (Gone_zero b e.now e.tr) (hφ := xF) (h := ?_); rintro _ _ ⟨rfl, rfl⟩; try simp only [List.cons_append, List.nil_append]) | (refine JL_goq (Fail_zero b e.now e.tr e.z e.sub a' B.length c') (hφ := xF) (h := ?_); rintro _ _ ⟨rfl, rfl⟩; try simp only [List.cons_append, List.nil_append]) | (refine JL_goq (Take_zero b e.now e.tr e.kd a' B.length c') (hφ := xF) (h := ?_); rintro _ _ ⟨rfl, rfl⟩; try simp only [List.cons_append, List.nil_append]) | fail)) | (refine yM ?_; intro _) | fail)) | ((with_reducible apply gD); (first | (refine JD_nil ?_; try simp only [List.cons_append, List.nil_append]) | (refine JD_bar ?_; try simp only [List.cons_append, List.nil_append]) | refine yD ?_ | ((with_reducible apply gD_go); (first | (refine JD_goq (among_s e.d 13 (by decide) (by decide) hd) (hφ := xF) (h := ?_); rintro _ _ ⟨j, rfl, hj, rfl⟩; try simp only [List.cons_append, List.nil_append]) | (refine JD_goq (few23_s e.kd e.ma e.ml.length e.mc e.ml rfl hb) (hφ := (by (try simp only [List.cons_append, List.nil_append]); exact fun w hr => (hK w hr.1).1)) (h := ?_); rintro _ _ ⟨a', c', B, hBl, hB, rfl, rfl⟩; try simp only [List.cons_append, List.nil_append]) | (refine JD_goq (fault23_s e.z e.sub e.fa e.fl.length e.fc e.fl rfl hf) (hφ := (by (try simp only [List.cons_append, List.nil_append]); exact fun w hr => (hK w hr.1).2)) (h := ?_); rintro _ _ ⟨a', c', B, hBl, hB, rfl, rfl⟩; try simp only [List.cons_append, List.nil_append]) | (refine JD_goq (Start_zero b e.now) (hφ := xF) (h := ?_); rintro _ _ ⟨rfl, rfl⟩; try simp only [List.cons_append, List.nil_append]) | (refine JD_goq (Stop_zero b e.now e.n) (hφ := xF) (h := ?_); rintro _ _ ⟨rfl, rfl⟩; try simp only [List.cons_append, List.nil_append]) | (refine JD_goq (Tick_zero b e.now) (hφ := xF) (h := ?_); rintro _ _ ⟨rfl, rfl⟩; try simp only [List.cons_append, List.nil_append]) | (refine JD_goq (Up_zero b e.now e.tr) (hφ := xF) (h := ?_); rintro _ _ ⟨rfl, rfl⟩; try simp only [List.cons_append, List.nil_append]) | (refine JD_goq (Gone_zero b e.now e.tr) (hφ := xF) (h := ?_); rintro _ _ ⟨rfl, rfl⟩; try simp only [List.cons_append, List.nil_append]) | (refine JD_goq (Fail_zero b e.now e.tr e.z e.sub a' B.length c') (hφ := xF) (h := ?_); rintro _ _ ⟨rfl, rfl⟩; try simp only [List.cons_append, List.nil_append]) | (refine JD_goq (Take_zero b e.now e.tr e.kd a' B.length c') (hφ := xF) (h := ?_); rintro _ _ ⟨rfl, rfl⟩; try simp only [List.cons_append, List.nil_append]) | fail)) | fail)) | refine yJ ?_ | ((with_reducible apply gJ_if); (first | (refine J_if xR ?_ ?_ <;> intro _ <;> (try (exfalso; first | contradiction | omega))) | (refine J_ifb xR ?_ ?_ <;> (intro hgb; subst hgb)) | (refine J_ifb xR ?_ ?_ <;> intro _) | fail)) | refine J_draw (id := 12) [0, 1, 2, 3, 4, 5, 6, 7] [8, 9] mixed xC xD xD ?_ | refine J_draw (id := 16) [0, 1, 2, 3, 4, 5, 6, 7] [8, 9] mixed xC xD xD ?_ | fail))
  all_goals (first | (exfalso; omega) | skip)
  all_goals exact J_ret1 rfl (by rfl) fun w H => ⟨_, ⟨rfl, rfl⟩, H.sel xZ⟩
end Go.Proofs.Ytfonbpmdbpdncaa
namespace Go.Pm
set_option linter.unusedSimpArgs false
set_option linter.unusedVariables false
open Go.RowKit
section
variable {P : Program} {K : Hl} {L : List HP} {tm : TM} {T : TypeId} {pos : String} {af : Array Edge} {gd : Option (Nat × Bool)}
theorem pe_slArS {od : Option Tmp} {t : TypeId} {x : Operand} {p : Addr} {m sz : Nat} {b : Bool} (hx : evT tm x = some (.pointer (some p))) (h : arrInfo P t = some (m, sz, b)) : PE P K L ⟨od, .slice t x none none none, T, pos, af, gd⟩ (tget tm) (.slice (some p) m m) := fun ρ w ha _ => by
  have h1 := ha x (by simp [Op.operands]) _ hx
  obtain ⟨e, inf, de, hu, hin, hsz, hd, hr⟩ := arrInfo_spec h
  have hal : P.arrayLen t = m := by simp [Program.arrayLen, hu]
  have hel : P.elem t = e := by simp [Program.elem, hu]
  have h2 := run_sliceAt_array_all (P := P) w t p (by rw [hal, hel]; exact hu)
  rw [hal, hel] at h2
  have e4 : (none : Option Operand).map ρ = none := rfl
  unfold execOp
  simp only [h1, e4]
  rw [Sem.run_bind, h2, run_sz hin]
  simp [slicedAt, Addr.add]
end
end Go.Pm
namespace Go.Proofs.Ytfonbpmdbpdncaa
set_option linter.unusedSimpArgs false
set_option linter.unusedVariables false
set_option maxRecDepth 20000
set_option maxHeartbeats 4000000
open Go.RowKit Go.Pm

theorem Due_nil : Pact Try.prog 12 #[.pointer none] (fun _ => True) [] (ret0 (.tuple #[.int .i64 0, .bool false])) := by
  refine pact Try.func12 rfl Try.ntmps12 rfl ?_
  intro W K _
  (repeat' (first | ((with_reducible apply gL); (first | refine yL0 ?_ | refine yL ?_ | (refine yM ?_; intro _) | (refine yA ?_; intro _ _ _ _) | ((with_reducible apply gL_gd); (first | (refine JL_guard xR xR ?_ ?_ <;> intro _ <;> (try (exfalso; first | contradiction | omega))) | (refine JL_guardb xR xR ?_ ?_ <;> (intro hgb; subst hgb)) | (refine JL_guardb xR xR ?_ ?_ <;> (intro hgb; fail_if_success (have : type_of% hgb := rfl))) | fail)) | fail)) | refine yJ ?_ | ((with_reducible apply gJ_if); (first | (refine J_if xR ?_ ?_ <;> intro _ <;> (try (exfalso; first | contradiction | omega))) | (refine J_ifb xR ?_ ?_ <;> (intro hgb; subst hgb)) | (refine J_ifb xR ?_ ?_ <;> intro _) | fail)) | fail))
  exact J_ret2 rfl (by rfl) (by rfl) fun w H => ⟨_, ⟨rfl, rfl⟩, H.sel xZ⟩
theorem Due_zero (b : Nat) : Pact Try.prog 12 #[.pointer (some ⟨b, 0, none⟩)] (fun _ => True) [pts b zC 52] (fun u L' => u = .tuple #[.int .i64 0, .bool false] ∧ L' = [pts b zC 52]) := by
  refine pact Try.func12 rfl Try.ntmps12 rfl ?_
  intro W K _
  (repeat' (first | ((with_reducible apply gL); (first | refine yL0 ?_ | refine yL ?_ | (refine yM ?_; intro _) | (refine yA ?_; intro _ _ _ _) | ((with_reducible apply gL_gd); (first | (refine JL_guard xR xR ?_ ?_ <;> intro _ <;> (try (exfalso; first | contradiction | omega))) | (refine JL_guardb xR xR ?_ ?_ <;> (intro hgb; subst hgb)) | (refine JL_guardb xR xR ?_ ?_ <;> (intro hgb; fail_if_success (have : type_of% hgb := rfl))) | fail)) | fail)) | refine yJ ?_ | ((with_reducible apply gJ_if); (first | (refine J_if xR ?_ ?_ <;> intro _ <;> (try (exfalso; first | contradiction | omega))) | (refine J_ifb xR ?_ ?_ <;> (intro hgb; subst hgb)) | (refine J_ifb xR ?_ ?_ <;> intro _) | fail)) | fail))
  exact J_ret2 rfl (by rfl) (by rfl) fun w H => ⟨_, ⟨rfl, rfl⟩, H.sel xZ⟩
theorem State_nil : Pact Try.prog 10 #[.pointer none] (fun _ => True) [] (ret0 (.int .i64 0)) := by
  refine pact Try.func10 rfl Try.ntmps10 rfl ?_
  intro W K _
  (repeat' (first | ((with_reducible apply gL); (first | refine yL0 ?_ | refine yL ?_ | (refine yM ?_; intro _) | ((with_reducible apply gL_gd); (first | (refine JL_guard xR xR ?_ ?_ <;> intro _ <;> (try (exfalso; first | contradiction | omega))) | (refine JL_guardb xR xR ?_ ?_ <;> (intro hgb; subst hgb)) | (refine JL_guardb xR xR ?_ ?_ <;> (intro hgb; fail_if_success (have : type_of% hgb := rfl))) | fail)) | fail)) | refine yJ ?_ | ((with_reducible apply gJ_if); (first | (refine J_if xR ?_ ?_ <;> intro _ <;> (try (exfalso; first | contradiction | omega))) | (refine J_ifb xR ?_ ?_ <;> (intro hgb; subst hgb)) | (refine J_ifb xR ?_ ?_ <;> intro _) | fail)) | fail))
  exact J_ret1 rfl (by rfl) fun w H => ⟨_, ⟨rfl, rfl⟩, H.sel xZ⟩
theorem State_zero (b : Nat) : Pact Try.prog 10 #[.pointer (some ⟨b, 0, none⟩)] (fun _ => True) [pts b zC 52] (fun u L' => u = .int .i64 0 ∧ L' = [pts b zC 52]) := by
  refine pact Try.func10 rfl Try.ntmps10 rfl ?_
  intro W K _
  (repeat' (first | ((with_reducible apply gL); (first | refine yL0 ?_ | refine yL ?_ | (refine yM ?_; intro _) | ((with_reducible apply gL_gd); (first | (refine JL_guard xR xR ?_ ?_ <;> intro _ <;> (try (exfalso; first | contradiction | omega))) | (refine JL_guardb xR xR ?_ ?_ <;> (intro hgb; subst hgb)) | (refine JL_guardb xR xR ?_ ?_ <;> (intro hgb; fail_if_success (have : type_of% hgb := rfl))) | fail)) | fail)) | refine yJ ?_ | ((with_reducible apply gJ_if); (first | (refine J_if xR ?_ ?_ <;> intro _ <;> (try (exfalso; first | contradiction | omega))) | (refine J_ifb xR ?_ ?_ <;> (intro hgb; subst hgb)) | (refine J_ifb xR ?_ ?_ <;> intro _) | fail)) | fail))
  exact J_ret1 rfl (by rfl) fun w H => ⟨_, ⟨rfl, rfl⟩, H.sel xZ⟩
theorem Track_nil : Pact Try.prog 8 #[.pointer none, .int .i64 0] (fun _ => True) [] (ret0 (.int .i64 0)) := by
  refine pact Try.func8 rfl Try.ntmps8 rfl ?_
  intro W K _
  (repeat' (first | ((with_reducible apply gL); (first | refine yL0 ?_ | refine yL ?_ | ((with_reducible apply gL_go); (first | (refine JL_goq (trackZ_s 0) (hφ := xF) (h := ?_); rintro _ _ ⟨rfl, rfl⟩; try simp only [List.cons_append, List.nil_append]) | fail)) | fail)) | refine yJ ?_ | ((with_reducible apply gJ_if); (first | (refine J_if xR ?_ ?_ <;> intro _ <;> (try (exfalso; first | contradiction | omega))) | (refine J_ifb xR ?_ ?_ <;> (intro hgb; subst hgb)) | (refine J_ifb xR ?_ ?_ <;> intro _) | fail)) | fail))
  exact J_ret1 rfl (by rfl) fun w H => ⟨_, ⟨rfl, rfl⟩, H.sel xZ⟩
theorem Track_zero (b : Nat) : Pact Try.prog 8 #[.pointer (some ⟨b, 0, none⟩), .int .i64 1] (fun _ => True) [pts b zC 52] (fun u L' => u = .int .i64 0 ∧ L' = [pts b zC 52]) := by
  refine pact Try.func8 rfl Try.ntmps8 rfl ?_
  intro W K _
  (repeat' (first | ((with_reducible apply gL); (first | refine yL0 ?_ | refine yL ?_ | ((with_reducible apply gL_go); (first | (refine JL_goq (track1_s b) (hφ := xF) (h := ?_); rintro _ _ ⟨rfl, rfl⟩; try simp only [List.cons_append, List.nil_append]) | fail)) | fail)) | refine yJ ?_ | ((with_reducible apply gJ_if); (first | (refine J_if xR ?_ ?_ <;> intro _ <;> (try (exfalso; first | contradiction | omega))) | (refine J_ifb xR ?_ ?_ <;> (intro hgb; subst hgb)) | (refine J_ifb xR ?_ ?_ <;> intro _) | fail)) | fail))
  exact J_ret1 rfl (by rfl) fun w H => ⟨_, ⟨rfl, rfl⟩, H.sel xZ⟩
theorem Peer1_s : Pact Try.prog 33 #[.agg (trC tr0).toArray] (fun _ => True) [] (ret0 (.bool false)) := by
  refine pact Try.func33 rfl Try.ntmps33 rfl ?_
  intro W K _
  (repeat' (first | ((with_reducible apply gL); (first | refine yL0 ?_ | refine yL ?_ | (refine yM ?_; intro _) | fail)) | refine yJ ?_ | fail))
  exact J_ret1 rfl (by rfl) fun w H => ⟨_, ⟨rfl, rfl⟩, H.sel xZ⟩
theorem IndexT_s (b : Nat) : Pact Try.prog 32 #[.slice (some ⟨b, 0 + 11, none⟩) 2 2, .func (.func 33) #[] #[]] (fun _ => True) [pts b zC 52] (fun u L' => u = .int .i64 (-1) ∧ L' = [pts b zC 52]) := by
  refine pact Try.func32 rfl Try.ntmps32 rfl ?_
  intro W K _
  (repeat' (first | ((with_reducible apply gL); (first | refine yL0 ?_ | refine yL ?_ | fail)) | refine yJ ?_ | ((with_reducible apply gJ_if); (first | (refine J_if xR ?_ ?_ <;> intro _ <;> (try (exfalso; first | contradiction | omega))) | (refine J_ifb xR ?_ ?_ <;> (intro hgb; subst hgb)) | (refine J_ifb xR ?_ ?_ <;> intro _) | fail)) | fail))
  refine J_loop (α := Nat) 0 (fun k => 2 - k) (fun k => k ≤ 2) (fun k => [(0, .slice (some ⟨b, 0 + 11, none⟩) 2 2), (1, .func (.func 33) #[] #[]), (7, .int .i64 2), (8, .int .i64 k)]) (fun _ => [pts b zC 52]) (by decide) ⟨rfl, rfl, rfl, rfl, trivial⟩ (fun w H => H.sel xZ) ?_
  intro k hk
  obtain rfl | rfl | rfl : k = 0 ∨ k = 1 ∨ k = 2 := by omega
  · (repeat' (first | ((with_reducible apply gL); (first | refine yL0 ?_ | refine yL ?_ | ((with_reducible apply gL_go); (first | (refine JL_goq (Peer1_s) (hφ := xF) (h := ?_); rintro _ _ ⟨rfl, rfl⟩; try simp only [List.cons_append, List.nil_append]) | fail)) | fail)) | refine yJ ?_ | ((with_reducible apply gJ_if); (first | (refine J_if xR ?_ ?_ <;> intro _ <;> (try (exfalso; first | contradiction | omega))) | (refine J_ifb xR ?_ ?_ <;> (intro hgb; subst hgb)) | (refine J_ifb xR ?_ ?_ <;> intro _) | fail)) | fail))
    exact J_again 1 (by decide) (by decide) ⟨rfl, rfl, rfl, rfl, trivial⟩ (fun w H => H.sel xZ)
  · (repeat' (first | ((with_reducible apply gL); (first | refine yL0 ?_ | refine yL ?_ | ((with_reducible apply gL_go); (first | (refine JL_goq (Peer1_s) (hφ := xF) (h := ?_); rintro _ _ ⟨rfl, rfl⟩; try simp only [List.cons_append, List.nil_append]) | fail)) | fail)) | refine yJ ?_ | ((with_reducible apply gJ_if); (first | (refine J_if xR ?_ ?_ <;> intro _ <;> (try (exfalso; first | contradiction | omega))) | (refine J_ifb xR ?_ ?_ <;> (intro hgb; subst hgb)) | (refine J_ifb xR ?_ ?_ <;> intro _) | fail)) | fail))
    exact J_again 2 (by decide) (by decide) ⟨rfl, rfl, rfl, rfl, trivial⟩ (fun w H => H.sel xZ)
  · (repeat' (first | ((with_reducible apply gL); (first | refine yL0 ?_ | refine yL ?_ | fail)) | refine yJ ?_ | ((with_reducible apply gJ_if); (first | (refine J_if xR ?_ ?_ <;> intro _ <;> (try (exfalso; first | contradiction | omega))) | (refine J_ifb xR ?_ ?_ <;> (intro hgb; subst hgb)) | (refine J_ifb xR ?_ ?_ <;> intro _) | fail)) | fail))
    exact J_ret1 rfl (by rfl) fun w H => ⟨_, ⟨rfl, rfl⟩, H.sel xZ⟩
theorem Peer_nil : Pact Try.prog 13 #[.pointer none] (fun _ => True) [] (ret0 (.agg (opC op0).toArray)) := by
  refine pact Try.func13 rfl Try.ntmps13 rfl ?_
  intro W K _
  (repeat' (first | ((with_reducible apply gL); (first | refine yL0 ?_ | refine yL ?_ | (refine yM ?_; intro _) | fail)) | refine yJ ?_ | ((with_reducible apply gJ_if); (first | (refine J_if xR ?_ ?_ <;> intro _ <;> (try (exfalso; first | contradiction | omega))) | (refine J_ifb xR ?_ ?_ <;> (intro hgb; subst hgb)) | (refine J_ifb xR ?_ ?_ <;> intro _) | fail)) | fail))
  exact J_retC (cs := opC op0) rfl (by rfl) xA (by rfl) fun w H => ⟨_, ⟨rfl, rfl⟩, H.sel xZ⟩
theorem Peer_zero (b : Nat) : Pact Try.prog 13 #[.pointer (some ⟨b, 0, none⟩)] (fun _ => True) [pts b zC 52] (fun u L' => u = .agg (opC op0).toArray ∧ L' = [pts b zC 52]) := by
  refine pact Try.func13 rfl Try.ntmps13 rfl ?_
  intro W K _
  (repeat' (first | ((with_reducible apply gL); (first | refine yL0 ?_ | ((with_reducible apply gL_slice); (first | (refine JL_p rfl xR xR (pe_slArS (m := 2) (sz := 15) (b := true) xR xC) ?_) | fail)) | refine yL ?_ | ((with_reducible apply gL_go); (first | (refine JL_goq (IndexT_s b) (hφ := xF) (h := ?_); rintro _ _ ⟨rfl, rfl⟩; try simp only [List.cons_append, List.nil_append]) | fail)) | (refine yM ?_; intro _) | fail)) | refine yJ ?_ | ((with_reducible apply gJ_if); (first | (refine J_if xR ?_ ?_ <;> intro _ <;> (try (exfalso; first | contradiction | omega))) | (refine J_ifb xR ?_ ?_ <;> (intro hgb; subst hgb)) | (refine J_ifb xR ?_ ?_ <;> intro _) | fail)) | fail))
  exact J_retC (cs := opC op0) rfl (by rfl) xA (by rfl) fun w H => ⟨_, ⟨rfl, rfl⟩, H.sel xZ⟩
theorem eqV {P : Program} {d : Nat} {xs : Array Value} {f : Field} {fs : List Field} {v : Value} (hn : f.name ≠ "_") (hx : ∀ w, (Go.part f.type xs f.offset).run P w = .ok v w) (he : ∀ w, (Op.equalIn d f.type v v).run P w = .ok true w) (w : World) : (Op.eqFields d xs xs (f :: fs)).run P w = (Op.eqFields d xs xs fs).run P w := by
  simp only [Op.eqFields, if_pos hn, Sem.run_bind, hx, he, Result.andThen_ok, Bool.not_true, Bool.false_eq_true, if_false]
theorem part_vi {P : Program} {t : TypeId} {k : IntKind} (e : P.underlying t = some (.int k)) (xs : Array Value) (o : Nat) (v : Value) (h : xs[o]? = some v) (w : World) : (part t xs o).run P w = .ok v w := by
  simp [part, Sem.run_bind, run_agg e, TypeDesc.isRow, h]
theorem part_vb {P : Program} {t : TypeId} (e : P.underlying t = some .bool) (xs : Array Value) (o : Nat) (v : Value) (h : xs[o]? = some v) (w : World) : (part t xs o).run P w = .ok v w := by
  simp [part, Sem.run_bind, run_agg e, TypeDesc.isRow, h]
theorem run_eqOp (w : World) : (Op.equalIn 10000 40 (.agg (opC op0).toArray) (.agg (opC op0).toArray)).run Try.prog w = .ok true w := by
  have hv := Try.underlying40
  have hg : ∀ fs : Array Field, Try.prog.underlying 40 = some (.struct fs) → Try.prog.fieldsOf 40 = fs := fun fs h => by simp [Program.fieldsOf, h]
  rw [run_equalIn_struct w 9999 40 _ _ (by rw [hg _ hv]; exact hv) (by decide +kernel), hg _ hv]
  rw [eqV (by decide) (part_vi Try.underlying37 _ _ _ rfl) (fun w => run_equalIn_int w 9998 _ _ _ 0 0 Try.underlying37)]
  rw [eqV (by decide) (part_vi Try.underlying3 _ _ _ rfl) (fun w => run_equalIn_int w 9998 _ _ _ 0 0 Try.underlying3)]
  rw [eqV (by decide) (part_vi Try.underlying38 _ _ _ rfl) (fun w => run_equalIn_int w 9998 _ _ _ 0 0 Try.underlying38)]
  rw [eqV (by decide) (part_vb Try.underlying4 _ _ _ rfl) (fun w => run_equalIn_bool' w 9998 _ false false Try.underlying4)]
  rw [eqV (by decide) (part_vb Try.underlying4 _ _ _ rfl) (fun w => run_equalIn_bool' w 9998 _ false false Try.underlying4)]
  rw [eqV (by decide) (part_vb Try.underlying4 _ _ _ rfl) (fun w => run_equalIn_bool' w 9998 _ false false Try.underlying4)]
  rw [eqV (by decide) (part_vb Try.underlying4 _ _ _ rfl) (fun w => run_equalIn_bool' w 9998 _ false false Try.underlying4)]
  rw [eqV (by decide) (part_vi Try.underlying3 _ _ _ rfl) (fun w => run_equalIn_int w 9998 _ _ _ 0 0 Try.underlying3)]
  rw [eqV (by decide) (part_vb Try.underlying4 _ _ _ rfl) (fun w => run_equalIn_bool' w 9998 _ false false Try.underlying4)]
  rw [eqV (by decide) (part_vb Try.underlying4 _ _ _ rfl) (fun w => run_equalIn_bool' w 9998 _ false false Try.underlying4)]
  simp [Op.eqFields]
theorem pe_eqOp {K : Hl} {L : List HP} {tm : TM} {d : Option Tmp} {T : TypeId} {pos : String} {af : Array Edge} {gd : Option (Nat × Bool)} {yt : TypeId} {x y : Operand} (hx : evT tm x = some (.agg (opC op0).toArray)) (hy : evT tm y = some (.agg (opC op0).toArray)) : PE Try.prog K L ⟨d, .binOp .eql 40 x y yt, T, pos, af, gd⟩ (tget tm) (.bool true) := pe_bin hx hy fun w => by
  have hq : (eqGuard .eql 40 x y (.agg (opC op0).toArray) (.agg (opC op0).toArray)).run Try.prog w = .ok () w := run_eqGuard_agg w _ _ x y _ _ (by decide +kernel)
  simp only [Sem.run_bind, hq, Result.andThen_ok, run_eql_struct]
  rw [run_eqOp]
  rfl
end Go.Proofs.Ytfonbpmdbpdncaa
