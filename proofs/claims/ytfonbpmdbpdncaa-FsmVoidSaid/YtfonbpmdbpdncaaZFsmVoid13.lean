/-
  Fs10, Fs11, Fs12: merged.
-/
import Derived.Test.YtfonbpmdbpdncaaZFsmVoid12
namespace Go.Proofs.Ytfonbpmdbpdncaa
set_option linter.unusedSimpArgs false
set_option linter.unusedVariables false
set_option maxRecDepth 20000
set_option maxHeartbeats 4000000
open Go.RowKit Go.Pm

theorem put16_n (ad : Option Addr) (c n m : Nat) (l k : List Int) (z : Int) (hn : l.length = n) (hm : n + 2 = m) (hk : l ++ p16 z = k) (hl : n ≤ 100) (h1 : 0 ≤ z) (h2 : z ≤ 4294967295) : Pact Try.prog 41 #[.slice ad n c, .int .i64 z] (fun _ => True) [Ar 5 1 byC (.slice ad n c) l] (fun u L' => ∃ a2 c2, u = .slice a2 m c2 ∧ L' = [Ar 5 1 byC (.slice a2 m c2) k]) := by
  subst hm hk
  exact put16_s ad c n l hn hl z h1 h2
theorem put32_n (ad : Option Addr) (c n m : Nat) (l k : List Int) (z : Int) (hn : l.length = n) (hm : n + 4 = m) (hk : l ++ p32 z = k) (hl : n ≤ 90) (h1 : 0 ≤ z) (h2 : z ≤ 4294967295) : Pact Try.prog 40 #[.slice ad n c, .int .u32 z] (fun _ => True) [Ar 5 1 byC (.slice ad n c) l] (fun u L' => ∃ a2 c2, u = .slice a2 m c2 ∧ L' = [Ar 5 1 byC (.slice a2 m c2) k]) := by
  subst hm hk
  exact put32_s ad c n l hn hl z h1 h2
def cA1 : List Int := [1, 4]
def cA2 : List Int := [1, 4, 0, 1, 0, 1]
def cA3 : List Int := [1, 4, 0, 1, 0, 1, 2, 0]
def cA4 : List Int := [1, 4, 0, 1, 0, 1, 2, 0, 64, 6]
def cA5 : List Int := [1, 4, 0, 1, 0, 1, 2, 0, 64, 6, 0, 120]
def cA6 : List Int := [1, 4, 0, 1, 0, 1, 2, 0, 64, 6, 0, 120, 0, 1, 1, 0]
def cA7 : List Int := [1, 4, 0, 1, 0, 1, 2, 0, 64, 6, 0, 120, 0, 1, 1, 0, 65, 4]
def cA8 : List Int := [1, 4, 0, 1, 0, 1, 2, 0, 64, 6, 0, 120, 0, 1, 1, 0, 65, 4, 0, 0, 253, 233]
set_option maxRecDepth 4000 in
theorem canA_s : Pact Try.prog 42 #[.agg #[.int .u32 65001, .int .i64 90, .int .u32 1, .bool true, .bool true, .bool true, .bool true, .int .i64 120, .bool false, .bool false]] (fun _ => True) [] (fun u L' => ∃ a c, u = .slice a 22 c ∧ L' = [Ar 5 1 byC (.slice a 22 c) cA8]) := by
  refine pact Try.func42 rfl Try.ntmps42 rfl ?_
  intro W K _
  refine J_heap (L' := [Ar 5 1 byC (.slice none 0 0) []]) (fun w H => Ow.arNil H) ?_
  (repeat' (first | ((with_reducible apply gL); (first | refine yL0 ?_ | ((with_reducible apply gL_c_append); (first | (first | (refine JL_apK (es := []) (bs := [1, 4]) (r := 2) (ks := cA1) (tabE etab_ok xR) xR xR xA xA (.cons (.cons .nil)) rfl xC xC (by rfl) (by rfl) xR xR ?_; intro a1 c1 _ _) | (refine JL_apK (es := cA2) (bs := [2, 0]) (r := 8) (ks := cA3) (tabE etab_ok xR) xR xR xA xA (.cons (.cons .nil)) rfl xC xC (by rfl) (by rfl) xR xR ?_; intro a3 c3 _ _) | (refine JL_apK (es := cA3) (bs := [64, 6]) (r := 10) (ks := cA4) (tabE etab_ok xR) xR xR xA xA (.cons (.cons .nil)) rfl xC xC (by rfl) (by rfl) xR xR ?_; intro a4 c4 _ _) | (refine JD_apK (es := cA3) (bs := [64, 6]) (r := 10) (ks := cA4) (tabE etab_ok xR) xR xR xA xA (.cons (.cons .nil)) rfl xC xC (by rfl) (by rfl) xR ?_; intro a4 c4 _ _) | (refine JL_apK (es := cA5) (bs := [0, 1, 1, 0]) (r := 16) (ks := cA6) (tabE etab_ok xR) xR xR xA xA (.cons (.cons (.cons (.cons .nil)))) rfl xC xC (by rfl) (by rfl) xR xR ?_; intro a6 c6 _ _) | (refine JL_apK (es := cA6) (bs := [65, 4]) (r := 18) (ks := cA7) (tabE etab_ok xR) xR xR xA xA (.cons (.cons .nil)) rfl xC xC (by rfl) (by rfl) xR xR ?_; intro a7 c7 _ _) | (refine JD_apK (es := cA6) (bs := [65, 4]) (r := 18) (ks := cA7) (tabE etab_ok xR) xR xR xA xA (.cons (.cons .nil)) rfl xC xC (by rfl) (by rfl) xR ?_; intro a7 c7 _ _)) | fail)) | refine yL ?_ | ((with_reducible apply gL_go); (first | (refine JL_goq (put32_n _ _ 2 6 cA1 cA2 65537 rfl rfl rfl (by decide) (by decide) (by decide)) (hφ := xF) (h := ?_); rintro _ _ ⟨a2, c2, rfl, rfl⟩; try simp only [List.cons_append, List.nil_append]) | (refine JL_goq (put32_n _ _ 18 22 cA7 cA8 65001 rfl rfl rfl (by decide) (by decide) (by decide)) (hφ := xF) (h := ?_); rintro _ _ ⟨a8, c8, rfl, rfl⟩; try simp only [List.cons_append, List.nil_append]) | (refine JL_goq (put16_n _ _ 10 12 cA4 cA5 120 rfl rfl rfl (by decide) (by decide) (by decide)) (hφ := xF) (h := ?_); rintro _ _ ⟨a5, c5, rfl, rfl⟩; try simp only [List.cons_append, List.nil_append]) | (refine JL_goq (flag_no 32768) (hφ := xF) (h := ?_); rintro _ _ ⟨rfl, rfl⟩; try simp only [List.cons_append, List.nil_append]) | (refine JL_goq (flag_no 128) (hφ := xF) (h := ?_); rintro _ _ ⟨rfl, rfl⟩; try simp only [List.cons_append, List.nil_append]) | fail)) | (refine yM ?_; intro _) | (refine yA ?_; intro _ _ _ _) | fail)) | ((with_reducible apply gD); (first | (refine JD_nil ?_; try simp only [List.cons_append, List.nil_append]) | (refine JD_bar ?_; try simp only [List.cons_append, List.nil_append]) | ((with_reducible apply gD_c_append); (first | (first | (refine JL_apK (es := []) (bs := [1, 4]) (r := 2) (ks := cA1) (tabE etab_ok xR) xR xR xA xA (.cons (.cons .nil)) rfl xC xC (by rfl) (by rfl) xR xR ?_; intro a1 c1 _ _) | (refine JL_apK (es := cA2) (bs := [2, 0]) (r := 8) (ks := cA3) (tabE etab_ok xR) xR xR xA xA (.cons (.cons .nil)) rfl xC xC (by rfl) (by rfl) xR xR ?_; intro a3 c3 _ _) | (refine JL_apK (es := cA3) (bs := [64, 6]) (r := 10) (ks := cA4) (tabE etab_ok xR) xR xR xA xA (.cons (.cons .nil)) rfl xC xC (by rfl) (by rfl) xR xR ?_; intro a4 c4 _ _) | (refine JD_apK (es := cA3) (bs := [64, 6]) (r := 10) (ks := cA4) (tabE etab_ok xR) xR xR xA xA (.cons (.cons .nil)) rfl xC xC (by rfl) (by rfl) xR ?_; intro a4 c4 _ _) | (refine JL_apK (es := cA5) (bs := [0, 1, 1, 0]) (r := 16) (ks := cA6) (tabE etab_ok xR) xR xR xA xA (.cons (.cons (.cons (.cons .nil)))) rfl xC xC (by rfl) (by rfl) xR xR ?_; intro a6 c6 _ _) | (refine JL_apK (es := cA6) (bs := [65, 4]) (r := 18) (ks := cA7) (tabE etab_ok xR) xR xR xA xA (.cons (.cons .nil)) rfl xC xC (by rfl) (by rfl) xR xR ?_; intro a7 c7 _ _) | (refine JD_apK (es := cA6) (bs := [65, 4]) (r := 18) (ks := cA7) (tabE etab_ok xR) xR xR xA xA (.cons (.cons .nil)) rfl xC xC (by rfl) (by rfl) xR ?_; intro a7 c7 _ _)) | fail)) | refine yD ?_ | ((with_reducible apply gD_go); (first | (refine JD_goq (put32_n _ _ 2 6 cA1 cA2 65537 rfl rfl rfl (by decide) (by decide) (by decide)) (hφ := xF) (h := ?_); rintro _ _ ⟨a2, c2, rfl, rfl⟩; try simp only [List.cons_append, List.nil_append]) | (refine JD_goq (put32_n _ _ 18 22 cA7 cA8 65001 rfl rfl rfl (by decide) (by decide) (by decide)) (hφ := xF) (h := ?_); rintro _ _ ⟨a8, c8, rfl, rfl⟩; try simp only [List.cons_append, List.nil_append]) | (refine JD_goq (put16_n _ _ 10 12 cA4 cA5 120 rfl rfl rfl (by decide) (by decide) (by decide)) (hφ := xF) (h := ?_); rintro _ _ ⟨a5, c5, rfl, rfl⟩; try simp only [List.cons_append, List.nil_append]) | (refine JD_goq (flag_no 32768) (hφ := xF) (h := ?_); rintro _ _ ⟨rfl, rfl⟩; try simp only [List.cons_append, List.nil_append]) | (refine JD_goq (flag_no 128) (hφ := xF) (h := ?_); rintro _ _ ⟨rfl, rfl⟩; try simp only [List.cons_append, List.nil_append]) | fail)) | (refine yE ?_; intro _) | (refine yB ?_; intro _ _ _ _) | fail)) | refine yJ ?_ | ((with_reducible apply gJ_if); (first | (refine J_if xR ?_ ?_ <;> intro _ <;> (try (exfalso; first | contradiction | omega))) | (refine J_ifb xR ?_ ?_ <;> (intro hgb; subst hgb)) | (refine J_ifb xR ?_ ?_ <;> intro _) | fail)) | refine J_draw (id := 7) [0, 3, 4, 5, 6, 1, 2, 7] [8, 9, 10] mixed xC xD xD ?_ | refine J_draw (id := 10) [0, 3, 4, 1, 2] [5, 6] mixed xC xD xD ?_ | fail))
  exact J_ret1 rfl (by rfl) fun w H => ⟨_, ⟨a8, c8, rfl, rfl⟩, H.sel xZ⟩
def bA1 : List Int := [4, 253, 233]
def bA2 : List Int := [4, 253, 233, 0, 90]
def bA3 : List Int := [4, 253, 233, 0, 90, 0, 0, 0, 1]
def bA4 : List Int := [4, 253, 233, 0, 90, 0, 0, 0, 1, 24, 2, 22]
def bA5 : List Int := [4, 253, 233, 0, 90, 0, 0, 0, 1, 24, 2, 22, 1, 4, 0, 1, 0, 1, 2, 0, 64, 6, 0, 120, 0, 1, 1, 0, 65, 4, 0, 0, 253, 233]
set_option maxRecDepth 4000 in
theorem obuildA_s : Pact Try.prog 16 #[.agg #[.int .u32 65001, .int .i64 90, .int .u32 1, .bool true, .bool true, .bool true, .bool true, .int .i64 120, .bool false, .bool false]] (fun _ => True) [] (fun u L' => ∃ a c, u = .tuple #[.slice a 34 c, .int .i64 0] ∧ L' = [Ar 5 1 byC (.slice a 34 c) bA5]) := by
  refine pact Try.func16 rfl Try.ntmps16 rfl ?_
  intro W K _
  (repeat' (first | ((with_reducible apply gL); (first | refine yL0 ?_ | refine yL ?_ | ((with_reducible apply gL_go); (first | (refine JL_goq (rightA_s) (hφ := xF) (h := ?_); rintro _ _ ⟨rfl, rfl⟩; try simp only [List.cons_append, List.nil_append]) | fail)) | (refine yM ?_; intro _) | (refine yA ?_; intro _ _ _ _) | fail)) | ((with_reducible apply gD); (first | (refine JD_nil ?_; try simp only [List.cons_append, List.nil_append]) | (refine JD_bar ?_; try simp only [List.cons_append, List.nil_append]) | refine yD ?_ | ((with_reducible apply gD_go); (first | (refine JD_goq (rightA_s) (hφ := xF) (h := ?_); rintro _ _ ⟨rfl, rfl⟩; try simp only [List.cons_append, List.nil_append]) | fail)) | (refine yE ?_; intro _) | fail)) | refine yJ ?_ | ((with_reducible apply gJ_if); (first | (refine J_if xR ?_ ?_ <;> intro _ <;> (try (exfalso; first | contradiction | omega))) | (refine J_ifb xR ?_ ?_ <;> (intro hgb; subst hgb)) | (refine J_ifb xR ?_ ?_ <;> intro _) | fail)) | refine J_draw (id := 6) [1, 3, 4, 6, 7, 0, 2, 5] [8, 9] mixed xC xD xD ?_ | fail))
  rename_i b1 b2
  refine JD_heapA (M' := [Ar 5 1 byC (.slice (some ⟨b2, 0, none⟩) 1 1) [4]]) rfl rfl (fun W K w H => (Ow.arNums H xA (.cons .nil) rfl rfl).sel xZ) ?_
  (repeat' (first | ((with_reducible apply gL); (first | refine yL0 ?_ | ((with_reducible apply gL_c_append); (first | (first | (refine JL_apK (es := bA3) (bs := [24, 2, 22]) (r := 12) (ks := bA4) (tabE etab_ok xR) xR xR xA xA (.cons' (by decide) (.cons' (by decide) (.cons' (by decide) .nil))) rfl xC xC (by rfl) (by rfl) xR xR ?_; intro a4 c4 _ _) | (refine JL_app (es := bA4) (fs := cA8) (tabE etab_ok xR) xR xR xA (Src.ar xA) xC xL xU (by decide) xR xR ?_; intro a5 c5 _ _)) | fail)) | refine yL ?_ | ((with_reducible apply gL_go); (first | (refine JL_goq (put16_n _ _ 1 3 [4] bA1 65001 rfl rfl rfl (by decide) (by decide) (by decide)) (hφ := xF) (h := ?_); rintro _ _ ⟨a1, c1, rfl, rfl⟩; try simp only [List.cons_append, List.nil_append]) | (refine JL_goq (put16_n _ _ 3 5 bA1 bA2 90 rfl rfl rfl (by decide) (by decide) (by decide)) (hφ := xF) (h := ?_); rintro _ _ ⟨a2, c2, rfl, rfl⟩; try simp only [List.cons_append, List.nil_append]) | (refine JL_goq (put32_n _ _ 5 9 bA2 bA3 1 rfl rfl rfl (by decide) (by decide) (by decide)) (hφ := xF) (h := ?_); rintro _ _ ⟨a3, c3, rfl, rfl⟩; try simp only [List.cons_append, List.nil_append]) | (refine JL_goq (canA_s) (hφ := xF) (h := ?_); rintro _ _ ⟨a9, c9, rfl, rfl⟩; try simp only [List.cons_append, List.nil_append]) | fail)) | (refine yM ?_; intro _) | (refine yA ?_; intro _ _ _ _) | fail)) | ((with_reducible apply gD); (first | (refine JD_nil ?_; try simp only [List.cons_append, List.nil_append]) | (refine JD_bar ?_; try simp only [List.cons_append, List.nil_append]) | refine yD ?_ | ((with_reducible apply gD_go); (first | (refine JD_goq (put16_n _ _ 1 3 [4] bA1 65001 rfl rfl rfl (by decide) (by decide) (by decide)) (hφ := xF) (h := ?_); rintro _ _ ⟨a1, c1, rfl, rfl⟩; try simp only [List.cons_append, List.nil_append]) | (refine JD_goq (put16_n _ _ 3 5 bA1 bA2 90 rfl rfl rfl (by decide) (by decide) (by decide)) (hφ := xF) (h := ?_); rintro _ _ ⟨a2, c2, rfl, rfl⟩; try simp only [List.cons_append, List.nil_append]) | (refine JD_goq (put32_n _ _ 5 9 bA2 bA3 1 rfl rfl rfl (by decide) (by decide) (by decide)) (hφ := xF) (h := ?_); rintro _ _ ⟨a3, c3, rfl, rfl⟩; try simp only [List.cons_append, List.nil_append]) | (refine JD_goq (canA_s) (hφ := xF) (h := ?_); rintro _ _ ⟨a9, c9, rfl, rfl⟩; try simp only [List.cons_append, List.nil_append]) | fail)) | (refine yE ?_; intro _) | fail)) | refine yJ ?_ | ((with_reducible apply gJ_if); (first | (refine J_if xR ?_ ?_ <;> intro _ <;> (try (exfalso; first | contradiction | omega))) | (refine J_ifb xR ?_ ?_ <;> (intro hgb; subst hgb)) | (refine J_ifb xR ?_ ?_ <;> intro _) | fail)) | refine J_draw (id := 6) [1, 3, 4, 6, 7, 0, 2, 5] [8, 9] mixed xC xD xD ?_ | fail))
  rw [show bA4.length + cA8.length = 34 from rfl, show bA4 ++ cA8 = bA5 from rfl]
  exact J_ret2 rfl (by rfl) (by rfl) fun w H => ⟨_, ⟨a5, c5, rfl, rfl⟩, H.sel xZ⟩
def bB1 : List Int := [4, 253, 234]
def bB2 : List Int := [4, 253, 234, 0, 90]
def bB3 : List Int := [4, 253, 234, 0, 90, 0, 0, 0, 2]
def bB4 : List Int := [4, 253, 234, 0, 90, 0, 0, 0, 2, 0]
set_option maxRecDepth 4000 in
theorem obuildB_s : Pact Try.prog 16 #[.agg #[.int .u32 65002, .int .i64 90, .int .u32 2, .bool false, .bool false, .bool false, .bool false, .int .i64 0, .bool false, .bool false]] (fun _ => True) [] (fun u L' => ∃ a c, u = .tuple #[.slice a 10 c, .int .i64 0] ∧ L' = [Ar 5 1 byC (.slice a 10 c) bB4]) := by
  refine pact Try.func16 rfl Try.ntmps16 rfl ?_
  intro W K _
  (repeat' (first | ((with_reducible apply gL); (first | refine yL0 ?_ | refine yL ?_ | ((with_reducible apply gL_go); (first | (refine JL_goq (rightB_s) (hφ := xF) (h := ?_); rintro _ _ ⟨rfl, rfl⟩; try simp only [List.cons_append, List.nil_append]) | fail)) | (refine yM ?_; intro _) | (refine yA ?_; intro _ _ _ _) | fail)) | ((with_reducible apply gD); (first | (refine JD_nil ?_; try simp only [List.cons_append, List.nil_append]) | (refine JD_bar ?_; try simp only [List.cons_append, List.nil_append]) | refine yD ?_ | ((with_reducible apply gD_go); (first | (refine JD_goq (rightB_s) (hφ := xF) (h := ?_); rintro _ _ ⟨rfl, rfl⟩; try simp only [List.cons_append, List.nil_append]) | fail)) | (refine yE ?_; intro _) | fail)) | refine yJ ?_ | ((with_reducible apply gJ_if); (first | (refine J_if xR ?_ ?_ <;> intro _ <;> (try (exfalso; first | contradiction | omega))) | (refine J_ifb xR ?_ ?_ <;> (intro hgb; subst hgb)) | (refine J_ifb xR ?_ ?_ <;> intro _) | fail)) | refine J_draw (id := 6) [1, 3, 4, 6, 7, 0, 2, 5] [8, 9] mixed xC xD xD ?_ | fail))
  rename_i b1 b2
  refine JD_heapA (M' := [Ar 5 1 byC (.slice (some ⟨b2, 0, none⟩) 1 1) [4]]) rfl rfl (fun W K w H => (Ow.arNums H xA (.cons .nil) rfl rfl).sel xZ) ?_
  (repeat' (first | ((with_reducible apply gL); (first | refine yL0 ?_ | ((with_reducible apply gL_c_append); (first | (first | (refine JL_apK (es := bB3) (bs := [0]) (r := 10) (ks := bB4) (tabE etab_ok xR) xR xR xA xA (.cons .nil) rfl xC xC (by rfl) (by rfl) xR xR ?_; intro a4 c4 _ _)) | fail)) | refine yL ?_ | ((with_reducible apply gL_go); (first | (refine JL_goq (put16_n _ _ 1 3 [4] bB1 65002 rfl rfl rfl (by decide) (by decide) (by decide)) (hφ := xF) (h := ?_); rintro _ _ ⟨a1, c1, rfl, rfl⟩; try simp only [List.cons_append, List.nil_append]) | (refine JL_goq (put16_n _ _ 3 5 bB1 bB2 90 rfl rfl rfl (by decide) (by decide) (by decide)) (hφ := xF) (h := ?_); rintro _ _ ⟨a2, c2, rfl, rfl⟩; try simp only [List.cons_append, List.nil_append]) | (refine JL_goq (put32_n _ _ 5 9 bB2 bB3 2 rfl rfl rfl (by decide) (by decide) (by decide)) (hφ := xF) (h := ?_); rintro _ _ ⟨a3, c3, rfl, rfl⟩; try simp only [List.cons_append, List.nil_append]) | (refine JL_goq (canB_s) (hφ := xF) (h := ?_); rintro _ _ ⟨rfl, rfl⟩; try simp only [List.cons_append, List.nil_append]) | fail)) | (refine yM ?_; intro _) | (refine yA ?_; intro _ _ _ _) | fail)) | ((with_reducible apply gD); (first | (refine JD_nil ?_; try simp only [List.cons_append, List.nil_append]) | (refine JD_bar ?_; try simp only [List.cons_append, List.nil_append]) | refine yD ?_ | ((with_reducible apply gD_go); (first | (refine JD_goq (put16_n _ _ 1 3 [4] bB1 65002 rfl rfl rfl (by decide) (by decide) (by decide)) (hφ := xF) (h := ?_); rintro _ _ ⟨a1, c1, rfl, rfl⟩; try simp only [List.cons_append, List.nil_append]) | (refine JD_goq (put16_n _ _ 3 5 bB1 bB2 90 rfl rfl rfl (by decide) (by decide) (by decide)) (hφ := xF) (h := ?_); rintro _ _ ⟨a2, c2, rfl, rfl⟩; try simp only [List.cons_append, List.nil_append]) | (refine JD_goq (put32_n _ _ 5 9 bB2 bB3 2 rfl rfl rfl (by decide) (by decide) (by decide)) (hφ := xF) (h := ?_); rintro _ _ ⟨a3, c3, rfl, rfl⟩; try simp only [List.cons_append, List.nil_append]) | (refine JD_goq (canB_s) (hφ := xF) (h := ?_); rintro _ _ ⟨rfl, rfl⟩; try simp only [List.cons_append, List.nil_append]) | fail)) | (refine yE ?_; intro _) | fail)) | refine yJ ?_ | ((with_reducible apply gJ_if); (first | (refine J_if xR ?_ ?_ <;> intro _ <;> (try (exfalso; first | contradiction | omega))) | (refine J_ifb xR ?_ ?_ <;> (intro hgb; subst hgb)) | (refine J_ifb xR ?_ ?_ <;> intro _) | fail)) | refine J_draw (id := 6) [1, 3, 4, 6, 7, 0, 2, 5] [8, 9] mixed xC xD xD ?_ | fail))
  exact J_ret2 rfl (by rfl) (by rfl) fun w H => ⟨_, ⟨a4, c4, rfl, rfl⟩, H.sel xZ⟩
end Go.Proofs.Ytfonbpmdbpdncaa
namespace Go.Proofs.Ytfonbpmdbpdncaa
set_option linter.unusedSimpArgs false
set_option linter.unusedVariables false
set_option maxRecDepth 20000
set_option maxHeartbeats 4000000
open Go.RowKit Go.Pm

structure Qtr where
  st : Int
  p : Op_
  hold : Int
  keep : Int
  heard : Int
  spoke : Int
abbrev tr0 : Qtr := ⟨0, op0, 0, 0, 0, 0⟩
structure Qse where
  on : Bool
  now : Int
  again : Int
  t0 : Qtr
  t1 : Qtr
abbrev trC (t : Qtr) : List Value := [.int .i64 t.st, .int .u32 t.p.as_, .int .i64 t.p.hold, .int .u32 t.p.id, .bool t.p.multi, .bool t.p.four, .bool t.p.refresh, .bool t.p.graceful, .int .i64 t.p.time, .bool t.p.restarts, .bool t.p.keeps, .int .i64 t.hold, .int .i64 t.keep, .int .i64 t.heard, .int .i64 t.spoke]
abbrev seC (q : Bool) (s : Qse) (v : Value) : List Value := [.int .u32 65001, .int .u32 1, .int .i64 90, .int .u32 65002, .bool q, .int .i64 5, .int .i64 120, .bool true, .bool s.on, .int .i64 s.now, .int .i64 s.again,
  .int .i64 s.t0.st, .int .u32 s.t0.p.as_, .int .i64 s.t0.p.hold, .int .u32 s.t0.p.id, .bool s.t0.p.multi, .bool s.t0.p.four, .bool s.t0.p.refresh, .bool s.t0.p.graceful, .int .i64 s.t0.p.time, .bool s.t0.p.restarts, .bool s.t0.p.keeps, .int .i64 s.t0.hold, .int .i64 s.t0.keep, .int .i64 s.t0.heard, .int .i64 s.t0.spoke,
  .int .i64 s.t1.st, .int .u32 s.t1.p.as_, .int .i64 s.t1.p.hold, .int .u32 s.t1.p.id, .bool s.t1.p.multi, .bool s.t1.p.four, .bool s.t1.p.refresh, .bool s.t1.p.graceful, .int .i64 s.t1.p.time, .bool s.t1.p.restarts, .bool s.t1.p.keeps, .int .i64 s.t1.hold, .int .i64 s.t1.keep, .int .i64 s.t1.heard, .int .i64 s.t1.spoke, v]
structure TrOk (t : Qtr) : Prop where
  st : 0 ≤ t.st ∧ t.st ≤ 5
  hold : 0 ≤ t.hold ∧ t.hold ≤ 10000
  keep : 0 ≤ t.keep ∧ t.keep ≤ 10000
structure SeOk (s : Qse) : Prop where
  now : 0 ≤ s.now ∧ s.now ≤ 1099511627776
  t0 : TrOk s.t0
  t1 : TrOk s.t1
def kwA (xs : List Ac) (w : World) : Prop := ∀ x ∈ xs, x.kind = 3 → Vw w (.slice x.a x.b.length x.c) 1 x.b.length (flat byC x.b)
theorem kwA_nil (w : World) : kwA [] w := by simp [kwA]
theorem kwA_free {xs : List Ac} {w : World} (h : kwA xs w) {x : Ac} (hx : x.kind ≠ 3) : kwA (xs ++ [x]) w := by
  intro y hy h3
  rcases List.mem_append.1 hy with h1 | h1
  · exact h y h1 h3
  · rw [List.mem_singleton.1 h1] at h3
    exact absurd h3 hx
theorem kwA_said {xs : List Ac} {w : World} (h : kwA xs w) {x : Ac} (hx : Vw w (.slice x.a x.b.length x.c) 1 x.b.length (flat byC x.b)) : kwA (xs ++ [x]) w := by
  intro y hy h3
  rcases List.mem_append.1 hy with h1 | h1
  · exact h y h1 h3
  · rw [List.mem_singleton.1 h1]
    exact hx
abbrev latS (s : Qse) : Qse := { s with again := s.now + 50 }
theorem later_s (b : Nat) (q : Bool) (s : Qse) (v : Value) (hs : SeOk s) : Pact Try.prog 55 #[.pointer (some ⟨b, 0, none⟩)] (fun _ => True) [pts b (seC q s v) 52] (fun u L' => u = .tuple #[] ∧ L' = [pts b (seC q (latS s) v) 52]) := by
  refine pact Try.func55 rfl Try.ntmps55 rfl ?_
  intro W K _
  have h1 := hs.now
  (repeat' (first | ((with_reducible apply gL); (first | refine yL0 ?_ | refine yL ?_ | fail)) | ((with_reducible apply gD); (first | (refine JD_nil ?_; try simp only [List.cons_append, List.nil_append]) | (refine JD_bar ?_; try simp only [List.cons_append, List.nil_append]) | refine yD ?_ | fail)) | refine yJ ?_ | refine J_draw (id := 0) [0, 1, 2, 3, 4, 5, 6, 7, 8, 9, 10, 11] [12, 13, 14] mixed xC xD xD ?_ | fail))
  exact J_end0 rfl fun w H => ⟨_, ⟨rfl, rfl⟩, H.sel xZ⟩
theorem done_s (b : Nat) (q : Bool) (s : Qse) (a : Option Addr) (n c : Nat) : Pact Try.prog 36 #[.pointer (some ⟨b, 0, none⟩)] (fun _ => True) [pts b (seC q s (.slice a n c)) 52] (fun u L' => u = .slice a n c ∧ L' = [pts b (seC q s (.slice none 0 0)) 52]) := by
  refine pact Try.func36 rfl Try.ntmps36 rfl ?_
  intro W K _
  (repeat' (first | ((with_reducible apply gL); (first | refine yL0 ?_ | refine yL ?_ | fail)) | refine yJ ?_ | fail))
  exact J_ret1 rfl (by rfl) fun w H => ⟨_, ⟨rfl, rfl⟩, H.sel xZ⟩
abbrev atS (s : Qse) (now : Int) : Qse := { s with now := max s.now (min now 1099511627776) }
theorem at_s (b : Nat) (q : Bool) (s : Qse) (v : Value) (now : Int) : Pact Try.prog 34 #[.pointer (some ⟨b, 0, none⟩), .int .i64 now] (fun _ => True) [pts b (seC q s v) 52] (fun u L' => u = .bool true ∧ L' = [pts b (seC q (atS s now) v) 52]) := by
  refine pact Try.func34 rfl Try.ntmps34 rfl ?_
  intro W K _
  (repeat' (first | ((with_reducible apply gL); (first | refine yL0 ?_ | refine yL ?_ | ((with_reducible apply gL_gd); (first | (refine JL_guard xR xR ?_ ?_ <;> intro _ <;> (try (exfalso; first | contradiction | omega))) | (refine JL_guardb xR xR ?_ ?_ <;> (intro hgb; subst hgb)) | (refine JL_guardb xR xR ?_ ?_ <;> (intro hgb; fail_if_success (have : type_of% hgb := rfl))) | fail)) | fail)) | refine yJ ?_ | ((with_reducible apply gJ_if); (first | (refine J_if xR ?_ ?_ <;> intro _ <;> (try (exfalso; first | contradiction | omega))) | (refine J_ifb xR ?_ ?_ <;> (intro hgb; subst hgb)) | (refine J_ifb xR ?_ ?_ <;> intro _) | fail)) | fail))
  exact J_ret1 rfl (by rfl) fun w H => ⟨_, ⟨rfl, rfl⟩, H.sel xZ⟩
theorem atS_ok {s : Qse} (h : SeOk s) (now : Int) : SeOk (atS s now) := ⟨by have := h.now; show 0 ≤ max s.now (min now 1099511627776) ∧ max s.now (min now 1099511627776) ≤ _; omega, h.t0, h.t1⟩
theorem track0_s (b : Nat) : Pact Try.prog 19 #[.pointer (some ⟨b, 0, none⟩), .int .i64 0] (fun _ => True) [] (ret0 (.pointer (some ⟨b, 11 + 0 * 15, none⟩))) := by
  refine pact Try.func19 rfl Try.ntmps19 rfl ?_
  intro W K _
  (repeat' (first | ((with_reducible apply gL); (first | refine yL0 ?_ | refine yL ?_ | ((with_reducible apply gL_gd); (first | (refine JL_guard xR xR ?_ ?_ <;> intro _ <;> (try (exfalso; first | contradiction | omega))) | (refine JL_guardb xR xR ?_ ?_ <;> (intro hgb; subst hgb)) | (refine JL_guardb xR xR ?_ ?_ <;> (intro hgb; fail_if_success (have : type_of% hgb := rfl))) | fail)) | fail)) | refine yJ ?_ | ((with_reducible apply gJ_if); (first | (refine J_if xR ?_ ?_ <;> intro _ <;> (try (exfalso; first | contradiction | omega))) | (refine J_ifb xR ?_ ?_ <;> (intro hgb; subst hgb)) | (refine J_ifb xR ?_ ?_ <;> intro _) | fail)) | fail))
  exact J_ret1 rfl (by rfl) fun w H => ⟨_, ⟨rfl, rfl⟩, H.sel xZ⟩
theorem track1_s (b : Nat) : Pact Try.prog 19 #[.pointer (some ⟨b, 0, none⟩), .int .i64 1] (fun _ => True) [] (ret0 (.pointer (some ⟨b, 11 + 1 * 15, none⟩))) := by
  refine pact Try.func19 rfl Try.ntmps19 rfl ?_
  intro W K _
  (repeat' (first | ((with_reducible apply gL); (first | refine yL0 ?_ | refine yL ?_ | ((with_reducible apply gL_gd); (first | (refine JL_guard xR xR ?_ ?_ <;> intro _ <;> (try (exfalso; first | contradiction | omega))) | (refine JL_guardb xR xR ?_ ?_ <;> (intro hgb; subst hgb)) | (refine JL_guardb xR xR ?_ ?_ <;> (intro hgb; fail_if_success (have : type_of% hgb := rfl))) | fail)) | fail)) | refine yJ ?_ | ((with_reducible apply gJ_if); (first | (refine J_if xR ?_ ?_ <;> intro _ <;> (try (exfalso; first | contradiction | omega))) | (refine J_ifb xR ?_ ?_ <;> (intro hgb; subst hgb)) | (refine J_ifb xR ?_ ?_ <;> intro _) | fail)) | fail))
  exact J_ret1 rfl (by rfl) fun w H => ⟨_, ⟨rfl, rfl⟩, H.sel xZ⟩
theorem trackN_s (p : Option Addr) (k : Int) (h : k < 0 ∨ 2 ≤ k) : Pact Try.prog 19 #[.pointer p, .int .i64 k] (fun _ => True) [] (ret0 (.pointer none)) := by
  refine pact Try.func19 rfl Try.ntmps19 rfl ?_
  intro W K _
  (repeat' (first | ((with_reducible apply gL); (first | refine yL0 ?_ | refine yL ?_ | ((with_reducible apply gL_gd); (first | (refine JL_guard xR xR ?_ ?_ <;> intro _ <;> (try (exfalso; first | contradiction | omega))) | (refine JL_guardb xR xR ?_ ?_ <;> (intro hgb; subst hgb)) | (refine JL_guardb xR xR ?_ ?_ <;> (intro hgb; fail_if_success (have : type_of% hgb := rfl))) | fail)) | fail)) | refine yJ ?_ | ((with_reducible apply gJ_if); (first | (refine J_if xR ?_ ?_ <;> intro _ <;> (try (exfalso; first | contradiction | omega))) | (refine J_ifb xR ?_ ?_ <;> (intro hgb; subst hgb)) | (refine J_ifb xR ?_ ?_ <;> intro _) | fail)) | fail))
  all_goals (first | (exfalso; omega) | exact J_ret1 rfl (by rfl) fun w H => ⟨_, ⟨rfl, rfl⟩, H.sel .nil⟩)
theorem trackZ_s (k : Int) : Pact Try.prog 19 #[.pointer none, .int .i64 k] (fun _ => True) [] (ret0 (.pointer none)) := by
  refine pact Try.func19 rfl Try.ntmps19 rfl ?_
  intro W K _
  (repeat' (first | ((with_reducible apply gL); (first | refine yL0 ?_ | refine yL ?_ | ((with_reducible apply gL_gd); (first | (refine JL_guard xR xR ?_ ?_ <;> intro _ <;> (try (exfalso; first | contradiction | omega))) | (refine JL_guardb xR xR ?_ ?_ <;> (intro hgb; subst hgb)) | (refine JL_guardb xR xR ?_ ?_ <;> (intro hgb; fail_if_success (have : type_of% hgb := rfl))) | fail)) | fail)) | refine yJ ?_ | ((with_reducible apply gJ_if); (first | (refine J_if xR ?_ ?_ <;> intro _ <;> (try (exfalso; first | contradiction | omega))) | (refine J_ifb xR ?_ ?_ <;> (intro hgb; subst hgb)) | (refine J_ifb xR ?_ ?_ <;> intro _) | fail)) | fail))
  all_goals (first | (exfalso; omega) | exact J_ret1 rfl (by rfl) fun w H => ⟨_, ⟨rfl, rfl⟩, H.sel .nil⟩)
end Go.Proofs.Ytfonbpmdbpdncaa
namespace Go.Proofs.Ytfonbpmdbpdncaa
set_option linter.unusedSimpArgs false
set_option linter.unusedVariables false
set_option maxRecDepth 20000
set_option maxHeartbeats 4000000
open Go.RowKit Go.Pm

def SentOk (m : Int) (B : List Int) : Prop := ∃ (d : Kd) (body : List Int), KdOk d ∧ d.k = m ∧ B = msgB d.k body ∧ d.lo ≤ (19 + body.length : Nat) ∧ ((19 + body.length : Nat) : Int) ≤ d.hi
def acIs (x : Ac) (y : Int × Int × Int) : Prop := x.kind = y.1 ∧ x.track = y.2.1 ∧ (x.kind = 3 → SentOk y.2.2 x.b)
def Are : List Ac → List (Int × Int × Int) → Prop
  | [], [] => True
  | x :: xs, y :: ys => acIs x y ∧ Are xs ys
  | _, _ => False
theorem Are.app : ∀ {xs : List Ac} {ys : List (Int × Int × Int)} {us : List Ac} {vs : List (Int × Int × Int)}, Are xs ys → Are us vs → Are (xs ++ us) (ys ++ vs)
  | [], [], _, _, _, h => h
  | _ :: _, _ :: _, _, _, h, h2 => ⟨h.1, Are.app h.2 h2⟩
  | [], _ :: _, _, _, h, _ => h.elim
  | _ :: _, [], _, _, h, _ => h.elim
theorem Are.len : ∀ {xs : List Ac} {ys : List (Int × Int × Int)}, Are xs ys → xs.length = ys.length
  | [], [], _ => rfl
  | _ :: _, _ :: _, h => by simp only [List.length_cons]; rw [Are.len h.2]
  | [], _ :: _, h => h.elim
  | _ :: _, [], h => h.elim
theorem Are.one {x : Ac} {y : Int × Int × Int} (h1 : x.kind = y.1) (h2 : x.track = y.2.1) (h3 : x.kind ≠ 3) : Are [x] [y] := ⟨⟨h1, h2, fun h => absurd h h3⟩, trivial⟩
abbrev hasA (xs : List Ac) : HP := Pm.has (kwA xs)
theorem freeA {W : World} {K : Hl} {L R : List HP} {w : World} {xs : List Ac} {x : Ac} (H : Ow W K L w) (t : Tk L (hasA xs) R) (hx : x.kind ≠ 3) : Ow W K (hasA (xs ++ [x]) :: R) w :=
  Ow.has (M := [hasA xs]) H (.cons t .nil) fun w hr => kwA_free (hr.has .here) hx
theorem saidA {W : World} {K : Hl} {L R Q : List HP} {w : World} {xs : List Ac} {x : Ac} {n : Nat} (H : Ow W K L w) (t : Tk L (hasA xs) R) (t2 : Tk R (Ar 5 1 byC (.slice x.a n x.c) x.b) Q) (hn : n = x.b.length) : Ow W K (hasA (xs ++ [x]) :: Q) w := by
  subst hn
  exact Ow.has (M := [hasA xs, Ar 5 1 byC (.slice x.a x.b.length x.c) x.b]) H (.cons t (.cons t2 .nil)) fun w hr => kwA_said (hr.has .here) (Src.ar (.there .here) w hr)
theorem do_s (b : Nat) (q : Bool) (s : Qse) (a : Option Addr) (n c : Nat) (xs : List Ac) (hx : xs.length ≤ 50) (kd k : Int) (hk : kd ≠ 3) : Pact Try.prog 43 #[.pointer (some ⟨b, 0, none⟩), .int .i64 kd, .int .i64 k] (fun _ => True) [pts b (seC q s (.slice a n c)) 52, Ar 42 14 acC (.slice a n c) xs, hasA xs] (fun u L' => ∃ a' n' c' z, Are [z] [(kd, k, 0)] ∧ u = .tuple #[] ∧ L' = [pts b (seC q s (.slice a' n' c')) 52, Ar 42 14 acC (.slice a' n' c') (xs ++ [z]), hasA (xs ++ [z])]) := by
  refine pact Try.func43 rfl Try.ntmps43 rfl ?_
  intro W K _
  (repeat' (first | ((with_reducible apply gL); (first | refine yL0 ?_ | ((with_reducible apply gL_c_append); (first | (refine JL_ap1 (z := (⟨kd, k, none, 0, [], op0, false⟩ : Ac)) (tabE etab_ok xR) xR xR xA xA xC xR xL xR (by omega) xR xR ?_; intro ad c6 _ _) | fail)) | refine yL ?_ | (refine yM ?_; intro _) | (refine yA ?_; intro _ _ _ _) | fail)) | refine yJ ?_ | fail))
  exact J_end0 rfl fun w H => ⟨_, ⟨_, _, _, ⟨kd, k, none, 0, [], op0, false⟩, Are.one rfl rfl hk, rfl, rfl⟩, (freeA (x := ⟨kd, k, none, 0, [], op0, false⟩) H xA hk).sel xZ⟩
theorem say_s (b : Nat) (q : Bool) (s : Qse) (a : Option Addr) (n c : Nat) (xs : List Ac) (hx : xs.length ≤ 50) (k m : Int) (d : Kd) (h : KdOk d) (hm : d.k = m) (ba : Option Addr) (bn bc : Nat) (l : List Int) (hn : l.length = bn) (h1 : d.lo ≤ (19 + bn : Nat)) (h2 : ((19 + bn : Nat) : Int) ≤ d.hi) : Pact Try.prog 38 #[.pointer (some ⟨b, 0, none⟩), .int .i64 k, .int .i64 m, .slice ba bn bc] (fun w => Vw w (.slice ba bn bc) 1 bn (flat byC l)) [pts b (seC q s (.slice a n c)) 52, Ar 42 14 acC (.slice a n c) xs, hasA xs] (fun u L' => ∃ a' n' c' z, Are [z] [(3, k, m)] ∧ u = .tuple #[] ∧ L' = [pts b (seC q s (.slice a' n' c')) 52, Ar 42 14 acC (.slice a' n' c') (xs ++ [z]), hasA (xs ++ [z])]) := by
  subst hm hn
  refine pact Try.func38 rfl Try.ntmps38 rfl ?_
  intro W K hK
  have hl : l.length ≤ 4077 := by rcases h with rfl | rfl | rfl <;> simp only at h1 h2 <;> omega
  obtain ⟨B, hB⟩ : ∃ B, msgB d.k l = B := ⟨_, rfl⟩
  have hBl : B.length = 19 + l.length := by rw [← hB, msgB_len]
  have kb := mbuild_s d h ba bc l h1 h2 hl
  rw [hB, ← hBl] at kb
  (repeat' (first | ((with_reducible apply gL); (first | refine yL0 ?_ | ((with_reducible apply gL_c_append); (first | (refine JL_ap1 (z := (⟨3, k, a4, c4, B, op0, false⟩ : Ac)) (tabE etab_ok xR) xR xR xA xA xC xR xL xR (by omega) xR xR ?_; intro ad c6 _ _) | fail)) | refine yL ?_ | ((with_reducible apply gL_go); (first | (refine JL_goq (kb) (hφ := (by (try simp only [List.cons_append, List.nil_append]); exact fun w hr => hK w hr.1)) (h := ?_); rintro _ _ ⟨a4, c4, rfl, rfl⟩; try simp only [List.cons_append, List.nil_append]) | fail)) | (refine yM ?_; intro _) | (refine yA ?_; intro _ _ _ _) | fail)) | refine yJ ?_ | fail))
  exact J_end0 rfl fun w H => ⟨_, ⟨_, _, _, ⟨3, k, a4, c4, B, op0, false⟩, ⟨⟨rfl, rfl, fun _ => ⟨d, l, h, rfl, hB.symm, h1, h2⟩⟩, trivial⟩, rfl, rfl⟩, (saidA (x := ⟨3, k, a4, c4, B, op0, false⟩) H xA xA rfl).sel xZ⟩
theorem tr0_ok : TrOk tr0 := ⟨by decide, by decide, by decide⟩
theorem SeOk.set0 {s : Qse} (h : SeOk s) (t : Qtr) (ht : TrOk t) : SeOk { s with t0 := t } := { h with t0 := ht }
theorem SeOk.set1 {s : Qse} (h : SeOk s) (t : Qtr) (ht : TrOk t) : SeOk { s with t1 := t } := { h with t1 := ht }
def dnL (st k : Int) : List (Int × Int × Int) := if st = 5 then [(5, k, 0)] else []
theorem lose0_s (b : Nat) (q : Bool) (s : Qse) (hs : SeOk s) (a : Option Addr) (n c : Nat) (xs : List Ac) (hx : xs.length ≤ 50) (g : Bool) : Pact Try.prog 44 #[.pointer (some ⟨b, 0, none⟩), .int .i64 0, .bool g] (fun _ => True) [pts b (seC q s (.slice a n c)) 52, Ar 42 14 acC (.slice a n c) xs, hasA xs] (fun u L' => ∃ a' n' c' ag zs, (ag = s.again ∨ s.t1.st = 0) ∧ Are zs (dnL s.t0.st 0) ∧ u = .tuple #[] ∧ L' = [pts b (seC q { s with again := ag, t0 := tr0 } (.slice a' n' c')) 52, Ar 42 14 acC (.slice a' n' c') (xs ++ zs), hasA (xs ++ zs)]) := by
  refine pact Try.func44 rfl Try.ntmps44 rfl ?_
  intro W K _
  have hs2 : SeOk { s with t0 := tr0 } := hs.set0 _ tr0_ok
  have h53 : (5 : Int) ≠ 3 := by decide
  (repeat' (first | ((with_reducible apply gL); (first | refine yL0 ?_ | ((with_reducible apply gL_c_append); (first | (refine JL_ap1 (z := (⟨5, 0, none, 0, [], op0, g⟩ : Ac)) (tabE etab_ok xR) xR xR xA xA xC xR xL xR (by omega) xR xR ?_; intro ad c6 _ _) | fail)) | refine yL ?_ | ((with_reducible apply gL_go); (first | (refine JL_goq (later_s b q { s with t0 := tr0 } (.slice a n c) hs2) (hφ := xF) (h := ?_); rintro _ _ ⟨rfl, rfl⟩; try simp only [List.cons_append, List.nil_append]) | fail)) | (refine yM ?_; intro _) | (refine yA ?_; intro _ _ _ _) | ((with_reducible apply gL_gd); (first | (refine JL_guard xR xR ?_ ?_ <;> intro _ <;> (try (exfalso; first | contradiction | omega))) | (refine JL_guardb xR xR ?_ ?_ <;> (intro hgb; subst hgb)) | (refine JL_guardb xR xR ?_ ?_ <;> (intro hgb; fail_if_success (have : type_of% hgb := rfl))) | fail)) | fail)) | refine yJ ?_ | ((with_reducible apply gJ_if); (first | (refine J_if xR ?_ ?_ <;> intro _ <;> (try (exfalso; first | contradiction | omega))) | (refine J_ifb xR ?_ ?_ <;> (intro hgb; subst hgb)) | (refine J_ifb xR ?_ ?_ <;> intro _) | fail)) | fail))
  all_goals (first
    | exact J_end0 rfl fun w H => ⟨_, ⟨a, n, c, s.again, [], .inl rfl, (by first | (rw [dnL, if_neg (by first | (omega; done) | fail)]; exact trivial; done) | fail), rfl, rfl⟩, (by first | (rw [List.append_nil]; exact H.sel (by first | ((first | ((with_reducible (repeat (first | exact Sb.nil | apply Sb.cons | exact Tk.here | apply Tk.there))); done) | (repeat (first | exact Sb.nil | apply Sb.cons | exact Tk.here | apply Tk.there))); done) | fail); done) | fail)⟩
    | exact J_end0 rfl fun w H => ⟨_, ⟨a, n, c, s.now + 50, [], .inr (by first | (omega; done) | fail), (by first | (rw [dnL, if_neg (by first | (omega; done) | fail)]; exact trivial; done) | fail), rfl, rfl⟩, (by first | (rw [List.append_nil]; exact H.sel (by first | ((first | ((with_reducible (repeat (first | exact Sb.nil | apply Sb.cons | exact Tk.here | apply Tk.there))); done) | (repeat (first | exact Sb.nil | apply Sb.cons | exact Tk.here | apply Tk.there))); done) | fail); done) | fail)⟩
    | exact J_end0 rfl fun w H => ⟨_, ⟨_, _, _, s.again, [⟨5, 0, none, 0, [], op0, g⟩], .inl rfl, (by first | (rw [dnL, if_pos (by first | (omega; done) | fail)]; exact Are.one rfl rfl h53; done) | fail), rfl, rfl⟩, (freeA (x := ⟨5, 0, none, 0, [], op0, g⟩) H xA h53).sel (by first | ((first | ((with_reducible (repeat (first | exact Sb.nil | apply Sb.cons | exact Tk.here | apply Tk.there))); done) | (repeat (first | exact Sb.nil | apply Sb.cons | exact Tk.here | apply Tk.there))); done) | fail)⟩
    | exact J_end0 rfl fun w H => ⟨_, ⟨_, _, _, s.now + 50, [⟨5, 0, none, 0, [], op0, g⟩], .inr (by first | (omega; done) | fail), (by first | (rw [dnL, if_pos (by first | (omega; done) | fail)]; exact Are.one rfl rfl h53; done) | fail), rfl, rfl⟩, (freeA (x := ⟨5, 0, none, 0, [], op0, g⟩) H xA h53).sel (by first | ((first | ((with_reducible (repeat (first | exact Sb.nil | apply Sb.cons | exact Tk.here | apply Tk.there))); done) | (repeat (first | exact Sb.nil | apply Sb.cons | exact Tk.here | apply Tk.there))); done) | fail)⟩
    | fail)
theorem forget0_s (b : Nat) (q : Bool) (s : Qse) (a : Option Addr) (n c : Nat) (xs : List Ac) (hx : xs.length ≤ 50) : Pact Try.prog 37 #[.pointer (some ⟨b, 0, none⟩), .int .i64 0] (fun _ => True) [pts b (seC q s (.slice a n c)) 52, Ar 42 14 acC (.slice a n c) xs, hasA xs] (fun u L' => ∃ a' n' c' z, Are [z] [(2, 0, 0)] ∧ u = .tuple #[] ∧ L' = [pts b (seC q { s with t0 := tr0 } (.slice a' n' c')) 52, Ar 42 14 acC (.slice a' n' c') (xs ++ [z]), hasA (xs ++ [z])]) := by
  refine pact Try.func37 rfl Try.ntmps37 rfl ?_
  intro W K _
  (repeat' (first | ((with_reducible apply gL); (first | refine yL0 ?_ | refine yL ?_ | ((with_reducible apply gL_go); (first | (refine JL_goq (do_s b q s a n c xs hx 2 0 (by decide)) (hφ := xF) (h := ?_); rintro _ _ ⟨a1, n1, c1, z, hz, rfl, rfl⟩; try simp only [List.cons_append, List.nil_append]) | fail)) | fail)) | refine yJ ?_ | fail))
  exact J_end0 rfl fun w H => ⟨_, ⟨a1, n1, c1, z, hz, rfl, rfl⟩, H.sel xZ⟩
theorem lose1_s (b : Nat) (q : Bool) (s : Qse) (hs : SeOk s) (a : Option Addr) (n c : Nat) (xs : List Ac) (hx : xs.length ≤ 50) (g : Bool) : Pact Try.prog 44 #[.pointer (some ⟨b, 0, none⟩), .int .i64 1, .bool g] (fun _ => True) [pts b (seC q s (.slice a n c)) 52, Ar 42 14 acC (.slice a n c) xs, hasA xs] (fun u L' => ∃ a' n' c' ag zs, (ag = s.again ∨ s.t0.st = 0) ∧ Are zs (dnL s.t1.st 1) ∧ u = .tuple #[] ∧ L' = [pts b (seC q { s with again := ag, t1 := tr0 } (.slice a' n' c')) 52, Ar 42 14 acC (.slice a' n' c') (xs ++ zs), hasA (xs ++ zs)]) := by
  refine pact Try.func44 rfl Try.ntmps44 rfl ?_
  intro W K _
  have hs2 : SeOk { s with t1 := tr0 } := hs.set1 _ tr0_ok
  have h53 : (5 : Int) ≠ 3 := by decide
  (repeat' (first | ((with_reducible apply gL); (first | refine yL0 ?_ | ((with_reducible apply gL_c_append); (first | (refine JL_ap1 (z := (⟨5, 1, none, 0, [], op0, g⟩ : Ac)) (tabE etab_ok xR) xR xR xA xA xC xR xL xR (by omega) xR xR ?_; intro ad c6 _ _) | fail)) | refine yL ?_ | ((with_reducible apply gL_go); (first | (refine JL_goq (later_s b q { s with t1 := tr0 } (.slice a n c) hs2) (hφ := xF) (h := ?_); rintro _ _ ⟨rfl, rfl⟩; try simp only [List.cons_append, List.nil_append]) | fail)) | (refine yM ?_; intro _) | (refine yA ?_; intro _ _ _ _) | ((with_reducible apply gL_gd); (first | (refine JL_guard xR xR ?_ ?_ <;> intro _ <;> (try (exfalso; first | contradiction | omega))) | (refine JL_guardb xR xR ?_ ?_ <;> (intro hgb; subst hgb)) | (refine JL_guardb xR xR ?_ ?_ <;> (intro hgb; fail_if_success (have : type_of% hgb := rfl))) | fail)) | fail)) | refine yJ ?_ | ((with_reducible apply gJ_if); (first | (refine J_if xR ?_ ?_ <;> intro _ <;> (try (exfalso; first | contradiction | omega))) | (refine J_ifb xR ?_ ?_ <;> (intro hgb; subst hgb)) | (refine J_ifb xR ?_ ?_ <;> intro _) | fail)) | fail))
  all_goals (first
    | exact J_end0 rfl fun w H => ⟨_, ⟨a, n, c, s.again, [], .inl rfl, (by first | (rw [dnL, if_neg (by first | (omega; done) | fail)]; exact trivial; done) | fail), rfl, rfl⟩, (by first | (rw [List.append_nil]; exact H.sel (by first | ((first | ((with_reducible (repeat (first | exact Sb.nil | apply Sb.cons | exact Tk.here | apply Tk.there))); done) | (repeat (first | exact Sb.nil | apply Sb.cons | exact Tk.here | apply Tk.there))); done) | fail); done) | fail)⟩
    | exact J_end0 rfl fun w H => ⟨_, ⟨a, n, c, s.now + 50, [], .inr (by first | (omega; done) | fail), (by first | (rw [dnL, if_neg (by first | (omega; done) | fail)]; exact trivial; done) | fail), rfl, rfl⟩, (by first | (rw [List.append_nil]; exact H.sel (by first | ((first | ((with_reducible (repeat (first | exact Sb.nil | apply Sb.cons | exact Tk.here | apply Tk.there))); done) | (repeat (first | exact Sb.nil | apply Sb.cons | exact Tk.here | apply Tk.there))); done) | fail); done) | fail)⟩
    | exact J_end0 rfl fun w H => ⟨_, ⟨_, _, _, s.again, [⟨5, 1, none, 0, [], op0, g⟩], .inl rfl, (by first | (rw [dnL, if_pos (by first | (omega; done) | fail)]; exact Are.one rfl rfl h53; done) | fail), rfl, rfl⟩, (freeA (x := ⟨5, 1, none, 0, [], op0, g⟩) H xA h53).sel (by first | ((first | ((with_reducible (repeat (first | exact Sb.nil | apply Sb.cons | exact Tk.here | apply Tk.there))); done) | (repeat (first | exact Sb.nil | apply Sb.cons | exact Tk.here | apply Tk.there))); done) | fail)⟩
    | exact J_end0 rfl fun w H => ⟨_, ⟨_, _, _, s.now + 50, [⟨5, 1, none, 0, [], op0, g⟩], .inr (by first | (omega; done) | fail), (by first | (rw [dnL, if_pos (by first | (omega; done) | fail)]; exact Are.one rfl rfl h53; done) | fail), rfl, rfl⟩, (freeA (x := ⟨5, 1, none, 0, [], op0, g⟩) H xA h53).sel (by first | ((first | ((with_reducible (repeat (first | exact Sb.nil | apply Sb.cons | exact Tk.here | apply Tk.there))); done) | (repeat (first | exact Sb.nil | apply Sb.cons | exact Tk.here | apply Tk.there))); done) | fail)⟩
    | fail)
theorem forget1_s (b : Nat) (q : Bool) (s : Qse) (a : Option Addr) (n c : Nat) (xs : List Ac) (hx : xs.length ≤ 50) : Pact Try.prog 37 #[.pointer (some ⟨b, 0, none⟩), .int .i64 1] (fun _ => True) [pts b (seC q s (.slice a n c)) 52, Ar 42 14 acC (.slice a n c) xs, hasA xs] (fun u L' => ∃ a' n' c' z, Are [z] [(2, 1, 0)] ∧ u = .tuple #[] ∧ L' = [pts b (seC q { s with t1 := tr0 } (.slice a' n' c')) 52, Ar 42 14 acC (.slice a' n' c') (xs ++ [z]), hasA (xs ++ [z])]) := by
  refine pact Try.func37 rfl Try.ntmps37 rfl ?_
  intro W K _
  (repeat' (first | ((with_reducible apply gL); (first | refine yL0 ?_ | refine yL ?_ | ((with_reducible apply gL_go); (first | (refine JL_goq (do_s b q s a n c xs hx 2 1 (by decide)) (hφ := xF) (h := ?_); rintro _ _ ⟨a1, n1, c1, z, hz, rfl, rfl⟩; try simp only [List.cons_append, List.nil_append]) | fail)) | fail)) | refine yJ ?_ | fail))
  exact J_end0 rfl fun w H => ⟨_, ⟨a1, n1, c1, z, hz, rfl, rfl⟩, H.sel xZ⟩
theorem try_f (b : Nat) (s : Qse) (hs : SeOk s) (a : Option Addr) (n c : Nat) (xs : List Ac) (hx : xs.length ≤ 50) : Pact Try.prog 35 #[.pointer (some ⟨b, 0, none⟩)] (fun _ => True) [pts b (seC false s (.slice a n c)) 52, Ar 42 14 acC (.slice a n c) xs, hasA xs] (fun u L' => ∃ a' n' c' z, Are [z] [(1, 0, 0)] ∧ u = .tuple #[] ∧ L' = [pts b (seC false { s with t0 := ⟨1, op0, 0, 0, 0, 0⟩, again := s.now + 50 } (.slice a' n' c')) 52, Ar 42 14 acC (.slice a' n' c') (xs ++ [z]), hasA (xs ++ [z])]) := by
  refine pact Try.func35 rfl Try.ntmps35 rfl ?_
  intro W K _
  have hs2 : SeOk { s with t0 := ⟨1, op0, 0, 0, 0, 0⟩ } := hs.set0 _ ⟨by decide, by decide, by decide⟩
  (repeat' (first | ((with_reducible apply gL); (first | refine yL0 ?_ | refine yL ?_ | ((with_reducible apply gL_go); (first | (refine JL_goq (do_s b false s a n c xs hx 1 0 (by decide)) (hφ := xF) (h := ?_); rintro _ _ ⟨a1, n1, c1, z, hz, rfl, rfl⟩; try simp only [List.cons_append, List.nil_append]) | (refine JL_goq (later_s b false { s with t0 := ⟨1, op0, 0, 0, 0, 0⟩ } _ hs2) (hφ := xF) (h := ?_); rintro _ _ ⟨rfl, rfl⟩; try simp only [List.cons_append, List.nil_append]) | fail)) | fail)) | refine yJ ?_ | ((with_reducible apply gJ_if); (first | (refine J_if xR ?_ ?_ <;> intro _ <;> (try (exfalso; first | contradiction | omega))) | (refine J_ifb xR ?_ ?_ <;> (intro hgb; subst hgb)) | (refine J_ifb xR ?_ ?_ <;> intro _) | fail)) | fail))
  exact J_end0 rfl fun w H => ⟨_, ⟨a1, n1, c1, z, hz, rfl, rfl⟩, H.sel xZ⟩
theorem try_t (b : Nat) (s : Qse) (hs : SeOk s) (v : Value) : Pact Try.prog 35 #[.pointer (some ⟨b, 0, none⟩)] (fun _ => True) [pts b (seC true s v) 52] (fun u L' => u = .tuple #[] ∧ L' = [pts b (seC true { s with again := s.now + 50 } v) 52]) := by
  refine pact Try.func35 rfl Try.ntmps35 rfl ?_
  intro W K _
  (repeat' (first | ((with_reducible apply gL); (first | refine yL0 ?_ | refine yL ?_ | ((with_reducible apply gL_go); (first | (refine JL_goq (later_s b true s v hs) (hφ := xF) (h := ?_); rintro _ _ ⟨rfl, rfl⟩; try simp only [List.cons_append, List.nil_append]) | fail)) | fail)) | refine yJ ?_ | ((with_reducible apply gJ_if); (first | (refine J_if xR ?_ ?_ <;> intro _ <;> (try (exfalso; first | contradiction | omega))) | (refine J_ifb xR ?_ ?_ <;> (intro hgb; subst hgb)) | (refine J_ifb xR ?_ ?_ <;> intro _) | fail)) | fail))
  exact J_end0 rfl fun w H => ⟨_, ⟨rfl, rfl⟩, H.sel xZ⟩
end Go.Proofs.Ytfonbpmdbpdncaa
