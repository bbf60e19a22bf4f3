/-
  Fs4, Fs5, Fs6, J8, Fs7, Fs8, Fs9: merged.
-/
import Derived.Test.YtfonbpmdbpdncaaZFsmVoid11
import Derived.ChangeKeysEq
import Derived.Laws.BitsLemmas
namespace Go.Proofs.Ytfonbpmdbpdncaa
set_option linter.unusedSimpArgs false
set_option linter.unusedVariables false
set_option maxRecDepth 20000
set_option maxHeartbeats 4000000
open Go.RowKit Go.Pm

def refB : List Int → Bool
  | [x, y, _, u] => decide ((x = 0 ∧ y = 1) ∧ u = 1)
  | _ => false
theorem refB_len {l : List Int} (h : l.length ≠ 4) : refB l = false := by
  unfold refB
  split
  · simp at h
  · rfl
theorem four {l : List Int} (h : l.length = 4) : ∃ x y z u, l = [x, y, z, u] := by
  match l, h with
  | [x, y, z, u], _ => exact ⟨x, y, z, u, rfl⟩
theorem row_of {w : World} {b o c m : Nat} {cells : List Value} (h : Vw w (.slice (some ⟨b, o, none⟩) m c) 1 m cells) (k : Nat) : w.rangeAt b o (cells.take k) := by
  obtain ⟨a', cap, he, _, _, _, _, h5⟩ := h
  intro j v hv
  have hne : cells ≠ [] := by rintro rfl; simp at hv
  obtain ⟨b', o', he2, hc⟩ := h5 hne
  cases he
  cases he2
  refine hc j v ?_
  rw [List.getElem?_take] at hv
  split at hv
  · exact hv
  · cases hv
theorem refreshes_s (a : Option Addr) (c : Nat) (l : List Int) : Pact Try.prog 59 #[.slice a l.length c] (fun w => Vw w (.slice a l.length c) 1 l.length (flat byC l)) [] (ret0 (.bool (refB l))) := by
  refine pact Try.func59 rfl Try.ntmps59 rfl ?_
  intro W K hK
  by_cases h4 : l.length = 4
  · obtain ⟨x, y, z, u, rfl⟩ := four h4
    refine J_fact (φ := ∃ b o, a = some ⟨b, o, none⟩ ∧ 4 ≤ c) (fun w H => ?_) ?_
    · obtain ⟨a', cap, he, _, h3, _, _, h5⟩ := hK.of H
      obtain ⟨b, o, he2, _⟩ := h5 (by simp [flat, byC])
      cases he
      exact ⟨b, o, he2, h3⟩
    · rintro ⟨b, o, rfl, hc⟩
      have hrow : Kn K (fun w => w.rangeAt b o [.int .u8 x, .int .u8 y]) := hK.imp fun w h => row_of h 2
      have hcell : Kn K (fun w => w.cell? ⟨b, o + 3 * 1, none⟩ = some (.int .u8 u)) := hK.imp fun w h => row_of h 4 3 _ rfl
      obtain ⟨B, hB⟩ : ∃ B, [x, y, z, u] = B := ⟨_, rfl⟩
      have hs3 : B[3]? = some u := by rw [← hB]; rfl
      have hBl : B.length = 4 := by rw [← hB]; rfl
      have hv : refB B = decide ((x = 0 ∧ y = 1) ∧ u = 1) := by rw [← hB]; rfl
      rw [hB] at hK ⊢
      rw [hv]
      clear hB hv h4
      rw [hBl] at hK ⊢
      (repeat' (first | ((with_reducible apply gL); (first | refine yL0 ?_ | refine yL ?_ | ((with_reducible apply gL_gd); (first | (refine JL_guard xR xR ?_ ?_ <;> intro _ <;> (try (exfalso; first | contradiction | omega))) | (refine JL_guardb xR xR ?_ ?_ <;> (intro hgb; subst hgb)) | (refine JL_guardb xR xR ?_ ?_ <;> (intro hgb; fail_if_success (have : type_of% hgb := rfl))) | fail)) | fail)) | refine yJ ?_ | fail))
      · refine JL_p rfl xR xR (pe_s2ap xR Try.underlying117 (by omega)) ?_
        (repeat' (first | ((with_reducible apply gL); (first | refine yL0 ?_ | ((with_reducible apply gL_load); (first | (first | refine JL_p rfl xR xR (pe_ldKR xR hrow (by show rowTy Try.prog 117 2 = true; kernel_rfl)) ?_ | refine JL_p rfl xR xR (pe_ldK xR hcell xC) ?_) | fail)) | ((with_reducible apply gL_bin_eql); (first | refine JL_p rfl xR xR (pe_eqA2 xR xR Try.underlying117 rfl Try.underlying5 rfl (by kernel_rfl)) ?_ | fail)) | refine yL ?_ | ((with_reducible apply gL_gd); (first | (refine JL_guard xR xR ?_ ?_ <;> intro _ <;> (try (exfalso; first | contradiction | omega))) | (refine JL_guardb xR xR ?_ ?_ <;> (intro hgb; subst hgb)) | (refine JL_guardb xR xR ?_ ?_ <;> (intro hgb; fail_if_success (have : type_of% hgb := rfl))) | fail)) | fail)) | refine yJ ?_ | fail))
        all_goals (refine J_ret1 rfl (by rfl) fun w H => ⟨_, ⟨?_, rfl⟩, H.sel .nil⟩; refine congrArg Value.bool ?_; rw [Bool.eq_iff_iff]; simp only [decide_eq_true_eq, true_iff, Bool.false_eq_true, false_iff] <;> omega)
  · rw [refB_len h4]
    (repeat' (first | ((with_reducible apply gL); (first | refine yL0 ?_ | refine yL ?_ | ((with_reducible apply gL_gd); (first | (refine JL_guard xR xR ?_ ?_ <;> intro _ <;> (try (exfalso; first | contradiction | omega))) | (refine JL_guardb xR xR ?_ ?_ <;> (intro hgb; subst hgb)) | (refine JL_guardb xR xR ?_ ?_ <;> (intro hgb; fail_if_success (have : type_of% hgb := rfl))) | fail)) | fail)) | refine yJ ?_ | fail))
    all_goals (first | (exfalso; omega) | skip)
    all_goals exact J_ret1 rfl (by rfl) fun w H => ⟨_, ⟨rfl, rfl⟩, H.sel .nil⟩
theorem octet_s (z : Int) : Pact Try.prog 71 #[.int .i64 z] (fun _ => True) [] (ret0 (.bool (decide (0 ≤ z ∧ z ≤ 255)))) := by
  refine pact Try.func71 rfl Try.ntmps71 rfl ?_
  intro W K _
  (repeat' (first | ((with_reducible apply gL); (first | refine yL0 ?_ | refine yL ?_ | ((with_reducible apply gL_gd); (first | (refine JL_guard xR xR ?_ ?_ <;> intro _ <;> (try (exfalso; first | contradiction | omega))) | (refine JL_guardb xR xR ?_ ?_ <;> (intro hgb; subst hgb)) | (refine JL_guardb xR xR ?_ ?_ <;> (intro hgb; fail_if_success (have : type_of% hgb := rfl))) | fail)) | fail)) | refine yJ ?_ | fail))
  all_goals (refine J_ret1 rfl (by rfl) fun w H => ⟨_, ⟨?_, rfl⟩, H.sel .nil⟩; refine congrArg Value.bool ?_; rw [Bool.eq_iff_iff]; simp only [decide_eq_true_eq, true_iff, Bool.false_eq_true, false_iff] <;> omega)
theorem build_ok (code sub : Int) (a : Option Addr) (c : Nat) (l : List Int) (h1 : 0 ≤ code ∧ code ≤ 255) (h2 : 0 ≤ sub ∧ sub ≤ 255) (hl : l.length ≤ 4075) : Pact Try.prog 62 #[.agg #[.int .i64 code, .int .i64 sub, .slice a l.length c]] (fun w => Vw w (.slice a l.length c) 1 l.length (flat byC l)) [] (fun u L' => ∃ a' c', l.length + 2 ≤ c' ∧ u = .tuple #[.slice a' (l.length + 2) c', .int .i64 0] ∧ L' = [Ar 5 1 byC (.slice a' (l.length + 2) c') (code :: sub :: l)]) := by
  refine pact Try.func62 rfl Try.ntmps62 rfl ?_
  intro W K hK
  (repeat' (first | ((with_reducible apply gL); (first | refine yL0 ?_ | refine yL ?_ | ((with_reducible apply gL_go); (first | (refine JL_goq (octet_s code) (hφ := xF) (h := ?_); rintro _ _ ⟨rfl, rfl⟩; try simp only [List.cons_append, List.nil_append]) | (refine JL_goq (octet_s sub) (hφ := xF) (h := ?_); rintro _ _ ⟨rfl, rfl⟩; try simp only [List.cons_append, List.nil_append]) | (refine JL_goq (concat2_s _ _ a 2 c 2 l.length [code, sub] l rfl rfl (by omega)) (hφ := (by (try simp only [List.cons_append, List.nil_append]); exact fun w hr => ⟨Src.lit xA rfl (by decide) w hr, lit2 (Src.lit xA rfl (by decide) w hr), hK w hr.1⟩)) (h := ?_); rintro _ _ ⟨a', c', rfl, rfl⟩; try simp only [List.cons_append, List.nil_append]) | fail)) | (refine yM ?_; intro _) | ((with_reducible apply gL_gd); (first | (refine JL_guard xR xR ?_ ?_ <;> intro _ <;> (try (exfalso; first | contradiction | omega))) | (refine JL_guardb xR xR ?_ ?_ <;> (intro hgb; subst hgb)) | (refine JL_guardb xR xR ?_ ?_ <;> (intro hgb; fail_if_success (have : type_of% hgb := rfl))) | fail)) | fail)) | refine yJ ?_ | ((with_reducible apply gJ_if); (first | (refine J_if xR ?_ ?_ <;> intro _ <;> (try (exfalso; first | contradiction | omega))) | (refine J_ifb xR ?_ ?_ <;> (intro hgb; subst hgb)) | (refine J_ifb xR ?_ ?_ <;> intro _) | fail)) | fail))
  all_goals (first | (exfalso; omega) | skip)
  all_goals (
    rw [Nat.add_comm 2 l.length]
    exact J_ret2 rfl (by rfl) (by rfl) fun w H => ⟨_, ⟨a', c', (H.arShape (e := 5) (sz := 1) (enc := byC) xA).2.1, rfl, rfl⟩, H.sel xZ⟩)
theorem build_arg (code sub : Int) (a : Option Addr) (c : Nat) (l : List Int) (hno : ¬ ((0 ≤ code ∧ code ≤ 255) ∧ (0 ≤ sub ∧ sub ≤ 255))) : Pact Try.prog 62 #[.agg #[.int .i64 code, .int .i64 sub, .slice a l.length c]] (fun _ => True) [] (ret0 (.tuple #[.slice none 0 0, .int .i64 2])) := by
  refine pact Try.func62 rfl Try.ntmps62 rfl ?_
  intro W K _
  (repeat' (first | ((with_reducible apply gL); (first | refine yL0 ?_ | refine yL ?_ | ((with_reducible apply gL_go); (first | (refine JL_goq (octet_s code) (hφ := xF) (h := ?_); rintro _ _ ⟨rfl, rfl⟩; try simp only [List.cons_append, List.nil_append]) | (refine JL_goq (octet_s sub) (hφ := xF) (h := ?_); rintro _ _ ⟨rfl, rfl⟩; try simp only [List.cons_append, List.nil_append]) | fail)) | (refine yM ?_; intro _) | ((with_reducible apply gL_gd); (first | (refine JL_guard xR xR ?_ ?_ <;> intro _ <;> (try (exfalso; first | contradiction | omega))) | (refine JL_guardb xR xR ?_ ?_ <;> (intro hgb; subst hgb)) | (refine JL_guardb xR xR ?_ ?_ <;> (intro hgb; fail_if_success (have : type_of% hgb := rfl))) | fail)) | fail)) | refine yJ ?_ | ((with_reducible apply gJ_if); (first | (refine J_if xR ?_ ?_ <;> intro _ <;> (try (exfalso; first | contradiction | omega))) | (refine J_ifb xR ?_ ?_ <;> (intro hgb; subst hgb)) | (refine J_ifb xR ?_ ?_ <;> intro _) | fail)) | fail))
  all_goals (first | (exfalso; omega) | skip)
  all_goals exact J_ret2 rfl (by rfl) (by rfl) fun w H => ⟨_, ⟨rfl, rfl⟩, H.sel .nil⟩
theorem build_long (code sub : Int) (a : Option Addr) (c : Nat) (l : List Int) (hl : l.length ≤ 4076) (h1 : 0 ≤ code ∧ code ≤ 255) (h2 : 0 ≤ sub ∧ sub ≤ 255) (hno : 4075 < l.length) : Pact Try.prog 62 #[.agg #[.int .i64 code, .int .i64 sub, .slice a l.length c]] (fun _ => True) [] (ret0 (.tuple #[.slice none 0 0, .int .i64 3])) := by
  refine pact Try.func62 rfl Try.ntmps62 rfl ?_
  intro W K _
  (repeat' (first | ((with_reducible apply gL); (first | refine yL0 ?_ | refine yL ?_ | ((with_reducible apply gL_go); (first | (refine JL_goq (octet_s code) (hφ := xF) (h := ?_); rintro _ _ ⟨rfl, rfl⟩; try simp only [List.cons_append, List.nil_append]) | (refine JL_goq (octet_s sub) (hφ := xF) (h := ?_); rintro _ _ ⟨rfl, rfl⟩; try simp only [List.cons_append, List.nil_append]) | fail)) | (refine yM ?_; intro _) | ((with_reducible apply gL_gd); (first | (refine JL_guard xR xR ?_ ?_ <;> intro _ <;> (try (exfalso; first | contradiction | omega))) | (refine JL_guardb xR xR ?_ ?_ <;> (intro hgb; subst hgb)) | (refine JL_guardb xR xR ?_ ?_ <;> (intro hgb; fail_if_success (have : type_of% hgb := rfl))) | fail)) | fail)) | refine yJ ?_ | ((with_reducible apply gJ_if); (first | (refine J_if xR ?_ ?_ <;> intro _ <;> (try (exfalso; first | contradiction | omega))) | (refine J_ifb xR ?_ ?_ <;> (intro hgb; subst hgb)) | (refine J_ifb xR ?_ ?_ <;> intro _) | fail)) | fail))
  all_goals (first | (exfalso; omega) | skip)
  all_goals exact J_ret2 rfl (by rfl) (by rfl) fun w H => ⟨_, ⟨rfl, rfl⟩, H.sel .nil⟩
def bX (z s : Int) (l : List Int) : List Int := if (0 ≤ z ∧ z ≤ 255) ∧ (0 ≤ s ∧ s ≤ 255) ∧ l.length ≤ 4075 then z :: s :: l else []
def bE (z s : Int) (l : List Int) : Int := if (0 ≤ z ∧ z ≤ 255) ∧ (0 ≤ s ∧ s ≤ 255) then (if l.length ≤ 4075 then 0 else 3) else 2
def BuildR (z s : Int) (l : List Int) (u : Value) (L' : List HP) : Prop := ∃ a' c', u = .tuple #[.slice a' (bX z s l).length c', .int .i64 (bE z s l)] ∧ L' = [Ar 5 1 byC (.slice a' (bX z s l).length c') (bX z s l)]
theorem nilR {f : FuncId} {args : Array Value} {φ ψ : World → Prop} {z s : Int} {l : List Int} {e : Int} (h : Pact Try.prog f args ψ [] (ret0 (.tuple #[.slice none 0 0, .int .i64 e]))) (hφ : ∀ w, φ w → ψ w) (h1 : bX z s l = []) (h2 : bE z s l = e) : Pact Try.prog f args φ [] (BuildR z s l) := fun W K w hK H =>
  (h W K w (hK.imp hφ) H).mono fun e' w' h3 => by
    obtain ⟨u, L', ⟨rfl, rfl⟩, h4, h5⟩ := h3
    refine ⟨_, _, ⟨none, 0, ?_, rfl⟩, h4, ?_⟩
    · rw [h1, h2]; rfl
    · rw [h1]; exact Ow.arNil (e := 5) (sz := 1) (enc := byC) h5
theorem build_u (z s : Int) (a : Option Addr) (c : Nat) (l : List Int) (hl : l.length ≤ 4076) : Pact Try.prog 62 #[.agg #[.int .i64 z, .int .i64 s, .slice a l.length c]] (fun w => Vw w (.slice a l.length c) 1 l.length (flat byC l)) [] (BuildR z s l) := by
  by_cases h1 : (0 ≤ z ∧ z ≤ 255) ∧ (0 ≤ s ∧ s ≤ 255)
  · by_cases h2 : l.length ≤ 4075
    · intro W K w hK H
      refine (build_ok z s a c l h1.1 h1.2 h2 W K w hK H).mono fun e' w' h3 => ?_
      obtain ⟨u, L', ⟨a', c', hc, rfl, rfl⟩, h4, h5⟩ := h3
      have e1 : bX z s l = z :: s :: l := if_pos ⟨h1.1, h1.2, h2⟩
      have e2 : bE z s l = 0 := by unfold bE; rw [if_pos h1, if_pos h2]
      refine ⟨_, _, ⟨a', c', ?_, rfl⟩, h4, ?_⟩
      · rw [e1, e2]; rfl
      · rw [e1]; exact h5
    · exact nilR (build_long z s a c l hl h1.1 h1.2 (by omega)) (fun _ _ => trivial) (if_neg (fun h => h2 h.2.2)) (by unfold bE; rw [if_pos h1, if_neg h2])
  · exact nilR (build_arg z s a c l h1) (fun _ _ => trivial) (if_neg (fun h => h1 ⟨h.1, h.2.1⟩)) (if_neg h1)
end Go.Proofs.Ytfonbpmdbpdncaa
namespace Go.Proofs.Ytfonbpmdbpdncaa
set_option linter.unusedSimpArgs false
set_option linter.unusedVariables false
set_option maxRecDepth 20000
set_option maxHeartbeats 4000000
open Go.RowKit Go.Pm

theorem or64 (i : Nat) (x y : Int) (h1 : 0 ≤ x) (h2 : x % 2 ^ i = 0) (h3 : x < 4294967296) (h4 : 0 ≤ y) (h5 : y < 2 ^ i) (h6 : y < 4294967296) : bits .or .i64 x y = x + y :=
  bits_join .i64 32 (by decide) (fun n h1 h2 => w_i64 (by omega) (by omega)) i x y h1 h2 h3 h4 h5 h6
theorem equal_s (a b : Option Addr) (c d n : Nat) (l m : List Int) (hl : l.length = n) (hm : m.length = n) (h : l = m) : Pact Try.prog 65 #[.slice a n c, .slice b n d] (fun w => Vw w (.slice a n c) 1 n (flat byC l) ∧ Vw w (.slice b n d) 1 n (flat byC m)) [] (ret0 (.bool true)) := by
  subst h hl
  refine pact Try.func65 rfl Try.ntmps65 rfl ?_
  intro W K hK
  have hA := hK.left
  have hB := hK.right
  (repeat' (first | ((with_reducible apply gL); (first | refine yL0 ?_ | ((with_reducible apply gL_convert); (first | (first | refine JL_p rfl xR xR (pe_str xR xC xC (Src.kn hA)) ?_ | refine JL_p rfl xR xR (pe_str xR xC xC (Src.kn hB)) ?_) | fail)) | ((with_reducible apply gL_bin_eql); (first | refine JL_p rfl xR xR (pe_eqStr (c := true) xR xR xC (decide_eq_true rfl)) ?_ | fail)) | refine yL ?_ | fail)) | refine yJ ?_ | fail))
  exact J_ret1 rfl (by rfl) fun w H => ⟨_, ⟨rfl, rfl⟩, H.sel .nil⟩
set_option maxRecDepth 4000 in
theorem check_s (d : Kd) (h : KdOk d) (a : Option Addr) (c N : Nat) (q1 q2 : Int) (B : List Int) (hB : B = ones16 ++ [q1, q2, d.k]) (h1 : 0 ≤ q1 ∧ q1 < 256) (h2 : 0 ≤ q2 ∧ q2 < 256) (hq : q1 * 256 + q2 = N) (h3 : d.lo ≤ N) (h4 : N ≤ d.hi) (hc : 19 ≤ c) : Pact Try.prog 52 #[.slice a 19 c] (fun w => Vw w (.slice a 19 c) 1 19 (flat byC B)) [] (ret0 (.tuple #[.agg #[.int .i64 0, .int .i64 0, .slice none 0 0], .bool true])) := by
  refine pact Try.func52 rfl Try.ntmps52 rfl ?_
  intro W K hK
  have hn : 19 ≤ N ∧ N ≤ 4096 := by rcases h with rfl | rfl | rfl <;> constructor <;> simp only at h3 h4 <;> omega
  have hk : 0 ≤ d.k ∧ d.k ≤ 255 := by rcases h with rfl | rfl | rfl <;> decide
  have hs16 : B[16]? = some q1 := by rw [hB]; rfl
  have hs17 : B[17]? = some q2 := by rw [hB]; rfl
  have hs18 : B[18]? = some d.k := by rw [hB]; rfl
  have hBl : B.length = 19 := by rw [hB]; rfl
  have hBt : B.take 16 = ones16 := by rw [hB]; rfl
  have hBtl : (B.take 16).length = 16 := by rw [hBt]; rfl
  have hBo : ones16.length = 16 := rfl
  clear hB
  (repeat' (first | ((with_reducible apply gL); (first | refine yL0 ?_ | refine yL ?_ | (refine yM ?_; intro _) | ((with_reducible apply gL_gd); (first | (refine JL_guard xR xR ?_ ?_ <;> intro _ <;> (try (exfalso; first | contradiction | omega))) | (refine JL_guardb xR xR ?_ ?_ <;> (intro hgb; subst hgb)) | (refine JL_guardb xR xR ?_ ?_ <;> (intro hgb; fail_if_success (have : type_of% hgb := rfl))) | fail)) | fail)) | ((with_reducible apply gD); (first | (refine JD_nil ?_; try simp only [List.cons_append, List.nil_append]) | (refine JD_bar ?_; try simp only [List.cons_append, List.nil_append]) | refine yD ?_ | fail)) | refine yJ ?_ | ((with_reducible apply gJ_if); (first | (refine J_if xR ?_ ?_ <;> intro _ <;> (try (exfalso; first | contradiction | omega))) | (refine J_ifb xR ?_ ?_ <;> (intro hgb; subst hgb)) | (refine J_ifb xR ?_ ?_ <;> intro _) | fail)) | refine J_draw (id := 3) [0, 1, 2, 3, 4, 5, 6, 7, 8] [9, 10] mixed xC xD xD ?_ | refine J_draw (id := 5) [0, 1, 2] [3, 4] mixed xC xD xD ?_ | fail))
  refine J_scope (α := Unit) 0 (fun _ => 0) (fun _ => False) (fun _ => []) (fun _ => []) rfl rfl ?_ (fun _ h => h.elim)
  simp only [List.map_cons, List.map_nil, List.cons_append, List.nil_append]
  (repeat' (first | ((with_reducible apply gL); (first | refine yL0 ?_ | refine yL ?_ | ((with_reducible apply gL_go); (first | (refine JL_goq (ones_s) (hφ := xF) (h := ?_); rintro _ _ ⟨rfl, rfl⟩; try simp only [List.cons_append, List.nil_append]) | (refine JL_goq (equal_s a _ c 16 16 (B.take 16) ones16 hBtl hBo hBt) (hφ := (by (try simp only [List.cons_append, List.nil_append]); exact fun w hr => ⟨Src.take (a := a) (c := c) (enc := byC) (es := B) (Src.kn (K := _) hK) (fun _ => rfl) hBl 16 (by omega) w hr, lit16 (Src.lit xA rfl (by decide) w hr)⟩)) (h := ?_); rintro _ _ ⟨rfl, rfl⟩; try simp only [List.cons_append, List.nil_append]) | fail)) | (refine yM ?_; intro _) | ((with_reducible apply gL_gd); (first | (refine JL_guard xR xR ?_ ?_ <;> intro _ <;> (try (exfalso; first | contradiction | omega))) | (refine JL_guardb xR xR ?_ ?_ <;> (intro hgb; subst hgb)) | (refine JL_guardb xR xR ?_ ?_ <;> (intro hgb; fail_if_success (have : type_of% hgb := rfl))) | fail)) | fail)) | ((with_reducible apply gD); (first | (refine JD_nil ?_; try simp only [List.cons_append, List.nil_append]) | (refine JD_bar ?_; try simp only [List.cons_append, List.nil_append]) | ((with_reducible apply gD_bin_or); (first | (refine JD_p rfl xR rfl (pe_or xR xR (or64 8 _ _ (by omega) (by omega) (by omega) (by omega) (by omega) (by omega))) ?_) | fail)) | ((with_reducible apply gD_slice); (first | (first | refine JD_p rfl xR rfl (pe_slArr (m := 16) (b := false) xR xC) ?_) | fail)) | refine yD ?_ | ((with_reducible apply gD_go); (first | (refine JD_goq (ones_s) (hφ := xF) (h := ?_); rintro _ _ ⟨rfl, rfl⟩; try simp only [List.cons_append, List.nil_append]) | (refine JD_goq (equal_s a _ c 16 16 (B.take 16) ones16 hBtl hBo hBt) (hφ := (by (try simp only [List.cons_append, List.nil_append]); exact fun w hr => ⟨Src.take (a := a) (c := c) (enc := byC) (es := B) (Src.kn (K := _) hK) (fun _ => rfl) hBl 16 (by omega) w hr, lit16 (Src.lit xA rfl (by decide) w hr)⟩)) (h := ?_); rintro _ _ ⟨rfl, rfl⟩; try simp only [List.cons_append, List.nil_append]) | fail)) | fail)) | refine yJ ?_ | ((with_reducible apply gJ_if); (first | (refine J_if xR ?_ ?_ <;> intro _ <;> (try (exfalso; first | contradiction | omega))) | (refine J_ifb xR ?_ ?_ <;> (intro hgb; subst hgb)) | (refine J_ifb xR ?_ ?_ <;> intro _) | fail)) | refine J_draw (id := 3) [0, 1, 2, 3, 4, 5, 6, 7, 8] [9, 10] mixed xC xD xD ?_ | refine J_draw (id := 5) [0, 1, 2] [3, 4] mixed xC xD xD ?_ | fail))
  rw [show q1 * 2 ^ (7 + 1) + q2 = (N : Int) by omega]
  (repeat' (first | ((with_reducible apply gL); (first | refine yL0 ?_ | refine yL ?_ | ((with_reducible apply gL_go); (first | (refine JL_goq (lengths_s d h) (hφ := xF) (h := ?_); rintro _ _ ⟨rfl, rfl⟩; try simp only [List.cons_append, List.nil_append]) | (refine JL_goq (fits_s d h N h3 h4) (hφ := xF) (h := ?_); rintro _ _ ⟨rfl, rfl⟩; try simp only [List.cons_append, List.nil_append]) | fail)) | (refine yM ?_; intro _) | ((with_reducible apply gL_gd); (first | (refine JL_guard xR xR ?_ ?_ <;> intro _ <;> (try (exfalso; first | contradiction | omega))) | (refine JL_guardb xR xR ?_ ?_ <;> (intro hgb; subst hgb)) | (refine JL_guardb xR xR ?_ ?_ <;> (intro hgb; fail_if_success (have : type_of% hgb := rfl))) | fail)) | fail)) | ((with_reducible apply gD); (first | (refine JD_nil ?_; try simp only [List.cons_append, List.nil_append]) | (refine JD_bar ?_; try simp only [List.cons_append, List.nil_append]) | refine yD ?_ | ((with_reducible apply gD_go); (first | (refine JD_goq (lengths_s d h) (hφ := xF) (h := ?_); rintro _ _ ⟨rfl, rfl⟩; try simp only [List.cons_append, List.nil_append]) | (refine JD_goq (fits_s d h N h3 h4) (hφ := xF) (h := ?_); rintro _ _ ⟨rfl, rfl⟩; try simp only [List.cons_append, List.nil_append]) | fail)) | fail)) | refine yJ ?_ | ((with_reducible apply gJ_if); (first | (refine J_if xR ?_ ?_ <;> intro _ <;> (try (exfalso; first | contradiction | omega))) | (refine J_ifb xR ?_ ?_ <;> (intro hgb; subst hgb)) | (refine J_ifb xR ?_ ?_ <;> intro _) | fail)) | refine J_draw (id := 3) [0, 1, 2, 3, 4, 5, 6, 7, 8] [9, 10] mixed xC xD xD ?_ | refine J_draw (id := 5) [0, 1, 2] [3, 4] mixed xC xD xD ?_ | fail))
  all_goals (first | (exfalso; omega) | skip)
  exact J_retC1 (cs := [.int .i64 0, .int .i64 0, .slice none 0 0]) rfl (by rfl) (by rfl) xA (by rfl) fun w H => ⟨_, ⟨rfl, rfl⟩, H.sel xZ⟩
end Go.Proofs.Ytfonbpmdbpdncaa
namespace Go.Proofs.Ytfonbpmdbpdncaa
set_option linter.unusedSimpArgs false
set_option linter.unusedVariables false
set_option maxRecDepth 20000
set_option maxHeartbeats 4000000
open Go.RowKit Go.Pm

theorem srcN {K : Hl} {L R : List HP} {e : TypeId} {v : Value} {B : List Int} {n : Nat} (t : Tk L (Ar e 1 byC v B) R) (hn : B.length = n) : Pm.Src K L v 1 n (flat byC B) := hn ▸ Pm.Src.ar t
set_option maxRecDepth 4000 in
theorem next_s (g : Nat) (a : Option Addr) (c N : Nat) (z q1 q2 : Int) (hz : 0 ≤ z ∧ z ≤ 255) (body B : List Int) (hB : B = ones16 ++ [q1, q2, z] ++ body) (hN : N = 19 + body.length) (hl : body.length ≤ 5000) (h1 : 0 ≤ q1 ∧ q1 < 256) (h2 : 0 ≤ q2 ∧ q2 < 256) (hq : q1 * 256 + q2 = N) (hc : N ≤ c) : Pact Try.prog 53 #[.pointer (some ⟨g, 0, none⟩)] (fun _ => True) [pts g [.slice a N c, .bool true, .bool false] 97, Ar 5 1 byC (.slice a N c) B] (fun u L' => ∃ a1 c1 a2 c2, u = .tuple #[.agg #[.int .i64 z, .slice a1 body.length c1], .bool true] ∧ L' = [pts g [.slice a2 0 c2, .bool true, .bool false] 97, Ar 5 1 byC (.slice a1 body.length c1) body]) := by
  refine pact Try.func53 rfl Try.ntmps53 rfl ?_
  intro W K _
  have hs16 : B[16]? = some q1 := by rw [hB]; rfl
  have hs17 : B[17]? = some q2 := by rw [hB]; rfl
  have hs18 : B[18]? = some z := by rw [hB]; rfl
  have hBl : B.length = N := by rw [hB, hN]; simp [ones16]; omega
  have hBd : B.drop 19 = body := by rw [hB]; rfl
  have hBdl : (B.drop 19).length = N - 19 := by rw [List.length_drop, hBl]
  clear hB
  (repeat' (first | ((with_reducible apply gL); (first | refine yL0 ?_ | refine yL ?_ | (refine yM ?_; intro _) | fail)) | ((with_reducible apply gD); (first | (refine JD_nil ?_; try simp only [List.cons_append, List.nil_append]) | (refine JD_bar ?_; try simp only [List.cons_append, List.nil_append]) | ((with_reducible apply gD_bin_or); (first | (refine JD_p rfl xR rfl (pe_or xR xR (or64 8 _ _ (by omega) (by omega) (by omega) (by omega) (by omega) (by omega))) ?_) | fail)) | refine yD ?_ | (refine yE ?_; intro _) | fail)) | refine yJ ?_ | ((with_reducible apply gJ_if); (first | (refine J_if xR ?_ ?_ <;> intro _ <;> (try (exfalso; first | contradiction | omega))) | (refine J_ifb xR ?_ ?_ <;> (intro hgb; subst hgb)) | (refine J_ifb xR ?_ ?_ <;> intro _) | fail)) | refine J_draw (id := 1) [0, 1, 2, 3, 4, 5, 6, 7, 8, 9, 10, 11, 12, 13, 14] [15, 16] mixed xC xD xD ?_ | refine J_draw (id := 4) [0, 1, 2, 3, 4, 5, 6, 7, 8, 9, 10, 11, 12, 13, 14, 15] [16] mixed xC xD xD ?_ | fail))
  rw [show q1 * 2 ^ (7 + 1) + q2 = (N : Int) by omega]
  (repeat' (first | ((with_reducible apply gL); (first | refine yL0 ?_ | refine yL ?_ | (refine yM ?_; intro _) | fail)) | ((with_reducible apply gD); (first | (refine JD_nil ?_; try simp only [List.cons_append, List.nil_append]) | (refine JD_bar ?_; try simp only [List.cons_append, List.nil_append]) | refine yD ?_ | (refine yE ?_; intro _) | fail)) | refine yJ ?_ | ((with_reducible apply gJ_if); (first | (refine J_if xR ?_ ?_ <;> intro _ <;> (try (exfalso; first | contradiction | omega))) | (refine J_ifb xR ?_ ?_ <;> (intro hgb; subst hgb)) | (refine J_ifb xR ?_ ?_ <;> intro _) | fail)) | refine J_draw (id := 1) [0, 1, 2, 3, 4, 5, 6, 7, 8, 9, 10, 11, 12, 13, 14] [15, 16] mixed xC xD xD ?_ | refine J_draw (id := 4) [0, 1, 2, 3, 4, 5, 6, 7, 8, 9, 10, 11, 12, 13, 14, 15] [16] mixed xC xD xD ?_ | fail))
  all_goals (first | (exfalso; omega) | skip)
  simp only [Int.toNat_natCast, Nat.reduceAdd]
  (repeat' (first | ((with_reducible apply gL); (first | refine yL0 ?_ | refine yL ?_ | (refine yM ?_; intro _) | fail)) | ((with_reducible apply gD); (first | (refine JD_nil ?_; try simp only [List.cons_append, List.nil_append]) | (refine JD_bar ?_; try simp only [List.cons_append, List.nil_append]) | refine yD ?_ | ((with_reducible apply gD_go); (first | (refine JD_goq (clone_o _ _ (N - 19) (B.drop 19) hBdl (by omega)) (hφ := (by (try simp only [List.cons_append, List.nil_append]); exact fun w hr => Src.drop (a := a) (c := c) (enc := byC) (es := B) (srcN xA hBl) (fun _ => rfl) hBl 19 (N - 19) (by omega) rfl w hr)) (h := ?_); rintro _ _ ⟨a1, c1, rfl, rfl⟩; try simp only [List.cons_append, List.nil_append]) | fail)) | (refine yE ?_; intro _) | fail)) | refine yJ ?_ | ((with_reducible apply gJ_if); (first | (refine J_if xR ?_ ?_ <;> intro _ <;> (try (exfalso; first | contradiction | omega))) | (refine J_ifb xR ?_ ?_ <;> (intro hgb; subst hgb)) | (refine J_ifb xR ?_ ?_ <;> intro _) | fail)) | refine J_draw (id := 1) [0, 1, 2, 3, 4, 5, 6, 7, 8, 9, 10, 11, 12, 13, 14] [15, 16] mixed xC xD xD ?_ | refine J_draw (id := 4) [0, 1, 2, 3, 4, 5, 6, 7, 8, 9, 10, 11, 12, 13, 14, 15] [16] mixed xC xD xD ?_ | fail))
  rw [Nat.sub_self, show N - 19 = body.length by omega, hBd]
  exact J_retC1 (cs := [.int .i64 z, .slice a1 body.length c1]) rfl (by rfl) (by rfl) xA (by rfl) fun w H => ⟨_, ⟨a1, c1, _, _, rfl, rfl⟩, H.sel xZ⟩
end Go.Proofs.Ytfonbpmdbpdncaa
namespace Go.Pm
set_option linter.unusedSimpArgs false
set_option linter.unusedVariables false
open Go.RowKit
section
variable {P : Program} {n : Nat} {W : World} {K : Hl} {k : List It} {tm : TM} {L R : List HP} {fn : Func} {Rr : Value → List HP → Prop}
theorem J_retM {t u s : Tmp} {v x : Value} {ty T : TypeId} {b : Nat} {cs : List Value} (hr : fn.results = #[.tmp u, .cell t ty, .tmp s]) (hu : evT tm (.tmp u) = some v) (hv : evT tm (.tmp t) = some (.pointer (some ⟨b, 0, none⟩))) (hs : evT tm (.tmp s) = some x) (hm : Tk L (pts b cs T) R) (ht : rowTy P ty cs.length = true) (hk : ∀ w, Ow W K L w → ∃ L', Rr (.tuple #[v, .agg cs.toArray, x]) L' ∧ Ow W K L' w) (hd : decM (tget tm mkK) = [] := by rfl) : J P n W K (fpost P fn W K Rr) (.code .ret :: k) tm L := J_outR hd fun a w hf hO => by
  refine ⟨L, hO, fun w' H => ?_⟩
  obtain ⟨L', h1, h2⟩ := hk w' H
  exact ⟨_, by simp [results, hr, hf.get? hv, hf.get? hu, hf.get? hs, run_cellR H hm ht, Array.getD_eq_getD_getElem?, asAddr], L', h1, h2⟩
end
section
variable {P : Program} {n : Nat} {W : World} {K : Hl} {F : Fp} {k : List It} {tm : TM} {L L' R S M M' R' : List HP} {T : TypeId} {pos : String} {af : Array Edge} {gd : Option (Nat × Bool)} {ops : Array Oper} {rest nx : List Oper} {d : Tmp}
variable {t e T' : TypeId} {m b : Nat} {s x : Operand} {v : Value} {cs : List Value}
theorem JL_apK {es bs ks : List Int} {r : Nat} (hi : elemInfo P t = some (e, 1, 1)) (hs : evT tm s = some v) (hx : evT tm x = some (.slice (some ⟨b, 0, none⟩) m m)) (hm : Tk L (Ar e 1 byC v es) R) (hb : Tk R (pts b cs T') R') (hy : NumsOf cs bs) (hlen : Nat.beq bs.length m = true) (hm2 : Nat.ble r 1000000 = true) (hok : elOk P t e 1 1 = true) (hr : Nat.beq (es.length + m) r = true) (hk : es ++ bs = ks)
    (hn : Nat.blt d n = true) (hg : wantF ops ⟨some d, .call ⟨.builtin .append, #[s, x], #[t, t]⟩, T, pos, af, gd⟩ (tget tm) = some true) (h : ∀ ad c, r ≤ c → c ≤ maxLen → JL P n W K F ops k rest ((d, .slice ad r c) :: tm) (Ar e 1 byC (.slice ad r c) ks :: R)) : JL P n W K F ops k (⟨some d, .call ⟨.builtin .append, #[s, x], #[t, t]⟩, T, pos, af, gd⟩ :: rest) tm L := by
  have hr := Nat.eq_of_beq_eq_true hr
  have hm3 := Nat.le_of_ble_eq_true hm2
  subst hr hk
  exact JL_apN hi hs hx hm hb hy hlen (Nat.ble_eq_true_of_le (by omega)) hok (by omega) hn hg h
theorem JD_apK {es bs ks : List Int} {r : Nat} (hi : elemInfo P t = some (e, 1, 1)) (hs : evT tm s = some v) (hx : evT tm x = some (.slice (some ⟨b, 0, none⟩) m m)) (hm : Tk M (Ar e 1 byC v es) R) (hb : Tk R (pts b cs T') R') (hy : NumsOf cs bs) (hlen : Nat.beq bs.length m = true) (hm2 : Nat.ble r 1000000 = true) (hok : elOk P t e 1 1 = true) (hr : Nat.beq (es.length + m) r = true) (hk : es ++ bs = ks)
    (hg : wantF ops ⟨some d, .call ⟨.builtin .append, #[s, x], #[t, t]⟩, T, pos, af, gd⟩ (tget tm) = some true) (h : ∀ ad c, r ≤ c → c ≤ maxLen → JD P n W K F ops k nx rest ((d, .slice ad r c) :: tm) S (Ar e 1 byC (.slice ad r c) ks :: R)) : JD P n W K F ops k nx (⟨some d, .call ⟨.builtin .append, #[s, x], #[t, t]⟩, T, pos, af, gd⟩ :: rest) tm S M := by
  have hr := Nat.eq_of_beq_eq_true hr
  have hm3 := Nat.le_of_ble_eq_true hm2
  subst hr hk
  exact JD_apN hi hs hx hm hb hy hlen (Nat.ble_eq_true_of_le (by omega)) hok (by omega) hg h
end
end Go.Pm
namespace Go.Proofs.Ytfonbpmdbpdncaa
set_option linter.unusedSimpArgs false
set_option linter.unusedVariables false
set_option maxRecDepth 20000
set_option maxHeartbeats 4000000
open Go.RowKit Go.Pm

structure Mg where
  k : Int
  a : Option Addr
  c : Nat
  l : List Int
def mgC (m : Mg) : List Value := [.int .i64 m.k, .slice m.a m.l.length m.c]
theorem concat0_s (g : Nat) (a : Option Addr) (c n : Nat) (B : List Int) (hn : B.length = n) (hl : n ≤ 100000) : Pact Try.prog 51 #[.slice (some ⟨g, 0, none⟩) 2 2] (fun w => Vw w (.slice (some ⟨g, 0, none⟩) 2 2) 1 2 [.slice none 0 0, .slice a n c] ∧ Vw w (.slice a n c) 1 n (flat byC B)) [] (fun u L' => ∃ a c, u = .slice a n c ∧ L' = [Ar 5 1 byC (.slice a n c) B]) := by
  have h := concat2_s g none a 0 c 0 n [] B rfl hn (by omega)
  intro W K w hK H
  refine (h W K w (hK.imp fun w ⟨x1, x2⟩ => ⟨x1, Vw.nil w 1, x2⟩) H).mono fun e w' h3 => ?_
  obtain ⟨u, L', ⟨a', c', h4, h5⟩, h6⟩ := h3
  rw [Nat.zero_add] at h4 h5
  rw [List.nil_append] at h5
  exact ⟨u, L', ⟨a', c', h4, h5⟩, h6⟩
structure Fq where
  k : Nat
  a : Option Addr
  c : Nat
  la : Option Addr
  lc : Nat
  ba : Option Addr
  bc : Nat
set_option maxRecDepth 4000 in
theorem feed_s (d : Kd) (h : KdOk d) (g : Nat) (a : Option Addr) (c N : Nat) (body : List Int) (hN : 19 + body.length = N) (h3 : d.lo ≤ N) (h4 : N ≤ d.hi) : Pact Try.prog 28 #[.pointer (some ⟨g, 0, none⟩), .slice a N c] (fun w => Vw w (.slice a N c) 1 N (flat byC (msgB d.k body))) [pts g [.slice none 0 0, .bool true, .bool false] 97] (fun u L' => ∃ la lc ba bc, u = .tuple #[.slice la 1 lc, .agg #[.int .i64 0, .int .i64 0, .slice none 0 0], .bool true] ∧ L' = [Ar 32 2 mgC (.slice la 1 lc) [⟨d.k, ba, bc, body⟩], Ar 5 1 byC (.slice ba body.length bc) body]) := by
  refine pact Try.func28 rfl Try.ntmps28 rfl ?_
  intro W K hK
  have hn : 19 ≤ N ∧ N ≤ 4096 := by rcases h with rfl | rfl | rfl <;> constructor <;> simp only at h3 h4 <;> omega
  have hk : 0 ≤ d.k ∧ d.k ≤ 255 := by rcases h with rfl | rfl | rfl <;> decide
  obtain ⟨q1, e1⟩ : ∃ q1 : Int, (N : Int) / 256 = q1 := ⟨_, rfl⟩
  obtain ⟨q2, e2⟩ : ∃ q2 : Int, (N : Int) % 256 = q2 := ⟨_, rfl⟩
  obtain ⟨B, hB⟩ : ∃ B, msgB d.k body = B := ⟨_, rfl⟩
  have hB2 : B = ones16 ++ [q1, q2, d.k] ++ body := by rw [← hB, ← e1, ← e2, ← hN]; rfl
  have hBl : B.length = N := by rw [← hB, msgB_len, hN]
  have hBt : B.take 19 = ones16 ++ [q1, q2, d.k] := by rw [hB2]; rfl
  rw [hB] at hK
  (repeat' (first | ((with_reducible apply gL); (first | refine yL0 ?_ | refine yL ?_ | ((with_reducible apply gL_go); (first | (refine JL_goq (concat0_s _ a c N B hBl (by omega)) (hφ := (by (try simp only [List.cons_append, List.nil_append]); exact fun w hr => ⟨Src.lit xA rfl (by decide) w hr, hK w hr.1⟩)) (h := ?_); rintro _ _ ⟨a5, c5, rfl, rfl⟩; try simp only [List.cons_append, List.nil_append]) | fail)) | (refine yM ?_; intro _) | (refine yA ?_; intro _ _ _ _) | ((with_reducible apply gL_gd); (first | (refine JL_guard xR xR ?_ ?_ <;> intro _ <;> (try (exfalso; first | contradiction | omega))) | (refine JL_guardb xR xR ?_ ?_ <;> (intro hgb; subst hgb)) | (refine JL_guardb xR xR ?_ ?_ <;> (intro hgb; fail_if_success (have : type_of% hgb := rfl))) | fail)) | fail)) | ((with_reducible apply gD); (first | (refine JD_nil ?_; try simp only [List.cons_append, List.nil_append]) | (refine JD_bar ?_; try simp only [List.cons_append, List.nil_append]) | refine yD ?_ | fail)) | refine yJ ?_ | ((with_reducible apply gJ_if); (first | (refine J_if xR ?_ ?_ <;> intro _ <;> (try (exfalso; first | contradiction | omega))) | (refine J_ifb xR ?_ ?_ <;> (intro hgb; subst hgb)) | (refine J_ifb xR ?_ ?_ <;> intro _) | fail)) | refine J_draw (id := 9) [0, 1, 2] [3, 4] mixed xC xD xD ?_ | fail))
  rename_i b6 b5
  refine J_fact (φ := N ≤ c5) (fun w H => by have := (H.arShape (e := 5) (sz := 1) (enc := byC) xA).2.1; omega) ?_
  intro hc5
  refine J_loop (α := Fq) ⟨0, a5, c5, none, 0, none, 0⟩ (fun x => 1 - x.k) (fun x => x.k = 0 ∧ N ≤ x.c ∨ x.k = 1) (fun x => [(0, .pointer (some ⟨g, 0, none⟩)), (5, .pointer (some ⟨b6, 0, none⟩)), (7, .slice x.la x.k x.lc)]) (fun x => match x.k with
    | 0 => [pts g [.slice x.a N x.c, .bool true, .bool false] 97, Ar 5 1 byC (.slice x.a N x.c) B, Ar 32 2 mgC (.slice x.la 0 x.lc) [], pts b6 [.int .i64 0, .int .i64 0, .slice none 0 0] 34]
    | _ => [pts g [.slice x.a 0 x.c, .bool true, .bool false] 97, Ar 5 1 byC (.slice x.ba body.length x.bc) body, Ar 32 2 mgC (.slice x.la 1 x.lc) [⟨d.k, x.ba, x.bc, body⟩], pts b6 [.int .i64 0, .int .i64 0, .slice none 0 0] 34]) (.inl ⟨rfl, hc5⟩) ⟨rfl, rfl, rfl, trivial⟩ (fun w H => (Ow.arNil (e := 32) (sz := 2) (enc := mgC) H).sel xZ) ?_
  rintro ⟨k, a2, c2, la, lc, ba, bc⟩ hi
  dsimp only at hi ⊢
  rcases hi with ⟨rfl, hc2⟩ | rfl
  · refine J_heap (L' := [pts g [.slice a2 N c2, .bool true, .bool false] 97, Ar 5 1 byC (.slice a2 N c2) B, Ar 32 2 mgC (.slice la 0 lc) [], pts b6 [.int .i64 0, .int .i64 0, .slice none 0 0] 34]) (fun w H => H) ?_
    (repeat' (first | ((with_reducible apply gL); (first | refine yL0 ?_ | ((with_reducible apply gL_c_append); (first | (refine JL_ap1 (z := (⟨d.k, a3, c3, body⟩ : Mg)) (tabE etab_ok xR) xR xR xA xA xC xR xL xR (by decide) xR xR ?_; intro ad c6 _ _) | fail)) | refine yL ?_ | ((with_reducible apply gL_go); (first | (refine JL_goq (check_s d h a2 c2 N q1 q2 (B.take 19) hBt (by omega) (by omega) (by omega) h3 h4 (by omega)) (hφ := (by (try simp only [List.cons_append, List.nil_append]); exact fun w hr => Src.take (a := a2) (c := c2) (enc := byC) (es := B) (srcN xA hBl) (fun _ => rfl) hBl 19 (by omega) w hr)) (h := ?_); rintro _ _ ⟨rfl, rfl⟩; try simp only [List.cons_append, List.nil_append]) | (refine JL_goq (next_s g a2 c2 N d.k q1 q2 hk body B hB2 hN.symm (by omega) (by omega) (by omega) (by omega) hc2) (hφ := xF) (h := ?_); rintro _ _ ⟨a3, c3, a4, c4, rfl, rfl⟩; try simp only [List.cons_append, List.nil_append]) | fail)) | (refine yM ?_; intro _) | (refine yA ?_; intro _ _ _ _) | ((with_reducible apply gL_gd); (first | (refine JL_guard xR xR ?_ ?_ <;> intro _ <;> (try (exfalso; first | contradiction | omega))) | (refine JL_guardb xR xR ?_ ?_ <;> (intro hgb; subst hgb)) | (refine JL_guardb xR xR ?_ ?_ <;> (intro hgb; fail_if_success (have : type_of% hgb := rfl))) | fail)) | fail)) | ((with_reducible apply gD); (first | (refine JD_nil ?_; try simp only [List.cons_append, List.nil_append]) | (refine JD_bar ?_; try simp only [List.cons_append, List.nil_append]) | refine yD ?_ | fail)) | refine yJ ?_ | ((with_reducible apply gJ_if); (first | (refine J_if xR ?_ ?_ <;> intro _ <;> (try (exfalso; first | contradiction | omega))) | (refine J_ifb xR ?_ ?_ <;> (intro hgb; subst hgb)) | (refine J_ifb xR ?_ ?_ <;> intro _) | fail)) | refine J_draw (id := 9) [0, 1, 2] [3, 4] mixed xC xD xD ?_ | fail))
    all_goals (first | (exfalso; omega) | skip)
    refine J_again ⟨1, a4, c4, ad, c6, a3, c3⟩ (Nat.zero_lt_one) (.inr rfl) ⟨rfl, rfl, rfl, trivial⟩ (fun w H => ?_)
    exact H.sel xZ
  · refine J_heap (L' := [pts g [.slice a2 0 c2, .bool true, .bool false] 97, Ar 5 1 byC (.slice ba body.length bc) body, Ar 32 2 mgC (.slice la 1 lc) [⟨d.k, ba, bc, body⟩], pts b6 [.int .i64 0, .int .i64 0, .slice none 0 0] 34]) (fun w H => H) ?_
    (repeat' (first | ((with_reducible apply gL); (first | refine yL0 ?_ | refine yL ?_ | (refine yM ?_; intro _) | (refine yA ?_; intro _ _ _ _) | ((with_reducible apply gL_gd); (first | (refine JL_guard xR xR ?_ ?_ <;> intro _ <;> (try (exfalso; first | contradiction | omega))) | (refine JL_guardb xR xR ?_ ?_ <;> (intro hgb; subst hgb)) | (refine JL_guardb xR xR ?_ ?_ <;> (intro hgb; fail_if_success (have : type_of% hgb := rfl))) | fail)) | fail)) | ((with_reducible apply gD); (first | (refine JD_nil ?_; try simp only [List.cons_append, List.nil_append]) | (refine JD_bar ?_; try simp only [List.cons_append, List.nil_append]) | refine yD ?_ | fail)) | refine yJ ?_ | ((with_reducible apply gJ_if); (first | (refine J_if xR ?_ ?_ <;> intro _ <;> (try (exfalso; first | contradiction | omega))) | (refine J_ifb xR ?_ ?_ <;> (intro hgb; subst hgb)) | (refine J_ifb xR ?_ ?_ <;> intro _) | fail)) | refine J_draw (id := 9) [0, 1, 2] [3, 4] mixed xC xD xD ?_ | fail))
    exact J_retM (cs := [.int .i64 0, .int .i64 0, .slice none 0 0]) rfl (by rfl) (by rfl) (by rfl) xA (by rfl) fun w H => ⟨_, ⟨la, lc, ba, bc, rfl, rfl⟩, H.sel xZ⟩
end Go.Proofs.Ytfonbpmdbpdncaa
namespace Go.Proofs.Ytfonbpmdbpdncaa
set_option linter.unusedSimpArgs false
set_option linter.unusedVariables false
set_option maxRecDepth 20000
set_option maxHeartbeats 4000000
open Go.RowKit Go.Pm

theorem mnew_s : Pact Try.prog 27 #[] (fun _ => True) [] (fun u L' => ∃ g, u = .pointer (some ⟨g, 0, none⟩) ∧ L' = [pts g [.slice none 0 0, .bool true, .bool false] 97]) := by
  refine pact Try.func27 rfl Try.ntmps27 rfl ?_
  intro W K _
  (repeat' (first | ((with_reducible apply gL); (first | refine yL0 ?_ | refine yL ?_ | (refine yM ?_; intro _) | fail)) | refine yJ ?_ | fail))
  rename_i g
  exact J_ret1 rfl (by rfl) fun w H => ⟨_, ⟨g, rfl, rfl⟩, H.sel xZ⟩
structure Op_ where
  as_ : Int
  hold : Int
  id : Int
  multi : Bool
  four : Bool
  refresh : Bool
  graceful : Bool
  time : Int
  restarts : Bool
  keeps : Bool
abbrev opC (o : Op_) : List Value := [.int .u32 o.as_, .int .i64 o.hold, .int .u32 o.id, .bool o.multi, .bool o.four, .bool o.refresh, .bool o.graceful, .int .i64 o.time, .bool o.restarts, .bool o.keeps]
abbrev op0 : Op_ := ⟨0, 0, 0, false, false, false, false, 0, false, false⟩
structure Ac where
  kind : Int
  track : Int
  a : Option Addr
  c : Nat
  b : List Int
  op : Op_
  gr : Bool
abbrev acC (x : Ac) : List Value := [.int .i64 x.kind, .int .i64 x.track, .slice x.a x.b.length x.c, .int .u32 x.op.as_, .int .i64 x.op.hold, .int .u32 x.op.id, .bool x.op.multi, .bool x.op.four, .bool x.op.refresh, .bool x.op.graceful, .int .i64 x.op.time, .bool x.op.restarts, .bool x.op.keeps, .bool x.gr]
set_option maxRecDepth 4000 in
theorem message_s (x : Ac) (d : Kd) (h : KdOk d) (body : List Int) (hb : x.b = msgB d.k body) (h3 : d.lo ≤ (19 + body.length : Nat)) (h4 : ((19 + body.length : Nat) : Int) ≤ d.hi) : Pact Try.prog 11 #[.agg (acC x).toArray] (fun w => Vw w (.slice x.a x.b.length x.c) 1 x.b.length (flat byC x.b)) [] (fun u L' => ∃ ba bc, u = .agg #[.int .i64 d.k, .slice ba body.length bc] ∧ L' = [Ar 5 1 byC (.slice ba body.length bc) body]) := by
  refine pact Try.func11 rfl Try.ntmps11 rfl ?_
  intro W K hK
  have hN : 19 + body.length = x.b.length := by rw [hb, msgB_len]
  have hK2 : Kn K (fun w => Vw w (.slice x.a x.b.length x.c) 1 x.b.length (flat byC (msgB d.k body))) := by rw [← hb]; exact hK
  rw [hN] at h3 h4
  (repeat' (first | ((with_reducible apply gL); (first | refine yL0 ?_ | refine yL ?_ | (refine yM ?_; intro _) | fail)) | ((with_reducible apply gD); (first | (refine JD_nil ?_; try simp only [List.cons_append, List.nil_append]) | (refine JD_bar ?_; try simp only [List.cons_append, List.nil_append]) | refine yD ?_ | ((with_reducible apply gD_go); (first | (refine JD_goq (mnew_s) (hφ := xF) (h := ?_); rintro _ _ ⟨g, rfl, rfl⟩; try simp only [List.cons_append, List.nil_append]) | (refine JD_goq (feed_s d h g x.a x.c x.b.length body hN h3 h4) (hφ := (by (try simp only [List.cons_append, List.nil_append]); exact fun w hr => hK2 w hr.1)) (h := ?_); rintro _ _ ⟨la, lc, ba, bc, rfl, rfl⟩; try simp only [List.cons_append, List.nil_append]) | fail)) | (refine yE ?_; intro _) | fail)) | refine yJ ?_ | ((with_reducible apply gJ_if); (first | (refine J_if xR ?_ ?_ <;> intro _ <;> (try (exfalso; first | contradiction | omega))) | (refine J_ifb xR ?_ ?_ <;> (intro hgb; subst hgb)) | (refine J_ifb xR ?_ ?_ <;> intro _) | fail)) | refine J_draw (id := 1) [1, 2, 0, 3, 4, 5, 6, 7, 8, 9, 10] [11] mixed xC xD xD ?_ | fail))
  obtain ⟨E, hE⟩ : ∃ E, [(⟨d.k, ba, bc, body⟩ : Mg)] = E := ⟨_, rfl⟩
  have hs0 : E[0]? = some (⟨d.k, ba, bc, body⟩ : Mg) := by rw [← hE]; rfl
  have hEl : E.length = 1 := by rw [← hE]; rfl
  rw [hE]
  clear hE
  (repeat' (first | ((with_reducible apply gL); (first | refine yL0 ?_ | refine yL ?_ | (refine yM ?_; intro _) | fail)) | ((with_reducible apply gD); (first | (refine JD_nil ?_; try simp only [List.cons_append, List.nil_append]) | (refine JD_bar ?_; try simp only [List.cons_append, List.nil_append]) | refine yD ?_ | (refine yE ?_; intro _) | fail)) | refine yJ ?_ | ((with_reducible apply gJ_if); (first | (refine J_if xR ?_ ?_ <;> intro _ <;> (try (exfalso; first | contradiction | omega))) | (refine J_ifb xR ?_ ?_ <;> (intro hgb; subst hgb)) | (refine J_ifb xR ?_ ?_ <;> intro _) | fail)) | refine J_draw (id := 1) [1, 2, 0, 3, 4, 5, 6, 7, 8, 9, 10] [11] mixed xC xD xD ?_ | fail))
  exact J_retC (cs := mgC ⟨d.k, ba, bc, body⟩) rfl (by rfl) xA (by rfl) fun w H => ⟨_, ⟨ba, bc, rfl, rfl⟩, H.sel xZ⟩
end Go.Proofs.Ytfonbpmdbpdncaa
namespace Go.Proofs.Ytfonbpmdbpdncaa
set_option linter.unusedSimpArgs false
set_option linter.unusedVariables false
set_option maxRecDepth 20000
set_option maxHeartbeats 4000000
open Go.RowKit Go.Pm

def p16 (z : Int) : List Int := [z / 256 % 256, z % 256]
def p32 (z : Int) : List Int := p16 (z / 65536) ++ p16 z
set_option maxRecDepth 4000 in
theorem put16_s (ad : Option Addr) (c n : Nat) (l : List Int) (hn : l.length = n) (hl : n ≤ 100) (z : Int) (h1 : 0 ≤ z) (h2 : z ≤ 4294967295) : Pact Try.prog 41 #[.slice ad n c, .int .i64 z] (fun _ => True) [Ar 5 1 byC (.slice ad n c) l] (fun u L' => ∃ a2 c2, u = .slice a2 (n + 2) c2 ∧ L' = [Ar 5 1 byC (.slice a2 (n + 2) c2) (l ++ p16 z)]) := by
  subst hn
  refine pact Try.func41 rfl Try.ntmps41 rfl ?_
  intro W K _
  (repeat' (first | ((with_reducible apply gL); (first | refine yL0 ?_ | ((with_reducible apply gL_c_append); (first | (refine JL_apN (bs := p16 z) (tabE etab_ok xR) xR xR xA xA (by unfold p16; repeat (first | exact NumsOf.nil | (refine NumsOf.cons' ?_ ?_; omega))) rfl rfl xC (by omega) xR xR ?_; intro a3 c3 _ _) | fail)) | refine yL ?_ | (refine yM ?_; intro _) | (refine yA ?_; intro _ _ _ _) | fail)) | refine yJ ?_ | fail))
  exact J_ret1 rfl (by rfl) fun w H => ⟨_, ⟨a3, c3, rfl, rfl⟩, H.sel xZ⟩
set_option maxRecDepth 4000 in
theorem put32_s (ad : Option Addr) (c n : Nat) (l : List Int) (hn : l.length = n) (hl : n ≤ 90) (z : Int) (h1 : 0 ≤ z) (h2 : z ≤ 4294967295) : Pact Try.prog 40 #[.slice ad n c, .int .u32 z] (fun _ => True) [Ar 5 1 byC (.slice ad n c) l] (fun u L' => ∃ a2 c2, u = .slice a2 (n + 4) c2 ∧ L' = [Ar 5 1 byC (.slice a2 (n + 4) c2) (l ++ p32 z)]) := by
  refine pact Try.func40 rfl Try.ntmps40 rfl ?_
  intro W K _
  have hl2 : (l ++ p16 (z / 2 ^ (15 + 1))).length = n + 2 := by rw [List.length_append, hn]; rfl
  (repeat' (first | ((with_reducible apply gL); (first | refine yL0 ?_ | refine yL ?_ | ((with_reducible apply gL_go); (first | (refine JL_goq (put16_s _ _ n l hn (by omega) (z / 2 ^ (15 + 1)) (by omega) (by omega)) (hφ := xF) (h := ?_); rintro _ _ ⟨a2, c2, rfl, rfl⟩; try simp only [List.cons_append, List.nil_append]) | (refine JL_goq (put16_s _ _ (n + 2) (l ++ p16 (z / 2 ^ (15 + 1))) hl2 (by omega) z h1 h2) (hφ := xF) (h := ?_); rintro _ _ ⟨a3, c3, rfl, rfl⟩; try simp only [List.cons_append, List.nil_append]) | fail)) | fail)) | refine yJ ?_ | fail))
  exact J_ret1 rfl (by rfl) fun w H => ⟨_, ⟨a3, c3, rfl, by unfold p32; rw [← List.append_assoc]⟩, H.sel xZ⟩
theorem flag_no (k : Int) : Pact Try.prog 57 #[.bool false, .int .i64 k] (fun _ => True) [] (ret0 (.int .i64 0)) := by
  refine pact Try.func57 rfl Try.ntmps57 rfl ?_
  intro W K _
  (repeat' (first | ((with_reducible apply gL); (first | refine yL0 ?_ | refine yL ?_ | fail)) | refine yJ ?_ | ((with_reducible apply gJ_if); (first | (refine J_if xR ?_ ?_ <;> intro _ <;> (try (exfalso; first | contradiction | omega))) | (refine J_ifb xR ?_ ?_ <;> (intro hgb; subst hgb)) | (refine J_ifb xR ?_ ?_ <;> intro _) | fail)) | fail))
  exact J_ret1 rfl (by rfl) fun w H => ⟨_, ⟨rfl, rfl⟩, H.sel .nil⟩
theorem rightA_s : Pact Try.prog 39 #[.agg #[.int .u32 65001, .int .i64 90, .int .u32 1, .bool true, .bool true, .bool true, .bool true, .int .i64 120, .bool false, .bool false]] (fun _ => True) [] (ret0 (.bool true)) := by
  refine pact Try.func39 rfl Try.ntmps39 rfl ?_
  intro W K _
  (repeat' (first | ((with_reducible apply gL); (first | refine yL0 ?_ | refine yL ?_ | (refine yM ?_; intro _) | ((with_reducible apply gL_gd); (first | (refine JL_guard xR xR ?_ ?_ <;> intro _ <;> (try (exfalso; first | contradiction | omega))) | (refine JL_guardb xR xR ?_ ?_ <;> (intro hgb; subst hgb)) | (refine JL_guardb xR xR ?_ ?_ <;> (intro hgb; fail_if_success (have : type_of% hgb := rfl))) | fail)) | fail)) | refine yJ ?_ | ((with_reducible apply gJ_if); (first | (refine J_if xR ?_ ?_ <;> intro _ <;> (try (exfalso; first | contradiction | omega))) | (refine J_ifb xR ?_ ?_ <;> (intro hgb; subst hgb)) | (refine J_ifb xR ?_ ?_ <;> intro _) | fail)) | fail))
  exact J_ret1 rfl (by rfl) fun w H => ⟨_, ⟨rfl, rfl⟩, H.sel .nil⟩
theorem rightB_s : Pact Try.prog 39 #[.agg #[.int .u32 65002, .int .i64 90, .int .u32 2, .bool false, .bool false, .bool false, .bool false, .int .i64 0, .bool false, .bool false]] (fun _ => True) [] (ret0 (.bool true)) := by
  refine pact Try.func39 rfl Try.ntmps39 rfl ?_
  intro W K _
  (repeat' (first | ((with_reducible apply gL); (first | refine yL0 ?_ | refine yL ?_ | (refine yM ?_; intro _) | ((with_reducible apply gL_gd); (first | (refine JL_guard xR xR ?_ ?_ <;> intro _ <;> (try (exfalso; first | contradiction | omega))) | (refine JL_guardb xR xR ?_ ?_ <;> (intro hgb; subst hgb)) | (refine JL_guardb xR xR ?_ ?_ <;> (intro hgb; fail_if_success (have : type_of% hgb := rfl))) | fail)) | fail)) | refine yJ ?_ | ((with_reducible apply gJ_if); (first | (refine J_if xR ?_ ?_ <;> intro _ <;> (try (exfalso; first | contradiction | omega))) | (refine J_ifb xR ?_ ?_ <;> (intro hgb; subst hgb)) | (refine J_ifb xR ?_ ?_ <;> intro _) | fail)) | fail))
  exact J_ret1 rfl (by rfl) fun w H => ⟨_, ⟨rfl, rfl⟩, H.sel .nil⟩
theorem canB_s : Pact Try.prog 42 #[.agg #[.int .u32 65002, .int .i64 90, .int .u32 2, .bool false, .bool false, .bool false, .bool false, .int .i64 0, .bool false, .bool false]] (fun _ => True) [] (ret0 (.slice none 0 0)) := by
  refine pact Try.func42 rfl Try.ntmps42 rfl ?_
  intro W K _
  (repeat' (first | ((with_reducible apply gL); (first | refine yL0 ?_ | refine yL ?_ | (refine yM ?_; intro _) | (refine yA ?_; intro _ _ _ _) | fail)) | ((with_reducible apply gD); (first | (refine JD_nil ?_; try simp only [List.cons_append, List.nil_append]) | (refine JD_bar ?_; try simp only [List.cons_append, List.nil_append]) | refine yD ?_ | (refine yE ?_; intro _) | (refine yB ?_; intro _ _ _ _) | fail)) | refine yJ ?_ | ((with_reducible apply gJ_if); (first | (refine J_if xR ?_ ?_ <;> intro _ <;> (try (exfalso; first | contradiction | omega))) | (refine J_ifb xR ?_ ?_ <;> (intro hgb; subst hgb)) | (refine J_ifb xR ?_ ?_ <;> intro _) | fail)) | refine J_draw (id := 7) [0, 3, 4, 5, 6, 1, 2, 7] [8, 9, 10] mixed xC xD xD ?_ | refine J_draw (id := 10) [0, 3, 4, 1, 2] [5, 6] mixed xC xD xD ?_ | fail))
  exact J_ret1 rfl (by rfl) fun w H => ⟨_, ⟨rfl, rfl⟩, H.sel .nil⟩
end Go.Proofs.Ytfonbpmdbpdncaa
