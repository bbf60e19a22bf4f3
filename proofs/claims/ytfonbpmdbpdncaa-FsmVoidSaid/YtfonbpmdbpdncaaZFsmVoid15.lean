/-
  Fs14, Fs15: merged.
-/
import Derived.Test.YtfonbpmdbpdncaaZFsmVoid14
namespace Go.Proofs.Ytfonbpmdbpdncaa
set_option linter.unusedSimpArgs false
set_option linter.unusedVariables false
set_option maxRecDepth 20000
set_option maxHeartbeats 4000000
open Go.RowKit Go.Pm

theorem or32 (i : Nat) (x y : Int) (h1 : 0 ≤ x) (h2 : x % 2 ^ i = 0) (h3 : x < 4294967296) (h4 : 0 ≤ y) (h5 : y < 2 ^ i) (h6 : y < 4294967296) : bits .or .u32 x y = x + y :=
  bits_join .u32 32 (by decide) (fun n h1 h2 => by rw [IntKind.wrap_u32]; omega) i x y h1 h2 h3 h4 h5 h6
def U8s (l : List Int) : Prop := ∀ x ∈ l, 0 ≤ x ∧ x ≤ 255
theorem U8s.get {l : List Int} (h : U8s l) {k : Nat} {x : Int} (e : l[k]? = some x) : 0 ≤ x ∧ x ≤ 255 := h x (List.mem_of_getElem? e)
theorem U8s.drop {B : List Int} (h : U8s B) (k : Nat) : U8s (B.drop k) := fun x hx => h x (List.mem_of_mem_drop hx)
theorem U8s.take {B : List Int} (h : U8s B) (k : Nat) : U8s (B.take k) := fun x hx => h x (List.mem_of_mem_take hx)
theorem get16_s (a : Option Addr) (n c : Nat) (l : List Int) (hn : l.length = n) (hb : U8s l) (x y : Int) (h0 : l[0]? = some x) (h1 : l[1]? = some y) : Pact Try.prog 73 #[.slice a n c] (fun w => Vw w (.slice a n c) 1 n (flat byC l)) [] (ret0 (.int .i64 (x * 256 + y))) := by
  refine pact Try.func73 rfl Try.ntmps73 rfl ?_
  intro W K hK
  have hx := hb.get h0
  have hy := hb.get h1
  have hl : 2 ≤ n := by have := (List.getElem?_eq_some_iff.1 h1).1; omega
  (repeat' (first | ((with_reducible apply gL); (first | refine yL0 ?_ | refine yL ?_ | fail)) | ((with_reducible apply gD); (first | (refine JD_nil ?_; try simp only [List.cons_append, List.nil_append]) | (refine JD_bar ?_; try simp only [List.cons_append, List.nil_append]) | ((with_reducible apply gD_bin_or); (first | (refine JD_p rfl xR rfl (pe_or xR xR (or64 8 _ _ (by omega) (by omega) (by omega) (by omega) (by omega) (by omega))) ?_) | fail)) | refine yD ?_ | fail)) | refine yJ ?_ | refine J_draw (id := 1) [0, 1, 2, 3, 4, 5, 6, 7, 8] [9, 10] mixed xC xD xD ?_ | fail))
  rw [show x * 2 ^ (7 + 1) + y = x * 256 + y by omega]
  exact J_ret1 rfl (by rfl) fun w H => ⟨_, ⟨rfl, rfl⟩, H.sel xZ⟩
theorem get32_s (a : Option Addr) (n c : Nat) (l : List Int) (hn : l.length = n) (hb : U8s l) (x y z u : Int) (h0 : l[0]? = some x) (h1 : l[1]? = some y) (h2 : l[2]? = some z) (h3 : l[3]? = some u) : Pact Try.prog 74 #[.slice a n c] (fun w => Vw w (.slice a n c) 1 n (flat byC l)) [] (ret0 (.int .u32 ((x * 256 + y) * 65536 + (z * 256 + u)))) := by
  refine pact Try.func74 rfl Try.ntmps74 rfl ?_
  intro W K hK
  have hx := hb.get h0
  have hy := hb.get h1
  have hz := hb.get h2
  have hu := hb.get h3
  have hl : 4 ≤ n := by have := (List.getElem?_eq_some_iff.1 h3).1; omega
  have hdl : (l.drop 2).length = n - 2 := by rw [List.length_drop, hn]
  have k1 := get16_s a n c l hn hb x y h0 h1
  have k2 := get16_s (slA a c 2 1) (n - 2) (c - 2) (l.drop 2) hdl (hb.drop 2) z u (by rw [List.getElem?_drop]; exact h2) (by rw [List.getElem?_drop]; exact h3)
  refine J_fact (φ := n ≤ c) (fun w H => by obtain ⟨_, _, he, _, h3, _⟩ := hK.of H; cases he; exact h3) ?_
  intro hc
  generalize hA : x * 256 + y = A at k1 ⊢
  generalize hB : z * 256 + u = B at k2 ⊢
  (repeat' (first | ((with_reducible apply gL); (first | refine yL0 ?_ | refine yL ?_ | fail)) | ((with_reducible apply gD); (first | (refine JD_nil ?_; try simp only [List.cons_append, List.nil_append]) | (refine JD_bar ?_; try simp only [List.cons_append, List.nil_append]) | ((with_reducible apply gD_bin_or); (first | (refine JD_p rfl xR rfl (pe_or xR xR (or32 16 _ _ (by omega) (by omega) (by omega) (by omega) (by omega) (by omega))) ?_) | fail)) | refine yD ?_ | ((with_reducible apply gD_go); (first | (refine JD_goq (k1) (hφ := (by (try simp only [List.cons_append, List.nil_append]); exact fun w hr => hK w hr.1)) (h := ?_); rintro _ _ ⟨rfl, rfl⟩; try simp only [List.cons_append, List.nil_append]) | (refine JD_goq (k2) (hφ := (by (try simp only [List.cons_append, List.nil_append]); exact fun w hr => Src.drop (a := a) (c := c) (enc := byC) (es := l) (Src.kn (K := _) hK) (fun _ => rfl) hn 2 (n - 2) (by omega) rfl w hr)) (h := ?_); rintro _ _ ⟨rfl, rfl⟩; try simp only [List.cons_append, List.nil_append]) | fail)) | fail)) | refine yJ ?_ | refine J_draw (id := 1) [0, 4, 5, 1, 2, 3, 6, 7] [8, 9] mixed xC xD xD ?_ | fail))
  rw [show A * 2 ^ (15 + 1) + B = A * 65536 + B by omega]
  exact J_ret1 rfl (by rfl) fun w H => ⟨_, ⟨rfl, rfl⟩, H.sel xZ⟩
theorem wrong_s (sub : Int) (a : Option Addr) (n c : Nat) : Pact Try.prog 72 #[.int .i64 sub, .slice a n c] (fun _ => True) [] (ret0 (.tuple #[.agg (opC op0).toArray, .agg #[.int .i64 2, .int .i64 sub, .slice a n c], .bool false])) := by
  refine pact Try.func72 rfl Try.ntmps72 rfl ?_
  intro W K _
  (repeat' (first | ((with_reducible apply gL); (first | refine yL0 ?_ | refine yL ?_ | (refine yM ?_; intro _) | fail)) | refine yJ ?_ | fail))
  exact J_retCC (cs := opC op0) (cs' := [.int .i64 2, .int .i64 sub, .slice a n c]) rfl (by rfl) (by rfl) (by rfl) xA xA (by rfl) (by rfl) fun w H => ⟨_, ⟨rfl, rfl⟩, H.sel xZ⟩
theorem partno_s (a : Option Addr) (n c : Nat) (l : List Int) (hn : l.length = n) (hb : U8s l) (hno : n < 2 ∨ ∃ y, l[1]? = some y ∧ (n : Int) - 2 < y) (hL : n ≤ 1000) : Pact Try.prog 76 #[.slice a n c] (fun w => Vw w (.slice a n c) 1 n (flat byC l)) [] (ret0 (.tuple #[.int .u8 0, .slice none 0 0, .slice none 0 0, .bool false])) := by
  refine pact Try.func76 rfl Try.ntmps76 rfl ?_
  intro W K hK
  by_cases h2 : n < 2
  · (repeat' (first | ((with_reducible apply gL); (first | refine yL0 ?_ | refine yL ?_ | ((with_reducible apply gL_gd); (first | (refine JL_guard xR xR ?_ ?_ <;> intro _ <;> (try (exfalso; first | contradiction | omega))) | (refine JL_guardb xR xR ?_ ?_ <;> (intro hgb; subst hgb)) | (refine JL_guardb xR xR ?_ ?_ <;> (intro hgb; fail_if_success (have : type_of% hgb := rfl))) | fail)) | fail)) | ((with_reducible apply gD); (first | (refine JD_nil ?_; try simp only [List.cons_append, List.nil_append]) | (refine JD_bar ?_; try simp only [List.cons_append, List.nil_append]) | refine yD ?_ | fail)) | refine yJ ?_ | ((with_reducible apply gJ_if); (first | (refine J_if xR ?_ ?_ <;> intro _ <;> (try (exfalso; first | contradiction | omega))) | (refine J_ifb xR ?_ ?_ <;> (intro hgb; subst hgb)) | (refine J_ifb xR ?_ ?_ <;> intro _) | fail)) | refine J_draw (id := 4) [0, 1, 2, 3, 4, 5, 6, 7, 8, 9, 10] [11, 12] mixed xC xD xD ?_ | fail))
    all_goals (first | (exfalso; omega) | skip)
    all_goals exact J_ret4 rfl (by rfl) (by rfl) (by rfl) (by rfl) fun w H => ⟨_, ⟨rfl, rfl⟩, H.sel .nil⟩
  · obtain ⟨y, h1, hy2⟩ := hno.resolve_left h2
    have hy := hb.get h1
    (repeat' (first | ((with_reducible apply gL); (first | refine yL0 ?_ | refine yL ?_ | ((with_reducible apply gL_gd); (first | (refine JL_guard xR xR ?_ ?_ <;> intro _ <;> (try (exfalso; first | contradiction | omega))) | (refine JL_guardb xR xR ?_ ?_ <;> (intro hgb; subst hgb)) | (refine JL_guardb xR xR ?_ ?_ <;> (intro hgb; fail_if_success (have : type_of% hgb := rfl))) | fail)) | fail)) | ((with_reducible apply gD); (first | (refine JD_nil ?_; try simp only [List.cons_append, List.nil_append]) | (refine JD_bar ?_; try simp only [List.cons_append, List.nil_append]) | refine yD ?_ | fail)) | refine yJ ?_ | ((with_reducible apply gJ_if); (first | (refine J_if xR ?_ ?_ <;> intro _ <;> (try (exfalso; first | contradiction | omega))) | (refine J_ifb xR ?_ ?_ <;> (intro hgb; subst hgb)) | (refine J_ifb xR ?_ ?_ <;> intro _) | fail)) | refine J_draw (id := 4) [0, 1, 2, 3, 4, 5, 6, 7, 8, 9, 10] [11, 12] mixed xC xD xD ?_ | fail))
    all_goals (first | (exfalso; omega) | skip)
    all_goals exact J_ret4 rfl (by rfl) (by rfl) (by rfl) (by rfl) fun w H => ⟨_, ⟨rfl, rfl⟩, H.sel .nil⟩
theorem part_s (a : Option Addr) (n c : Nat) (l : List Int) (hn : l.length = n) (hb : U8s l) (x : Int) (m : Nat) (h0 : l[0]? = some x) (h1 : l[1]? = some (m : Int)) (hm : m + 2 ≤ n) (hL : n ≤ 1000) : Pact Try.prog 76 #[.slice a n c] (fun w => Vw w (.slice a n c) 1 n (flat byC l)) [] (ret0 (.tuple #[.int .u8 x, .slice (slA a c 2 1) m (c - 2), .slice (slA a c (m + 2) 1) (n - (m + 2)) (c - (m + 2)), .bool true])) := by
  refine pact Try.func76 rfl Try.ntmps76 rfl ?_
  intro W K hK
  have hy := hb.get h1
  refine J_fact (φ := n ≤ c) (fun w H => by obtain ⟨_, _, he, _, h3, _⟩ := hK.of H; cases he; exact h3) ?_
  intro hc
  have hx := hb.get h0
  (repeat' (first | ((with_reducible apply gL); (first | refine yL0 ?_ | refine yL ?_ | ((with_reducible apply gL_gd); (first | (refine JL_guard xR xR ?_ ?_ <;> intro _ <;> (try (exfalso; first | contradiction | omega))) | (refine JL_guardb xR xR ?_ ?_ <;> (intro hgb; subst hgb)) | (refine JL_guardb xR xR ?_ ?_ <;> (intro hgb; fail_if_success (have : type_of% hgb := rfl))) | fail)) | fail)) | ((with_reducible apply gD); (first | (refine JD_nil ?_; try simp only [List.cons_append, List.nil_append]) | (refine JD_bar ?_; try simp only [List.cons_append, List.nil_append]) | refine yD ?_ | fail)) | refine yJ ?_ | ((with_reducible apply gJ_if); (first | (refine J_if xR ?_ ?_ <;> intro _ <;> (try (exfalso; first | contradiction | omega))) | (refine J_ifb xR ?_ ?_ <;> (intro hgb; subst hgb)) | (refine J_ifb xR ?_ ?_ <;> intro _) | fail)) | refine J_draw (id := 4) [0, 1, 2, 3, 4, 5, 6, 7, 8, 9, 10] [11, 12] mixed xC xD xD ?_ | fail))
  all_goals (first | (exfalso; omega) | skip)
  rw [show (2 : Int) + (m : Int) = ((m + 2 : Nat) : Int) by omega]
  (repeat' (first | ((with_reducible apply gL); (first | refine yL0 ?_ | refine yL ?_ | ((with_reducible apply gL_gd); (first | (refine JL_guard xR xR ?_ ?_ <;> intro _ <;> (try (exfalso; first | contradiction | omega))) | (refine JL_guardb xR xR ?_ ?_ <;> (intro hgb; subst hgb)) | (refine JL_guardb xR xR ?_ ?_ <;> (intro hgb; fail_if_success (have : type_of% hgb := rfl))) | fail)) | fail)) | ((with_reducible apply gD); (first | (refine JD_nil ?_; try simp only [List.cons_append, List.nil_append]) | (refine JD_bar ?_; try simp only [List.cons_append, List.nil_append]) | refine yD ?_ | fail)) | refine yJ ?_ | ((with_reducible apply gJ_if); (first | (refine J_if xR ?_ ?_ <;> intro _ <;> (try (exfalso; first | contradiction | omega))) | (refine J_ifb xR ?_ ?_ <;> (intro hgb; subst hgb)) | (refine J_ifb xR ?_ ?_ <;> intro _) | fail)) | refine J_draw (id := 4) [0, 1, 2, 3, 4, 5, 6, 7, 8, 9, 10] [11, 12] mixed xC xD xD ?_ | fail))
  rw [show m + 1 + 1 - 2 = m by omega]
  exact J_ret4 rfl (by rfl) (by rfl) (by rfl) (by rfl) fun w H => ⟨_, ⟨rfl, rfl⟩, H.sel .nil⟩
end Go.Proofs.Ytfonbpmdbpdncaa
namespace Go.Proofs.Ytfonbpmdbpdncaa
set_option linter.unusedSimpArgs false
set_option linter.unusedVariables false
set_option maxRecDepth 20000
set_option maxHeartbeats 4000000
open Go.RowKit Go.Pm

theorem four_get {l : List Int} (h : 4 ≤ l.length) : ∃ x y z u, l[0]? = some x ∧ l[1]? = some y ∧ l[2]? = some z ∧ l[3]? = some u :=
  ⟨_, _, _, _, List.getElem?_eq_getElem (by omega), List.getElem?_eq_getElem (by omega), List.getElem?_eq_getElem (by omega), List.getElem?_eq_getElem (by omega)⟩
structure Qbs where
  a : Option Addr
  n : Nat
  c : Nat
  l : List Int
  o : Op_
theorem kn_drop {K : Hl} {a : Option Addr} {n c : Nat} {l : List Int} (h : Kn K (fun w => Vw w (.slice a n c) 1 n (flat byC l))) (hn : l.length = n) (k m : Nat) (hk : k ≤ n) (hm : m = n - k) : Kn K (fun w => Vw w (.slice (slA a c k 1) m (c - k)) 1 m (flat byC (l.drop k))) := h.imp fun w h => Vw_drop h (fun _ => rfl) hn k m hk hm
set_option maxRecDepth 4000 in
theorem restarts_s (ob : Nat) (o : Op_) (a : Option Addr) (n c : Nat) (l : List Int) (hn : l.length = n) (hb : U8s l) (hL : n ≤ 1000) : Pact Try.prog 79 #[.pointer (some ⟨ob, 0, none⟩), .slice a n c] (fun w => Vw w (.slice a n c) 1 n (flat byC l)) [pts ob (opC o) 40] (fun u L' => ∃ r o', o'.hold = o.hold ∧ u = .bool r ∧ L' = [pts ob (opC o') 40]) := by
  refine pact Try.func79 rfl Try.ntmps79 rfl ?_
  intro W K hK
  refine J_fact (φ := n ≤ c) (fun w H => by obtain ⟨_, _, he, _, h3, _⟩ := hK.of H; cases he; exact h3) ?_
  intro hc
  by_cases h4 : n % 4 = 2
  · have h0 : l[0]? = some l[0] := List.getElem?_eq_getElem (by omega)
    have h1 : l[1]? = some l[1] := List.getElem?_eq_getElem (by omega)
    generalize l[0] = x at h0
    generalize l[1] = y at h1
    have hx := hb.get h0
    have hy := hb.get h1
    (repeat' (first | ((with_reducible apply gL); (first | refine yL0 ?_ | ((with_reducible apply gL_bin_and); (first | (refine JD_p rfl xR rfl (pe_and xR xR rfl) ?_) | fail)) | refine yL ?_ | ((with_reducible apply gL_go); (first | (refine JL_goq (get16_s a n c l hn hb x y h0 h1) (hφ := (by (try simp only [List.cons_append, List.nil_append]); exact fun w hr => hK w hr.1)) (h := ?_); rintro _ _ ⟨rfl, rfl⟩; try simp only [List.cons_append, List.nil_append]) | fail)) | fail)) | ((with_reducible apply gD); (first | (refine JD_nil ?_; try simp only [List.cons_append, List.nil_append]) | (refine JD_bar ?_; try simp only [List.cons_append, List.nil_append]) | ((with_reducible apply gD_bin_and); (first | (refine JD_p rfl xR rfl (pe_and xR xR rfl) ?_) | fail)) | refine yD ?_ | ((with_reducible apply gD_go); (first | (refine JD_goq (get16_s a n c l hn hb x y h0 h1) (hφ := (by (try simp only [List.cons_append, List.nil_append]); exact fun w hr => hK w hr.1)) (h := ?_); rintro _ _ ⟨rfl, rfl⟩; try simp only [List.cons_append, List.nil_append]) | fail)) | fail)) | refine yJ ?_ | ((with_reducible apply gJ_if); (first | (refine J_if xR ?_ ?_ <;> intro _ <;> (try (exfalso; first | contradiction | omega))) | (refine J_ifb xR ?_ ?_ <;> (intro hgb; subst hgb)) | (refine J_ifb xR ?_ ?_ <;> intro _) | fail)) | refine J_draw (id := 4) [0, 1, 2, 3, 4, 5, 6, 7, 8, 9, 10, 11, 12] [13, 14, 15] mixed xC xD xD ?_ | fail))
    all_goals (first | (exfalso; omega) | skip)
    refine J_loop (α := Qbs) ⟨slA a c 2 1, n - 2, c - 2, l.drop 2, { o with graceful := true, time := bits .and .i64 (x * 256 + y) 4095, restarts := decide (bits .and .u8 x 128 ≠ 0), keeps := false }⟩ (fun x => x.n) (fun x => x.l.length = x.n ∧ U8s x.l ∧ x.n % 4 = 0 ∧ x.n ≤ x.c ∧ x.n ≤ 1000 ∧ x.o.hold = o.hold ∧ Kn K (fun w => Vw w (.slice x.a x.n x.c) 1 x.n (flat byC x.l))) (fun x => [(0, .pointer (some ⟨ob, 0, none⟩)), (1, .slice x.a x.n x.c)]) (fun x => [pts ob (opC x.o) 40]) ⟨by simp only [List.length_drop]; omega, hb.drop 2, by simp only; omega, by simp only; omega, by simp only; omega, rfl, kn_drop hK hn 2 (n - 2) (by omega) rfl⟩ ⟨rfl, rfl, trivial⟩ (fun w H => H.sel xZ) ?_
    clear hK h0 h1 hx hy hn hb hc h4 hL x y
    rintro ⟨a, n, c, l, o2⟩ hi
    dsimp only at hi ⊢
    obtain ⟨hn, hb, h4, hc, hL, ho, hK⟩ := hi
    by_cases h0 : n = 0
    · subst h0
      (repeat' (first | ((with_reducible apply gL); (first | refine yL0 ?_ | refine yL ?_ | fail)) | ((with_reducible apply gD); (first | (refine JD_nil ?_; try simp only [List.cons_append, List.nil_append]) | (refine JD_bar ?_; try simp only [List.cons_append, List.nil_append]) | refine yD ?_ | fail)) | refine yJ ?_ | ((with_reducible apply gJ_if); (first | (refine J_if xR ?_ ?_ <;> intro _ <;> (try (exfalso; first | contradiction | omega))) | (refine J_ifb xR ?_ ?_ <;> (intro hgb; subst hgb)) | (refine J_ifb xR ?_ ?_ <;> intro _) | fail)) | refine J_draw (id := 4) [0, 1, 2, 3, 4, 5, 6, 7, 8, 9, 10, 11, 12] [13, 14, 15] mixed xC xD xD ?_ | fail))
      all_goals (first | (exfalso; omega) | skip)
      exact J_ret1 rfl (by rfl) fun w H => ⟨_, ⟨_, o2, ho, rfl, rfl⟩, H.sel xZ⟩
    · obtain ⟨x, y, z, u, h0, h1, h2, h3⟩ := four_get (l := l) (by omega)
      have hu := hb.get h3
      (repeat' (first | ((with_reducible apply gL); (first | refine yL0 ?_ | ((with_reducible apply gL_bin_and); (first | (refine JL_p rfl xR xR (pe_and xR xR rfl) ?_) | fail)) | refine yL ?_ | ((with_reducible apply gL_go); (first | (refine JL_goq (get32_s a n c l hn hb x y z u h0 h1 h2 h3) (hφ := (by (try simp only [List.cons_append, List.nil_append]); exact fun w hr => hK w hr.1)) (h := ?_); rintro _ _ ⟨rfl, rfl⟩; try simp only [List.cons_append, List.nil_append]) | fail)) | fail)) | ((with_reducible apply gD); (first | (refine JD_nil ?_; try simp only [List.cons_append, List.nil_append]) | (refine JD_bar ?_; try simp only [List.cons_append, List.nil_append]) | ((with_reducible apply gD_bin_and); (first | (refine JL_p rfl xR xR (pe_and xR xR rfl) ?_) | fail)) | refine yD ?_ | ((with_reducible apply gD_go); (first | (refine JD_goq (get32_s a n c l hn hb x y z u h0 h1 h2 h3) (hφ := (by (try simp only [List.cons_append, List.nil_append]); exact fun w hr => hK w hr.1)) (h := ?_); rintro _ _ ⟨rfl, rfl⟩; try simp only [List.cons_append, List.nil_append]) | fail)) | fail)) | refine yJ ?_ | ((with_reducible apply gJ_if); (first | (refine J_if xR ?_ ?_ <;> intro _ <;> (try (exfalso; first | contradiction | omega))) | (refine J_ifb xR ?_ ?_ <;> (intro hgb; subst hgb)) | (refine J_ifb xR ?_ ?_ <;> intro _) | fail)) | refine J_draw (id := 4) [0, 1, 2, 3, 4, 5, 6, 7, 8, 9, 10, 11, 12] [13, 14, 15] mixed xC xD xD ?_ | fail))
      all_goals (first | (exfalso; omega) | skip)
      · exact J_again ⟨slA a c 4 1, n - 4, c - 4, l.drop 4, { o2 with keeps := decide (bits .and .u8 u 128 ≠ 0) }⟩ (by simp only; omega) ⟨by simp only [List.length_drop]; omega, hb.drop 4, by simp only; omega, by simp only; omega, by simp only; omega, ho, kn_drop hK hn 4 (n - 4) (by omega) rfl⟩ ⟨rfl, rfl, trivial⟩ (fun w H => H.sel xZ)
      · exact J_again ⟨slA a c 4 1, n - 4, c - 4, l.drop 4, o2⟩ (by simp only; omega) ⟨by simp only [List.length_drop]; omega, hb.drop 4, by simp only; omega, by simp only; omega, by simp only; omega, ho, kn_drop hK hn 4 (n - 4) (by omega) rfl⟩ ⟨rfl, rfl, trivial⟩ (fun w H => H.sel xZ)
  · (repeat' (first | ((with_reducible apply gL); (first | refine yL0 ?_ | refine yL ?_ | fail)) | ((with_reducible apply gD); (first | (refine JD_nil ?_; try simp only [List.cons_append, List.nil_append]) | (refine JD_bar ?_; try simp only [List.cons_append, List.nil_append]) | refine yD ?_ | fail)) | refine yJ ?_ | ((with_reducible apply gJ_if); (first | (refine J_if xR ?_ ?_ <;> intro _ <;> (try (exfalso; first | contradiction | omega))) | (refine J_ifb xR ?_ ?_ <;> (intro hgb; subst hgb)) | (refine J_ifb xR ?_ ?_ <;> intro _) | fail)) | refine J_draw (id := 4) [0, 1, 2, 3, 4, 5, 6, 7, 8, 9, 10, 11, 12] [13, 14, 15] mixed xC xD xD ?_ | fail))
    all_goals (first | (exfalso; omega) | skip)
    exact J_ret1 rfl (by rfl) fun w H => ⟨_, ⟨_, o, rfl, rfl, rfl⟩, H.sel xZ⟩
theorem capab_s (ob : Nat) (o : Op_) (code : Int) (a : Option Addr) (n c : Nat) (l : List Int) (hn : l.length = n) (hb : U8s l) (hL : n ≤ 1000) : Pact Try.prog 78 #[.pointer (some ⟨ob, 0, none⟩), .int .u8 code, .slice a n c] (fun w => Vw w (.slice a n c) 1 n (flat byC l)) [pts ob (opC o) 40] (fun u L' => ∃ r o', o'.hold = o.hold ∧ u = .bool r ∧ L' = [pts ob (opC o') 40]) := by
  refine pact Try.func78 rfl Try.ntmps78 rfl ?_
  intro W K hK
  have k1 := restarts_s ob o a n c l hn hb hL
  by_cases h4 : n = 4
  · obtain ⟨x, y, z, u, h0, h1, h2, h3⟩ := four_get (l := l) (by omega)
    (repeat' (first | ((with_reducible apply gL); (first | refine yL0 ?_ | refine yL ?_ | ((with_reducible apply gL_go); (first | (refine JL_goq (get32_s a n c l hn hb x y z u h0 h1 h2 h3) (hφ := (by (try simp only [List.cons_append, List.nil_append]); exact fun w hr => hK w hr.1)) (h := ?_); rintro _ _ ⟨rfl, rfl⟩; try simp only [List.cons_append, List.nil_append]) | (refine JL_goq (k1) (hφ := (by (try simp only [List.cons_append, List.nil_append]); exact fun w hr => hK w hr.1)) (h := ?_); rintro _ _ ⟨r, o', ho, rfl, rfl⟩; try simp only [List.cons_append, List.nil_append]) | fail)) | ((with_reducible apply gL_gd); (first | (refine JL_guard xR xR ?_ ?_ <;> intro _ <;> (try (exfalso; first | contradiction | omega))) | (refine JL_guardb xR xR ?_ ?_ <;> (intro hgb; subst hgb)) | (refine JL_guardb xR xR ?_ ?_ <;> (intro hgb; fail_if_success (have : type_of% hgb := rfl))) | fail)) | fail)) | refine yJ ?_ | ((with_reducible apply gJ_if); (first | (refine J_if xR ?_ ?_ <;> intro _ <;> (try (exfalso; first | contradiction | omega))) | (refine J_ifb xR ?_ ?_ <;> (intro hgb; subst hgb)) | (refine J_ifb xR ?_ ?_ <;> intro _) | fail)) | fail))
    all_goals (first | (exfalso; omega) | skip)
    all_goals (first
      | exact J_ret1 rfl (by rfl) fun w H => ⟨_, ⟨_, o', ho, rfl, rfl⟩, H.sel (by first | ((first | ((with_reducible (repeat (first | exact Sb.nil | apply Sb.cons | exact Tk.here | apply Tk.there))); done) | (repeat (first | exact Sb.nil | apply Sb.cons | exact Tk.here | apply Tk.there))); done) | fail)⟩
      | exact J_ret1 rfl (by rfl) fun w H => ⟨_, ⟨_, o, rfl, rfl, rfl⟩, H.sel (by first | ((first | ((with_reducible (repeat (first | exact Sb.nil | apply Sb.cons | exact Tk.here | apply Tk.there))); done) | (repeat (first | exact Sb.nil | apply Sb.cons | exact Tk.here | apply Tk.there))); done) | fail)⟩
      | exact J_ret1 rfl (by rfl) fun w H => ⟨_, ⟨_, { o with refresh := true }, rfl, rfl, rfl⟩, H.sel (by first | ((first | ((with_reducible (repeat (first | exact Sb.nil | apply Sb.cons | exact Tk.here | apply Tk.there))); done) | (repeat (first | exact Sb.nil | apply Sb.cons | exact Tk.here | apply Tk.there))); done) | fail)⟩
      | exact J_ret1 rfl (by rfl) fun w H => ⟨_, ⟨_, { o with multi := true }, rfl, rfl, rfl⟩, H.sel (by first | ((first | ((with_reducible (repeat (first | exact Sb.nil | apply Sb.cons | exact Tk.here | apply Tk.there))); done) | (repeat (first | exact Sb.nil | apply Sb.cons | exact Tk.here | apply Tk.there))); done) | fail)⟩
      | exact J_ret1 rfl (by rfl) fun w H => ⟨_, ⟨_, { o with multi := decide ((x * 256 + y) * 65536 + (z * 256 + u) = 65537) }, rfl, rfl, rfl⟩, H.sel (by first | ((first | ((with_reducible (repeat (first | exact Sb.nil | apply Sb.cons | exact Tk.here | apply Tk.there))); done) | (repeat (first | exact Sb.nil | apply Sb.cons | exact Tk.here | apply Tk.there))); done) | fail)⟩
      | exact J_ret1 rfl (by rfl) fun w H => ⟨_, ⟨_, { o with four := true, as_ := _ }, rfl, rfl, rfl⟩, H.sel (by first | ((first | ((with_reducible (repeat (first | exact Sb.nil | apply Sb.cons | exact Tk.here | apply Tk.there))); done) | (repeat (first | exact Sb.nil | apply Sb.cons | exact Tk.here | apply Tk.there))); done) | fail)⟩
      | fail)
  · (repeat' (first | ((with_reducible apply gL); (first | refine yL0 ?_ | refine yL ?_ | ((with_reducible apply gL_go); (first | (refine JL_goq (k1) (hφ := (by (try simp only [List.cons_append, List.nil_append]); exact fun w hr => hK w hr.1)) (h := ?_); rintro _ _ ⟨r, o', ho, rfl, rfl⟩; try simp only [List.cons_append, List.nil_append]) | fail)) | ((with_reducible apply gL_gd); (first | (refine JL_guard xR xR ?_ ?_ <;> intro _ <;> (try (exfalso; first | contradiction | omega))) | (refine JL_guardb xR xR ?_ ?_ <;> (intro hgb; subst hgb)) | (refine JL_guardb xR xR ?_ ?_ <;> (intro hgb; fail_if_success (have : type_of% hgb := rfl))) | fail)) | fail)) | refine yJ ?_ | ((with_reducible apply gJ_if); (first | (refine J_if xR ?_ ?_ <;> intro _ <;> (try (exfalso; first | contradiction | omega))) | (refine J_ifb xR ?_ ?_ <;> (intro hgb; subst hgb)) | (refine J_ifb xR ?_ ?_ <;> intro _) | fail)) | fail))
    all_goals (first | (exfalso; omega) | skip)
    all_goals (first
      | exact J_ret1 rfl (by rfl) fun w H => ⟨_, ⟨_, o', ho, rfl, rfl⟩, H.sel (by first | ((first | ((with_reducible (repeat (first | exact Sb.nil | apply Sb.cons | exact Tk.here | apply Tk.there))); done) | (repeat (first | exact Sb.nil | apply Sb.cons | exact Tk.here | apply Tk.there))); done) | fail)⟩
      | exact J_ret1 rfl (by rfl) fun w H => ⟨_, ⟨_, o, rfl, rfl, rfl⟩, H.sel (by first | ((first | ((with_reducible (repeat (first | exact Sb.nil | apply Sb.cons | exact Tk.here | apply Tk.there))); done) | (repeat (first | exact Sb.nil | apply Sb.cons | exact Tk.here | apply Tk.there))); done) | fail)⟩
      | exact J_ret1 rfl (by rfl) fun w H => ⟨_, ⟨_, { o with refresh := true }, rfl, rfl, rfl⟩, H.sel (by first | ((first | ((with_reducible (repeat (first | exact Sb.nil | apply Sb.cons | exact Tk.here | apply Tk.there))); done) | (repeat (first | exact Sb.nil | apply Sb.cons | exact Tk.here | apply Tk.there))); done) | fail)⟩
      | exact J_ret1 rfl (by rfl) fun w H => ⟨_, ⟨_, { o with multi := true }, rfl, rfl, rfl⟩, H.sel (by first | ((first | ((with_reducible (repeat (first | exact Sb.nil | apply Sb.cons | exact Tk.here | apply Tk.there))); done) | (repeat (first | exact Sb.nil | apply Sb.cons | exact Tk.here | apply Tk.there))); done) | fail)⟩
      | exact J_ret1 rfl (by rfl) fun w H => ⟨_, ⟨_, { o with multi := decide ((x * 256 + y) * 65536 + (z * 256 + u) = 65537) }, rfl, rfl, rfl⟩, H.sel (by first | ((first | ((with_reducible (repeat (first | exact Sb.nil | apply Sb.cons | exact Tk.here | apply Tk.there))); done) | (repeat (first | exact Sb.nil | apply Sb.cons | exact Tk.here | apply Tk.there))); done) | fail)⟩
      | exact J_ret1 rfl (by rfl) fun w H => ⟨_, ⟨_, { o with four := true, as_ := _ }, rfl, rfl, rfl⟩, H.sel (by first | ((first | ((with_reducible (repeat (first | exact Sb.nil | apply Sb.cons | exact Tk.here | apply Tk.there))); done) | (repeat (first | exact Sb.nil | apply Sb.cons | exact Tk.here | apply Tk.there))); done) | fail)⟩
      | fail)
theorem part_get {n : Nat} {l : List Int} (hn : l.length = n) (hb : U8s l) (hno : ¬ (n < 2 ∨ ∃ y, l[1]? = some y ∧ (n : Int) - 2 < y)) : ∃ x m, l[0]? = some x ∧ l[1]? = some ((m : Nat) : Int) ∧ m + 2 ≤ n := by
  have h2 : ¬ n < 2 := fun h => hno (.inl h)
  have h1 : l[1]? = some l[1] := List.getElem?_eq_getElem (by omega)
  have hy := hb.get h1
  refine ⟨_, l[1].toNat, List.getElem?_eq_getElem (by omega), ?_, ?_⟩
  · rw [h1]; congr 1; omega
  · have : ¬ (n : Int) - 2 < l[1] := fun h => hno (.inr ⟨_, h1, h⟩)
    omega
set_option maxRecDepth 4000 in
theorem capabs_s (ob : Nat) (o : Op_) (a : Option Addr) (n c : Nat) (l : List Int) (hn : l.length = n) (hb : U8s l) (hL : n ≤ 1000) : Pact Try.prog 77 #[.pointer (some ⟨ob, 0, none⟩), .slice a n c] (fun w => Vw w (.slice a n c) 1 n (flat byC l)) [pts ob (opC o) 40] (fun u L' => ∃ r o', o'.hold = o.hold ∧ u = .bool r ∧ L' = [pts ob (opC o') 40]) := by
  refine pact Try.func77 rfl Try.ntmps77 rfl ?_
  intro W K hK
  (repeat' (first | ((with_reducible apply gL); (first | refine yL0 ?_ | refine yL ?_ | ((with_reducible apply gL_gd); (first | (refine JL_guard xR xR ?_ ?_ <;> intro _ <;> (try (exfalso; first | contradiction | omega))) | (refine JL_guardb xR xR ?_ ?_ <;> (intro hgb; subst hgb)) | (refine JL_guardb xR xR ?_ ?_ <;> (intro hgb; fail_if_success (have : type_of% hgb := rfl))) | fail)) | fail)) | refine yJ ?_ | ((with_reducible apply gJ_if); (first | (refine J_if xR ?_ ?_ <;> intro _ <;> (try (exfalso; first | contradiction | omega))) | (refine J_ifb xR ?_ ?_ <;> (intro hgb; subst hgb)) | (refine J_ifb xR ?_ ?_ <;> intro _) | fail)) | fail))
  refine J_scope (α := Qbs) 0 (fun x => x.n) (fun x => x.l.length = x.n ∧ U8s x.l ∧ x.n ≤ 1000 ∧ x.o.hold = o.hold ∧ Kn K (fun w => Vw w (.slice x.a x.n x.c) 1 x.n (flat byC x.l))) (fun x => [(0, .pointer (some ⟨ob, 0, none⟩)), (1, .slice x.a x.n x.c)]) (fun x => [pts ob (opC x.o) 40]) rfl rfl ?_ ?_
  · simp only [List.map_cons, List.map_nil, List.cons_append, List.nil_append]
    (repeat' (first | ((with_reducible apply gL); (first | refine yL0 ?_ | refine yL ?_ | ((with_reducible apply gL_gd); (first | (refine JL_guard xR xR ?_ ?_ <;> intro _ <;> (try (exfalso; first | contradiction | omega))) | (refine JL_guardb xR xR ?_ ?_ <;> (intro hgb; subst hgb)) | (refine JL_guardb xR xR ?_ ?_ <;> (intro hgb; fail_if_success (have : type_of% hgb := rfl))) | fail)) | fail)) | refine yJ ?_ | ((with_reducible apply gJ_if); (first | (refine J_if xR ?_ ?_ <;> intro _ <;> (try (exfalso; first | contradiction | omega))) | (refine J_ifb xR ?_ ?_ <;> (intro hgb; subst hgb)) | (refine J_ifb xR ?_ ?_ <;> intro _) | fail)) | fail))
    exact J_meet ⟨a, n, c, l, o⟩ ⟨hn, hb, hL, rfl, hK⟩ ⟨rfl, rfl, trivial⟩ (fun w H => H.sel xZ)
  · clear hK hn hb hL
    rintro ⟨a, n, c, l, o2⟩ hi
    dsimp only at hi ⊢
    obtain ⟨hn, hb, hL, ho, hK⟩ := hi
    simp only [List.map_cons, List.map_nil, List.cons_append, List.nil_append]
    by_cases h0 : n = 0
    · (repeat' (first | ((with_reducible apply gL); (first | refine yL0 ?_ | refine yL ?_ | ((with_reducible apply gL_gd); (first | (refine JL_guard xR xR ?_ ?_ <;> intro _ <;> (try (exfalso; first | contradiction | omega))) | (refine JL_guardb xR xR ?_ ?_ <;> (intro hgb; subst hgb)) | (refine JL_guardb xR xR ?_ ?_ <;> (intro hgb; fail_if_success (have : type_of% hgb := rfl))) | fail)) | fail)) | refine yJ ?_ | ((with_reducible apply gJ_if); (first | (refine J_if xR ?_ ?_ <;> intro _ <;> (try (exfalso; first | contradiction | omega))) | (refine J_ifb xR ?_ ?_ <;> (intro hgb; subst hgb)) | (refine J_ifb xR ?_ ?_ <;> intro _) | fail)) | fail))
      all_goals (first | (exfalso; omega) | skip)
      exact J_ret1 rfl (by rfl) fun w H => ⟨_, ⟨_, o2, ho, rfl, rfl⟩, H.sel xZ⟩
    by_cases hno : n < 2 ∨ ∃ y, l[1]? = some y ∧ (n : Int) - 2 < y
    · have k1 := partno_s a n c l hn hb hno hL
      (repeat' (first | ((with_reducible apply gL); (first | refine yL0 ?_ | refine yL ?_ | ((with_reducible apply gL_go); (first | (refine JL_goq (k1) (hφ := (by (try simp only [List.cons_append, List.nil_append]); exact fun w hr => hK w hr.1)) (h := ?_); rintro _ _ ⟨rfl, rfl⟩; try simp only [List.cons_append, List.nil_append]) | fail)) | ((with_reducible apply gL_gd); (first | (refine JL_guard xR xR ?_ ?_ <;> intro _ <;> (try (exfalso; first | contradiction | omega))) | (refine JL_guardb xR xR ?_ ?_ <;> (intro hgb; subst hgb)) | (refine JL_guardb xR xR ?_ ?_ <;> (intro hgb; fail_if_success (have : type_of% hgb := rfl))) | fail)) | fail)) | refine yJ ?_ | ((with_reducible apply gJ_if); (first | (refine J_if xR ?_ ?_ <;> intro _ <;> (try (exfalso; first | contradiction | omega))) | (refine J_ifb xR ?_ ?_ <;> (intro hgb; subst hgb)) | (refine J_ifb xR ?_ ?_ <;> intro _) | fail)) | fail))
      all_goals (first | (exfalso; omega) | skip)
      exact J_ret1 rfl (by rfl) fun w H => ⟨_, ⟨_, o2, ho, rfl, rfl⟩, H.sel xZ⟩
    · obtain ⟨x, m, h1, h2, hm⟩ := part_get hn hb hno
      have k1 := part_s a n c l hn hb x m h1 h2 hm hL
      have hK2 : Kn K (fun w => Vw w (.slice (slA a c 2 1) m (c - 2)) 1 m (flat byC ((l.drop 2).take m))) := (kn_drop hK hn 2 (n - 2) (by omega) rfl).imp fun w h => Vw_take' h (fun _ => rfl) (by rw [List.length_drop, hn]) m (by omega)
      have k2 := capab_s ob o2 x (slA a c 2 1) m (c - 2) ((l.drop 2).take m) (by rw [List.length_take, List.length_drop]; omega) ((hb.drop 2).take m) (by omega)
      (repeat' (first | ((with_reducible apply gL); (first | refine yL0 ?_ | refine yL ?_ | ((with_reducible apply gL_go); (first | (refine JL_goq (k1) (hφ := (by (try simp only [List.cons_append, List.nil_append]); exact fun w hr => hK w hr.1)) (h := ?_); rintro _ _ ⟨rfl, rfl⟩; try simp only [List.cons_append, List.nil_append]) | (refine JL_goq (k2) (hφ := (by (try simp only [List.cons_append, List.nil_append]); exact fun w hr => hK2 w hr.1)) (h := ?_); rintro _ _ ⟨r, o3, ho3, rfl, rfl⟩; try simp only [List.cons_append, List.nil_append]) | fail)) | ((with_reducible apply gL_gd); (first | (refine JL_guard xR xR ?_ ?_ <;> intro _ <;> (try (exfalso; first | contradiction | omega))) | (refine JL_guardb xR xR ?_ ?_ <;> (intro hgb; subst hgb)) | (refine JL_guardb xR xR ?_ ?_ <;> (intro hgb; fail_if_success (have : type_of% hgb := rfl))) | fail)) | fail)) | refine yJ ?_ | ((with_reducible apply gJ_if); (first | (refine J_if xR ?_ ?_ <;> intro _ <;> (try (exfalso; first | contradiction | omega))) | (refine J_ifb xR ?_ ?_ <;> (intro hgb; subst hgb)) | (refine J_ifb xR ?_ ?_ <;> intro _) | fail)) | fail))
      · exact J_again ⟨slA a c (m + 2) 1, n - (m + 2), c - (m + 2), l.drop (m + 2), o3⟩ (by dsimp only; omega) ⟨by simp only [List.length_drop]; omega, hb.drop _, by dsimp only; omega, ho3.trans ho, kn_drop hK hn (m + 2) _ (by omega) rfl⟩ ⟨rfl, rfl, trivial⟩ (fun w H => H.sel xZ)
      · exact J_ret1 rfl (by rfl) fun w H => ⟨_, ⟨_, o3, ho3.trans ho, rfl, rfl⟩, H.sel xZ⟩
end Go.Proofs.Ytfonbpmdbpdncaa
