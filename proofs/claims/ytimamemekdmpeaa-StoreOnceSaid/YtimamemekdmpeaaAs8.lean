/-
  A number's bytes, a path's bytes.
-/
import Derived.Test.YtimamemekdmpeaaAs7
import Derived.Test.YtimamemekdmpeaaJw
namespace Go.Proofs.Ytimamemekdmpeaa
set_option linter.unusedSimpArgs false
set_option linter.unusedVariables false
set_option maxRecDepth 20000
set_option maxHeartbeats 4000000
open Go.RowKit Go.Pm

def num4 (n : Int) : List Int := [n / 16777216, n / 65536 % 256, n / 256 % 256, n % 256]
abbrev Ar4 (b : Nat) (n : Int) : HP := Ar 5 1 byC (.slice (some ⟨b, 0, none⟩) 4 4) (num4 n)
theorem num_s (n : Int) (hn : U32 n) : Pact Try.prog 39 #[.int .u32 n] (fun _ => True) [] (fun u L' => ∃ b, u = .slice (some ⟨b, 0, none⟩) 4 4 ∧ L' = [Ar4 b n]) := by
  refine pact Try.func39 rfl Try.ntmps39 rfl ?_
  intro W K _
  obtain ⟨h0, h1⟩ := hn
  (repeat' (first | ((with_reducible apply gJ); (first | refine J_seq ?_ | refine J_reg ?_ | refine J_skip ?_ | refine J_block ?_ | refine J_blk ?_ | refine J_exit rfl ?_ | refine J_goto rfl ?_ | ((with_reducible apply gJ_if); (first | refine J_ift rfl ?_ | refine J_iff rfl ?_ | (refine J_if xR ?_ ?_ <;> intro _ <;> (try (exfalso; first | contradiction | omega))) | (refine J_ifb xR ?_ ?_ <;> (intro hgb; subst hgb)) | (refine J_ifb xR ?_ ?_ <;> intro _) | fail)) | refine J_label ?_ | fail)) | ((with_reducible apply gL); (first | refine JL_nil ?_ | refine L_move ?_ | refine L_assign ?_ | refine L_bin_shr ?_ | refine L_convert_u32 ?_ | refine L_convert_u8 ?_ | refine L_convert_r ?_ | ((with_reducible apply gL_buildSlice); (first | (refine JL_mc rfl xR xR (al_bs1 xR (tabE etab_ok xR) xK) ?_; intro _) | (refine JL_mc rfl xR xR (al_bs xR (tabE etab_ok xR) xN xK) ?_; intro _) | fail)) | fail)) | fail))
  rename_i b
  refine J_ret1 rfl (by rfl) fun w H => ⟨_, ⟨b, rfl, rfl⟩, ?_⟩
  refine Ow.sel (Ow.arNums (bs := num4 n) H .here ?_ rfl rfl) (by (first | ((with_reducible (repeat (first | exact Sb.nil | apply Sb.cons | exact Tk.here | apply Tk.there))); done) | (repeat (first | exact Sb.nil | apply Sb.cons | exact Tk.here | apply Tk.there))))
  unfold num4
  repeat (first | exact NumsOf.nil | (refine NumsOf.cons' ?_ ?_; omega))
def kd (b : Bool) : Int := if b then 1 else 2
theorem kind_s (s : Sg) : Pact Try.prog 46 #[.agg (sgC s).toArray] (fun _ => True) [] (ret0 (.int .u8 (kd s.set))) := by
  refine pact Try.func46 rfl Try.ntmps46 rfl ?_
  intro W K _
  (repeat' (first | ((with_reducible apply gJ); (first | refine J_seq ?_ | refine J_reg ?_ | refine J_skip ?_ | refine J_block ?_ | refine J_blk ?_ | refine J_exit rfl ?_ | refine J_goto rfl ?_ | ((with_reducible apply gJ_if); (first | refine J_ift rfl ?_ | refine J_iff rfl ?_ | (refine J_if xR ?_ ?_ <;> intro _ <;> (try (exfalso; first | contradiction | omega))) | (refine J_ifb xR ?_ ?_ <;> (intro hgb; subst hgb)) | (refine J_ifb xR ?_ ?_ <;> intro _) | fail)) | refine J_label ?_ | fail)) | ((with_reducible apply gL); (first | refine JL_nil ?_ | refine L_assign ?_ | refine L_fieldAddr ?_ | refine L_load ?_ | ((with_reducible apply gL_box); (first | (refine JL_mc rfl xR xR (al_boxA xR) ?_; intro _) | (refine JL_mc rfl xR xR (al_boxC xR xR) ?_; intro _) | fail)) | fail)) | fail))
  all_goals (rename_i hb; rw [hb]; exact J_ret1 rfl (by rfl) fun w H => ⟨_, ⟨rfl, rfl⟩, H.sel .nil⟩)
def asB (l : List Int) : List Int := l.flatMap num4
def segB (s : Bool × List Int) : List Int := kd s.1 :: (s.2.length : Int) :: asB s.2
def pB (p : List (Bool × List Int)) : List Int := p.flatMap segB
theorem asB_len (l : List Int) : (asB l).length = 4 * l.length := by
  induction l with
  | nil => rfl
  | cons x l ih =>
    have : asB (x :: l) = num4 x ++ asB l := rfl
    rw [this, List.length_append, ih]
    simp only [num4, List.length_cons, List.length_nil]
    omega
theorem pB_len (p : List (Bool × List Int)) : (pB p).length = 2 * p.length + 4 * tot p := by
  induction p with
  | nil => rfl
  | cons s p ih =>
    have : pB (s :: p) = segB s ++ pB p := rfl
    rw [this, List.length_append, ih]
    simp only [segB, List.length_cons, asB_len, tot]
    omega
theorem pB_snoc (p : List (Bool × List Int)) (s : Bool × List Int) : pB (p ++ [s]) = pB p ++ segB s := by simp [pB]
theorem asB_snoc (p : List Int) (s : Int) : asB (p ++ [s]) = asB p ++ num4 s := by simp [asB]
theorem tot_take (p : List (Bool × List Int)) (k : Nat) : tot (p.take k) ≤ tot p := by
  have : tot p = tot (p.take k) + tot (p.drop k) := by rw [← tot_append, List.take_append_drop]
  omega
/-- Bytes of the call's own, so far. -/
structure Lb where
  j : Nat
  xs : List Int
  ad : Option Addr
  c : Nat
theorem pPut_s (a : Option Addr) (c : Nat) (p : List Sg) (h8 : p.length ≤ 1000) (hsm : ∀ s ∈ p, SgN s) (hck : ckP (pN p) 0 = true) : Pact Try.prog 37 #[.slice a p.length c, .bool true] (fun w => PathV w a c p) [] (fun u L' => ∃ a' c', u = .tuple #[.slice a' (pB (pN p)).length c', .int .i64 0] ∧ L' = [Ar 5 1 byC (.slice a' (pB (pN p)).length c') (pB (pN p))]) := by
  refine pact Try.func37 rfl Try.ntmps37 rfl ?_
  intro W K hK
  have hv : Kn K (fun w => Vw w (.slice a p.length c) 2 p.length (flat sgC p)) := hK.imp fun _ h => h.vw
  obtain ⟨hok, h64⟩ := (ckP_iff (pN p) 0 (by omega)).1 hck
  have hPC := pchk_s a c p h8 hsm
  rw [hck] at hPC
  (repeat' (first | ((with_reducible apply gJ); (first | refine J_seq ?_ | refine J_reg ?_ | refine J_skip ?_ | refine J_block ?_ | refine J_blk ?_ | refine J_exit rfl ?_ | refine J_goto rfl ?_ | ((with_reducible apply gJ_if); (first | refine J_ift rfl ?_ | refine J_iff rfl ?_ | (refine J_if xR ?_ ?_ <;> intro _ <;> (try (exfalso; first | contradiction | omega))) | (refine J_ifb xR ?_ ?_ <;> (intro hgb; subst hgb)) | (refine J_ifb xR ?_ ?_ <;> intro _) | fail)) | refine J_label ?_ | refine J_draw (id := 8) [0, 1, 3, 4, 5, 6, 2, 7] [8, 9] mixed xC xD xD ?_ | fail)) | ((with_reducible apply gL); (first | refine JL_nil ?_ | refine L_move ?_ | refine L_assign ?_ | refine L_fieldAddr ?_ | refine L_load ?_ | refine L_indexAddr ?_ | refine L_c_len ?_ | refine L_bin_neq ?_ | refine L_bin_lss ?_ | refine L_bin_gtr ?_ | refine L_bin_shr ?_ | refine L_bin_add_i64 ?_ | refine L_bin_add_u32 ?_ | refine L_bin_add_u8 ?_ | refine L_bin_add_r ?_ | refine L_convert_i64 ?_ | refine L_convert_u32 ?_ | refine L_convert_u8 ?_ | refine L_convert_r ?_ | ((with_reducible apply gL_alloc); (first | (refine JL_mc rfl xR xR (al_alloc xN xK) ?_; intro _) | fail)) | ((with_reducible apply gL_buildSlice); (first | (refine JL_mc rfl xR xR (al_bs1 xR (tabE etab_ok xR) xK) ?_; intro _) | (refine JL_mc rfl xR xR (al_bs xR (tabE etab_ok xR) xN xK) ?_; intro _) | fail)) | ((with_reducible apply gL_store); (first | refine JL_st xR xR xT xC xR xE xR ?_ | refine JL_stW xR xR xT xW xR xR xR ?_ | refine JL_stS xR xR xT xW xP xR xR ?_ | refine JL_stEl xR xR xT xR xL xR (tabS stab_ok xR) xR xR xO ?_ | fail)) | ((with_reducible apply gL_c_append); (first | (refine JL_ap1 (tabE etab_ok xR) xR xR xT xT xC xR xL xR xO xR xR ?_; intro _ _ _ _) | (refine JL_app (tabE etab_ok xR) xR xR xT xV xC xL xU xO xR xR ?_; intro _ _ _ _) | fail)) | ((with_reducible apply gL_go); (first | (refine JL_goq (hPC) (hφ := (by (try simp only [List.cons_append, List.nil_append]); exact fun w hr => hK w hr.1)) (h := ?_); rintro _ _ ⟨rfl, rfl⟩; try simp only [List.cons_append, List.nil_append]) | fail)) | fail)) | ((with_reducible apply gD); (first | (refine JD_nil ?_; try simp only [List.cons_append, List.nil_append]) | (refine JD_bar ?_; try simp only [List.cons_append, List.nil_append]) | refine D_move ?_ | refine D_assign ?_ | refine D_fieldAddr ?_ | refine D_load ?_ | refine D_c_len ?_ | refine D_convert_i64 ?_ | refine D_convert_u32 ?_ | refine D_convert_u8 ?_ | refine D_convert_r ?_ | ((with_reducible apply gD_load); (first | refine JD_ldM xR xT xC xR xR ?_ | refine JD_ldWM xR xT xW xR ?_ | refine JD_ldSM xR xT (tabS stab_ok xR) xG xC xR ?_ | fail)) | ((with_reducible apply gD_buildSlice); (first | (refine JD_mc rfl xR rfl (al_bs1 xR (tabE etab_ok xR) xK) ?_; intro _) | (refine JD_mc rfl xR rfl (al_bs xR (tabE etab_ok xR) xN xK) ?_; intro _) | fail)) | ((with_reducible apply gD_c_append); (first | (refine JD_ap1 (tabE etab_ok xR) xR xR xT xT xC xR xL xR xO xR ?_; intro _ _ _ _) | (refine JD_app (tabE etab_ok xR) xR xR xT xV xC xL xU xO xR ?_; intro _ _ _ _) | fail)) | ((with_reducible apply gD_go); (first | (refine JD_goq (hPC) (hφ := (by (try simp only [List.cons_append, List.nil_append]); exact fun w hr => hK w hr.1)) (h := ?_); rintro _ _ ⟨rfl, rfl⟩; try simp only [List.cons_append, List.nil_append]) | fail)) | fail)) | fail))
  refine J_loop (α := Lb) ⟨0, [], none, 0⟩ (fun x => p.length - x.j) (fun x => x.j ≤ p.length ∧ x.xs = pB (pN (p.take x.j))) (fun x => [(0, .slice a p.length c), (1, .bool true), (17, .slice a p.length c), (18, .int .i64 p.length), (19, .int .i64 x.j), (7, .slice x.ad x.xs.length x.c)]) (fun x => [Ar 5 1 byC (.slice x.ad x.xs.length x.c) x.xs]) ⟨Nat.zero_le _, rfl⟩ ⟨rfl, rfl, rfl, rfl, rfl, rfl, trivial⟩ (fun w H => (Ow.arNil (e := 5) (sz := 1) (enc := byC) H).sel (by (first | ((with_reducible (repeat (first | exact Sb.nil | apply Sb.cons | exact Tk.here | apply Tk.there))); done) | (repeat (first | exact Sb.nil | apply Sb.cons | exact Tk.here | apply Tk.there))))) ?_
  rintro ⟨k, xs, ad, cc⟩ ⟨hk, hxs⟩
  dsimp only at hk hxs ⊢
  have hxl : xs.length ≤ 2256 := by
    have h1 := tot_take (pN p) k
    have h2 : pN (p.take k) = (pN p).take k := by simp [pN]
    rw [hxs, pB_len, h2]
    simp only [List.length_take, pN, List.length_map] at h1 ⊢
    unfold pN at h64
    omega
  by_cases hlt : k < p.length
  · obtain ⟨s, hs⟩ : ∃ s, p[k]? = some s := ⟨_, List.getElem?_eq_getElem hlt⟩
    have hm := List.mem_of_getElem? hs
    obtain ⟨hsn1, hsn2⟩ := hsm s hm
    have hos := hok (s.set, s.as_) (List.mem_map.2 ⟨s, hm, rfl⟩)
    unfold okS at hos
    obtain ⟨ho1, ho2, _⟩ := of_decide_eq_true hos
    dsimp only at ho1 ho2
    have hu : Kn K (fun w => Vw w (.slice s.a s.as_.length s.c) 1 s.as_.length (flat u32C s.as_)) := hK.imp fun _ h => h.segs s hm
    (repeat' (first | ((with_reducible apply gJ); (first | refine J_seq ?_ | refine J_reg ?_ | refine J_skip ?_ | refine J_block ?_ | refine J_blk ?_ | refine J_exit rfl ?_ | refine J_goto rfl ?_ | ((with_reducible apply gJ_if); (first | refine J_ift rfl ?_ | refine J_iff rfl ?_ | (refine J_if xR ?_ ?_ <;> intro _ <;> (try (exfalso; first | contradiction | omega))) | (refine J_ifb xR ?_ ?_ <;> (intro hgb; subst hgb)) | (refine J_ifb xR ?_ ?_ <;> intro _) | fail)) | refine J_label ?_ | refine J_draw (id := 8) [0, 1, 3, 4, 5, 6, 2, 7] [8, 9] mixed xC xD xD ?_ | fail)) | ((with_reducible apply gL); (first | refine JL_nil ?_ | ((with_reducible apply gL_c_append); (first | (refine JD_apN (bs := [kd s.set, (s.as_.length : Int)]) (tabE etab_ok xR) xR xR xA xA (by exact .cons (.cons .nil)) rfl rfl xC (by omega) xR ?_; intro ad2 cc2 _ _) | fail)) | refine L_move ?_ | refine L_assign ?_ | refine L_fieldAddr ?_ | refine L_load ?_ | refine L_indexAddr ?_ | refine L_c_len ?_ | refine L_bin_neq ?_ | refine L_bin_lss ?_ | refine L_bin_gtr ?_ | refine L_bin_shr ?_ | refine L_bin_add_i64 ?_ | refine L_bin_add_u32 ?_ | refine L_bin_add_u8 ?_ | refine L_bin_add_r ?_ | refine L_convert_i64 ?_ | refine L_convert_u32 ?_ | refine L_convert_u8 ?_ | refine L_convert_r ?_ | ((with_reducible apply gL_alloc); (first | (refine JL_mc rfl xR xR (al_alloc xN xK) ?_; intro _) | fail)) | ((with_reducible apply gL_buildSlice); (first | (refine JL_mc rfl xR xR (al_bs1 xR (tabE etab_ok xR) xK) ?_; intro _) | (refine JL_mc rfl xR xR (al_bs xR (tabE etab_ok xR) xN xK) ?_; intro _) | fail)) | ((with_reducible apply gL_store); (first | refine JL_st xR xR xT xC xR xE xR ?_ | refine JL_stW xR xR xT xW xR xR xR ?_ | refine JL_stS xR xR xT xW xP xR xR ?_ | refine JL_stEl xR xR xT xR xL xR (tabS stab_ok xR) xR xR xO ?_ | fail)) | ((with_reducible apply gL_c_append); (first | (refine JL_ap1 (tabE etab_ok xR) xR xR xT xT xC xR xL xR xO xR xR ?_; intro _ _ _ _) | (refine JL_app (tabE etab_ok xR) xR xR xT xV xC xL xU xO xR xR ?_; intro _ _ _ _) | fail)) | ((with_reducible apply gL_go); (first | (refine JL_goq (kind_s s) (hφ := xF) (h := ?_); rintro _ _ ⟨rfl, rfl⟩; try simp only [List.cons_append, List.nil_append]) | fail)) | fail)) | ((with_reducible apply gD); (first | (refine JD_nil ?_; try simp only [List.cons_append, List.nil_append]) | (refine JD_bar ?_; try simp only [List.cons_append, List.nil_append]) | ((with_reducible apply gD_c_append); (first | (refine JD_apN (bs := [kd s.set, (s.as_.length : Int)]) (tabE etab_ok xR) xR xR xA xA (by exact .cons (.cons .nil)) rfl rfl xC (by omega) xR ?_; intro ad2 cc2 _ _) | fail)) | refine D_move ?_ | refine D_assign ?_ | refine D_fieldAddr ?_ | refine D_load ?_ | refine D_c_len ?_ | refine D_convert_i64 ?_ | refine D_convert_u32 ?_ | refine D_convert_u8 ?_ | refine D_convert_r ?_ | ((with_reducible apply gD_load); (first | refine JD_ldM xR xT xC xR xR ?_ | refine JD_ldWM xR xT xW xR ?_ | refine JD_ldSM xR xT (tabS stab_ok xR) xG xC xR ?_ | fail)) | ((with_reducible apply gD_buildSlice); (first | (refine JD_mc rfl xR rfl (al_bs1 xR (tabE etab_ok xR) xK) ?_; intro _) | (refine JD_mc rfl xR rfl (al_bs xR (tabE etab_ok xR) xN xK) ?_; intro _) | fail)) | ((with_reducible apply gD_c_append); (first | (refine JD_ap1 (tabE etab_ok xR) xR xR xT xT xC xR xL xR xO xR ?_; intro _ _ _ _) | (refine JD_app (tabE etab_ok xR) xR xR xT xV xC xL xU xO xR ?_; intro _ _ _ _) | fail)) | ((with_reducible apply gD_go); (first | (refine JD_goq (kind_s s) (hφ := xF) (h := ?_); rintro _ _ ⟨rfl, rfl⟩; try simp only [List.cons_append, List.nil_append]) | fail)) | fail)) | fail))
    rename_i b9
    refine J_loop (α := Lb) ⟨0, xs ++ [kd s.set, (s.as_.length : Int)], ad2, cc2⟩ (fun x => s.as_.length - x.j) (fun x => x.j ≤ s.as_.length ∧ x.xs = xs ++ [kd s.set, (s.as_.length : Int)] ++ asB (s.as_.take x.j)) (fun x => [(0, .slice a p.length c), (1, .bool true), (17, .slice a p.length c), (18, .int .i64 p.length), (19, .int .i64 k), (33, .slice s.a s.as_.length s.c), (34, .int .i64 s.as_.length), (35, .int .i64 x.j), (7, .slice x.ad x.xs.length x.c)]) (fun x => [Ar 5 1 byC (.slice x.ad x.xs.length x.c) x.xs]) ⟨Nat.zero_le _, by simp [asB]⟩ ⟨rfl, rfl, rfl, rfl, rfl, rfl, rfl, rfl, ?_, trivial⟩ (fun w H => ?_) ?_
    · dsimp only
      rw [List.length_append]
      rfl
    · dsimp only
      rw [List.length_append]
      exact H.sel (by (first | ((with_reducible (repeat (first | exact Sb.nil | apply Sb.cons | exact Tk.here | apply Tk.there))); done) | (repeat (first | exact Sb.nil | apply Sb.cons | exact Tk.here | apply Tk.there))))
    rintro ⟨j, ys, ad3, cc3⟩ ⟨hj, hys⟩
    dsimp only at hj hys ⊢
    have hyl : ys.length ≤ 4000 := by
      rw [hys, List.length_append, List.length_append, asB_len, List.length_take]
      simp only [List.length_cons, List.length_nil]
      omega
    by_cases hjl : j < s.as_.length
    · obtain ⟨x, hx⟩ : ∃ x, s.as_[j]? = some x := ⟨_, List.getElem?_eq_getElem hjl⟩
      obtain ⟨hx0, hx1⟩ := hsn2 x (List.mem_of_getElem? hx)
      (repeat' (first | ((with_reducible apply gJ); (first | refine J_seq ?_ | refine J_reg ?_ | refine J_skip ?_ | refine J_block ?_ | refine J_blk ?_ | refine J_exit rfl ?_ | refine J_goto rfl ?_ | ((with_reducible apply gJ_if); (first | refine J_ift rfl ?_ | refine J_iff rfl ?_ | (refine J_if xR ?_ ?_ <;> intro _ <;> (try (exfalso; first | contradiction | omega))) | (refine J_ifb xR ?_ ?_ <;> (intro hgb; subst hgb)) | (refine J_ifb xR ?_ ?_ <;> intro _) | fail)) | refine J_label ?_ | refine J_draw (id := 8) [0, 1, 3, 4, 5, 6, 2, 7] [8, 9] mixed xC xD xD ?_ | fail)) | ((with_reducible apply gL); (first | refine JL_nil ?_ | ((with_reducible apply gL_c_append); (first | (refine JL_apN (tabE etab_ok xR) xR xR xA xA (by exact .cons (.cons .nil)) rfl rfl xC (by first | omega | (simp only [List.length_append, List.length_cons, List.length_nil]; omega)) xR xR ?_; intro ad4 cc4 _ _) | fail)) | refine L_move ?_ | refine L_assign ?_ | refine L_fieldAddr ?_ | refine L_load ?_ | refine L_indexAddr ?_ | refine L_c_len ?_ | refine L_bin_neq ?_ | refine L_bin_lss ?_ | refine L_bin_gtr ?_ | refine L_bin_shr ?_ | refine L_bin_add_i64 ?_ | refine L_bin_add_u32 ?_ | refine L_bin_add_u8 ?_ | refine L_bin_add_r ?_ | refine L_convert_i64 ?_ | refine L_convert_u32 ?_ | refine L_convert_u8 ?_ | refine L_convert_r ?_ | ((with_reducible apply gL_alloc); (first | (refine JL_mc rfl xR xR (al_alloc xN xK) ?_; intro _) | fail)) | ((with_reducible apply gL_buildSlice); (first | (refine JL_mc rfl xR xR (al_bs1 xR (tabE etab_ok xR) xK) ?_; intro _) | (refine JL_mc rfl xR xR (al_bs xR (tabE etab_ok xR) xN xK) ?_; intro _) | fail)) | ((with_reducible apply gL_store); (first | refine JL_st xR xR xT xC xR xE xR ?_ | refine JL_stW xR xR xT xW xR xR xR ?_ | refine JL_stS xR xR xT xW xP xR xR ?_ | refine JL_stEl xR xR xT xR xL xR (tabS stab_ok xR) xR xR xO ?_ | fail)) | ((with_reducible apply gL_c_append); (first | (refine JL_ap1 (tabE etab_ok xR) xR xR xT xT xC xR xL xR xO xR xR ?_; intro _ _ _ _) | (refine JL_app (tabE etab_ok xR) xR xR xT xV xC xL xU xO xR xR ?_; intro _ _ _ _) | fail)) | fail)) | ((with_reducible apply gD); (first | (refine JD_nil ?_; try simp only [List.cons_append, List.nil_append]) | (refine JD_bar ?_; try simp only [List.cons_append, List.nil_append]) | ((with_reducible apply gD_c_append); (first | (refine JL_apN (tabE etab_ok xR) xR xR xA xA (by exact .cons (.cons .nil)) rfl rfl xC (by first | omega | (simp only [List.length_append, List.length_cons, List.length_nil]; omega)) xR xR ?_; intro ad4 cc4 _ _) | fail)) | refine D_move ?_ | refine D_assign ?_ | refine D_fieldAddr ?_ | refine D_load ?_ | refine D_c_len ?_ | refine D_convert_i64 ?_ | refine D_convert_u32 ?_ | refine D_convert_u8 ?_ | refine D_convert_r ?_ | ((with_reducible apply gD_load); (first | refine JD_ldM xR xT xC xR xR ?_ | refine JD_ldWM xR xT xW xR ?_ | refine JD_ldSM xR xT (tabS stab_ok xR) xG xC xR ?_ | fail)) | ((with_reducible apply gD_buildSlice); (first | (refine JD_mc rfl xR rfl (al_bs1 xR (tabE etab_ok xR) xK) ?_; intro _) | (refine JD_mc rfl xR rfl (al_bs xR (tabE etab_ok xR) xN xK) ?_; intro _) | fail)) | ((with_reducible apply gD_c_append); (first | (refine JD_ap1 (tabE etab_ok xR) xR xR xT xT xC xR xL xR xO xR ?_; intro _ _ _ _) | (refine JD_app (tabE etab_ok xR) xR xR xT xV xC xL xU xO xR ?_; intro _ _ _ _) | fail)) | fail)) | fail))
      have e : ys ++ [x / 2 ^ 24, x / 2 ^ 16 % 256] ++ [x / 2 ^ 8 % 256, x % 256] = ys ++ num4 x := by simp [num4]
      refine J_again ⟨j + 1, ys ++ num4 x, ad4, cc4⟩ (by dsimp only; omega) ⟨by dsimp only; omega, ?_⟩ ⟨rfl, rfl, rfl, rfl, rfl, rfl, rfl, rfl, ?_, trivial⟩ (fun w H => ?_)
      · dsimp only
        rw [take_snoc hx, asB_snoc, hys]
        simp
      · dsimp only
        rw [← e]
        simp only [List.length_append, List.length_cons, List.length_nil]
        rfl
      · dsimp only
        rw [← e]
        simp only [List.length_append, List.length_cons, List.length_nil] at H ⊢
        exact H.sel (by (first | ((with_reducible (repeat (first | exact Sb.nil | apply Sb.cons | exact Tk.here | apply Tk.there))); done) | (repeat (first | exact Sb.nil | apply Sb.cons | exact Tk.here | apply Tk.there))))
    · have hje : j = s.as_.length := by omega
      rw [hje, List.take_length] at hys
      (repeat' (first | ((with_reducible apply gJ); (first | refine J_seq ?_ | refine J_reg ?_ | refine J_skip ?_ | refine J_block ?_ | refine J_blk ?_ | refine J_exit rfl ?_ | refine J_goto rfl ?_ | ((with_reducible apply gJ_if); (first | refine J_ift rfl ?_ | refine J_iff rfl ?_ | (refine J_if xR ?_ ?_ <;> intro _ <;> (try (exfalso; first | contradiction | omega))) | (refine J_ifb xR ?_ ?_ <;> (intro hgb; subst hgb)) | (refine J_ifb xR ?_ ?_ <;> intro _) | fail)) | refine J_label ?_ | refine J_draw (id := 8) [0, 1, 3, 4, 5, 6, 2, 7] [8, 9] mixed xC xD xD ?_ | fail)) | ((with_reducible apply gL); (first | refine JL_nil ?_ | refine L_move ?_ | refine L_assign ?_ | refine L_fieldAddr ?_ | refine L_load ?_ | refine L_indexAddr ?_ | refine L_c_len ?_ | refine L_bin_neq ?_ | refine L_bin_lss ?_ | refine L_bin_gtr ?_ | refine L_bin_shr ?_ | refine L_bin_add_i64 ?_ | refine L_bin_add_u32 ?_ | refine L_bin_add_u8 ?_ | refine L_bin_add_r ?_ | refine L_convert_i64 ?_ | refine L_convert_u32 ?_ | refine L_convert_u8 ?_ | refine L_convert_r ?_ | ((with_reducible apply gL_alloc); (first | (refine JL_mc rfl xR xR (al_alloc xN xK) ?_; intro _) | fail)) | ((with_reducible apply gL_buildSlice); (first | (refine JL_mc rfl xR xR (al_bs1 xR (tabE etab_ok xR) xK) ?_; intro _) | (refine JL_mc rfl xR xR (al_bs xR (tabE etab_ok xR) xN xK) ?_; intro _) | fail)) | ((with_reducible apply gL_store); (first | refine JL_st xR xR xT xC xR xE xR ?_ | refine JL_stW xR xR xT xW xR xR xR ?_ | refine JL_stS xR xR xT xW xP xR xR ?_ | refine JL_stEl xR xR xT xR xL xR (tabS stab_ok xR) xR xR xO ?_ | fail)) | ((with_reducible apply gL_c_append); (first | (refine JL_ap1 (tabE etab_ok xR) xR xR xT xT xC xR xL xR xO xR xR ?_; intro _ _ _ _) | (refine JL_app (tabE etab_ok xR) xR xR xT xV xC xL xU xO xR xR ?_; intro _ _ _ _) | fail)) | fail)) | ((with_reducible apply gD); (first | (refine JD_nil ?_; try simp only [List.cons_append, List.nil_append]) | (refine JD_bar ?_; try simp only [List.cons_append, List.nil_append]) | refine D_move ?_ | refine D_assign ?_ | refine D_fieldAddr ?_ | refine D_load ?_ | refine D_c_len ?_ | refine D_convert_i64 ?_ | refine D_convert_u32 ?_ | refine D_convert_u8 ?_ | refine D_convert_r ?_ | ((with_reducible apply gD_load); (first | refine JD_ldM xR xT xC xR xR ?_ | refine JD_ldWM xR xT xW xR ?_ | refine JD_ldSM xR xT (tabS stab_ok xR) xG xC xR ?_ | fail)) | ((with_reducible apply gD_buildSlice); (first | (refine JD_mc rfl xR rfl (al_bs1 xR (tabE etab_ok xR) xK) ?_; intro _) | (refine JD_mc rfl xR rfl (al_bs xR (tabE etab_ok xR) xN xK) ?_; intro _) | fail)) | ((with_reducible apply gD_c_append); (first | (refine JD_ap1 (tabE etab_ok xR) xR xR xT xT xC xR xL xR xO xR ?_; intro _ _ _ _) | (refine JD_app (tabE etab_ok xR) xR xR xT xV xC xL xU xO xR ?_; intro _ _ _ _) | fail)) | fail)) | fail))
      refine J_again ⟨k + 1, ys, ad3, cc3⟩ (by dsimp only; omega) ⟨by dsimp only; omega, ?_⟩ ⟨rfl, rfl, rfl, rfl, rfl, rfl, trivial⟩ (fun w H => H.sel (by (first | ((with_reducible (repeat (first | exact Sb.nil | apply Sb.cons | exact Tk.here | apply Tk.there))); done) | (repeat (first | exact Sb.nil | apply Sb.cons | exact Tk.here | apply Tk.there)))))
      dsimp only
      rw [take_snoc hs]
      unfold pN at hxs ⊢
      rw [List.map_append, List.map_cons, List.map_nil, pB_snoc, ← hxs, hys]
      simp [segB]
  · have hke : k = p.length := by omega
    rw [hke, List.take_length] at hxs
    subst hxs
    (repeat' (first | ((with_reducible apply gJ); (first | refine J_seq ?_ | refine J_reg ?_ | refine J_skip ?_ | refine J_block ?_ | refine J_blk ?_ | refine J_exit rfl ?_ | refine J_goto rfl ?_ | ((with_reducible apply gJ_if); (first | refine J_ift rfl ?_ | refine J_iff rfl ?_ | (refine J_if xR ?_ ?_ <;> intro _ <;> (try (exfalso; first | contradiction | omega))) | (refine J_ifb xR ?_ ?_ <;> (intro hgb; subst hgb)) | (refine J_ifb xR ?_ ?_ <;> intro _) | fail)) | refine J_label ?_ | refine J_draw (id := 8) [0, 1, 3, 4, 5, 6, 2, 7] [8, 9] mixed xC xD xD ?_ | fail)) | ((with_reducible apply gL); (first | refine JL_nil ?_ | refine L_move ?_ | refine L_assign ?_ | refine L_fieldAddr ?_ | refine L_load ?_ | refine L_indexAddr ?_ | refine L_c_len ?_ | refine L_bin_neq ?_ | refine L_bin_lss ?_ | refine L_bin_gtr ?_ | refine L_bin_shr ?_ | refine L_bin_add_i64 ?_ | refine L_bin_add_u32 ?_ | refine L_bin_add_u8 ?_ | refine L_bin_add_r ?_ | refine L_convert_i64 ?_ | refine L_convert_u32 ?_ | refine L_convert_u8 ?_ | refine L_convert_r ?_ | ((with_reducible apply gL_alloc); (first | (refine JL_mc rfl xR xR (al_alloc xN xK) ?_; intro _) | fail)) | ((with_reducible apply gL_buildSlice); (first | (refine JL_mc rfl xR xR (al_bs1 xR (tabE etab_ok xR) xK) ?_; intro _) | (refine JL_mc rfl xR xR (al_bs xR (tabE etab_ok xR) xN xK) ?_; intro _) | fail)) | ((with_reducible apply gL_store); (first | refine JL_st xR xR xT xC xR xE xR ?_ | refine JL_stW xR xR xT xW xR xR xR ?_ | refine JL_stS xR xR xT xW xP xR xR ?_ | refine JL_stEl xR xR xT xR xL xR (tabS stab_ok xR) xR xR xO ?_ | fail)) | ((with_reducible apply gL_c_append); (first | (refine JL_ap1 (tabE etab_ok xR) xR xR xT xT xC xR xL xR xO xR xR ?_; intro _ _ _ _) | (refine JL_app (tabE etab_ok xR) xR xR xT xV xC xL xU xO xR xR ?_; intro _ _ _ _) | fail)) | fail)) | ((with_reducible apply gD); (first | (refine JD_nil ?_; try simp only [List.cons_append, List.nil_append]) | (refine JD_bar ?_; try simp only [List.cons_append, List.nil_append]) | refine D_move ?_ | refine D_assign ?_ | refine D_fieldAddr ?_ | refine D_load ?_ | refine D_c_len ?_ | refine D_convert_i64 ?_ | refine D_convert_u32 ?_ | refine D_convert_u8 ?_ | refine D_convert_r ?_ | ((with_reducible apply gD_load); (first | refine JD_ldM xR xT xC xR xR ?_ | refine JD_ldWM xR xT xW xR ?_ | refine JD_ldSM xR xT (tabS stab_ok xR) xG xC xR ?_ | fail)) | ((with_reducible apply gD_buildSlice); (first | (refine JD_mc rfl xR rfl (al_bs1 xR (tabE etab_ok xR) xK) ?_; intro _) | (refine JD_mc rfl xR rfl (al_bs xR (tabE etab_ok xR) xN xK) ?_; intro _) | fail)) | ((with_reducible apply gD_c_append); (first | (refine JD_ap1 (tabE etab_ok xR) xR xR xT xT xC xR xL xR xO xR ?_; intro _ _ _ _) | (refine JD_app (tabE etab_ok xR) xR xR xT xV xC xL xU xO xR ?_; intro _ _ _ _) | fail)) | fail)) | fail))
    exact J_ret2 rfl (by rfl) (by rfl) fun w H => ⟨_, ⟨ad, cc, rfl, rfl⟩, H.sel (by (first | ((with_reducible (repeat (first | exact Sb.nil | apply Sb.cons | exact Tk.here | apply Tk.there))); done) | (repeat (first | exact Sb.nil | apply Sb.cons | exact Tk.here | apply Tk.there))))⟩
end Go.Proofs.Ytimamemekdmpeaa
