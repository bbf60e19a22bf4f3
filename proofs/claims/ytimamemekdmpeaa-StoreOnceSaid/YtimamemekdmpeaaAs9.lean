/-
  The writer of attributes.
-/
import Derived.Test.YtimamemekdmpeaaAs8
namespace Go.Proofs.Ytimamemekdmpeaa
set_option linter.unusedSimpArgs false
set_option linter.unusedVariables false
set_option maxRecDepth 20000
set_option maxHeartbeats 4000000
open Go.RowKit Go.Pm

/-- A writer and what it wrote. -/
def wrO (wb : Nat) (l : List Int) : HP := fun h => ∃ (ad : Option Addr) (cc : Nat), sats [pts wb [.slice ad l.length cc] 85, Ar 5 1 byC (.slice ad l.length cc) l] h
theorem wrOpen {W : World} {K : Hl} {L R : List HP} {w : World} {wb : Nat} {l : List Int} (H : Ow W K L w) (t : Tk L (wrO wb l) R) : ∃ x : Option Addr × Nat, Ow W K (pts wb [.slice x.1 l.length x.2] 85 :: Ar 5 1 byC (.slice x.1 l.length x.2) l :: R) w := by
  have := H.open t (Bs := fun x : Option Addr × Nat => [pts wb [.slice x.1 l.length x.2] 85, Ar 5 1 byC (.slice x.1 l.length x.2) l]) (fun k ⟨a, c, h⟩ => ⟨(a, c), h⟩)
  exact this
theorem wrShut {W : World} {K : Hl} {L R : List HP} {w : World} {wb m : Nat} {l : List Int} {ad : Option Addr} {cc : Nat} (H : Ow W K L w) (t : Sb L [pts wb [.slice ad m cc] 85, Ar 5 1 byC (.slice ad m cc) l] R) (hm : l.length = m) : Ow W K (wrO wb l :: R) w := by
  subst hm
  exact H.shut t (fun k hk => ⟨ad, cc, hk⟩)
def orF (f : Int) : Int := Go.bits .or .u8 f 16
/-- An attribute's bytes. -/
def putB (f k : Int) (d : List Int) : List Int := (if 255 < d.length then [orF f, k, (d.length : Int) / 256, (d.length : Int) % 256] else [f, k, (d.length : Int)]) ++ d
theorem put_s (wb : Nat) (l : List Int) (f k : Int) (a : Option Addr) (c : Nat) (p : List Bs) (hk : 0 ≤ k ∧ k ≤ 255) (hp : p.length ≤ 1000) (hd : (catB p).length ≤ 65535) (hl : l.length ≤ 1000000000) : Pact Try.prog 42 #[.pointer (some ⟨wb, 0, none⟩), .int .u8 f, .int .i64 k, .slice a p.length c] (fun w => PartsV w a c p) [wrO wb l] (fun u L' => L' = [wrO wb (l ++ putB f k (catB p))]) := by
  refine pact Try.func42 rfl Try.ntmps42 rfl ?_
  intro W K hK
  obtain ⟨hk1, hk2⟩ := hk
  refine J_open (fun w H => wrOpen H .here) ?_
  rintro ⟨ad, cc⟩
  dsimp only
  obtain ⟨d, hD⟩ : ∃ d, catB p = d := ⟨_, rfl⟩
  have hcon := concat_s a c p hp (by omega)
  rw [hD] at hcon hd ⊢
  (repeat' (first | ((with_reducible apply gJ); (first | refine J_seq ?_ | refine J_reg ?_ | refine J_skip ?_ | refine J_block ?_ | refine J_blk ?_ | refine J_exit rfl ?_ | refine J_goto rfl ?_ | ((with_reducible apply gJ_if); (first | refine J_ift rfl ?_ | refine J_iff rfl ?_ | (refine J_if xR ?_ ?_ <;> intro _ <;> (try (exfalso; first | contradiction | omega))) | (refine J_ifb xR ?_ ?_ <;> (intro hgb; subst hgb)) | (refine J_ifb xR ?_ ?_ <;> intro _) | fail)) | refine J_label ?_ | fail)) | ((with_reducible apply gL); (first | refine JL_nil ?_ | ((with_reducible apply gL_c_append); (first | (refine JL_apN (tabE etab_ok xR) xR xR xA xA (by first | exact .cons (.cons (.cons (.cons .nil))) | exact .cons (.cons (.cons .nil))) rfl rfl xC (by omega) xR xR ?_; intro ad4 cc4 _ _) | (refine JL_app (fs := d) (tabE etab_ok xR) xR xR xA (Src.ar xA) xC xL xU (by simp only [List.length_append, List.length_cons, List.length_nil]; omega) xR xR ?_; intro ad5 cc5 _ _) | fail)) | refine L_move ?_ | refine L_assign ?_ | refine L_fieldAddr ?_ | refine L_load ?_ | refine L_nilCheck ?_ | refine L_c_len ?_ | refine L_bin_gtr ?_ | refine L_bin_shr ?_ | refine L_bin_or ?_ | refine L_convert_i64 ?_ | refine L_convert_u8 ?_ | refine L_convert_r ?_ | ((with_reducible apply gL_buildSlice); (first | (refine JL_mc rfl xR xR (al_bs1 xR (tabE etab_ok xR) xK) ?_; intro _) | (refine JL_mc rfl xR xR (al_bs xR (tabE etab_ok xR) xN xK) ?_; intro _) | fail)) | ((with_reducible apply gL_store); (first | refine JL_st xR xR xT xC xR xE xR ?_ | refine JL_stW xR xR xT xW xR xR xR ?_ | refine JL_stS xR xR xT xW xP xR xR ?_ | refine JL_stEl xR xR xT xR xL xR (tabS stab_ok xR) xR xR xO ?_ | fail)) | ((with_reducible apply gL_c_append); (first | (refine JL_ap1 (tabE etab_ok xR) xR xR xT xT xC xR xL xR xO xR xR ?_; intro _ _ _ _) | (refine JL_app (tabE etab_ok xR) xR xR xT xV xC xL xU xO xR xR ?_; intro _ _ _ _) | fail)) | ((with_reducible apply gL_go); (first | (refine JL_goq (hcon) (hφ := (by (try simp only [List.cons_append, List.nil_append]); exact fun w hr => hK w hr.1)) (h := ?_); rintro _ _ ⟨a1, c1, rfl, rfl⟩; try simp only [List.cons_append, List.nil_append]) | fail)) | fail)) | fail))
  · have e : l ++ putB f k d = l ++ [bits .or .u8 f 16, k, (d.length : Int) / 2 ^ (7 + 1), (d.length : Int) % 256] ++ d := by
      unfold putB orF
      rw [if_pos (by omega)]
      simp
    refine J_end0 rfl fun w H => ⟨_, rfl, ?_⟩
    rw [e]
    exact (wrShut (ad := ad5) (cc := cc5) H (by (first | ((with_reducible (repeat (first | exact Sb.nil | apply Sb.cons | exact Tk.here | apply Tk.there))); done) | (repeat (first | exact Sb.nil | apply Sb.cons | exact Tk.here | apply Tk.there)))) List.length_append).sel (by (first | ((with_reducible (repeat (first | exact Sb.nil | apply Sb.cons | exact Tk.here | apply Tk.there))); done) | (repeat (first | exact Sb.nil | apply Sb.cons | exact Tk.here | apply Tk.there))))
  · have e : l ++ putB f k d = l ++ [f, k, (d.length : Int)] ++ d := by
      unfold putB
      rw [if_neg (by omega)]
      simp
    refine J_end0 rfl fun w H => ⟨_, rfl, ?_⟩
    rw [e]
    exact (wrShut (ad := ad5) (cc := cc5) H (by (first | ((with_reducible (repeat (first | exact Sb.nil | apply Sb.cons | exact Tk.here | apply Tk.there))); done) | (repeat (first | exact Sb.nil | apply Sb.cons | exact Tk.here | apply Tk.there)))) List.length_append).sel (by (first | ((with_reducible (repeat (first | exact Sb.nil | apply Sb.cons | exact Tk.here | apply Tk.there))); done) | (repeat (first | exact Sb.nil | apply Sb.cons | exact Tk.here | apply Tk.there))))
theorem usual_s (wb : Nat) (l : List Int) (k : Int) (a : Option Addr) (c : Nat) (p : List Bs) (hk : 0 ≤ k ∧ k ≤ 255) (hkn : kno k = true) (hp : p.length ≤ 1000) (hd : (catB p).length ≤ 65535) (hl : l.length ≤ 1000000000) : Pact Try.prog 38 #[.pointer (some ⟨wb, 0, none⟩), .int .i64 k, .slice a p.length c] (fun w => PartsV w a c p) [wrO wb l] (fun u L' => L' = [wrO wb (l ++ putB (fl k) k (catB p))]) := by
  refine pact Try.func38 rfl Try.ntmps38 rfl ?_
  intro W K hK
  have hkk := known_s k
  rw [hkn] at hkk
  (repeat' (first | ((with_reducible apply gJ); (first | refine J_seq ?_ | refine J_reg ?_ | refine J_skip ?_ | refine J_block ?_ | refine J_blk ?_ | refine J_exit rfl ?_ | refine J_goto rfl ?_ | ((with_reducible apply gJ_if); (first | refine J_ift rfl ?_ | refine J_iff rfl ?_ | (refine J_if xR ?_ ?_ <;> intro _ <;> (try (exfalso; first | contradiction | omega))) | (refine J_ifb xR ?_ ?_ <;> (intro hgb; subst hgb)) | (refine J_ifb xR ?_ ?_ <;> intro _) | fail)) | refine J_label ?_ | fail)) | ((with_reducible apply gL); (first | refine JL_nil ?_ | refine L_move ?_ | refine L_assign ?_ | refine L_extract ?_ | ((with_reducible apply gL_go); (first | (refine JL_goq (hkk) (hφ := xF) (h := ?_); rintro _ _ ⟨f, rfl, hf, rfl⟩; try simp only [List.cons_append, List.nil_append]) | (refine JL_goq (put_s wb l f k a c p hk hp hd hl) (hφ := (by (try simp only [List.cons_append, List.nil_append]); exact fun w hr => hK w hr.1)) (h := ?_); rintro _ _ rfl; try simp only [List.cons_append, List.nil_append]) | fail)) | fail)) | fail))
  obtain rfl := hf rfl
  exact J_end0 rfl fun w H => ⟨_, rfl, H.sel (by (first | ((with_reducible (repeat (first | exact Sb.nil | apply Sb.cons | exact Tk.here | apply Tk.there))); done) | (repeat (first | exact Sb.nil | apply Sb.cons | exact Tk.here | apply Tk.there))))⟩
end Go.Proofs.Ytimamemekdmpeaa
