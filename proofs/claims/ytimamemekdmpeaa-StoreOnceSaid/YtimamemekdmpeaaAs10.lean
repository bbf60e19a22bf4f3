/-
  Attributes' bytes.
-/
import Derived.Test.YtimamemekdmpeaaAs9
namespace Go.Proofs.Ytimamemekdmpeaa
set_option linter.unusedSimpArgs false
set_option linter.unusedVariables false
set_option maxRecDepth 20000
set_option maxHeartbeats 4000000
open Go.RowKit Go.Pm

abbrev Tl := Int × Int × List Int
def tlB (t : Tl) : List Int := putB t.1 t.2.1 t.2.2
def tlsB (l : List Tl) : List Int := l.flatMap tlB
theorem tlsB_append (l m : List Tl) : tlsB (l ++ m) = tlsB l ++ tlsB m := by simp [tlsB]
def medT (x : Nf) : List Tl := match x.med with | none => [] | some m => [(128, 4, num4 m)]
def atomT (x : Nf) : List Tl := if x.atomic then [(64, 6, [])] else []
def makT (x : Nf) : List Tl := match x.maker with | none => [] | some m => [(192, 7, num4 m.1 ++ num4 m.2)]
def comT (x : Nf) : List Tl := if x.comms.length = 0 then [] else [(192, 8, asB x.comms)]
structure Lq where
  q : List Bs
  ad : Option Addr
  c : Nat
theorem partsNil (w : World) : PartsV w none 0 [] := ⟨Vw.nil w 1, fun _ h => absurd h List.not_mem_nil⟩
theorem parts1 {K : Hl} {R R1 R2 : List HP} {w : World} {g n c : Nat} {a : Option Addr} {l : List Int} {T : TypeId} (hr : Rdw K R w) (t1 : Tk R (pts g [.slice a n c] T) R1) (t2 : Tk R (Ar 5 1 byC (.slice a n c) l) R2) (hn : l.length = n) : PartsV w (some ⟨g, 0, none⟩) 1 [⟨a, c, l⟩] := by
  subst hn
  refine ⟨Src.lit (sz := 1) (m := 1) t1 rfl (by decide) w hr, fun s hs => ?_⟩
  obtain rfl := List.mem_singleton.1 hs
  exact Src.ar t2 w hr
theorem parts2 {K : Hl} {R R1 R2 R3 : List HP} {w : World} {g n c n' c' : Nat} {a a' : Option Addr} {l l' : List Int} {T : TypeId} (hr : Rdw K R w) (t1 : Tk R (pts g [.slice a n c, .slice a' n' c'] T) R1) (t2 : Tk R (Ar 5 1 byC (.slice a n c) l) R2) (t3 : Tk R (Ar 5 1 byC (.slice a' n' c') l') R3) (hn : l.length = n) (hn' : l'.length = n') : PartsV w (some ⟨g, 0, none⟩) 2 [⟨a, c, l⟩, ⟨a', c', l'⟩] := by
  subst hn hn'
  refine ⟨Src.lit (sz := 1) (m := 2) t1 rfl (by decide) w hr, fun s hs => ?_⟩
  rcases List.mem_cons.1 hs with rfl | hs
  · exact Src.ar t2 w hr
  · obtain rfl := List.mem_singleton.1 hs
    exact Src.ar t3 w hr
theorem tlsB_len (l : List Tl) : (tlsB l).length ≤ (l.map fun t => 4 + t.2.2.length).sum := by
  induction l with
  | nil => exact Nat.le_refl _
  | cons t l ih =>
    have : tlsB (t :: l) = tlB t ++ tlsB l := rfl
    rw [this, List.length_append, List.map_cons, List.sum_cons]
    have : (tlB t).length ≤ 4 + t.2.2.length := by
      unfold tlB putB
      split <;> simp <;> omega
    omega
theorem num4_len (n : Int) : (num4 n).length = 4 := rfl
theorem sys_s (n : Int) (hn : U32 n) : Pact Try.prog 48 #[.int .u32 n, .bool true] (fun _ => True) [] (fun u L' => ∃ b, u = .slice (some ⟨b, 0, none⟩) 4 4 ∧ L' = [Ar4 b n]) := by
  refine pact Try.func48 rfl Try.ntmps48 rfl ?_
  intro W K _
  (repeat' (first | ((with_reducible apply gJ); (first | refine J_seq ?_ | refine J_reg ?_ | refine J_skip ?_ | refine J_block ?_ | refine J_blk ?_ | refine J_exit rfl ?_ | refine J_goto rfl ?_ | ((with_reducible apply gJ_if); (first | refine J_ift rfl ?_ | refine J_iff rfl ?_ | (refine J_if xR ?_ ?_ <;> intro _ <;> (try (exfalso; first | contradiction | omega))) | (refine J_ifb xR ?_ ?_ <;> (intro hgb; subst hgb)) | (refine J_ifb xR ?_ ?_ <;> intro _) | fail)) | refine J_label ?_ | fail)) | ((with_reducible apply gL); (first | refine JL_nil ?_ | refine L_move ?_ | refine L_assign ?_ | refine L_bin_gtr ?_ | refine L_slice ?_ | ((with_reducible apply gL_go); (first | (refine JL_goq (num_s n hn) (hφ := xF) (h := ?_); rintro _ _ ⟨b, rfl, rfl⟩; try simp only [List.cons_append, List.nil_append]) | fail)) | fail)) | fail))
  exact J_ret1 rfl (by rfl) fun w H => ⟨_, ⟨_, rfl, rfl⟩, H.sel (by (first | ((with_reducible (repeat (first | exact Sb.nil | apply Sb.cons | exact Tk.here | apply Tk.there))); done) | (repeat (first | exact Sb.nil | apply Sb.cons | exact Tk.here | apply Tk.there))))⟩
theorem medT_len (x : Nf) : (tlsB (medT x)).length ≤ 100 := by
  refine Nat.le_trans (tlsB_len _) ?_
  unfold medT
  split <;> simp [num4]
theorem atomT_len (x : Nf) : (tlsB (atomT x)).length ≤ 100 := by
  refine Nat.le_trans (tlsB_len _) ?_
  unfold atomT
  split <;> simp
theorem makT_len (x : Nf) : (tlsB (makT x)).length ≤ 100 := by
  refine Nat.le_trans (tlsB_len _) ?_
  unfold makT
  split <;> simp [num4]
theorem perhaps_s (wb : Nat) (l : List Int) (d : At) (hd : AtF d) (hl : l.length ≤ 1000000) : Pact Try.prog 40 #[.pointer (some ⟨wb, 0, none⟩), .agg (atC d).toArray, .bool true] (fun w => AtV w d) [wrO wb l] (fun u L' => L' = [wrO wb (l ++ tlsB (medT d.nf ++ atomT d.nf ++ makT d.nf ++ comT d.nf))]) := by
  refine pact Try.func40 rfl Try.ntmps40 rfl ?_
  intro W K hK
  have hd2 := hd.comms
  have hc : Kn K (fun w => Vw w (.slice d.ca d.comms.length d.cc) 1 d.comms.length (flat u32C d.comms)) := hK.imp fun _ h => h.comms
  obtain ⟨l1, hl1⟩ : ∃ l1, l ++ tlsB (medT d.nf) = l1 := ⟨_, rfl⟩
  have hn1 : l1.length ≤ 1000000 + 100 := by have := medT_len d.nf; rw [← hl1, List.length_append]; omega
  obtain ⟨l2, hl2⟩ : ∃ l2, l1 ++ tlsB (atomT d.nf) = l2 := ⟨_, rfl⟩
  have hn2 : l2.length ≤ 1000000 + 200 := by have := atomT_len d.nf; rw [← hl2, List.length_append]; omega
  obtain ⟨l3, hl3⟩ : ∃ l3, l2 ++ tlsB (makT d.nf) = l3 := ⟨_, rfl⟩
  have hn3 : l3.length ≤ 1000000 + 300 := by have := makT_len d.nf; rw [← hl3, List.length_append]; omega
  have hfin : l ++ tlsB (medT d.nf ++ atomT d.nf ++ makT d.nf ++ comT d.nf) = l3 ++ tlsB (comT d.nf) := by
    rw [← hl3, ← hl2, ← hl1]
    simp [tlsB_append]
  rw [hfin]
  (iterate 4 (first | ((with_reducible apply gJ); (first | refine J_seq ?_ | refine J_reg ?_ | refine J_skip ?_ | refine J_block ?_ | refine J_blk ?_ | refine J_exit rfl ?_ | refine J_goto rfl ?_ | ((with_reducible apply gJ_if); (first | refine J_ift rfl ?_ | refine J_iff rfl ?_ | (refine J_if xR ?_ ?_ <;> intro _ <;> (try (exfalso; first | contradiction | omega))) | (refine J_ifb xR ?_ ?_ <;> (intro hgb; subst hgb)) | (refine J_ifb xR ?_ ?_ <;> intro _) | fail)) | refine J_label ?_ | refine J_draw (id := 6) [0, 1, 2, 3, 5, 6, 4, 7, 8] [9] mixed xC xD xD ?_ | fail)) | ((with_reducible apply gL); (first | refine JL_nil ?_ | refine L_move ?_ | refine L_assign ?_ | refine L_fieldAddr ?_ | refine L_load ?_ | refine L_indexAddr ?_ | refine L_c_len ?_ | refine L_bin_lss ?_ | refine L_bin_gtr ?_ | refine L_bin_add_i64 ?_ | refine L_bin_add_r ?_ | ((with_reducible apply gL_box); (first | (refine JL_mc rfl xR xR (al_boxA xR) ?_; intro _) | (refine JL_mc rfl xR xR (al_boxC xR xR) ?_; intro _) | fail)) | ((with_reducible apply gL_buildSlice); (first | (refine JL_mc rfl xR xR (al_bs1 xR (tabE etab_ok xR) xK) ?_; intro _) | (refine JL_mc rfl xR xR (al_bs xR (tabE etab_ok xR) xN xK) ?_; intro _) | fail)) | ((with_reducible apply gL_c_append); (first | (refine JL_ap1 (tabE etab_ok xR) xR xR xT xT xC xR xL xR xO xR xR ?_; intro _ _ _ _) | (refine JL_app (tabE etab_ok xR) xR xR xT xV xC xL xU xO xR xR ?_; intro _ _ _ _) | fail)) | fail)) | ((with_reducible apply gD); (first | (refine JD_nil ?_; try simp only [List.cons_append, List.nil_append]) | (refine JD_bar ?_; try simp only [List.cons_append, List.nil_append]) | refine D_move ?_ | refine D_fieldAddr ?_ | refine D_load ?_ | ((with_reducible apply gD_load); (first | refine JD_ldM xR xT xC xR xR ?_ | refine JD_ldWM xR xT xW xR ?_ | refine JD_ldSM xR xT (tabS stab_ok xR) xG xC xR ?_ | fail)) | ((with_reducible apply gD_buildSlice); (first | (refine JD_mc rfl xR rfl (al_bs1 xR (tabE etab_ok xR) xK) ?_; intro _) | (refine JD_mc rfl xR rfl (al_bs xR (tabE etab_ok xR) xN xK) ?_; intro _) | fail)) | fail)) | fail))
  rename_i b0
  refine J_seq ?_
  refine J_cut (α := Unit) (fun _ => True) (fun _ => [(0, .pointer (some ⟨wb, 0, none⟩)), (2, .bool true), (4, .pointer (some ⟨b0, 0, none⟩))]) (fun _ => [pts b0 (atC d) 28, wrO wb l1]) ?_ (fun _ _ => ?_)
  · (repeat' (first | ((with_reducible apply gJ); (first | refine J_seq ?_ | refine J_reg ?_ | refine J_skip ?_ | refine J_block ?_ | refine J_blk ?_ | refine J_exit rfl ?_ | refine J_goto rfl ?_ | ((with_reducible apply gJ_if); (first | refine J_ift rfl ?_ | refine J_iff rfl ?_ | (refine J_if xR ?_ ?_ <;> intro _ <;> (try (exfalso; first | contradiction | omega))) | (refine J_ifb xR ?_ ?_ <;> (intro hgb; subst hgb)) | (refine J_ifb xR ?_ ?_ <;> intro _) | fail)) | refine J_label ?_ | refine J_draw (id := 6) [0, 1, 2, 3, 5, 6, 4, 7, 8] [9] mixed xC xD xD ?_ | fail)) | ((with_reducible apply gL); (first | refine JL_nil ?_ | refine L_move ?_ | refine L_assign ?_ | refine L_fieldAddr ?_ | refine L_load ?_ | refine L_indexAddr ?_ | refine L_c_len ?_ | refine L_bin_lss ?_ | refine L_bin_gtr ?_ | refine L_bin_add_i64 ?_ | refine L_bin_add_r ?_ | ((with_reducible apply gL_box); (first | (refine JL_mc rfl xR xR (al_boxA xR) ?_; intro _) | (refine JL_mc rfl xR xR (al_boxC xR xR) ?_; intro _) | fail)) | ((with_reducible apply gL_buildSlice); (first | (refine JL_mc rfl xR xR (al_bs1 xR (tabE etab_ok xR) xK) ?_; intro _) | (refine JL_mc rfl xR xR (al_bs xR (tabE etab_ok xR) xN xK) ?_; intro _) | fail)) | ((with_reducible apply gL_c_append); (first | (refine JL_ap1 (tabE etab_ok xR) xR xR xT xT xC xR xL xR xO xR xR ?_; intro _ _ _ _) | (refine JL_app (tabE etab_ok xR) xR xR xT xV xC xL xU xO xR xR ?_; intro _ _ _ _) | fail)) | ((with_reducible apply gL_go); (first | (refine JL_goq (num_s d.med hd.num.med) (hφ := xF) (h := ?_); rintro _ _ ⟨b1, rfl, rfl⟩; try simp only [List.cons_append, List.nil_append]) | (refine JL_goq (usual_s wb l 4 _ 1 [⟨some ⟨b1, 0, none⟩, 4, num4 d.med⟩] (by decide) (by decide) (by simp) (by simp [catB, num4]) (by omega)) (hφ := (by (try simp only [List.cons_append, List.nil_append]); exact fun w hr => parts1 (n := 4) hr (by (first | ((with_reducible (repeat (first | exact Tk.here | apply Tk.there))); done) | ((simp only [List.cons_append, List.nil_append]); (with_reducible (repeat (first | exact Tk.here | apply Tk.there))); done) | fail)) (by (first | ((with_reducible (repeat (first | exact Tk.here | apply Tk.there))); done) | ((simp only [List.cons_append, List.nil_append]); (with_reducible (repeat (first | exact Tk.here | apply Tk.there))); done) | fail)) rfl)) (h := ?_); rintro _ _ rfl; try simp only [List.cons_append, List.nil_append]) | fail)) | fail)) | ((with_reducible apply gD); (first | (refine JD_nil ?_; try simp only [List.cons_append, List.nil_append]) | (refine JD_bar ?_; try simp only [List.cons_append, List.nil_append]) | refine D_move ?_ | refine D_fieldAddr ?_ | refine D_load ?_ | ((with_reducible apply gD_load); (first | refine JD_ldM xR xT xC xR xR ?_ | refine JD_ldWM xR xT xW xR ?_ | refine JD_ldSM xR xT (tabS stab_ok xR) xG xC xR ?_ | fail)) | ((with_reducible apply gD_buildSlice); (first | (refine JD_mc rfl xR rfl (al_bs1 xR (tabE etab_ok xR) xK) ?_; intro _) | (refine JD_mc rfl xR rfl (al_bs xR (tabE etab_ok xR) xN xK) ?_; intro _) | fail)) | ((with_reducible apply gD_go); (first | (refine JD_goq (num_s d.med hd.num.med) (hφ := xF) (h := ?_); rintro _ _ ⟨b1, rfl, rfl⟩; try simp only [List.cons_append, List.nil_append]) | (refine JD_goq (usual_s wb l 4 _ 1 [⟨some ⟨b1, 0, none⟩, 4, num4 d.med⟩] (by decide) (by decide) (by simp) (by simp [catB, num4]) (by omega)) (hφ := (by (try simp only [List.cons_append, List.nil_append]); exact fun w hr => parts1 (n := 4) hr (by (first | ((with_reducible (repeat (first | exact Tk.here | apply Tk.there))); done) | ((simp only [List.cons_append, List.nil_append]); (with_reducible (repeat (first | exact Tk.here | apply Tk.there))); done) | fail)) (by (first | ((with_reducible (repeat (first | exact Tk.here | apply Tk.there))); done) | ((simp only [List.cons_append, List.nil_append]); (with_reducible (repeat (first | exact Tk.here | apply Tk.there))); done) | fail)) rfl)) (h := ?_); rintro _ _ rfl; try simp only [List.cons_append, List.nil_append]) | fail)) | fail)) | fail))
    · refine J_meet () trivial ⟨rfl, rfl, rfl, trivial⟩ (fun w H => ?_)
      have e : l ++ putB (fl 4) 4 (catB [⟨some ⟨b1, 0, none⟩, 4, num4 d.med⟩]) = l1 := by
        rw [← hl1]
        simp_all [medT, At.nf, tlsB, tlB, catB, fl]
      rw [e] at H
      exact H.sel (by (first | ((with_reducible (repeat (first | exact Sb.nil | apply Sb.cons | exact Tk.here | apply Tk.there))); done) | (repeat (first | exact Sb.nil | apply Sb.cons | exact Tk.here | apply Tk.there))))
    · refine J_meet () trivial ⟨rfl, rfl, rfl, trivial⟩ (fun w H => ?_)
      have e : l = l1 := by
        rw [← hl1]
        simp_all [medT, At.nf, tlsB]
      rw [e] at H
      exact H.sel (by (first | ((with_reducible (repeat (first | exact Sb.nil | apply Sb.cons | exact Tk.here | apply Tk.there))); done) | (repeat (first | exact Sb.nil | apply Sb.cons | exact Tk.here | apply Tk.there))))
  refine J_seq ?_
  refine J_cut (α := Unit) (fun _ => True) (fun _ => [(0, .pointer (some ⟨wb, 0, none⟩)), (2, .bool true), (4, .pointer (some ⟨b0, 0, none⟩))]) (fun _ => [pts b0 (atC d) 28, wrO wb l2]) ?_ (fun _ _ => ?_)
  · (repeat' (first | ((with_reducible apply gJ); (first | refine J_seq ?_ | refine J_reg ?_ | refine J_skip ?_ | refine J_block ?_ | refine J_blk ?_ | refine J_exit rfl ?_ | refine J_goto rfl ?_ | ((with_reducible apply gJ_if); (first | refine J_ift rfl ?_ | refine J_iff rfl ?_ | (refine J_if xR ?_ ?_ <;> intro _ <;> (try (exfalso; first | contradiction | omega))) | (refine J_ifb xR ?_ ?_ <;> (intro hgb; subst hgb)) | (refine J_ifb xR ?_ ?_ <;> intro _) | fail)) | refine J_label ?_ | refine J_draw (id := 6) [0, 1, 2, 3, 5, 6, 4, 7, 8] [9] mixed xC xD xD ?_ | fail)) | ((with_reducible apply gL); (first | refine JL_nil ?_ | refine L_move ?_ | refine L_assign ?_ | refine L_fieldAddr ?_ | refine L_load ?_ | refine L_indexAddr ?_ | refine L_c_len ?_ | refine L_bin_lss ?_ | refine L_bin_gtr ?_ | refine L_bin_add_i64 ?_ | refine L_bin_add_r ?_ | ((with_reducible apply gL_box); (first | (refine JL_mc rfl xR xR (al_boxA xR) ?_; intro _) | (refine JL_mc rfl xR xR (al_boxC xR xR) ?_; intro _) | fail)) | ((with_reducible apply gL_buildSlice); (first | (refine JL_mc rfl xR xR (al_bs1 xR (tabE etab_ok xR) xK) ?_; intro _) | (refine JL_mc rfl xR xR (al_bs xR (tabE etab_ok xR) xN xK) ?_; intro _) | fail)) | ((with_reducible apply gL_c_append); (first | (refine JL_ap1 (tabE etab_ok xR) xR xR xT xT xC xR xL xR xO xR xR ?_; intro _ _ _ _) | (refine JL_app (tabE etab_ok xR) xR xR xT xV xC xL xU xO xR xR ?_; intro _ _ _ _) | fail)) | ((with_reducible apply gL_go); (first | (refine JL_goq (usual_s wb l1 6 none 0 [] (by decide) (by decide) (by simp) (by simp [catB]) (by omega)) (hφ := (by (try simp only [List.cons_append, List.nil_append]); exact fun w hr => partsNil w)) (h := ?_); rintro _ _ rfl; try simp only [List.cons_append, List.nil_append]) | fail)) | fail)) | ((with_reducible apply gD); (first | (refine JD_nil ?_; try simp only [List.cons_append, List.nil_append]) | (refine JD_bar ?_; try simp only [List.cons_append, List.nil_append]) | refine D_move ?_ | refine D_fieldAddr ?_ | refine D_load ?_ | ((with_reducible apply gD_load); (first | refine JD_ldM xR xT xC xR xR ?_ | refine JD_ldWM xR xT xW xR ?_ | refine JD_ldSM xR xT (tabS stab_ok xR) xG xC xR ?_ | fail)) | ((with_reducible apply gD_buildSlice); (first | (refine JD_mc rfl xR rfl (al_bs1 xR (tabE etab_ok xR) xK) ?_; intro _) | (refine JD_mc rfl xR rfl (al_bs xR (tabE etab_ok xR) xN xK) ?_; intro _) | fail)) | ((with_reducible apply gD_go); (first | (refine JD_goq (usual_s wb l1 6 none 0 [] (by decide) (by decide) (by simp) (by simp [catB]) (by omega)) (hφ := (by (try simp only [List.cons_append, List.nil_append]); exact fun w hr => partsNil w)) (h := ?_); rintro _ _ rfl; try simp only [List.cons_append, List.nil_append]) | fail)) | fail)) | fail))
    · refine J_meet () trivial ⟨rfl, rfl, rfl, trivial⟩ (fun w H => ?_)
      have e : l1 ++ putB (fl 6) 6 (catB []) = l2 := by
        rw [← hl2]
        simp_all [atomT, At.nf, tlsB, tlB, catB, fl]
      rw [e] at H
      exact H.sel (by (first | ((with_reducible (repeat (first | exact Sb.nil | apply Sb.cons | exact Tk.here | apply Tk.there))); done) | (repeat (first | exact Sb.nil | apply Sb.cons | exact Tk.here | apply Tk.there))))
    · refine J_meet () trivial ⟨rfl, rfl, rfl, trivial⟩ (fun w H => ?_)
      have e : l1 = l2 := by
        rw [← hl2]
        simp_all [atomT, At.nf, tlsB]
      rw [e] at H
      exact H.sel (by (first | ((with_reducible (repeat (first | exact Sb.nil | apply Sb.cons | exact Tk.here | apply Tk.there))); done) | (repeat (first | exact Sb.nil | apply Sb.cons | exact Tk.here | apply Tk.there))))
  refine J_seq ?_
  refine J_cut (α := Unit) (fun _ => True) (fun _ => [(0, .pointer (some ⟨wb, 0, none⟩)), (2, .bool true), (4, .pointer (some ⟨b0, 0, none⟩))]) (fun _ => [pts b0 (atC d) 28, wrO wb l3]) ?_ (fun _ _ => ?_)
  · (repeat' (first | ((with_reducible apply gJ); (first | refine J_seq ?_ | refine J_reg ?_ | refine J_skip ?_ | refine J_block ?_ | refine J_blk ?_ | refine J_exit rfl ?_ | refine J_goto rfl ?_ | ((with_reducible apply gJ_if); (first | refine J_ift rfl ?_ | refine J_iff rfl ?_ | (refine J_if xR ?_ ?_ <;> intro _ <;> (try (exfalso; first | contradiction | omega))) | (refine J_ifb xR ?_ ?_ <;> (intro hgb; subst hgb)) | (refine J_ifb xR ?_ ?_ <;> intro _) | fail)) | refine J_label ?_ | refine J_draw (id := 6) [0, 1, 2, 3, 5, 6, 4, 7, 8] [9] mixed xC xD xD ?_ | fail)) | ((with_reducible apply gL); (first | refine JL_nil ?_ | refine L_move ?_ | refine L_assign ?_ | refine L_fieldAddr ?_ | refine L_load ?_ | refine L_indexAddr ?_ | refine L_c_len ?_ | refine L_bin_lss ?_ | refine L_bin_gtr ?_ | refine L_bin_add_i64 ?_ | refine L_bin_add_r ?_ | ((with_reducible apply gL_box); (first | (refine JL_mc rfl xR xR (al_boxA xR) ?_; intro _) | (refine JL_mc rfl xR xR (al_boxC xR xR) ?_; intro _) | fail)) | ((with_reducible apply gL_buildSlice); (first | (refine JL_mc rfl xR xR (al_bs1 xR (tabE etab_ok xR) xK) ?_; intro _) | (refine JL_mc rfl xR xR (al_bs xR (tabE etab_ok xR) xN xK) ?_; intro _) | fail)) | ((with_reducible apply gL_c_append); (first | (refine JL_ap1 (tabE etab_ok xR) xR xR xT xT xC xR xL xR xO xR xR ?_; intro _ _ _ _) | (refine JL_app (tabE etab_ok xR) xR xR xT xV xC xL xU xO xR xR ?_; intro _ _ _ _) | fail)) | ((with_reducible apply gL_go); (first | (refine JL_goq (sys_s d.makerAS hd.num.makerAS) (hφ := xF) (h := ?_); rintro _ _ ⟨b1, rfl, rfl⟩; try simp only [List.cons_append, List.nil_append]) | (refine JL_goq (num_s d.maker hd.num.maker) (hφ := xF) (h := ?_); rintro _ _ ⟨b2, rfl, rfl⟩; try simp only [List.cons_append, List.nil_append]) | (refine JL_goq (usual_s wb l2 7 _ 2 [⟨some ⟨b1, 0, none⟩, 4, num4 d.makerAS⟩, ⟨some ⟨b2, 0, none⟩, 4, num4 d.maker⟩] (by decide) (by decide) (by simp) (by simp [catB, num4]) (by omega)) (hφ := (by (try simp only [List.cons_append, List.nil_append]); exact fun w hr => parts2 (n := 4) (n' := 4) hr (by (first | ((with_reducible (repeat (first | exact Tk.here | apply Tk.there))); done) | ((simp only [List.cons_append, List.nil_append]); (with_reducible (repeat (first | exact Tk.here | apply Tk.there))); done) | fail)) (by (first | ((with_reducible (repeat (first | exact Tk.here | apply Tk.there))); done) | ((simp only [List.cons_append, List.nil_append]); (with_reducible (repeat (first | exact Tk.here | apply Tk.there))); done) | fail)) (by (first | ((with_reducible (repeat (first | exact Tk.here | apply Tk.there))); done) | ((simp only [List.cons_append, List.nil_append]); (with_reducible (repeat (first | exact Tk.here | apply Tk.there))); done) | fail)) rfl rfl)) (h := ?_); rintro _ _ rfl; try simp only [List.cons_append, List.nil_append]) | fail)) | fail)) | ((with_reducible apply gD); (first | (refine JD_nil ?_; try simp only [List.cons_append, List.nil_append]) | (refine JD_bar ?_; try simp only [List.cons_append, List.nil_append]) | refine D_move ?_ | refine D_fieldAddr ?_ | refine D_load ?_ | ((with_reducible apply gD_load); (first | refine JD_ldM xR xT xC xR xR ?_ | refine JD_ldWM xR xT xW xR ?_ | refine JD_ldSM xR xT (tabS stab_ok xR) xG xC xR ?_ | fail)) | ((with_reducible apply gD_buildSlice); (first | (refine JD_mc rfl xR rfl (al_bs1 xR (tabE etab_ok xR) xK) ?_; intro _) | (refine JD_mc rfl xR rfl (al_bs xR (tabE etab_ok xR) xN xK) ?_; intro _) | fail)) | ((with_reducible apply gD_go); (first | (refine JD_goq (sys_s d.makerAS hd.num.makerAS) (hφ := xF) (h := ?_); rintro _ _ ⟨b1, rfl, rfl⟩; try simp only [List.cons_append, List.nil_append]) | (refine JD_goq (num_s d.maker hd.num.maker) (hφ := xF) (h := ?_); rintro _ _ ⟨b2, rfl, rfl⟩; try simp only [List.cons_append, List.nil_append]) | (refine JD_goq (usual_s wb l2 7 _ 2 [⟨some ⟨b1, 0, none⟩, 4, num4 d.makerAS⟩, ⟨some ⟨b2, 0, none⟩, 4, num4 d.maker⟩] (by decide) (by decide) (by simp) (by simp [catB, num4]) (by omega)) (hφ := (by (try simp only [List.cons_append, List.nil_append]); exact fun w hr => parts2 (n := 4) (n' := 4) hr (by (first | ((with_reducible (repeat (first | exact Tk.here | apply Tk.there))); done) | ((simp only [List.cons_append, List.nil_append]); (with_reducible (repeat (first | exact Tk.here | apply Tk.there))); done) | fail)) (by (first | ((with_reducible (repeat (first | exact Tk.here | apply Tk.there))); done) | ((simp only [List.cons_append, List.nil_append]); (with_reducible (repeat (first | exact Tk.here | apply Tk.there))); done) | fail)) (by (first | ((with_reducible (repeat (first | exact Tk.here | apply Tk.there))); done) | ((simp only [List.cons_append, List.nil_append]); (with_reducible (repeat (first | exact Tk.here | apply Tk.there))); done) | fail)) rfl rfl)) (h := ?_); rintro _ _ rfl; try simp only [List.cons_append, List.nil_append]) | fail)) | fail)) | fail))
    · refine J_meet () trivial ⟨rfl, rfl, rfl, trivial⟩ (fun w H => ?_)
      have e : l2 ++ putB (fl 7) 7 (catB [⟨some ⟨b1, 0, none⟩, 4, num4 d.makerAS⟩, ⟨some ⟨b2, 0, none⟩, 4, num4 d.maker⟩]) = l3 := by
        rw [← hl3]
        simp_all [makT, At.nf, tlsB, tlB, catB, fl]
      rw [e] at H
      exact H.sel (by (first | ((with_reducible (repeat (first | exact Sb.nil | apply Sb.cons | exact Tk.here | apply Tk.there))); done) | (repeat (first | exact Sb.nil | apply Sb.cons | exact Tk.here | apply Tk.there))))
    · refine J_meet () trivial ⟨rfl, rfl, rfl, trivial⟩ (fun w H => ?_)
      have e : l2 = l3 := by
        rw [← hl3]
        simp_all [makT, At.nf, tlsB]
      rw [e] at H
      exact H.sel (by (first | ((with_reducible (repeat (first | exact Sb.nil | apply Sb.cons | exact Tk.here | apply Tk.there))); done) | (repeat (first | exact Sb.nil | apply Sb.cons | exact Tk.here | apply Tk.there))))
  clear hl3 hl2 hl1 hfin
  (repeat' (first | ((with_reducible apply gJ); (first | refine J_seq ?_ | refine J_reg ?_ | refine J_skip ?_ | refine J_block ?_ | refine J_blk ?_ | refine J_exit rfl ?_ | refine J_goto rfl ?_ | ((with_reducible apply gJ_if); (first | refine J_ift rfl ?_ | refine J_iff rfl ?_ | (refine J_if xR ?_ ?_ <;> intro _ <;> (try (exfalso; first | contradiction | omega))) | (refine J_ifb xR ?_ ?_ <;> (intro hgb; subst hgb)) | (refine J_ifb xR ?_ ?_ <;> intro _) | fail)) | refine J_label ?_ | refine J_draw (id := 6) [0, 1, 2, 3, 5, 6, 4, 7, 8] [9] mixed xC xD xD ?_ | fail)) | ((with_reducible apply gL); (first | refine JL_nil ?_ | refine L_move ?_ | refine L_assign ?_ | refine L_fieldAddr ?_ | refine L_load ?_ | refine L_indexAddr ?_ | refine L_c_len ?_ | refine L_bin_lss ?_ | refine L_bin_gtr ?_ | refine L_bin_add_i64 ?_ | refine L_bin_add_r ?_ | ((with_reducible apply gL_box); (first | (refine JL_mc rfl xR xR (al_boxA xR) ?_; intro _) | (refine JL_mc rfl xR xR (al_boxC xR xR) ?_; intro _) | fail)) | ((with_reducible apply gL_buildSlice); (first | (refine JL_mc rfl xR xR (al_bs1 xR (tabE etab_ok xR) xK) ?_; intro _) | (refine JL_mc rfl xR xR (al_bs xR (tabE etab_ok xR) xN xK) ?_; intro _) | fail)) | ((with_reducible apply gL_c_append); (first | (refine JL_ap1 (tabE etab_ok xR) xR xR xT xT xC xR xL xR xO xR xR ?_; intro _ _ _ _) | (refine JL_app (tabE etab_ok xR) xR xR xT xV xC xL xU xO xR xR ?_; intro _ _ _ _) | fail)) | fail)) | ((with_reducible apply gD); (first | (refine JD_nil ?_; try simp only [List.cons_append, List.nil_append]) | (refine JD_bar ?_; try simp only [List.cons_append, List.nil_append]) | refine D_move ?_ | refine D_fieldAddr ?_ | refine D_load ?_ | ((with_reducible apply gD_load); (first | refine JD_ldM xR xT xC xR xR ?_ | refine JD_ldWM xR xT xW xR ?_ | refine JD_ldSM xR xT (tabS stab_ok xR) xG xC xR ?_ | fail)) | ((with_reducible apply gD_buildSlice); (first | (refine JD_mc rfl xR rfl (al_bs1 xR (tabE etab_ok xR) xK) ?_; intro _) | (refine JD_mc rfl xR rfl (al_bs xR (tabE etab_ok xR) xN xK) ?_; intro _) | fail)) | fail)) | fail))
  · refine J_loop (α := Lq) ⟨[], none, 0⟩ (fun x => d.comms.length - x.q.length) (fun x => x.q.length ≤ d.comms.length ∧ x.q.map (·.l) = (d.comms.take x.q.length).map num4) (fun x => [(0, .pointer (some ⟨wb, 0, none⟩)), (38, .slice d.ca d.comms.length d.cc), (39, .int .i64 d.comms.length), (40, .int .i64 x.q.length), (6, .slice x.ad x.q.length x.c)])
      (fun x => [Ar 67 1 bsC (.slice x.ad x.q.length x.c) x.q, has (fun w => ∀ s ∈ x.q, bsV w s), wrO wb l3]) ⟨Nat.zero_le _, rfl⟩ ⟨rfl, rfl, rfl, rfl, rfl, trivial⟩ (fun w H => (Ow.hasTrue (φ := fun w => ∀ s ∈ ([] : List Bs), bsV w s) (Ow.arNil (e := 67) (sz := 1) (enc := bsC) H) (by intro _ _ h; exact absurd h List.not_mem_nil)).sel (by (first | ((with_reducible (repeat (first | exact Sb.nil | apply Sb.cons | exact Tk.here | apply Tk.there))); done) | (repeat (first | exact Sb.nil | apply Sb.cons | exact Tk.here | apply Tk.there))))) ?_
    rintro ⟨q, ad, cc⟩ ⟨hq, hsame⟩
    dsimp only at hq hsame ⊢
    by_cases hlt : q.length < d.comms.length
    · obtain ⟨x, hx⟩ : ∃ x, d.comms[q.length]? = some x := ⟨_, List.getElem?_eq_getElem hlt⟩
      have hxn := hd.num.comms x (List.mem_of_getElem? hx)
      (repeat' (first | ((with_reducible apply gJ); (first | refine J_seq ?_ | refine J_reg ?_ | refine J_skip ?_ | refine J_block ?_ | refine J_blk ?_ | refine J_exit rfl ?_ | refine J_goto rfl ?_ | ((with_reducible apply gJ_if); (first | refine J_ift rfl ?_ | refine J_iff rfl ?_ | (refine J_if xR ?_ ?_ <;> intro _ <;> (try (exfalso; first | contradiction | omega))) | (refine J_ifb xR ?_ ?_ <;> (intro hgb; subst hgb)) | (refine J_ifb xR ?_ ?_ <;> intro _) | fail)) | refine J_label ?_ | refine J_draw (id := 6) [0, 1, 2, 3, 5, 6, 4, 7, 8] [9] mixed xC xD xD ?_ | fail)) | ((with_reducible apply gL); (first | refine JL_nil ?_ | ((with_reducible apply gL_c_append); (first | (refine JL_ap1 (z := Bs.mk (some ⟨b3, 0, none⟩) 4 (num4 x)) (tabE etab_ok xR) xR xR xA xA xC xR xL xR (by omega) xR xR ?_; intro ad3 c3 _ _) | fail)) | refine L_move ?_ | refine L_assign ?_ | refine L_fieldAddr ?_ | refine L_load ?_ | refine L_indexAddr ?_ | refine L_c_len ?_ | refine L_bin_lss ?_ | refine L_bin_gtr ?_ | refine L_bin_add_i64 ?_ | refine L_bin_add_r ?_ | ((with_reducible apply gL_box); (first | (refine JL_mc rfl xR xR (al_boxA xR) ?_; intro _) | (refine JL_mc rfl xR xR (al_boxC xR xR) ?_; intro _) | fail)) | ((with_reducible apply gL_buildSlice); (first | (refine JL_mc rfl xR xR (al_bs1 xR (tabE etab_ok xR) xK) ?_; intro _) | (refine JL_mc rfl xR xR (al_bs xR (tabE etab_ok xR) xN xK) ?_; intro _) | fail)) | ((with_reducible apply gL_c_append); (first | (refine JL_ap1 (tabE etab_ok xR) xR xR xT xT xC xR xL xR xO xR xR ?_; intro _ _ _ _) | (refine JL_app (tabE etab_ok xR) xR xR xT xV xC xL xU xO xR xR ?_; intro _ _ _ _) | fail)) | ((with_reducible apply gL_go); (first | (refine JL_goq (num_s x hxn) (hφ := xF) (h := ?_); rintro _ _ ⟨b3, rfl, rfl⟩; try simp only [List.cons_append, List.nil_append]) | fail)) | fail)) | ((with_reducible apply gD); (first | (refine JD_nil ?_; try simp only [List.cons_append, List.nil_append]) | (refine JD_bar ?_; try simp only [List.cons_append, List.nil_append]) | refine D_move ?_ | refine D_fieldAddr ?_ | refine D_load ?_ | ((with_reducible apply gD_load); (first | refine JD_ldM xR xT xC xR xR ?_ | refine JD_ldWM xR xT xW xR ?_ | refine JD_ldSM xR xT (tabS stab_ok xR) xG xC xR ?_ | fail)) | ((with_reducible apply gD_buildSlice); (first | (refine JD_mc rfl xR rfl (al_bs1 xR (tabE etab_ok xR) xK) ?_; intro _) | (refine JD_mc rfl xR rfl (al_bs xR (tabE etab_ok xR) xN xK) ?_; intro _) | fail)) | ((with_reducible apply gD_go); (first | (refine JD_goq (num_s x hxn) (hφ := xF) (h := ?_); rintro _ _ ⟨b3, rfl, rfl⟩; try simp only [List.cons_append, List.nil_append]) | fail)) | fail)) | fail))
      refine J_again ⟨q ++ [Bs.mk (some ⟨b3, 0, none⟩) 4 (num4 x)], ad3, c3⟩ (by simp; omega) ⟨by simp; omega, ?_⟩ ⟨rfl, rfl, rfl, ?_, ?_, trivial⟩ (fun w H => ?_)
      · simp only [List.length_append, List.length_cons, List.length_nil]
        rw [take_snoc hx, List.map_append, List.map_append, hsame]
        rfl
      · show some _ = some _
        simp
      · show some _ = some _
        simp
      · simp only [List.length_append, List.length_cons, List.length_nil]
        refine (Ow.has (M := [Ar4 b3 x, has (fun w => ∀ s ∈ q, bsV w s)]) (φ := fun w => ∀ s ∈ q ++ [Bs.mk (some ⟨b3, 0, none⟩) 4 (num4 x)], bsV w s) H (by (first | ((with_reducible (repeat (first | exact Sb.nil | apply Sb.cons | exact Tk.here | apply Tk.there))); done) | (repeat (first | exact Sb.nil | apply Sb.cons | exact Tk.here | apply Tk.there)))) ?_).sel (by (first | ((with_reducible (repeat (first | exact Sb.nil | apply Sb.cons | exact Tk.here | apply Tk.there))); done) | (repeat (first | exact Sb.nil | apply Sb.cons | exact Tk.here | apply Tk.there))))
        intro w hr s hs
        rcases List.mem_append.1 hs with hs | hs
        · exact hr.has (.there .here) s hs
        · obtain rfl := List.mem_singleton.1 hs
          exact Src.ar .here w hr
    · have hql : q.length = d.comms.length := by omega
      have hcat : catB q = asB d.comms := by
        rw [hql, List.take_length] at hsame
        unfold catB asB
        rw [List.flatMap_def, List.flatMap_def, hsame]
      have hcl : (catB q).length ≤ 65535 := by rw [hcat, asB_len]; omega
      (repeat' (first | ((with_reducible apply gJ); (first | refine J_seq ?_ | refine J_reg ?_ | refine J_skip ?_ | refine J_block ?_ | refine J_blk ?_ | refine J_exit rfl ?_ | refine J_goto rfl ?_ | ((with_reducible apply gJ_if); (first | refine J_ift rfl ?_ | refine J_iff rfl ?_ | (refine J_if xR ?_ ?_ <;> intro _ <;> (try (exfalso; first | contradiction | omega))) | (refine J_ifb xR ?_ ?_ <;> (intro hgb; subst hgb)) | (refine J_ifb xR ?_ ?_ <;> intro _) | fail)) | refine J_label ?_ | refine J_draw (id := 6) [0, 1, 2, 3, 5, 6, 4, 7, 8] [9] mixed xC xD xD ?_ | fail)) | ((with_reducible apply gL); (first | refine JL_nil ?_ | refine L_move ?_ | refine L_assign ?_ | refine L_fieldAddr ?_ | refine L_load ?_ | refine L_indexAddr ?_ | refine L_c_len ?_ | refine L_bin_lss ?_ | refine L_bin_gtr ?_ | refine L_bin_add_i64 ?_ | refine L_bin_add_r ?_ | ((with_reducible apply gL_box); (first | (refine JL_mc rfl xR xR (al_boxA xR) ?_; intro _) | (refine JL_mc rfl xR xR (al_boxC xR xR) ?_; intro _) | fail)) | ((with_reducible apply gL_buildSlice); (first | (refine JL_mc rfl xR xR (al_bs1 xR (tabE etab_ok xR) xK) ?_; intro _) | (refine JL_mc rfl xR xR (al_bs xR (tabE etab_ok xR) xN xK) ?_; intro _) | fail)) | ((with_reducible apply gL_c_append); (first | (refine JL_ap1 (tabE etab_ok xR) xR xR xT xT xC xR xL xR xO xR xR ?_; intro _ _ _ _) | (refine JL_app (tabE etab_ok xR) xR xR xT xV xC xL xU xO xR xR ?_; intro _ _ _ _) | fail)) | ((with_reducible apply gL_go); (first | (refine JL_goq (usual_s wb l3 8 ad cc q (by decide) (by decide) (by omega) hcl (by omega)) (hφ := (by (try simp only [List.cons_append, List.nil_append]); exact fun w hr => ⟨Src.ar (by (first | ((with_reducible (repeat (first | exact Tk.here | apply Tk.there))); done) | ((simp only [List.cons_append, List.nil_append]); (with_reducible (repeat (first | exact Tk.here | apply Tk.there))); done) | fail)) w hr, fun s hs => hr.has (φ := fun w => ∀ s ∈ q, bsV w s) (by (first | ((with_reducible (repeat (first | exact Tk.here | apply Tk.there))); done) | ((simp only [List.cons_append, List.nil_append]); (with_reducible (repeat (first | exact Tk.here | apply Tk.there))); done) | fail)) s hs⟩)) (h := ?_); rintro _ _ rfl; try simp only [List.cons_append, List.nil_append]) | fail)) | fail)) | ((with_reducible apply gD); (first | (refine JD_nil ?_; try simp only [List.cons_append, List.nil_append]) | (refine JD_bar ?_; try simp only [List.cons_append, List.nil_append]) | refine D_move ?_ | refine D_fieldAddr ?_ | refine D_load ?_ | ((with_reducible apply gD_load); (first | refine JD_ldM xR xT xC xR xR ?_ | refine JD_ldWM xR xT xW xR ?_ | refine JD_ldSM xR xT (tabS stab_ok xR) xG xC xR ?_ | fail)) | ((with_reducible apply gD_buildSlice); (first | (refine JD_mc rfl xR rfl (al_bs1 xR (tabE etab_ok xR) xK) ?_; intro _) | (refine JD_mc rfl xR rfl (al_bs xR (tabE etab_ok xR) xN xK) ?_; intro _) | fail)) | ((with_reducible apply gD_go); (first | (refine JD_goq (usual_s wb l3 8 ad cc q (by decide) (by decide) (by omega) hcl (by omega)) (hφ := (by (try simp only [List.cons_append, List.nil_append]); exact fun w hr => ⟨Src.ar (by (first | ((with_reducible (repeat (first | exact Tk.here | apply Tk.there))); done) | ((simp only [List.cons_append, List.nil_append]); (with_reducible (repeat (first | exact Tk.here | apply Tk.there))); done) | fail)) w hr, fun s hs => hr.has (φ := fun w => ∀ s ∈ q, bsV w s) (by (first | ((with_reducible (repeat (first | exact Tk.here | apply Tk.there))); done) | ((simp only [List.cons_append, List.nil_append]); (with_reducible (repeat (first | exact Tk.here | apply Tk.there))); done) | fail)) s hs⟩)) (h := ?_); rintro _ _ rfl; try simp only [List.cons_append, List.nil_append]) | fail)) | fail)) | fail))
      refine J_end0 rfl fun w H => ⟨_, rfl, ?_⟩
      have e : tlsB (comT d.nf) = putB (fl 8) 8 (catB q) := by
        have : ¬ d.nf.comms.length = 0 := by show ¬ d.comms.length = 0; omega
        unfold comT
        rw [if_neg this, hcat]
        simp [tlsB, tlB, fl, At.nf]
      rw [e]
      exact H.sel (by (first | ((with_reducible (repeat (first | exact Sb.nil | apply Sb.cons | exact Tk.here | apply Tk.there))); done) | (repeat (first | exact Sb.nil | apply Sb.cons | exact Tk.here | apply Tk.there))))
  · refine J_end0 rfl fun w H => ⟨_, rfl, ?_⟩
    have e : tlsB (comT d.nf) = [] := by
      have : d.nf.comms.length = 0 := by show d.comms.length = 0; omega
      unfold comT
      rw [if_pos this]
      rfl
    rw [e, List.append_nil]
    exact H.sel (by (first | ((with_reducible (repeat (first | exact Sb.nil | apply Sb.cons | exact Tk.here | apply Tk.there))); done) | (repeat (first | exact Sb.nil | apply Sb.cons | exact Tk.here | apply Tk.there))))
end Go.Proofs.Ytimamemekdmpeaa
