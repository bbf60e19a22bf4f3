/-
  The store in memory; what it is; how it finds.
-/
import Derived.Test.YtimamemekdmpeaaAs12
import Derived.Test.YtimamemekdmpeaaJx
namespace Go.Proofs.Ytimamemekdmpeaa
set_option linter.unusedSimpArgs false
set_option linter.unusedVariables false
set_option maxRecDepth 20000
set_option maxHeartbeats 4000000
open Go.RowKit Go.Pm

/-- What is kept: by a number, so often. -/
structure En where
  id : Int
  n : Int
  x : Nf
/-- The same in memory. -/
structure Me where
  b : Nat
  d : At
  e : En
abbrev enC (d : At) (k : ByteArray) (n : Int) : List Value := [.int .i64 d.origin, .slice d.pa d.path.length d.pc, .int .u32 d.next, .bool d.hasMed, .int .u32 d.med, .bool d.hasLocal, .int .u32 d.loc, .bool d.atomic, .bool d.hasMaker, .int .u32 d.makerAS, .int .u32 d.maker, .slice d.ca d.comms.length d.cc, .slice d.oa d.others.length d.oc, .string k, .int .i64 n]
def meP (m : Me) : HP := sats [pts m.b (enC m.d (keyS m.e.x) m.e.n) 64, has (fun w => AtV w m.d)]
theorem meOpen {W : World} {K : Hl} {L R : List HP} {w : World} {m : Me} (H : Ow W K L w) (t : Tk L (meP m) R) : Ow W K (pts m.b (enC m.d (keyS m.e.x) m.e.n) 64 :: has (fun w => AtV w m.d) :: R) w := H.flat t
theorem meShut {W : World} {K : Hl} {L R : List HP} {w : World} {m : Me} (H : Ow W K L w) (t : Sb L [pts m.b (enC m.d (keyS m.e.x) m.e.n) 64, has (fun w => AtV w m.d)] R) : Ow W K (meP m :: R) w := H.unflat t
def byL (M : List Me) : List (ByteArray × Value) := M.map fun m => (keyS m.e.x, Value.int .i64 m.e.id)
def idL (M : List Me) : List (Int × Value) := M.map fun m => (m.e.id, Value.pointer (some ⟨m.b, 0, none⟩))
abbrev stC (mb lb : Nat) (c : Int) : List Value := [.map (some mb), .map (some lb), .int .i64 c]
abbrev mqS := mq Value.string
abbrev mqI := mq (Value.int .i64)
structure MOk (M : List Me) (S : List En) : Prop where
  e : M.map (·.e) = S
  d : ∀ m ∈ M, AtF m.d ∧ m.d.nf = m.e.x
def stoA (sp : Nat) (S : List En) (c : Int) : HP := fun h => ∃ (mb lb : Nat) (M : List Me), MOk M S ∧ sats [pts sp (stC mb lb c) 58, mqS mb (byL M), mqI lb (idL M), sats (M.map meP)] h
structure Mx where
  mb : Nat
  lb : Nat
  M : List Me
theorem stoOpen {W : World} {K : Hl} {L R : List HP} {w : World} {sp : Nat} {S : List En} {c : Int} (H : Ow W K L w) (t : Tk L (stoA sp S c) R) : ∃ x : {x : Mx // MOk x.M S}, Ow W K (pts sp (stC x.1.mb x.1.lb c) 58 :: mqS x.1.mb (byL x.1.M) :: mqI x.1.lb (idL x.1.M) :: sats (x.1.M.map meP) :: R) w :=
  H.open t (Bs := fun x : {x : Mx // MOk x.M S} => [pts sp (stC x.1.mb x.1.lb c) 58, mqS x.1.mb (byL x.1.M), mqI x.1.lb (idL x.1.M), sats (x.1.M.map meP)]) (fun k ⟨mb, lb, M, hM, h⟩ => ⟨⟨⟨mb, lb, M⟩, hM⟩, h⟩)
theorem stoShut {W : World} {K : Hl} {L R : List HP} {w : World} {sp mb lb : Nat} {M : List Me} {S : List En} {c : Int} (hM : MOk M S) (H : Ow W K L w) (t : Sb L [pts sp (stC mb lb c) 58, mqS mb (byL M), mqI lb (idL M), sats (M.map meP)] R) : Ow W K (stoA sp S c :: R) w :=
  H.shut t (fun k hk => ⟨mb, lb, M, hM, hk⟩)
theorem mi_s : MI Try.prog 55 Value.string (.int .i64 0) := mi_of Try.underlying55 (keyOkS Try.underlying9) (by kernel_rfl)
theorem mi_i : MI Try.prog 56 (Value.int .i64) (.pointer none) := mi_of Try.underlying56 (keyOkI Try.underlying3) (by kernel_rfl)
theorem is_s (sp : Nat) (lb : Nat) (x : Value) (c : Int) : Pact Try.prog 24 #[.pointer (some ⟨sp, 0, none⟩)] (fun _ => True) [pts sp [x, .map (some lb), .int .i64 c] 58] (fun u L' => u = .bool true ∧ L' = [pts sp [x, .map (some lb), .int .i64 c] 58]) := by
  refine pact Try.func24 rfl Try.ntmps24 rfl ?_
  intro W K _
  (repeat' (first | ((with_reducible apply gJ); (first | refine J_seq ?_ | refine J_reg ?_ | refine J_skip ?_ | refine J_block ?_ | refine J_blk ?_ | refine J_exit rfl ?_ | refine J_goto rfl ?_ | ((with_reducible apply gJ_if); (first | refine J_ift rfl ?_ | refine J_iff rfl ?_ | (refine J_if xR ?_ ?_ <;> intro _ <;> (try (exfalso; first | contradiction | omega))) | (refine J_ifb xR ?_ ?_ <;> (intro hgb; subst hgb)) | (refine J_ifb xR ?_ ?_ <;> intro _) | fail)) | refine J_label ?_ | fail)) | ((with_reducible apply gL); (first | refine JL_nil ?_ | ((with_reducible apply gL_gd); (first | refine JL_skip xR xR ?_ | fail)) | ((with_reducible apply gL_bin_neq); (first | (refine JL_p rfl xR xR (pe_neM xR xR xC) ?_) | fail)) | refine L_move ?_ | refine L_assign ?_ | refine L_fieldAddr ?_ | refine L_load ?_ | refine L_nilCheck ?_ | refine L_pick ?_ | refine L_bin_neq ?_ | ((with_reducible apply gL_gd); (first | (refine JL_guard xR xR ?_ ?_ <;> intro _ <;> (try (exfalso; first | contradiction | omega))) | (refine JL_guardb xR xR ?_ ?_ <;> (intro hgb; subst hgb)) | (refine JL_guardb xR xR ?_ ?_ <;> (intro hgb; fail_if_success (have : type_of% hgb := rfl))) | fail)) | fail)) | fail))
  exact J_ret1 rfl (by rfl) fun w H => ⟨_, ⟨rfl, rfl⟩, H.sel (by (first | ((with_reducible (repeat (first | exact Sb.nil | apply Sb.cons | exact Tk.here | apply Tk.there))); done) | (repeat (first | exact Sb.nil | apply Sb.cons | exact Tk.here | apply Tk.there))))⟩
theorem isvoid_s (sp : Nat) (x : Value) (c : Int) : Pact Try.prog 24 #[.pointer (some ⟨sp, 0, none⟩)] (fun _ => True) [pts sp [x, .map none, .int .i64 c] 58] (fun u L' => u = .bool false ∧ L' = [pts sp [x, .map none, .int .i64 c] 58]) := by
  refine pact Try.func24 rfl Try.ntmps24 rfl ?_
  intro W K _
  (repeat' (first | ((with_reducible apply gJ); (first | refine J_seq ?_ | refine J_reg ?_ | refine J_skip ?_ | refine J_block ?_ | refine J_blk ?_ | refine J_exit rfl ?_ | refine J_goto rfl ?_ | ((with_reducible apply gJ_if); (first | refine J_ift rfl ?_ | refine J_iff rfl ?_ | (refine J_if xR ?_ ?_ <;> intro _ <;> (try (exfalso; first | contradiction | omega))) | (refine J_ifb xR ?_ ?_ <;> (intro hgb; subst hgb)) | (refine J_ifb xR ?_ ?_ <;> intro _) | fail)) | refine J_label ?_ | fail)) | ((with_reducible apply gL); (first | refine JL_nil ?_ | ((with_reducible apply gL_gd); (first | refine JL_skip xR xR ?_ | fail)) | ((with_reducible apply gL_bin_neq); (first | (refine JL_p rfl xR xR (pe_neM xR xR xC) ?_) | fail)) | refine L_move ?_ | refine L_assign ?_ | refine L_fieldAddr ?_ | refine L_load ?_ | refine L_nilCheck ?_ | refine L_pick ?_ | refine L_bin_neq ?_ | ((with_reducible apply gL_gd); (first | (refine JL_guard xR xR ?_ ?_ <;> intro _ <;> (try (exfalso; first | contradiction | omega))) | (refine JL_guardb xR xR ?_ ?_ <;> (intro hgb; subst hgb)) | (refine JL_guardb xR xR ?_ ?_ <;> (intro hgb; fail_if_success (have : type_of% hgb := rfl))) | fail)) | fail)) | fail))
  exact J_ret1 rfl (by rfl) fun w H => ⟨_, ⟨rfl, rfl⟩, H.sel (by (first | ((with_reducible (repeat (first | exact Sb.nil | apply Sb.cons | exact Tk.here | apply Tk.there))); done) | (repeat (first | exact Sb.nil | apply Sb.cons | exact Tk.here | apply Tk.there))))⟩
theorem isnil_s : Pact Try.prog 24 #[.pointer none] (fun _ => True) [] (ret0 (.bool false)) := by
  refine pact Try.func24 rfl Try.ntmps24 rfl ?_
  intro W K _
  (repeat' (first | ((with_reducible apply gJ); (first | refine J_seq ?_ | refine J_reg ?_ | refine J_skip ?_ | refine J_block ?_ | refine J_blk ?_ | refine J_exit rfl ?_ | refine J_goto rfl ?_ | ((with_reducible apply gJ_if); (first | refine J_ift rfl ?_ | refine J_iff rfl ?_ | (refine J_if xR ?_ ?_ <;> intro _ <;> (try (exfalso; first | contradiction | omega))) | (refine J_ifb xR ?_ ?_ <;> (intro hgb; subst hgb)) | (refine J_ifb xR ?_ ?_ <;> intro _) | fail)) | refine J_label ?_ | fail)) | ((with_reducible apply gL); (first | refine JL_nil ?_ | ((with_reducible apply gL_gd); (first | refine JL_skip xR xR ?_ | fail)) | refine L_move ?_ | refine L_assign ?_ | refine L_fieldAddr ?_ | refine L_load ?_ | refine L_nilCheck ?_ | refine L_pick ?_ | refine L_bin_neq ?_ | ((with_reducible apply gL_gd); (first | (refine JL_guard xR xR ?_ ?_ <;> intro _ <;> (try (exfalso; first | contradiction | omega))) | (refine JL_guardb xR xR ?_ ?_ <;> (intro hgb; subst hgb)) | (refine JL_guardb xR xR ?_ ?_ <;> (intro hgb; fail_if_success (have : type_of% hgb := rfl))) | fail)) | fail)) | fail))
  exact J_ret1 rfl (by rfl) fun w H => ⟨_, ⟨rfl, rfl⟩, H.sel .nil⟩
theorem find_hit (sp mb lb : Nat) (c id : Int) (A B : List Me) (m : Me) (hid : m.e.id = id) (hA : ∀ a ∈ A, a.e.id ≠ id) : Pact Try.prog 29 #[.pointer (some ⟨sp, 0, none⟩), .int .i64 id] (fun _ => True) [pts sp (stC mb lb c) 58, mqI lb (idL (A ++ m :: B))] (fun u L' => u = .tuple #[.pointer (some ⟨m.b, 0, none⟩), .int .i64 0] ∧ L' = [pts sp (stC mb lb c) 58, mqI lb (idL (A ++ m :: B))]) := by
  refine pact Try.func29 rfl Try.ntmps29 rfl ?_
  intro W K _
  have hg : lookV (aG (idL (A ++ m :: B)) id) (.pointer none) false = .pointer (some ⟨m.b, 0, none⟩) := by
    unfold idL
    rw [List.map_append, List.map_cons, hid, aG_mid]
    · rfl
    · intro p hp
      obtain ⟨a, ha, rfl⟩ := List.mem_map.1 hp
      exact hA a ha
  (repeat' (first | ((with_reducible apply gJ); (first | refine J_seq ?_ | refine J_reg ?_ | refine J_skip ?_ | refine J_block ?_ | refine J_blk ?_ | refine J_exit rfl ?_ | refine J_goto rfl ?_ | ((with_reducible apply gJ_if); (first | refine J_ift rfl ?_ | refine J_iff rfl ?_ | (refine J_if xR ?_ ?_ <;> intro _ <;> (try (exfalso; first | contradiction | omega))) | (refine J_ifb xR ?_ ?_ <;> (intro hgb; subst hgb)) | (refine J_ifb xR ?_ ?_ <;> intro _) | fail)) | refine J_label ?_ | fail)) | ((with_reducible apply gL); (first | refine JL_nil ?_ | ((with_reducible apply gL_lookup); (first | (refine JL_p rfl xR xR (pe_lookG mi_i xR xR xA hg) ?_) | fail)) | refine L_move ?_ | refine L_assign ?_ | refine L_fieldAddr ?_ | refine L_load ?_ | refine L_nilCheck ?_ | refine L_un_not ?_ | refine L_bin_eql ?_ | ((with_reducible apply gL_go); (first | (refine JL_goq (is_s sp lb (.map (some mb)) c) (hφ := xF) (h := ?_); rintro _ _ ⟨rfl, rfl⟩; try simp only [List.cons_append, List.nil_append]) | fail)) | ((with_reducible apply gL_lookup); (first | refine JL_p rfl xR xR (pe_lookup xR xR (tabM mtab_ok xR) xT (by first | apply hlook | apply hlook2 | rfl)) ?_ | refine JL_p rfl xR xR (pe_lookupK xR xR (tabM mtab_ok xR) xH (by first | apply hlook | apply hlook2 | rfl)) ?_ | fail)) | fail)) | fail))
  exact J_ret2 rfl (by rfl) (by rfl) fun w H => ⟨_, ⟨rfl, rfl⟩, H.sel (by (first | ((with_reducible (repeat (first | exact Sb.nil | apply Sb.cons | exact Tk.here | apply Tk.there))); done) | (repeat (first | exact Sb.nil | apply Sb.cons | exact Tk.here | apply Tk.there))))⟩
theorem find_miss (sp mb lb : Nat) (c id : Int) (M : List Me) (hA : ∀ a ∈ M, a.e.id ≠ id) : Pact Try.prog 29 #[.pointer (some ⟨sp, 0, none⟩), .int .i64 id] (fun _ => True) [pts sp (stC mb lb c) 58, mqI lb (idL M)] (fun u L' => u = .tuple #[.pointer none, .int .i64 5] ∧ L' = [pts sp (stC mb lb c) 58, mqI lb (idL M)]) := by
  refine pact Try.func29 rfl Try.ntmps29 rfl ?_
  intro W K _
  have hg : lookV (aG (idL M) id) (.pointer none) false = .pointer none := by
    unfold idL
    rw [aG_none]
    · rfl
    · intro p hp
      obtain ⟨a, ha, rfl⟩ := List.mem_map.1 hp
      exact hA a ha
  (repeat' (first | ((with_reducible apply gJ); (first | refine J_seq ?_ | refine J_reg ?_ | refine J_skip ?_ | refine J_block ?_ | refine J_blk ?_ | refine J_exit rfl ?_ | refine J_goto rfl ?_ | ((with_reducible apply gJ_if); (first | refine J_ift rfl ?_ | refine J_iff rfl ?_ | (refine J_if xR ?_ ?_ <;> intro _ <;> (try (exfalso; first | contradiction | omega))) | (refine J_ifb xR ?_ ?_ <;> (intro hgb; subst hgb)) | (refine J_ifb xR ?_ ?_ <;> intro _) | fail)) | refine J_label ?_ | fail)) | ((with_reducible apply gL); (first | refine JL_nil ?_ | ((with_reducible apply gL_lookup); (first | (refine JL_p rfl xR xR (pe_lookG mi_i xR xR xA hg) ?_) | fail)) | refine L_move ?_ | refine L_assign ?_ | refine L_fieldAddr ?_ | refine L_load ?_ | refine L_nilCheck ?_ | refine L_un_not ?_ | refine L_bin_eql ?_ | ((with_reducible apply gL_go); (first | (refine JL_goq (is_s sp lb (.map (some mb)) c) (hφ := xF) (h := ?_); rintro _ _ ⟨rfl, rfl⟩; try simp only [List.cons_append, List.nil_append]) | fail)) | ((with_reducible apply gL_lookup); (first | refine JL_p rfl xR xR (pe_lookup xR xR (tabM mtab_ok xR) xT (by first | apply hlook | apply hlook2 | rfl)) ?_ | refine JL_p rfl xR xR (pe_lookupK xR xR (tabM mtab_ok xR) xH (by first | apply hlook | apply hlook2 | rfl)) ?_ | fail)) | fail)) | fail))
  exact J_ret2 rfl (by rfl) (by rfl) fun w H => ⟨_, ⟨rfl, rfl⟩, H.sel (by (first | ((with_reducible (repeat (first | exact Sb.nil | apply Sb.cons | exact Tk.here | apply Tk.there))); done) | (repeat (first | exact Sb.nil | apply Sb.cons | exact Tk.here | apply Tk.there))))⟩
theorem find_nil (id : Int) : Pact Try.prog 29 #[.pointer none, .int .i64 id] (fun _ => True) [] (ret0 (.tuple #[.pointer none, .int .i64 1])) := by
  refine pact Try.func29 rfl Try.ntmps29 rfl ?_
  intro W K _
  (repeat' (first | ((with_reducible apply gJ); (first | refine J_seq ?_ | refine J_reg ?_ | refine J_skip ?_ | refine J_block ?_ | refine J_blk ?_ | refine J_exit rfl ?_ | refine J_goto rfl ?_ | ((with_reducible apply gJ_if); (first | refine J_ift rfl ?_ | refine J_iff rfl ?_ | (refine J_if xR ?_ ?_ <;> intro _ <;> (try (exfalso; first | contradiction | omega))) | (refine J_ifb xR ?_ ?_ <;> (intro hgb; subst hgb)) | (refine J_ifb xR ?_ ?_ <;> intro _) | fail)) | refine J_label ?_ | fail)) | ((with_reducible apply gL); (first | refine JL_nil ?_ | refine L_move ?_ | refine L_assign ?_ | refine L_fieldAddr ?_ | refine L_load ?_ | refine L_nilCheck ?_ | refine L_un_not ?_ | refine L_bin_eql ?_ | ((with_reducible apply gL_go); (first | (refine JL_goq (isnil_s) (hφ := xF) (h := ?_); rintro _ _ ⟨rfl, rfl⟩; try simp only [List.cons_append, List.nil_append]) | fail)) | ((with_reducible apply gL_lookup); (first | refine JL_p rfl xR xR (pe_lookup xR xR (tabM mtab_ok xR) xT (by first | apply hlook | apply hlook2 | rfl)) ?_ | refine JL_p rfl xR xR (pe_lookupK xR xR (tabM mtab_ok xR) xH (by first | apply hlook | apply hlook2 | rfl)) ?_ | fail)) | fail)) | fail))
  exact J_ret2 rfl (by rfl) (by rfl) fun w H => ⟨_, ⟨rfl, rfl⟩, H.sel .nil⟩
theorem find_void (sp : Nat) (x : Value) (c id : Int) : Pact Try.prog 29 #[.pointer (some ⟨sp, 0, none⟩), .int .i64 id] (fun _ => True) [pts sp [x, .map none, .int .i64 c] 58] (fun u L' => u = .tuple #[.pointer none, .int .i64 1] ∧ L' = [pts sp [x, .map none, .int .i64 c] 58]) := by
  refine pact Try.func29 rfl Try.ntmps29 rfl ?_
  intro W K _
  (repeat' (first | ((with_reducible apply gJ); (first | refine J_seq ?_ | refine J_reg ?_ | refine J_skip ?_ | refine J_block ?_ | refine J_blk ?_ | refine J_exit rfl ?_ | refine J_goto rfl ?_ | ((with_reducible apply gJ_if); (first | refine J_ift rfl ?_ | refine J_iff rfl ?_ | (refine J_if xR ?_ ?_ <;> intro _ <;> (try (exfalso; first | contradiction | omega))) | (refine J_ifb xR ?_ ?_ <;> (intro hgb; subst hgb)) | (refine J_ifb xR ?_ ?_ <;> intro _) | fail)) | refine J_label ?_ | fail)) | ((with_reducible apply gL); (first | refine JL_nil ?_ | refine L_move ?_ | refine L_assign ?_ | refine L_fieldAddr ?_ | refine L_load ?_ | refine L_nilCheck ?_ | refine L_un_not ?_ | refine L_bin_eql ?_ | ((with_reducible apply gL_go); (first | (refine JL_goq (isvoid_s sp x c) (hφ := xF) (h := ?_); rintro _ _ ⟨rfl, rfl⟩; try simp only [List.cons_append, List.nil_append]) | fail)) | ((with_reducible apply gL_lookup); (first | refine JL_p rfl xR xR (pe_lookup xR xR (tabM mtab_ok xR) xT (by first | apply hlook | apply hlook2 | rfl)) ?_ | refine JL_p rfl xR xR (pe_lookupK xR xR (tabM mtab_ok xR) xH (by first | apply hlook | apply hlook2 | rfl)) ?_ | fail)) | fail)) | fail))
  exact J_ret2 rfl (by rfl) (by rfl) fun w H => ⟨_, ⟨rfl, rfl⟩, H.sel (by (first | ((with_reducible (repeat (first | exact Sb.nil | apply Sb.cons | exact Tk.here | apply Tk.there))); done) | (repeat (first | exact Sb.nil | apply Sb.cons | exact Tk.here | apply Tk.there))))⟩
theorem new_s : Pact Try.prog 9 #[] (fun _ => True) [] (fun u L' => ∃ sp, u = .pointer (some ⟨sp, 0, none⟩) ∧ L' = [stoA sp [] 0]) := by
  refine pact (args := []) Try.func9 rfl Try.ntmps9 rfl ?_
  intro W K _
  (repeat' (first | ((with_reducible apply gJ); (first | refine J_seq ?_ | refine J_reg ?_ | refine J_skip ?_ | refine J_block ?_ | refine J_blk ?_ | refine J_exit rfl ?_ | refine J_goto rfl ?_ | ((with_reducible apply gJ_if); (first | refine J_ift rfl ?_ | refine J_iff rfl ?_ | (refine J_if xR ?_ ?_ <;> intro _ <;> (try (exfalso; first | contradiction | omega))) | (refine J_ifb xR ?_ ?_ <;> (intro hgb; subst hgb)) | (refine J_ifb xR ?_ ?_ <;> intro _) | fail)) | refine J_label ?_ | fail)) | ((with_reducible apply gL); (first | refine JL_nil ?_ | ((with_reducible apply gL_makeMap); (first | (first | (refine JL_mmG (t := 55) Value.string xR xR ?_; intro mb) | (refine JL_mmG (t := 56) (Value.int .i64) xR xR ?_; intro lb)) | fail)) | refine L_assign ?_ | refine L_build ?_ | ((with_reducible apply gL_box); (first | (refine JL_mc rfl xR xR (al_boxA xR) ?_; intro _) | (refine JL_mc rfl xR xR (al_boxC xR xR) ?_; intro _) | fail)) | ((with_reducible apply gL_makeMap); (first | (refine JL_mm (tabM mtab_ok xR) xR xR ?_; intro _) | fail)) | fail)) | fail))
  rename_i sp
  refine J_ret1 rfl (by rfl) fun w H => ⟨_, ⟨sp, rfl, rfl⟩, ?_⟩
  exact Ow.sel (stoShut (M := []) ⟨rfl, fun _ h => absurd h List.not_mem_nil⟩ (Ow.satsNil H) (mb := mb) (lb := lb) (by (first | ((with_reducible (repeat (first | exact Sb.nil | apply Sb.cons | exact Tk.here | apply Tk.there))); done) | (repeat (first | exact Sb.nil | apply Sb.cons | exact Tk.here | apply Tk.there))))) (by (first | ((with_reducible (repeat (first | exact Sb.nil | apply Sb.cons | exact Tk.here | apply Tk.there))); done) | (repeat (first | exact Sb.nil | apply Sb.cons | exact Tk.here | apply Tk.there))))
end Go.Proofs.Ytimamemekdmpeaa
