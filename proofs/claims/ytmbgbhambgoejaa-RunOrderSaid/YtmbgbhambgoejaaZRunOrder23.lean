/-
  RunOrder: a policy whose first statement accepts, or rejects, does so whatever follows, and an empty one rejects.
-/
import Derived.Test.YtmbgbhambgoejaaZRunOrder22
import Derived.HandedShaped
namespace Go.Proofs.Ytmbgbhambgoejaa.C
set_option linter.unusedSimpArgs false
set_option linter.unusedVariables false
set_option maxRecDepth 20000
set_option maxHeartbeats 4000000
open Go.RowKit Go.Pm

theorem LsF.up : ∀ {d : Nat} {l : List St}, LsF d l → LsF (d + 1) l
  | 0, l, h => by rw [show l = [] from h]; exact ⟨by simp, fun s hs => (by cases hs)⟩
  | d + 1, l, h => ⟨h.1, fun s hs => by
    obtain ⟨h1, h2, h3, h4⟩ := h.2 s hs
    exact ⟨h1, h2, LsF.up h3, LsF.up h4⟩⟩
theorem rightB_up : ∀ {d : Nat} {l : List St}, LsF d l → rightB (d + 1) l = rightB d l
  | 0, l, h => by rw [show l = [] from h]; rfl
  | d + 1, l, h => by
    rw [rightB_eq h.up, rightB_eq h]
    simp only [Nat.add_sub_cancel]
    rw [Bool.eq_iff_iff, List.all_eq_true, List.all_eq_true]
    refine forall_congr' fun s => forall_congr' fun hs => ?_
    obtain ⟨h1, h2, h3, h4⟩ := h.2 s hs
    unfold stG
    rw [rightB_up h3, rightB_up h4]
theorem sizeL_up : ∀ {d : Nat} {l : List St}, LsF d l → sizeL (d + 1) l = sizeL d l
  | 0, l, h => by rw [show l = [] from h]; rfl
  | d + 1, l, h => by
    rw [sizeL_eq h.up, sizeL_eq h]
    simp only [Nat.add_sub_cancel]
    congr 1
    refine List.map_congr_left fun s hs => ?_
    obtain ⟨h1, h2, h3, h4⟩ := h.2 s hs
    unfold sizeG
    rw [sizeL_up h3, sizeL_up h4]
theorem codeG_congr {g g' : Nat → List St → List Sp} {gs gs' : List St → Nat} : ∀ {l : List St} {k : Nat}, (∀ s ∈ l, ∀ k, codeS g gs k s = codeS g' gs' k s) → codeG g gs k l = codeG g' gs' k l
  | [], _, _ => rfl
  | s :: r, k, h => by
    rw [codeG, codeG, h s (by simp), codeG_congr fun z hz => h z (List.mem_cons_of_mem _ hz)]
theorem codeL_up : ∀ {d : Nat} {l : List St}, LsF d l → ∀ k, codeL (d + 1) k l = codeL d k l
  | 0, l, h, k => by rw [show l = [] from h]; rfl
  | d + 1, l, h, k => by
    rw [codeL_eq h.up, codeL_eq h]
    simp only [Nat.add_sub_cancel]
    refine codeG_congr fun s hs k => ?_
    obtain ⟨h1, h2, h3, h4⟩ := h.2 s hs
    unfold codeS
    simp only [sizeL_up h3, sizeL_up h4, codeL_up h3, codeL_up h4]
theorem LsR.down : ∀ {d : Nat} {l : List St}, LsR (d + 1) l → LsR d l
  | 0, l, h => h.1
  | d + 1, l, h => ⟨h.1, fun s hs => by
    obtain ⟨h1, h2, h3, h4⟩ := h.2 s hs
    exact ⟨h1, h2, LsR.down h3, LsR.down h4⟩⟩
theorem LsV.down {w : World} : ∀ {d : Nat} {a : Option Addr} {c : Nat} {l : List St}, LsV w (d + 1) a c l → LsV w d a c l
  | 0, _, _, _, _ => trivial
  | d + 1, _, _, _, h => ⟨h.1, fun s hs => by
    obtain ⟨h1, h2, h3⟩ := h.2 s hs
    exact ⟨h1, LsV.down h2, LsV.down h3⟩⟩
theorem Make4_s (nm : ByteArray) (la : Option Addr) (lc : Nat) (l : List St) (hl : LsF 4 l) : Pact Try.prog 8 #[.agg #[.string nm, .slice la l.length lc]] (fun w => LsV w 4 la lc l) [] (fun u L' => ∃ a' c', u = .tuple #[.slice a' (makeT l).length c', .int .i64 (makeE l)] ∧ L' = [Ar 63 7 spC (.slice a' (makeT l).length c') (makeT l)]) := by
  refine pact Try.func8 rfl Try.ntmps8 rfl ?_
  intro W K hK
  refine J_heap (L' := [Ar 63 7 spC (.slice none ([] : List Sp).length 0) []]) (fun w H => (Ow.arNil (e := 63) (sz := 7) (enc := spC) H).sel xZ) ?_
  have hR := pright_s 4 la lc l 1 hl (by omega)
  have hup := rightB_up hl
  have hsu := sizeL_up hl
  have hcu := codeL_up hl 0
  rcases hr : rightB 4 l with _ | _
  all_goals rw [hr] at hR hup
  · have e1 : makeT l = [] := by unfold makeT; rw [hup, if_neg (by simp)]
    have e2 : makeE l = 260 := by unfold makeE; rw [hup, if_neg (by simp)]
    rw [e1, e2]
    (repeat' (first | ((with_reducible apply gL); (first | refine yL0 ?_ | refine yL ?_ | ((with_reducible apply gL_go); (first | (refine JL_goq (hR) (hφ := (by (try simp only [List.cons_append, List.nil_append]); exact fun w hr => hK w hr.1)) (h := ?_); rintro _ _ ⟨rfl, rfl⟩; try simp only [List.cons_append, List.nil_append]) | fail)) | (refine yM ?_; intro _) | (refine yA ?_; intro _ _ _ _) | fail)) | refine yJ ?_ | ((with_reducible apply gJ_if); (first | (refine J_if xR ?_ ?_ <;> intro _ <;> (try (exfalso; first | contradiction | omega))) | (refine J_ifb xR ?_ ?_ <;> (intro hgb; subst hgb)) | (refine J_ifb xR ?_ ?_ <;> intro _) | fail)) | fail))
    exact J_ret2 rfl (by rfl) (by rfl) fun w H => ⟨_, ⟨none, 0, rfl, rfl⟩, H.sel xZ⟩
  · have hb := sizeL_le hl
    have hb2 := bnd_le (d := 4) (by omega)
    have hcl := codeL_len hl hr 0
    obtain ⟨T2, h2⟩ : ∃ T2, codeL 4 0 l = T2 := ⟨_, rfl⟩
    rw [h2] at hcl hcu
    obtain ⟨T3, h3⟩ : ∃ T3, T2 ++ [endS] = T3 := ⟨_, rfl⟩
    have h3l : T3.length = T2.length + 1 := by rw [← h3, List.length_append]; rfl
    (repeat' (first | ((with_reducible apply gL); (first | refine yL0 ?_ | refine yL ?_ | ((with_reducible apply gL_go); (first | (refine JL_goq (hR) (hφ := (by (try simp only [List.cons_append, List.nil_append]); exact fun w hr => hK w hr.1)) (h := ?_); rintro _ _ ⟨rfl, rfl⟩; try simp only [List.cons_append, List.nil_append]) | fail)) | (refine yM ?_; intro _) | (refine yA ?_; intro _ _ _ _) | fail)) | refine yJ ?_ | ((with_reducible apply gJ_if); (first | (refine J_if xR ?_ ?_ <;> intro _ <;> (try (exfalso; first | contradiction | omega))) | (refine J_ifb xR ?_ ?_ <;> (intro hgb; subst hgb)) | (refine J_ifb xR ?_ ?_ <;> intro _) | fail)) | fail))
    rename_i wb
    have hB := block_s 4 la lc l hl hr wb none 0 [] T2 (by omega) h2
    refine JL_heap (L' := [pts wb [.slice none ([] : List Sp).length 0] 60, Ar 63 7 spC (.slice none ([] : List Sp).length 0) []]) (fun w H => H.sel (M := [pts wb [.slice none 0 0] 60, Ar 63 7 spC (.slice none ([] : List Sp).length 0) []]) xZ) ?_
    by_cases hs : sizeL 4 l < 4096
    · have e1 : makeT l = T3 := by unfold makeT; rw [if_pos ⟨hup, by rw [hsu]; exact hs⟩, hcu, h3]
      have e2 : makeE l = 0 := by unfold makeE; rw [if_pos hup, if_pos (by rw [hsu]; exact hs)]
      rw [e1, e2]
      (repeat' (first | ((with_reducible apply gL); (first | refine yL0 ?_ | ((with_reducible apply gL_c_append); (first | (first | (refine JL_ap1 (z := endS) (tabE etab_ok xR) xR xR xA xA xC xR xL xR (by omega) xR xR ?_; intro ad4 c4 _ _) | (refine JD_ap1 (z := endS) (tabE etab_ok xR) xR xR xA xA xC xR xL xR (by omega) xR ?_; intro ad4 c4 _ _)) | fail)) | refine yL ?_ | ((with_reducible apply gL_go); (first | (refine JL_goq (hB) (hφ := (by (try simp only [List.cons_append, List.nil_append]); exact fun w hr => hK w hr.1)) (h := ?_); rintro _ _ ⟨a2, c2, rfl⟩; try simp only [List.cons_append, List.nil_append]) | fail)) | (refine yM ?_; intro _) | (refine yA ?_; intro _ _ _ _) | fail)) | refine yJ ?_ | ((with_reducible apply gJ_if); (first | (refine J_if xR ?_ ?_ <;> intro _ <;> (try (exfalso; first | contradiction | omega))) | (refine J_ifb xR ?_ ?_ <;> (intro hgb; subst hgb)) | (refine J_ifb xR ?_ ?_ <;> intro _) | fail)) | fail))
      all_goals (first | (exfalso; omega) | skip)
      rw [h3, ← h3l]
      exact J_ret2 rfl (by rfl) (by rfl) fun w H => ⟨_, ⟨ad4, c4, rfl, rfl⟩, H.sel xZ⟩
    · have e1 : makeT l = [] := by unfold makeT; rw [if_neg (by rw [hsu]; omega)]
      have e2 : makeE l = 3 := by unfold makeE; rw [if_pos hup, if_neg (by rw [hsu]; exact hs)]
      rw [e1, e2]
      (repeat' (first | ((with_reducible apply gL); (first | refine yL0 ?_ | ((with_reducible apply gL_c_append); (first | (first | (refine JL_ap1 (z := endS) (tabE etab_ok xR) xR xR xA xA xC xR xL xR (by omega) xR xR ?_; intro ad4 c4 _ _) | (refine JD_ap1 (z := endS) (tabE etab_ok xR) xR xR xA xA xC xR xL xR (by omega) xR ?_; intro ad4 c4 _ _)) | fail)) | refine yL ?_ | ((with_reducible apply gL_go); (first | (refine JL_goq (hB) (hφ := (by (try simp only [List.cons_append, List.nil_append]); exact fun w hr => hK w hr.1)) (h := ?_); rintro _ _ ⟨a2, c2, rfl⟩; try simp only [List.cons_append, List.nil_append]) | fail)) | (refine yM ?_; intro _) | (refine yA ?_; intro _ _ _ _) | fail)) | refine yJ ?_ | ((with_reducible apply gJ_if); (first | (refine J_if xR ?_ ?_ <;> intro _ <;> (try (exfalso; first | contradiction | omega))) | (refine J_ifb xR ?_ ?_ <;> (intro hgb; subst hgb)) | (refine J_ifb xR ?_ ?_ <;> intro _) | fail)) | fail))
      all_goals (first | (exfalso; omega) | skip)
      exact J_ret2 rfl (by rfl) (by rfl) fun w H => ⟨_, ⟨none, 0, rfl, rfl⟩, (Ow.arNil (e := 63) (sz := 7) (enc := spC) H).sel xZ⟩
end Go.Proofs.Ytmbgbhambgoejaa.C
namespace Go.Proofs.Ytmbgbhambgoejaa.C
set_option linter.unusedSimpArgs false
set_option linter.unusedVariables false
open Go.RowKit Go.Pm

theorem u32_el {w : World} (m : Nat) (d : List Value) (_ : d.length = 1) (h : Rs Try.prog w m 25 d) : ∃ z : Int, d = u32C z ∧ U32 z := by
  obtain ⟨z, e, h1, h2⟩ := (Rs.rd _ _ _ h).u32 Try.underlying25
  exact ⟨z, e, h1, h2⟩
theorem u8_el {w : World} (m : Nat) (d : List Value) (_ : d.length = 1) (h : Rs Try.prog w m 5 d) : ∃ z : Int, d = byC z ∧ U8 z := by
  have h0 := leaf_of 5 5 [5] m d (by kernel_rfl) h
  obtain ⟨z, r, e, b, h1⟩ := h0.u8 Try.underlying5
  subst e
  obtain rfl := h1.nil'
  exact ⟨z, rfl, b⟩
theorem seg_el {w : World} (m : Nat) (d : List Value) (_ : d.length = 2) (h : Rs Try.prog w m 56 d) : ∃ s : Sg, d = sgC s ∧ segV w s ∧ SgN s := by
  have h0 := leaf_of 5 56 [4, 30] m d (by kernel_rfl) h
  obtain ⟨b, r, e, h1⟩ := h0.bool Try.underlying4
  subst e
  obtain ⟨a, l, c, r, e, ⟨m', hs⟩, h2⟩ := h1.sl Try.underlying30
  subst e
  obtain rfl := h2.nil'
  obtain ⟨es, e, g1, g2, g3, g4, g5⟩ := hs.list (sz := 1) (b := 4) (enc := u32C) (ok := U32) Try.underlying30 (by kernel_rfl) (by kernel_rfl) u32_el
  subst e
  exact ⟨⟨b, a, c, es⟩, rfl, g4, by show es.length ≤ 35184372088832; simp only [reachBytes] at g3; omega, g5⟩
theorem raw_el {w : World} (m : Nat) (d : List Value) (_ : d.length = 2) (h : Rs Try.prog w m 79 d) : ∃ s : Rw, d = rwC s ∧ rawV w s ∧ RwN s := by
  have h0 := leaf_of 5 79 [3, 77] m d (by kernel_rfl) h
  obtain ⟨b, r, e, hb, h1⟩ := h0.i64 Try.underlying3
  subst e
  obtain ⟨a, l, c, r, e, ⟨m', hs⟩, h2⟩ := h1.sl Try.underlying77
  subst e
  obtain rfl := h2.nil'
  obtain ⟨es, e, g1, g2, g3, g4, g5⟩ := hs.list (sz := 1) (b := 1) (enc := byC) (ok := U8) Try.underlying77 (by kernel_rfl) (by kernel_rfl) u8_el
  subst e
  exact ⟨⟨b, a, c, es⟩, rfl, g4, hb, by show es.length ≤ 140737488355328; simp only [reachBytes] at g3; omega, g5⟩
theorem attrs_leaf {w : World} {cs : List Value} (h0 : Leaf Try.prog w [3, 29, 26, 4, 25, 4, 25, 4, 4, 25, 26, 30, 31] cs) : ∃ d : At, cs = atC d ∧ AtN d ∧ AtV w d := by
  obtain ⟨origin, r, e, b4, h5⟩ := h0.i64 Try.underlying3
  subst e
  obtain ⟨pa, pl, pc, r, e, ⟨m', hs⟩, h6⟩ := h5.sl Try.underlying29
  subst e
  obtain ⟨path, e, g1, g2, g3, g4, g5⟩ := hs.list (sz := 2) (b := 32) (enc := sgC) (ok := fun s => segV w s ∧ SgN s) Try.underlying29 (by kernel_rfl) (by kernel_rfl) seg_el
  subst e
  obtain ⟨next, r, e, b5, h7⟩ := h6.u32 Try.underlying26
  subst e
  obtain ⟨hasMed, r, e, h8⟩ := h7.bool Try.underlying4
  subst e
  obtain ⟨med, r, e, b6, h9⟩ := h8.u32 Try.underlying25
  subst e
  obtain ⟨hasLocal, r, e, h10⟩ := h9.bool Try.underlying4
  subst e
  obtain ⟨loc, r, e, b7, h11⟩ := h10.u32 Try.underlying25
  subst e
  obtain ⟨atomic, r, e, h12⟩ := h11.bool Try.underlying4
  subst e
  obtain ⟨hasMaker, r, e, h13⟩ := h12.bool Try.underlying4
  subst e
  obtain ⟨makerAS, r, e, b8, h14⟩ := h13.u32 Try.underlying25
  subst e
  obtain ⟨maker, r, e, b9, h15⟩ := h14.u32 Try.underlying26
  subst e
  obtain ⟨ca, cn, cc, r, e, ⟨m2, hc⟩, h16⟩ := h15.sl Try.underlying30
  subst e
  obtain ⟨comms, e, i1, i2, i3, i4, i5⟩ := hc.list (sz := 1) (b := 4) (enc := u32C) (ok := U32) Try.underlying30 (by kernel_rfl) (by kernel_rfl) u32_el
  subst e
  obtain ⟨oa, on, oc, r, e, ⟨m3, ho⟩, h17⟩ := h16.sl Try.underlying31
  subst e
  obtain ⟨others, e, j1, j2, j3, j4, j5⟩ := ho.list (sz := 2) (b := 32) (enc := rwC) (ok := fun s => rawV w s ∧ RwN s) Try.underlying31 (by kernel_rfl) (by kernel_rfl) raw_el
  subst e
  obtain rfl := h17.nil'
  exact ⟨⟨origin, pa, pc, path, next, hasMed, med, hasLocal, loc, atomic, hasMaker, makerAS, maker, ca, cc, comms, oa, oc, others⟩, rfl, ⟨b4, b5, b6, b7, b8, b9, fun s hs => (g5 s hs).2, i5, fun s hs => (j5 s hs).2⟩, ⟨g4, fun s hs => (g5 s hs).1⟩, i4, ⟨j4, fun s hs => (j5 s hs).1⟩⟩
theorem attrs_el {w : World} (m : Nat) (d : List Value) (h : Rs Try.prog w m 33 d) : ∃ x : At, d = atC x ∧ AtN x ∧ AtV w x :=
  attrs_leaf (leaf_of 5 33 _ m d (by kernel_rfl) h)
theorem AtV.keep {w w' : World} (hc : ∀ b o u, w.cell? ⟨b, o, none⟩ = some u → w'.cell? ⟨b, o, none⟩ = some u) {d : At} (h : AtV w d) : AtV w' d :=
  ⟨⟨vwKeep hc h.path.vw, fun s hs => vwKeep hc (h.path.segs s hs)⟩, vwKeep hc h.comms, ⟨vwKeep hc h.others.vw, fun s hs => vwKeep hc (h.others.raws s hs)⟩⟩
theorem kn_keep {W : World} {φ : World → Prop} (hk : ∀ {w w' : World}, (∀ b o u, w.cell? ⟨b, o, none⟩ = some u → w'.cell? ⟨b, o, none⟩ = some u) → φ w → φ w') (h : φ W) : Kn (World.all W) φ :=
  Kn.all (fun w ho => hk (fun b o u hu => by
    rw [World.cell?_of_block (w := W) (ho.block b (World.block_lt_of_cell? _ _ hu) (by simp))]
    exact hu) h) fun w w' hh hr => hk (fun b o u hu => by rw [cell?_heap hh]; exact hu) hr
theorem attrs_arg {W : World} {n : Nat} {cs : Array Value} (h : Rs Try.prog W n 33 (Value.agg cs).cells.toList) : ∃ d : At, cs = (atC d).toArray ∧ AtN d ∧ Kn (World.all W) (fun w => AtV w d) := by
  obtain ⟨d, e, h1, h2⟩ := attrs_el n cs.toList h
  exact ⟨d, by rw [← e], h1, kn_keep (fun hc h => AtV.keep hc h) h2⟩
theorem pf_arg {W : World} {n : Nat} {cs : Array Value} (h : Rs Try.prog W n 28 (Value.agg cs).cells.toList) : ∃ p : Pf, cs = (pfC p).toArray ∧ PfN p := by
  have h0 := leaf_of 5 28 [26, 3] n _ (by kernel_rfl) h
  obtain ⟨a, r, e, b1, h1⟩ := h0.u32 Try.underlying26
  obtain ⟨l, r2, e2, b2, h2⟩ := h1.i64 Try.underlying3
  obtain rfl := h2.nil'
  subst e2
  have e3 : cs.toList = [.int .u32 a, .int .i64 l] := e
  exact ⟨(a, l), by rw [← Array.toArray_toList (xs := cs), e3], b1, b2⟩
end Go.Proofs.Ytmbgbhambgoejaa.C
namespace Go.Proofs.Ytmbgbhambgoejaa.C
set_option linter.unusedSimpArgs false
set_option linter.unusedVariables false
set_option maxRecDepth 20000
set_option maxHeartbeats 4000000
open Go.RowKit Go.Pm

abbrev firstS (op : Int) : St := ⟨op, 0, 0, ⟨0, 0, 0, 0, none, 0, []⟩, none, 0, [], none, 0, []⟩
theorem first_ok {op : Int} (ho : op = 2 ∨ op = 3) {ys : List St} (h : LsF 4 ys) (h5 : ys.length ≤ 5) : LsF 4 (firstS op :: ys) := by
  have z1 : CdF 5 ⟨0, 0, 0, 0, none, 0, []⟩ := ⟨⟨i64z, i64z, by unfold U32; decide, i64z⟩, by simp, fun y hy => (by cases hy)⟩
  refine ⟨by simp; omega, fun s hs => ?_⟩
  rcases List.mem_cons.1 hs with rfl | hs
  · exact ⟨⟨by show I64 op; unfold I64; omega, i64z, i64z, ⟨i64z, i64z, by show U32 0; unfold U32; decide, i64z⟩⟩, z1, ⟨by simp, fun s hs => (by cases hs)⟩, ⟨by simp, fun s hs => (by cases hs)⟩⟩
  · exact h.2 s hs
theorem first_seen {op : Int} {ys : List St} {n : Nat} {a a1 : Option Addr} {c c1 : Nat} {w : World} (hn : (firstS op :: ys).length = n) (h : Vw w (.slice a n c) 10 (firstS op :: ys).length (flat stC (firstS op :: ys))) (h1 : LsV w 4 a1 c1 ys) : LsV w 4 a c (firstS op :: ys) := by
  subst hn
  refine ⟨h, fun s hs => ?_⟩
  rcases List.mem_cons.1 hs with rfl | hs
  · exact ⟨⟨Vw.nil w 5, fun y hy => (by cases hy)⟩, ⟨Vw.nil w 10, fun y hy => (by cases hy)⟩, ⟨Vw.nil w 10, fun y hy => (by cases hy)⟩⟩
  · exact h1.2 s hs
theorem first_play {op : Int} (ho : op = 2 ∨ op = 3) {ys : List St} (h : LsF 4 ys) (h5 : ys.length ≤ 5) (hr : rightB 5 (firstS op :: ys) = true) (hs : sizeL 5 (firstS op :: ys) < 4096) (p : Pf) (x : Nf) : playW (makeT (firstS op :: ys)) p 0 x = (if op = 2 then some x else none, 1) := by
  have e1 : makeT (firstS op :: ys) = codeL 5 0 (firstS op :: ys) ++ [endS] := by unfold makeT; rw [if_pos ⟨hr, hs⟩]
  have h0 : (makeT (firstS op :: ys))[0]? = some ⟨20 + op, 0, 0, 0, 0, 0, 0⟩ := by
    rw [e1]
    rcases ho with rfl | rfl <;> rfl
  rcases ho with rfl | rfl
  · rw [playW_acc h0 rfl, if_pos rfl]
  · rw [playW_rej h0 rfl, if_neg (by decide)]
theorem none_make : makeT [] = [endS] := by unfold makeT; rw [if_pos ⟨rfl, by decide⟩]; rfl
theorem none_err : makeE [] = 0 := by unfold makeE; rw [if_pos (show rightB 5 [] = true from rfl), if_pos (by decide)]
theorem none_play (p : Pf) (x : Nf) : playW [endS] p 0 x = (none, 1) := playW_rej (s := endS) rfl rfl
theorem none_check : checkE [endS] = 0 := by decide +kernel
theorem none_spn : ∀ s ∈ [endS], SpN s := by
  intro s hs
  obtain rfl := List.mem_singleton.1 hs
  constructor <;> (first | (show I64 _; unfold I64; decide) | (show U32 _; unfold U32; decide))
theorem nil_ok : LsF 5 [] := ⟨by simp, fun s hs => (by cases hs)⟩
theorem nil_seen (w : World) : LsV w 5 none 0 [] := ⟨Vw.nil w 10, fun s hs => (by cases hs)⟩
theorem order_s (nm : ByteArray) (la : Option Addr) (lc : Nat) (l : List St) (hl : LsR 5 l) (p : Pf) (hp : PfN p) (d : At) (hd : AtN d) (acc : Bool) : Pact Try.prog 4 #[.agg #[.string nm, .slice la l.length lc], .agg (pfC p).toArray, .agg (atC d).toArray, .bool acc] (fun w => LsV w 5 la lc l ∧ AtV w d) [] (ret0 (.bool true)) := by
  refine pact Try.func4 rfl Try.ntmps4 rfl ?_
  intro W K hK
  cases acc
  · (repeat' (first | ((with_reducible apply gL); (first | (with_reducible apply gL_app) | (with_reducible apply gL_app0) | refine yL0 ?_ | refine yL ?_ | ((with_reducible apply gL_go); (first | (refine JL_goq (works27_s) (hφ := xF) (h := ?_); rintro _ _ ⟨rfl, rfl⟩; try simp only [List.cons_append, List.nil_append]) | (refine JL_goq (few_s 4 la lc l hl.down (by omega)) (hφ := (by (try simp only [List.cons_append, List.nil_append]); exact fun w hr => (hK w hr.1).1.down)) (h := ?_); rintro _ _ ⟨a1, c1, ys, ⟨hys, hys5⟩, rfl, rfl⟩; try simp only [List.cons_append, List.nil_append]) | (refine JL_goq (_root_.Go.Proofs.Ytmbgbhambgoejaa.few_s d hd) (hφ := (by (try simp only [List.cons_append, List.nil_append]); exact fun w hr => (hK w hr.1).2)) (h := ?_); rintro _ _ ⟨d1, hd1, hn1, rfl, rfl⟩; try simp only [List.cons_append, List.nil_append]) | fail)) | (refine yM ?_; intro _) | (refine yA ?_; intro _ _ _ _) | ((with_reducible apply gL_gd); (first | (refine JL_guard xR xR ?_ ?_ <;> intro _ <;> (try (exfalso; first | contradiction | omega))) | (refine JL_guardb xR xR ?_ ?_ <;> (intro hgb; subst hgb)) | (refine JL_guardb xR xR ?_ ?_ <;> (intro hgb; fail_if_success (have : type_of% hgb := rfl))) | fail)) | fail)) | ((with_reducible apply gD); (first | (refine JD_nil ?_; try simp only [List.cons_append, List.nil_append]) | (refine JD_bar ?_; try simp only [List.cons_append, List.nil_append]) | (with_reducible apply gD_app) | (with_reducible apply gD_app0) | refine yD ?_ | ((with_reducible apply gD_go); (first | (refine JD_goq (works27_s) (hφ := xF) (h := ?_); rintro _ _ ⟨rfl, rfl⟩; try simp only [List.cons_append, List.nil_append]) | (refine JD_goq (few_s 4 la lc l hl.down (by omega)) (hφ := (by (try simp only [List.cons_append, List.nil_append]); exact fun w hr => (hK w hr.1).1.down)) (h := ?_); rintro _ _ ⟨a1, c1, ys, ⟨hys, hys5⟩, rfl, rfl⟩; try simp only [List.cons_append, List.nil_append]) | (refine JD_goq (_root_.Go.Proofs.Ytmbgbhambgoejaa.few_s d hd) (hφ := (by (try simp only [List.cons_append, List.nil_append]); exact fun w hr => (hK w hr.1).2)) (h := ?_); rintro _ _ ⟨d1, hd1, hn1, rfl, rfl⟩; try simp only [List.cons_append, List.nil_append]) | fail)) | fail)) | refine yJ ?_ | ((with_reducible apply gJ_if); (first | (refine J_if xR ?_ ?_ <;> intro _ <;> (try (exfalso; first | contradiction | omega))) | (refine J_ifb xR ?_ ?_ <;> (intro hgb; subst hgb)) | (refine J_ifb xR ?_ ?_ <;> intro _) | fail)) | refine J_draw (id := 3) [0, 1, 3, 2, 5, 4] [6, 7] mixed xC xD xD ?_ | fail))
    all_goals (first | (exfalso; rename_i h; exact h trivial) | skip)
    have hlen : (firstS 3 :: ys).length = 1 + ys.length := by simp; omega
    have hF := first_ok (op := 3) (by decide) hys hys5
    obtain ⟨L, hL⟩ : ∃ L, firstS 3 :: ys = L := ⟨_, rfl⟩
    have hM := fun ad c => Make4_s (ByteArray.mk #[]) ad c (firstS 3 :: ys) hF
    rw [hlen] at hM
    have hN := Make_s (ByteArray.mk #[]) none 0 [] nil_ok
    rw [none_make, none_err] at hN
    have hP0 := fun a3 c3 => Play_s a3 c3 [endS] p hp d1 hd1 none_check none_spn (by decide) (by decide)
    simp only [none_play] at hP0
    rw [hL] at hM hF
    have hE : makeE L = 0 ∧ rightB 5 L = true ∧ sizeL 5 L < 4096 ∨ makeE L = 260 ∨ makeE L = 3 := by
      unfold makeE
      by_cases h1 : rightB 5 L = true
      · rw [if_pos h1]
        by_cases h2 : sizeL 5 L < 4096
        · rw [if_pos h2]; exact .inl ⟨rfl, h1, h2⟩
        · rw [if_neg h2]; exact .inr (.inr rfl)
      · rw [if_neg h1]; exact .inr (.inl rfl)
    (repeat' (first | ((with_reducible apply gL); (first | (with_reducible apply gL_app) | (with_reducible apply gL_app0) | refine yL0 ?_ | ((with_reducible apply gL_c_append); (first | (refine JL_appY (enc := stC) (firstS 3) ys (tabE etab_ok xR) xR xR xA xR (fun w hr => (hr.has (φ := fun w => LsV w 4 a1 c1 ys) xA).1) xC (by intro _; rfl) (all_one _ (by intro _ _; rfl)) (by omega) xR xR ?_; intro ad5 c5 _ _) | fail)) | refine yL ?_ | (refine yM ?_; intro _) | (refine yA ?_; intro _ _ _ _) | ((with_reducible apply gL_gd); (first | (refine JL_guard xR xR ?_ ?_ <;> intro _ <;> (try (exfalso; first | contradiction | omega))) | (refine JL_guardb xR xR ?_ ?_ <;> (intro hgb; subst hgb)) | (refine JL_guardb xR xR ?_ ?_ <;> (intro hgb; fail_if_success (have : type_of% hgb := rfl))) | fail)) | fail)) | ((with_reducible apply gD); (first | (refine JD_nil ?_; try simp only [List.cons_append, List.nil_append]) | (refine JD_bar ?_; try simp only [List.cons_append, List.nil_append]) | (with_reducible apply gD_app) | (with_reducible apply gD_app0) | refine yD ?_ | fail)) | refine yJ ?_ | ((with_reducible apply gJ_if); (first | (refine J_if xR ?_ ?_ <;> intro _ <;> (try (exfalso; first | contradiction | omega))) | (refine J_ifb xR ?_ ?_ <;> (intro hgb; subst hgb)) | (refine J_ifb xR ?_ ?_ <;> intro _) | fail)) | refine J_draw (id := 3) [0, 1, 3, 2, 5, 4] [6, 7] mixed xC xD xD ?_ | fail))
    rw [hL]
    rcases hE with ⟨e0, hr, hs⟩ | e0
    · rw [e0] at hM
      obtain ⟨k1, k2, k3, k4⟩ := make_spn hF.up hr hs
      have hpl : playW (makeT L) p 0 d1.nf = (none, 1) := by
        rw [← hL] at hr hs ⊢
        exact first_play (op := 3) (by decide) hys hys5 hr hs p d1.nf
      have hP1 := fun a2 c2 => Play_s a2 c2 (makeT L) p hp d1 hd1 k1 k2 k3 k4
      have hS1 := fun a2 c2 => Steps_s a2 c2 (makeT L) p hp d1 hd1 k1 k2 k3 k4
      simp only [hpl] at hP1 hS1
      (repeat' (first | ((with_reducible apply gL); (first | (with_reducible apply gL_app) | (with_reducible apply gL_app0) | refine yL0 ?_ | refine yL ?_ | ((with_reducible apply gL_go); (first | (refine JL_goq (hM ad5 c5) (hφ := (by (try simp only [List.cons_append, List.nil_append]); exact fun w hr => hL ▸ first_seen hlen (hL ▸ Src.ar xA w hr) (hr.has (φ := fun w => LsV w 4 a1 c1 ys) xA))) (h := ?_); rintro _ _ ⟨a2, c2, rfl, rfl⟩; try simp only [List.cons_append, List.nil_append]) | (refine JL_goq (hN) (hφ := (by (try simp only [List.cons_append, List.nil_append]); exact fun w hr => nil_seen w)) (h := ?_); rintro _ _ ⟨a3, c3, rfl, rfl⟩; try simp only [List.cons_append, List.nil_append]) | (refine JL_goq (hP0 a3 c3) (hφ := (by (try simp only [List.cons_append, List.nil_append]); exact fun w hr => ⟨hr.has (φ := fun w => AtV w d1) xA, Src.ar xA w hr⟩)) (h := ?_); rintro _ _ ⟨d2, hd2, hn2, rfl, rfl⟩; try simp only [List.cons_append, List.nil_append]) | (refine JL_goq (hP1 a2 c2) (hφ := (by (try simp only [List.cons_append, List.nil_append]); exact fun w hr => ⟨hr.has (φ := fun w => AtV w d1) xA, Src.ar xA w hr⟩)) (h := ?_); rintro _ _ ⟨d3, hd3, hn3, rfl, rfl⟩; try simp only [List.cons_append, List.nil_append]) | (refine JL_goq (hS1 a2 c2) (hφ := (by (try simp only [List.cons_append, List.nil_append]); exact fun w hr => ⟨hr.has (φ := fun w => AtV w d1) xA, Src.ar xA w hr⟩)) (h := ?_); rintro _ _ ⟨rfl, rfl⟩; try simp only [List.cons_append, List.nil_append]) | fail)) | (refine yM ?_; intro _) | (refine yA ?_; intro _ _ _ _) | ((with_reducible apply gL_gd); (first | (refine JL_guard xR xR ?_ ?_ <;> intro _ <;> (try (exfalso; first | contradiction | omega))) | (refine JL_guardb xR xR ?_ ?_ <;> (intro hgb; subst hgb)) | (refine JL_guardb xR xR ?_ ?_ <;> (intro hgb; fail_if_success (have : type_of% hgb := rfl))) | fail)) | fail)) | ((with_reducible apply gD); (first | (refine JD_nil ?_; try simp only [List.cons_append, List.nil_append]) | (refine JD_bar ?_; try simp only [List.cons_append, List.nil_append]) | (with_reducible apply gD_app) | (with_reducible apply gD_app0) | refine yD ?_ | ((with_reducible apply gD_go); (first | (refine JD_goq (hM ad5 c5) (hφ := (by (try simp only [List.cons_append, List.nil_append]); exact fun w hr => hL ▸ first_seen hlen (hL ▸ Src.ar xA w hr) (hr.has (φ := fun w => LsV w 4 a1 c1 ys) xA))) (h := ?_); rintro _ _ ⟨a2, c2, rfl, rfl⟩; try simp only [List.cons_append, List.nil_append]) | (refine JD_goq (hN) (hφ := (by (try simp only [List.cons_append, List.nil_append]); exact fun w hr => nil_seen w)) (h := ?_); rintro _ _ ⟨a3, c3, rfl, rfl⟩; try simp only [List.cons_append, List.nil_append]) | (refine JD_goq (hP0 a3 c3) (hφ := (by (try simp only [List.cons_append, List.nil_append]); exact fun w hr => ⟨hr.has (φ := fun w => AtV w d1) xA, Src.ar xA w hr⟩)) (h := ?_); rintro _ _ ⟨d2, hd2, hn2, rfl, rfl⟩; try simp only [List.cons_append, List.nil_append]) | (refine JD_goq (hP1 a2 c2) (hφ := (by (try simp only [List.cons_append, List.nil_append]); exact fun w hr => ⟨hr.has (φ := fun w => AtV w d1) xA, Src.ar xA w hr⟩)) (h := ?_); rintro _ _ ⟨d3, hd3, hn3, rfl, rfl⟩; try simp only [List.cons_append, List.nil_append]) | (refine JD_goq (hS1 a2 c2) (hφ := (by (try simp only [List.cons_append, List.nil_append]); exact fun w hr => ⟨hr.has (φ := fun w => AtV w d1) xA, Src.ar xA w hr⟩)) (h := ?_); rintro _ _ ⟨rfl, rfl⟩; try simp only [List.cons_append, List.nil_append]) | fail)) | fail)) | refine yJ ?_ | ((with_reducible apply gJ_if); (first | (refine J_if xR ?_ ?_ <;> intro _ <;> (try (exfalso; first | contradiction | omega))) | (refine J_ifb xR ?_ ?_ <;> (intro hgb; subst hgb)) | (refine J_ifb xR ?_ ?_ <;> intro _) | fail)) | refine J_draw (id := 3) [0, 1, 3, 2, 5, 4] [6, 7] mixed xC xD xD ?_ | fail))
      all_goals (first | (exfalso; omega) | skip)
      exact J_ret1 rfl (by rfl) fun w H => ⟨_, ⟨rfl, rfl⟩, H.sel .nil⟩
    · have hEn : ∀ e : Int, makeE L = e → e ≠ 0 := fun e h => by omega
      obtain ⟨e, he⟩ : ∃ e, makeE L = e := ⟨_, rfl⟩
      have hne := hEn e he
      rw [he] at hM
      (repeat' (first | ((with_reducible apply gL); (first | (with_reducible apply gL_app) | (with_reducible apply gL_app0) | refine yL0 ?_ | refine yL ?_ | ((with_reducible apply gL_go); (first | (refine JL_goq (hM ad5 c5) (hφ := (by (try simp only [List.cons_append, List.nil_append]); exact fun w hr => hL ▸ first_seen hlen (hL ▸ Src.ar xA w hr) (hr.has (φ := fun w => LsV w 4 a1 c1 ys) xA))) (h := ?_); rintro _ _ ⟨a2, c2, rfl, rfl⟩; try simp only [List.cons_append, List.nil_append]) | (refine JL_goq (hN) (hφ := (by (try simp only [List.cons_append, List.nil_append]); exact fun w hr => nil_seen w)) (h := ?_); rintro _ _ ⟨a3, c3, rfl, rfl⟩; try simp only [List.cons_append, List.nil_append]) | (refine JL_goq (hP0 a3 c3) (hφ := (by (try simp only [List.cons_append, List.nil_append]); exact fun w hr => ⟨hr.has (φ := fun w => AtV w d1) xA, Src.ar xA w hr⟩)) (h := ?_); rintro _ _ ⟨d2, hd2, hn2, rfl, rfl⟩; try simp only [List.cons_append, List.nil_append]) | fail)) | (refine yM ?_; intro _) | (refine yA ?_; intro _ _ _ _) | ((with_reducible apply gL_gd); (first | (refine JL_guard xR xR ?_ ?_ <;> intro _ <;> (try (exfalso; first | contradiction | omega))) | (refine JL_guardb xR xR ?_ ?_ <;> (intro hgb; subst hgb)) | (refine JL_guardb xR xR ?_ ?_ <;> (intro hgb; fail_if_success (have : type_of% hgb := rfl))) | fail)) | fail)) | ((with_reducible apply gD); (first | (refine JD_nil ?_; try simp only [List.cons_append, List.nil_append]) | (refine JD_bar ?_; try simp only [List.cons_append, List.nil_append]) | (with_reducible apply gD_app) | (with_reducible apply gD_app0) | refine yD ?_ | ((with_reducible apply gD_go); (first | (refine JD_goq (hM ad5 c5) (hφ := (by (try simp only [List.cons_append, List.nil_append]); exact fun w hr => hL ▸ first_seen hlen (hL ▸ Src.ar xA w hr) (hr.has (φ := fun w => LsV w 4 a1 c1 ys) xA))) (h := ?_); rintro _ _ ⟨a2, c2, rfl, rfl⟩; try simp only [List.cons_append, List.nil_append]) | (refine JD_goq (hN) (hφ := (by (try simp only [List.cons_append, List.nil_append]); exact fun w hr => nil_seen w)) (h := ?_); rintro _ _ ⟨a3, c3, rfl, rfl⟩; try simp only [List.cons_append, List.nil_append]) | (refine JD_goq (hP0 a3 c3) (hφ := (by (try simp only [List.cons_append, List.nil_append]); exact fun w hr => ⟨hr.has (φ := fun w => AtV w d1) xA, Src.ar xA w hr⟩)) (h := ?_); rintro _ _ ⟨d2, hd2, hn2, rfl, rfl⟩; try simp only [List.cons_append, List.nil_append]) | fail)) | fail)) | refine yJ ?_ | ((with_reducible apply gJ_if); (first | (refine J_if xR ?_ ?_ <;> intro _ <;> (try (exfalso; first | contradiction | omega))) | (refine J_ifb xR ?_ ?_ <;> (intro hgb; subst hgb)) | (refine J_ifb xR ?_ ?_ <;> intro _) | fail)) | refine J_draw (id := 3) [0, 1, 3, 2, 5, 4] [6, 7] mixed xC xD xD ?_ | fail))
      all_goals (first | (exfalso; omega) | skip)
      exact J_ret1 rfl (by rfl) fun w H => ⟨_, ⟨rfl, rfl⟩, H.sel .nil⟩
  · (repeat' (first | ((with_reducible apply gL); (first | (with_reducible apply gL_app) | (with_reducible apply gL_app0) | refine yL0 ?_ | refine yL ?_ | ((with_reducible apply gL_go); (first | (refine JL_goq (works27_s) (hφ := xF) (h := ?_); rintro _ _ ⟨rfl, rfl⟩; try simp only [List.cons_append, List.nil_append]) | (refine JL_goq (few_s 4 la lc l hl.down (by omega)) (hφ := (by (try simp only [List.cons_append, List.nil_append]); exact fun w hr => (hK w hr.1).1.down)) (h := ?_); rintro _ _ ⟨a1, c1, ys, ⟨hys, hys5⟩, rfl, rfl⟩; try simp only [List.cons_append, List.nil_append]) | (refine JL_goq (_root_.Go.Proofs.Ytmbgbhambgoejaa.few_s d hd) (hφ := (by (try simp only [List.cons_append, List.nil_append]); exact fun w hr => (hK w hr.1).2)) (h := ?_); rintro _ _ ⟨d1, hd1, hn1, rfl, rfl⟩; try simp only [List.cons_append, List.nil_append]) | fail)) | (refine yM ?_; intro _) | (refine yA ?_; intro _ _ _ _) | ((with_reducible apply gL_gd); (first | (refine JL_guard xR xR ?_ ?_ <;> intro _ <;> (try (exfalso; first | contradiction | omega))) | (refine JL_guardb xR xR ?_ ?_ <;> (intro hgb; subst hgb)) | (refine JL_guardb xR xR ?_ ?_ <;> (intro hgb; fail_if_success (have : type_of% hgb := rfl))) | fail)) | fail)) | ((with_reducible apply gD); (first | (refine JD_nil ?_; try simp only [List.cons_append, List.nil_append]) | (refine JD_bar ?_; try simp only [List.cons_append, List.nil_append]) | (with_reducible apply gD_app) | (with_reducible apply gD_app0) | refine yD ?_ | ((with_reducible apply gD_go); (first | (refine JD_goq (works27_s) (hφ := xF) (h := ?_); rintro _ _ ⟨rfl, rfl⟩; try simp only [List.cons_append, List.nil_append]) | (refine JD_goq (few_s 4 la lc l hl.down (by omega)) (hφ := (by (try simp only [List.cons_append, List.nil_append]); exact fun w hr => (hK w hr.1).1.down)) (h := ?_); rintro _ _ ⟨a1, c1, ys, ⟨hys, hys5⟩, rfl, rfl⟩; try simp only [List.cons_append, List.nil_append]) | (refine JD_goq (_root_.Go.Proofs.Ytmbgbhambgoejaa.few_s d hd) (hφ := (by (try simp only [List.cons_append, List.nil_append]); exact fun w hr => (hK w hr.1).2)) (h := ?_); rintro _ _ ⟨d1, hd1, hn1, rfl, rfl⟩; try simp only [List.cons_append, List.nil_append]) | fail)) | fail)) | refine yJ ?_ | ((with_reducible apply gJ_if); (first | (refine J_if xR ?_ ?_ <;> intro _ <;> (try (exfalso; first | contradiction | omega))) | (refine J_ifb xR ?_ ?_ <;> (intro hgb; subst hgb)) | (refine J_ifb xR ?_ ?_ <;> intro _) | fail)) | refine J_draw (id := 3) [0, 1, 3, 2, 5, 4] [6, 7] mixed xC xD xD ?_ | fail))
    all_goals (first | (exfalso; rename_i h; exact h trivial) | skip)
    have hlen : (firstS 2 :: ys).length = 1 + ys.length := by simp; omega
    have hF := first_ok (op := 2) (by decide) hys hys5
    obtain ⟨L, hL⟩ : ∃ L, firstS 2 :: ys = L := ⟨_, rfl⟩
    have hM := fun ad c => Make4_s (ByteArray.mk #[]) ad c (firstS 2 :: ys) hF
    rw [hlen] at hM
    have hN := Make_s (ByteArray.mk #[]) none 0 [] nil_ok
    rw [none_make, none_err] at hN
    have hP0 := fun a3 c3 => Play_s a3 c3 [endS] p hp d1 hd1 none_check none_spn (by decide) (by decide)
    simp only [none_play] at hP0
    rw [hL] at hM hF
    have hE : makeE L = 0 ∧ rightB 5 L = true ∧ sizeL 5 L < 4096 ∨ makeE L = 260 ∨ makeE L = 3 := by
      unfold makeE
      by_cases h1 : rightB 5 L = true
      · rw [if_pos h1]
        by_cases h2 : sizeL 5 L < 4096
        · rw [if_pos h2]; exact .inl ⟨rfl, h1, h2⟩
        · rw [if_neg h2]; exact .inr (.inr rfl)
      · rw [if_neg h1]; exact .inr (.inl rfl)
    (repeat' (first | ((with_reducible apply gL); (first | (with_reducible apply gL_app) | (with_reducible apply gL_app0) | refine yL0 ?_ | ((with_reducible apply gL_c_append); (first | (refine JL_appY (enc := stC) (firstS 2) ys (tabE etab_ok xR) xR xR xA xR (fun w hr => (hr.has (φ := fun w => LsV w 4 a1 c1 ys) xA).1) xC (by intro _; rfl) (all_one _ (by intro _ _; rfl)) (by omega) xR xR ?_; intro ad5 c5 _ _) | fail)) | refine yL ?_ | (refine yM ?_; intro _) | (refine yA ?_; intro _ _ _ _) | ((with_reducible apply gL_gd); (first | (refine JL_guard xR xR ?_ ?_ <;> intro _ <;> (try (exfalso; first | contradiction | omega))) | (refine JL_guardb xR xR ?_ ?_ <;> (intro hgb; subst hgb)) | (refine JL_guardb xR xR ?_ ?_ <;> (intro hgb; fail_if_success (have : type_of% hgb := rfl))) | fail)) | fail)) | ((with_reducible apply gD); (first | (refine JD_nil ?_; try simp only [List.cons_append, List.nil_append]) | (refine JD_bar ?_; try simp only [List.cons_append, List.nil_append]) | (with_reducible apply gD_app) | (with_reducible apply gD_app0) | refine yD ?_ | fail)) | refine yJ ?_ | ((with_reducible apply gJ_if); (first | (refine J_if xR ?_ ?_ <;> intro _ <;> (try (exfalso; first | contradiction | omega))) | (refine J_ifb xR ?_ ?_ <;> (intro hgb; subst hgb)) | (refine J_ifb xR ?_ ?_ <;> intro _) | fail)) | refine J_draw (id := 3) [0, 1, 3, 2, 5, 4] [6, 7] mixed xC xD xD ?_ | fail))
    rw [hL]
    rcases hE with ⟨e0, hr, hs⟩ | e0
    · rw [e0] at hM
      obtain ⟨k1, k2, k3, k4⟩ := make_spn hF.up hr hs
      have hpl : playW (makeT L) p 0 d1.nf = (some d1.nf, 1) := by
        rw [← hL] at hr hs ⊢
        exact first_play (op := 2) (by decide) hys hys5 hr hs p d1.nf
      have hP1 := fun a2 c2 => Play_s a2 c2 (makeT L) p hp d1 hd1 k1 k2 k3 k4
      have hS1 := fun a2 c2 => Steps_s a2 c2 (makeT L) p hp d1 hd1 k1 k2 k3 k4
      simp only [hpl] at hP1 hS1
      (repeat' (first | ((with_reducible apply gL); (first | (with_reducible apply gL_app) | (with_reducible apply gL_app0) | refine yL0 ?_ | refine yL ?_ | ((with_reducible apply gL_go); (first | (refine JL_goq (hM ad5 c5) (hφ := (by (try simp only [List.cons_append, List.nil_append]); exact fun w hr => hL ▸ first_seen hlen (hL ▸ Src.ar xA w hr) (hr.has (φ := fun w => LsV w 4 a1 c1 ys) xA))) (h := ?_); rintro _ _ ⟨a2, c2, rfl, rfl⟩; try simp only [List.cons_append, List.nil_append]) | (refine JL_goq (hN) (hφ := (by (try simp only [List.cons_append, List.nil_append]); exact fun w hr => nil_seen w)) (h := ?_); rintro _ _ ⟨a3, c3, rfl, rfl⟩; try simp only [List.cons_append, List.nil_append]) | (refine JL_goq (hP0 a3 c3) (hφ := (by (try simp only [List.cons_append, List.nil_append]); exact fun w hr => ⟨hr.has (φ := fun w => AtV w d1) xA, Src.ar xA w hr⟩)) (h := ?_); rintro _ _ ⟨d2, hd2, hn2, rfl, rfl⟩; try simp only [List.cons_append, List.nil_append]) | (refine JL_goq (hP1 a2 c2) (hφ := (by (try simp only [List.cons_append, List.nil_append]); exact fun w hr => ⟨hr.has (φ := fun w => AtV w d1) xA, Src.ar xA w hr⟩)) (h := ?_); rintro _ _ ⟨d3, hd3, hn3, rfl, rfl⟩; try simp only [List.cons_append, List.nil_append]) | (refine JL_goq (hS1 a2 c2) (hφ := (by (try simp only [List.cons_append, List.nil_append]); exact fun w hr => ⟨hr.has (φ := fun w => AtV w d1) xA, Src.ar xA w hr⟩)) (h := ?_); rintro _ _ ⟨rfl, rfl⟩; try simp only [List.cons_append, List.nil_append]) | (refine JL_goq (same_t d3 d1 hd3 hd1 hn3) (hφ := (by (try simp only [List.cons_append, List.nil_append]); exact fun w hr => ⟨hr.has (φ := fun w => AtV w d3) xA, hr.has (φ := fun w => AtV w d1) xA⟩)) (h := ?_); rintro _ _ ⟨rfl, rfl⟩; try simp only [List.cons_append, List.nil_append]) | fail)) | (refine yM ?_; intro _) | (refine yA ?_; intro _ _ _ _) | ((with_reducible apply gL_gd); (first | (refine JL_guard xR xR ?_ ?_ <;> intro _ <;> (try (exfalso; first | contradiction | omega))) | (refine JL_guardb xR xR ?_ ?_ <;> (intro hgb; subst hgb)) | (refine JL_guardb xR xR ?_ ?_ <;> (intro hgb; fail_if_success (have : type_of% hgb := rfl))) | fail)) | fail)) | ((with_reducible apply gD); (first | (refine JD_nil ?_; try simp only [List.cons_append, List.nil_append]) | (refine JD_bar ?_; try simp only [List.cons_append, List.nil_append]) | (with_reducible apply gD_app) | (with_reducible apply gD_app0) | refine yD ?_ | ((with_reducible apply gD_go); (first | (refine JD_goq (hM ad5 c5) (hφ := (by (try simp only [List.cons_append, List.nil_append]); exact fun w hr => hL ▸ first_seen hlen (hL ▸ Src.ar xA w hr) (hr.has (φ := fun w => LsV w 4 a1 c1 ys) xA))) (h := ?_); rintro _ _ ⟨a2, c2, rfl, rfl⟩; try simp only [List.cons_append, List.nil_append]) | (refine JD_goq (hN) (hφ := (by (try simp only [List.cons_append, List.nil_append]); exact fun w hr => nil_seen w)) (h := ?_); rintro _ _ ⟨a3, c3, rfl, rfl⟩; try simp only [List.cons_append, List.nil_append]) | (refine JD_goq (hP0 a3 c3) (hφ := (by (try simp only [List.cons_append, List.nil_append]); exact fun w hr => ⟨hr.has (φ := fun w => AtV w d1) xA, Src.ar xA w hr⟩)) (h := ?_); rintro _ _ ⟨d2, hd2, hn2, rfl, rfl⟩; try simp only [List.cons_append, List.nil_append]) | (refine JD_goq (hP1 a2 c2) (hφ := (by (try simp only [List.cons_append, List.nil_append]); exact fun w hr => ⟨hr.has (φ := fun w => AtV w d1) xA, Src.ar xA w hr⟩)) (h := ?_); rintro _ _ ⟨d3, hd3, hn3, rfl, rfl⟩; try simp only [List.cons_append, List.nil_append]) | (refine JD_goq (hS1 a2 c2) (hφ := (by (try simp only [List.cons_append, List.nil_append]); exact fun w hr => ⟨hr.has (φ := fun w => AtV w d1) xA, Src.ar xA w hr⟩)) (h := ?_); rintro _ _ ⟨rfl, rfl⟩; try simp only [List.cons_append, List.nil_append]) | (refine JD_goq (same_t d3 d1 hd3 hd1 hn3) (hφ := (by (try simp only [List.cons_append, List.nil_append]); exact fun w hr => ⟨hr.has (φ := fun w => AtV w d3) xA, hr.has (φ := fun w => AtV w d1) xA⟩)) (h := ?_); rintro _ _ ⟨rfl, rfl⟩; try simp only [List.cons_append, List.nil_append]) | fail)) | fail)) | refine yJ ?_ | ((with_reducible apply gJ_if); (first | (refine J_if xR ?_ ?_ <;> intro _ <;> (try (exfalso; first | contradiction | omega))) | (refine J_ifb xR ?_ ?_ <;> (intro hgb; subst hgb)) | (refine J_ifb xR ?_ ?_ <;> intro _) | fail)) | refine J_draw (id := 3) [0, 1, 3, 2, 5, 4] [6, 7] mixed xC xD xD ?_ | fail))
      all_goals (first | (exfalso; omega) | skip)
      exact J_ret1 rfl (by rfl) fun w H => ⟨_, ⟨rfl, rfl⟩, H.sel .nil⟩
    · have hEn : ∀ e : Int, makeE L = e → e ≠ 0 := fun e h => by omega
      obtain ⟨e, he⟩ : ∃ e, makeE L = e := ⟨_, rfl⟩
      have hne := hEn e he
      rw [he] at hM
      (repeat' (first | ((with_reducible apply gL); (first | (with_reducible apply gL_app) | (with_reducible apply gL_app0) | refine yL0 ?_ | refine yL ?_ | ((with_reducible apply gL_go); (first | (refine JL_goq (hM ad5 c5) (hφ := (by (try simp only [List.cons_append, List.nil_append]); exact fun w hr => hL ▸ first_seen hlen (hL ▸ Src.ar xA w hr) (hr.has (φ := fun w => LsV w 4 a1 c1 ys) xA))) (h := ?_); rintro _ _ ⟨a2, c2, rfl, rfl⟩; try simp only [List.cons_append, List.nil_append]) | (refine JL_goq (hN) (hφ := (by (try simp only [List.cons_append, List.nil_append]); exact fun w hr => nil_seen w)) (h := ?_); rintro _ _ ⟨a3, c3, rfl, rfl⟩; try simp only [List.cons_append, List.nil_append]) | (refine JL_goq (hP0 a3 c3) (hφ := (by (try simp only [List.cons_append, List.nil_append]); exact fun w hr => ⟨hr.has (φ := fun w => AtV w d1) xA, Src.ar xA w hr⟩)) (h := ?_); rintro _ _ ⟨d2, hd2, hn2, rfl, rfl⟩; try simp only [List.cons_append, List.nil_append]) | fail)) | (refine yM ?_; intro _) | (refine yA ?_; intro _ _ _ _) | ((with_reducible apply gL_gd); (first | (refine JL_guard xR xR ?_ ?_ <;> intro _ <;> (try (exfalso; first | contradiction | omega))) | (refine JL_guardb xR xR ?_ ?_ <;> (intro hgb; subst hgb)) | (refine JL_guardb xR xR ?_ ?_ <;> (intro hgb; fail_if_success (have : type_of% hgb := rfl))) | fail)) | fail)) | ((with_reducible apply gD); (first | (refine JD_nil ?_; try simp only [List.cons_append, List.nil_append]) | (refine JD_bar ?_; try simp only [List.cons_append, List.nil_append]) | (with_reducible apply gD_app) | (with_reducible apply gD_app0) | refine yD ?_ | ((with_reducible apply gD_go); (first | (refine JD_goq (hM ad5 c5) (hφ := (by (try simp only [List.cons_append, List.nil_append]); exact fun w hr => hL ▸ first_seen hlen (hL ▸ Src.ar xA w hr) (hr.has (φ := fun w => LsV w 4 a1 c1 ys) xA))) (h := ?_); rintro _ _ ⟨a2, c2, rfl, rfl⟩; try simp only [List.cons_append, List.nil_append]) | (refine JD_goq (hN) (hφ := (by (try simp only [List.cons_append, List.nil_append]); exact fun w hr => nil_seen w)) (h := ?_); rintro _ _ ⟨a3, c3, rfl, rfl⟩; try simp only [List.cons_append, List.nil_append]) | (refine JD_goq (hP0 a3 c3) (hφ := (by (try simp only [List.cons_append, List.nil_append]); exact fun w hr => ⟨hr.has (φ := fun w => AtV w d1) xA, Src.ar xA w hr⟩)) (h := ?_); rintro _ _ ⟨d2, hd2, hn2, rfl, rfl⟩; try simp only [List.cons_append, List.nil_append]) | fail)) | fail)) | refine yJ ?_ | ((with_reducible apply gJ_if); (first | (refine J_if xR ?_ ?_ <;> intro _ <;> (try (exfalso; first | contradiction | omega))) | (refine J_ifb xR ?_ ?_ <;> (intro hgb; subst hgb)) | (refine J_ifb xR ?_ ?_ <;> intro _) | fail)) | refine J_draw (id := 3) [0, 1, 3, 2, 5, 4] [6, 7] mixed xC xD xD ?_ | fail))
      all_goals (first | (exfalso; omega) | skip)
      exact J_ret1 rfl (by rfl) fun w H => ⟨_, ⟨rfl, rfl⟩, H.sel .nil⟩
end Go.Proofs.Ytmbgbhambgoejaa.C
namespace Go.Proofs.Ytmbgbhambgoejaa
set_option linter.unusedSimpArgs false
set_option linter.unusedVariables false
open Go.RowKit Go.Pm

namespace runOrder
theorem walk {W : World} (n0 : Nat) {cs0 : Array Value} (g0 : Rs Try.prog W n0 24 (Value.agg cs0).cells.toList) (n1 : Nat) {cs1 : Array Value} (g1 : Rs Try.prog W n1 28 (Value.agg cs1).cells.toList) (n2 : Nat) {cs2 : Array Value} (g2 : Rs Try.prog W n2 33 (Value.agg cs2).cells.toList) (n3 : Nat) {acc : Bool} (g3 : Rs Try.prog W n3 4 (Value.bool acc).cells.toList) :
    Calls Try.prog 4 #[.agg cs0, .agg cs1, .agg cs2, .bool acc] W fun e w' => e = .returned (.bool true) ∧ Only [] W w' := by
  obtain ⟨nm, a, c, l, rfl, h1, h2⟩ := C.policy_arg g0
  obtain ⟨p, rfl, h3⟩ := C.pf_arg g1
  obtain ⟨d, rfl, h4, h5⟩ := C.attrs_arg g2
  exact (C.order_s nm a c l h1 p h3 d h4 acc).law (h2.and h5)
end runOrder
namespace runOrder
open Go.ChangeShapes Go.WideShapes Go.ChangeAt
set_option linter.unusedVariables false

theorem own : ownKnob Try.prog.godebug = none := by kernel_rfl
theorem laidOut : laidOutB Try.prog = true := by kernel_rfl

set_option maxRecDepth 100000 in
theorem lifted (os : Os) (started : os.Started) (H : Type) (enc : TypeId × Value → H) :
    ReturnsInHanded {} Try.checked os 4 .any (Rows.runOrderSpec.pre6 enc Try.prog Try.f4 Rows.runOrderRow.domain false) (Rows.runOrderSpec.post enc Try.prog Try.f4 false true false false) := by
  refine returnsInHanded_of_change_sized (C := Try.checked) own started (by kernel_rfl) Try.func4
    (ChangeSpec.witness6 (enc := enc) (C := Try.checked) false ⟨#[], #[.agg #[.string "".toUTF8, .slice none 0 0], .agg #[.int .u32 0, .int .i64 0], .agg #[.int .i64 0, .slice none 0 0, .int .u32 0, .bool false, .int .u32 0, .bool false, .int .u32 0, .bool false, .bool false, .int .u32 0, .int .u32 0, .slice none 0 0, .slice none 0 0], .bool false], []⟩ 8 (by kernel_rfl) (by kernel_rfl) (by kernel_rfl) (by kernel_rfl)) ?_
  intro W base args ds gs before hval0 hW hcnd hsz hreach
  have hval : ∀ (j : Nat) t v, Try.f4.params[j]? = some t → args[j]? = some v → Value.okWide Try.prog W .any base t v := hval0
  have hW' := hW
  obtain ⟨p, q, hA0, hV, rfl, hfz, hnd⟩ := hW
  have hA : DataW.TrodAll enc Try.prog W 0 (fun _ => true) true Try.f4.params.toList args.toList ds p := hA0
  rw [Try.params4] at hA hval
  obtain ⟨v0, vs0, d0, ds0, p0, q0, hargs, rfl, rfl, h0, r0⟩ := trodAll_cons hA
  obtain ⟨v1, vs1, d1, ds1, p1, q1, rfl, rfl, rfl, h1, r1⟩ := trodAll_cons r0
  obtain ⟨v2, vs2, d2, ds2, p2, q2, rfl, rfl, rfl, h2, r2⟩ := trodAll_cons r1
  obtain ⟨v3, vs3, d3, ds3, p3, q3, rfl, rfl, rfl, h3, r3⟩ := trodAll_cons r2
  obtain ⟨rfl, rfl, rfl⟩ := trodAll_nil r3
  obtain rfl : args = #[v0, v1, v2, v3] := by cases args; simp_all
  obtain ⟨rfl, rfl⟩ := trodVars_none hV
  have k0 := h0
  have lt0 : ∀ x ∈ p0, x.block < W.heap.size := by obtain ⟨m, hm⟩ := k0; exact DataW.trod_lt m _ _ _ hm
  obtain ⟨n0, g0⟩ := Rs.of_weights hsz 0 (by first | rfl | (simp [Try.params4])) rfl h0
  obtain ⟨cs0, rfl, hs0⟩ := okWide_struct Try.underlying24 (hval 0 24 v0 rfl rfl)
  have k1 := h1
  have lt1 : ∀ x ∈ p1, x.block < W.heap.size := by obtain ⟨m, hm⟩ := k1; exact DataW.trod_lt m _ _ _ hm
  obtain ⟨n1, g1⟩ := Rs.of_weights hsz 1 (by first | rfl | (simp [Try.params4])) rfl h1
  obtain ⟨cs1, rfl, hs1⟩ := okWide_struct Try.underlying28 (hval 1 28 v1 rfl rfl)
  have k2 := h2
  have lt2 : ∀ x ∈ p2, x.block < W.heap.size := by obtain ⟨m, hm⟩ := k2; exact DataW.trod_lt m _ _ _ hm
  obtain ⟨n2, g2⟩ := Rs.of_weights hsz 2 (by first | rfl | (simp [Try.params4])) rfl h2
  obtain ⟨cs2, rfl, hs2⟩ := okWide_struct Try.underlying33 (hval 2 33 v2 rfl rfl)
  have k3 := h3
  have lt3 : ∀ x ∈ p3, x.block < W.heap.size := by obtain ⟨m, hm⟩ := k3; exact DataW.trod_lt m _ _ _ hm
  obtain ⟨n3, g3⟩ := Rs.of_weights hsz 3 (by first | rfl | (simp [Try.params4])) rfl h3
  obtain ⟨a3, rfl⟩ := okWide_bool Try.underlying4 (hval 3 4 v3 rfl rfl)
  refine (walk n0 g0 n1 g1 n2 g2 n3 g3).mono fun e W' ⟨he, hg⟩ => ?_
  subst he
  have bel := hg.belowNil
  exact ⟨_, rfl, _, _, _, [], _, [], hW', trodAll_mk1 (shut_bool Try.underlying4 _), (trodAll_cons_mk (Below.trod laidOut (by kernel_rfl) (of_decide_eq_true (by kernel_rfl)) k0 bel lt0) (trodAll_cons_mk (Below.trod laidOut (by kernel_rfl) (of_decide_eq_true (by kernel_rfl)) k1 bel lt1) (trodAll_cons_mk (Below.trod laidOut (by kernel_rfl) (of_decide_eq_true (by kernel_rfl)) k2 bel lt2) (trodAll_cons_mk (Below.trod laidOut (by kernel_rfl) (of_decide_eq_true (by kernel_rfl)) k3 bel lt3) trodAll_mk0)))), rfl, bel.frame _, fun h => by cases h⟩

theorem over : Rows.runOrderRow.holds Try.pinned (OpenSpec.ofChange Rows.runOrderSpec) :=
  OpenClaim.holds_of_wide 4 Try.f4 rfl rfl rfl rfl rfl rfl rfl ⟨rfl, rfl, rfl, rfl, rfl⟩ rfl rfl rfl rfl rfl (by kernel_rfl) Try.func4 (by kernel_rfl)
    (of_decide_eq_true (by kernel_rfl)) (by unfold Func.isWrapper; first | (rw [if_pos (by decide +kernel)]; kernel_rfl) | (rw [if_neg (by decide +kernel)]; exact ⟨rfl, rfl⟩))
    (fun os started H enc _ => lifted os started H enc)

theorem proved : Rows.RunOrderSaid := over
#print axioms proved
end runOrder
end Go.Proofs.Ytmbgbhambgoejaa
