/-
  The store's Free, Get, Count, Len; what they do, in plain words.
-/
import Derived.Test.YtimamemekdmpeaaAs14
namespace Go.Proofs.Ytimamemekdmpeaa
set_option linter.unusedSimpArgs false
set_option linter.unusedVariables false
set_option maxRecDepth 20000
set_option maxHeartbeats 4000000
open Go.RowKit Go.Pm

/-- What is kept by a number. -/
def fnd (S : List En) (id : Int) : Option En := S.find? (fun e => decide (e.id = id))
def fndX (S : List En) (x : Nf) : Option En := S.find? (fun e => decide (e.x = x))
noncomputable def keepF (S : List En) (c : Int) (x : Nf) : (List En × Int) × Int × Int :=
  match okN x with
  | false => ((S, c), 0, 2)
  | true => match fndX S x with
    | some e => ((S.map (fun a => if a.x = x then ⟨a.id, a.n + 1, a.x⟩ else a), c), e.id, 0)
    | none => if S.length = 4096 then ((S, c), 0, 4) else ((S ++ [⟨c + 1, 1, x⟩], c + 1), c + 1, 0)
def freeF (S : List En) (id : Int) : List En × Int :=
  match fnd S id with
  | none => (S, 5)
  | some e => if e.n = 1 then (S.filter (fun a => decide (a.id ≠ id)), 0) else (S.map (fun a => if a.id = id then ⟨a.id, a.n - 1, a.x⟩ else a), 0)
def cntF (S : List En) (id : Int) : Int := match fnd S id with | none => 0 | some e => e.n
theorem fnd_none {S : List En} {id : Int} (h : fnd S id = none) : ∀ e ∈ S, e.id ≠ id := fun e he => by
  have := List.find?_eq_none.1 h e he
  simpa using this
theorem fnd_some {S : List En} {id : Int} {e : En} (h : fnd S id = some e) : ∃ A C, S = A ++ e :: C ∧ e.id = id ∧ ∀ a ∈ A, a.id ≠ id := by
  obtain ⟨h1, A, C, h2, h3⟩ := List.find?_eq_some_iff_append.1 h
  exact ⟨A, C, h2, by simpa using h1, fun a ha => by simpa using h3 a ha⟩
theorem fndX_none {S : List En} {x : Nf} (h : fndX S x = none) : ∀ e ∈ S, e.x ≠ x := fun e he => by
  have := List.find?_eq_none.1 h e he
  simpa using this
theorem fndX_some {S : List En} {x : Nf} {e : En} (h : fndX S x = some e) : ∃ A C, S = A ++ e :: C ∧ e.x = x ∧ ∀ a ∈ A, a.x ≠ x := by
  obtain ⟨h1, A, C, h2, h3⟩ := List.find?_eq_some_iff_append.1 h
  exact ⟨A, C, h2, by simpa using h1, fun a ha => by simpa using h3 a ha⟩
theorem map_mid {α : Type} {p : α → Prop} [DecidablePred p] {g : α → α} {A C : List α} {e : α} (h1 : ∀ a ∈ A, ¬ p a) (h2 : ∀ a ∈ C, ¬ p a) (he : p e) : (A ++ e :: C).map (fun a => if p a then g a else a) = A ++ g e :: C := by
  rw [List.map_append, List.map_cons, if_pos he]
  congr 1
  · exact (List.map_congr_left fun a ha => if_neg (h1 a ha)).trans (List.map_id' A)
  · congr 1
    exact (List.map_congr_left fun a ha => if_neg (h2 a ha)).trans (List.map_id' C)
theorem filter_mid {α : Type} {p : α → Prop} [DecidablePred p] {A C : List α} {e : α} (h1 : ∀ a ∈ A, p a) (h2 : ∀ a ∈ C, p a) (he : ¬ p e) : (A ++ e :: C).filter (fun a => decide (p a)) = A ++ C := by
  rw [List.filter_append, List.filter_cons, if_neg (by simpa using he)]
  congr 1
  · exact List.filter_eq_self.2 fun a ha => decide_eq_true (h1 a ha)
  · exact List.filter_eq_self.2 fun a ha => decide_eq_true (h2 a ha)
/-- One in the middle is changed, or goes. -/
theorem StOk.set {B B' : Int} {A C : List En} {e : En} {c m : Int} (h : StOk B (A ++ e :: C) c) (hb : B ≤ B') (hm : 1 ≤ m ∧ m ≤ B') : StOk B' (A ++ ⟨e.id, m, e.x⟩ :: C) c := by
  have g : ∀ a ∈ A ++ ⟨e.id, m, e.x⟩ :: C, ∃ b ∈ A ++ e :: C, b.id = a.id ∧ b.x = a.x ∧ (a.n = b.n ∨ a.n = m) := by
    intro a ha
    rcases List.mem_append.1 ha with ha | ha
    · exact ⟨a, by simp [ha], rfl, rfl, .inl rfl⟩
    · rcases List.mem_cons.1 ha with rfl | ha
      · exact ⟨e, by simp, rfl, rfl, .inr rfl⟩
      · exact ⟨a, by simp [ha], rfl, rfl, .inl rfl⟩
  have p1 := List.pairwise_append.1 h.idd
  have p2 := List.pairwise_append.1 h.xd
  have q1 := List.pairwise_cons.1 p1.2.1
  have q2 := List.pairwise_cons.1 p2.2.1
  refine ⟨⟨h.cnt.1, by have := h.cnt.2; omega⟩, fun a ha => ?_, fun a ha => ?_, fun a ha => ?_, ?_, ?_, ?_⟩
  · obtain ⟨b, hb, e1, _⟩ := g a ha
    rw [← e1]; exact h.ids b hb
  · obtain ⟨b, hb', _, _, e3⟩ := g a ha
    have := h.n b hb'
    omega
  · obtain ⟨b, hb, _, e2, _⟩ := g a ha
    rw [← e2]; exact h.ok b hb
  · refine List.pairwise_append.2 ⟨p1.1, List.pairwise_cons.2 ⟨q1.1, q1.2⟩, fun a ha b hb => ?_⟩
    rcases List.mem_cons.1 hb with rfl | hb
    · exact p1.2.2 a ha e (by simp)
    · exact p1.2.2 a ha b (by simp [hb])
  · refine List.pairwise_append.2 ⟨p2.1, List.pairwise_cons.2 ⟨q2.1, q2.2⟩, fun a ha b hb => ?_⟩
    rcases List.mem_cons.1 hb with rfl | hb
    · exact p2.2.2 a ha e (by simp)
    · exact p2.2.2 a ha b (by simp [hb])
  · have := h.len
    simpa using this
theorem StOk.gone {B : Int} {A C : List En} {e : En} {c : Int} (h : StOk B (A ++ e :: C) c) : StOk B (A ++ C) c := by
  have g : (A ++ C).Sublist (A ++ e :: C) := (List.Sublist.refl A).append (List.sublist_cons_self e C)
  exact ⟨h.cnt, fun a ha => h.ids a (g.subset ha), fun a ha => h.n a (g.subset ha), fun a ha => h.ok a (g.subset ha), h.idd.sublist g, h.xd.sublist g, Nat.le_trans g.length_le h.len⟩
theorem StOk.new {B : Int} {S : List En} {c : Int} {x : Nf} (h : StOk B S c) (hB : 0 ≤ B) (hx : okN x = true) (hn : NfN x) (hne : ∀ e ∈ S, e.x ≠ x) (hf : S.length ≠ 4096) : StOk (B + 1) (S ++ [⟨c + 1, 1, x⟩]) (c + 1) := by
  have hc := h.cnt
  refine ⟨by omega, fun a ha => ?_, fun a ha => ?_, fun a ha => ?_, ?_, ?_, ?_⟩
  · rcases List.mem_append.1 ha with ha | ha
    · have := h.ids a ha; omega
    · obtain rfl := List.mem_singleton.1 ha; dsimp only; omega
  · rcases List.mem_append.1 ha with ha | ha
    · have := h.n a ha; omega
    · obtain rfl := List.mem_singleton.1 ha; dsimp only; omega
  · rcases List.mem_append.1 ha with ha | ha
    · exact h.ok a ha
    · obtain rfl := List.mem_singleton.1 ha; exact ⟨hx, hn⟩
  · refine List.pairwise_append.2 ⟨h.idd, List.pairwise_singleton _ _, fun a ha b hb => ?_⟩
    obtain rfl := List.mem_singleton.1 hb
    have := h.ids a ha
    dsimp only
    omega
  · refine List.pairwise_append.2 ⟨h.xd, List.pairwise_singleton _ _, fun a ha b hb => ?_⟩
    obtain rfl := List.mem_singleton.1 hb
    exact hne a ha
  · have := h.len
    simp only [List.length_append, List.length_cons, List.length_nil]
    omega
theorem keepF_hit {B : Int} {A C : List En} {e : En} {c : Int} {x : Nf} (h : StOk B (A ++ e :: C) c) (he : e.x = x) (hf : fndX (A ++ e :: C) x = some e) (hx : okN x = true) : keepF (A ++ e :: C) c x = ((A ++ ⟨e.id, e.n + 1, e.x⟩ :: C, c), e.id, 0) := by
  have hm := h.mid
  unfold keepF
  rw [hx, hf]
  dsimp only
  rw [map_mid (p := fun a : En => a.x = x) (g := fun a => ⟨a.id, a.n + 1, a.x⟩) (fun a ha => by rw [← he]; exact (hm.1 a ha).2) (fun a ha => by rw [← he]; exact (hm.2 a ha).2) he]
theorem keepF_ok {B : Int} {S : List En} {c : Int} {x : Nf} (h : StOk B S c) (hB : 0 ≤ B) (hn : NfN x) : StOk (B + 1) (keepF S c x).1.1 (keepF S c x).1.2 := by
  rcases hx : okN x with _ | _
  · have : keepF S c x = ((S, c), 0, 2) := by unfold keepF; rw [hx]
    rw [this]
    exact h.mono (by omega)
  · rcases hf : fndX S x with _ | e
    · by_cases hl : S.length = 4096
      · have : keepF S c x = ((S, c), 0, 4) := by unfold keepF; rw [hx, hf]; dsimp only; rw [if_pos hl]
        rw [this]
        exact h.mono (by omega)
      · have : keepF S c x = ((S ++ [⟨c + 1, 1, x⟩], c + 1), c + 1, 0) := by unfold keepF; rw [hx, hf]; dsimp only; rw [if_neg hl]
        rw [this]
        exact h.new hB hx hn (fndX_none hf) hl
    · obtain ⟨A, C, rfl, he, _⟩ := fndX_some hf
      rw [keepF_hit h he hf hx]
      have := h.n e (by simp)
      exact h.set (by omega) (by omega)
theorem freeF_hit {B : Int} {A C : List En} {e : En} {c id : Int} (h : StOk B (A ++ e :: C) c) (he : e.id = id) (hf : fnd (A ++ e :: C) id = some e) : freeF (A ++ e :: C) id = if e.n = 1 then (A ++ C, 0) else (A ++ ⟨e.id, e.n - 1, e.x⟩ :: C, 0) := by
  have hm := h.mid
  unfold freeF
  rw [hf]
  dsimp only
  rw [map_mid (p := fun a : En => a.id = id) (g := fun a => ⟨a.id, a.n - 1, a.x⟩) (fun a ha => by rw [← he]; exact (hm.1 a ha).1) (fun a ha => by rw [← he]; exact (hm.2 a ha).1) he,
    filter_mid (p := fun a : En => a.id ≠ id) (fun a ha => by rw [← he]; exact (hm.1 a ha).1) (fun a ha => by rw [← he]; exact (hm.2 a ha).1) (by simpa using he)]
theorem freeF_ok {B : Int} {S : List En} {c id : Int} (h : StOk B S c) : StOk B (freeF S id).1 c := by
  rcases hf : fnd S id with _ | e
  · have : freeF S id = (S, 5) := by unfold freeF; rw [hf]
    rw [this]
    exact h
  · obtain ⟨A, C, rfl, he, _⟩ := fnd_some hf
    rw [freeF_hit h he hf]
    split
    · exact h.gone
    · have := h.n e (by simp)
      exact h.set (by omega) (by omega)
/-- Nothing at all. -/
def zAt : At := ⟨0, none, 0, [], 0, false, 0, false, 0, false, false, 0, 0, none, 0, [], none, 0, []⟩
theorem zAt_f : AtF zAt := by
  refine ⟨⟨by unfold I64 zAt; decide, by unfold U32 zAt; decide, by unfold U32 zAt; decide, by unfold U32 zAt; decide, by unfold U32 zAt; decide, by unfold U32 zAt; decide, ?_, ?_, ?_⟩, by unfold zAt; decide, by unfold zAt; decide, by unfold zAt; decide⟩
  all_goals (intro s hs; exact absurd hs List.not_mem_nil)
theorem zAt_v (w : World) : AtV w zAt := ⟨⟨Vw.nil w 2, fun _ h => absurd h List.not_mem_nil⟩, Vw.nil w 1, Vw.nil w 2, fun _ h => absurd h List.not_mem_nil⟩
theorem free_miss (sp : Nat) (S : List En) (c id : Int) (hn : ∀ e ∈ S, e.id ≠ id) : Pact Try.prog 15 #[.pointer (some ⟨sp, 0, none⟩), .int .i64 id] (fun _ => True) [stoA sp S c] (fun u L' => u = .int .i64 5 ∧ L' = [stoA sp S c]) := by
  refine pact Try.func15 rfl Try.ntmps15 rfl ?_
  intro W K _
  refine J_open (fun w H => stoOpen H .here) ?_
  rintro ⟨⟨mb, lb, M⟩, hM⟩
  dsimp only at hM ⊢
  (repeat' (first | ((with_reducible apply gJ); (first | refine J_seq ?_ | refine J_reg ?_ | refine J_skip ?_ | refine J_block ?_ | refine J_blk ?_ | refine J_exit rfl ?_ | refine J_goto rfl ?_ | ((with_reducible apply gJ_if); (first | refine J_ift rfl ?_ | refine J_iff rfl ?_ | (refine J_if xR ?_ ?_ <;> intro _ <;> (try (exfalso; first | contradiction | omega))) | (refine J_ifb xR ?_ ?_ <;> (intro hgb; subst hgb)) | (refine J_ifb xR ?_ ?_ <;> intro _) | fail)) | refine J_label ?_ | refine J_draw (id := 7) [0, 1, 2, 3, 4, 5, 6, 7] [8] mixed xC xD xD ?_ | fail)) | ((with_reducible apply gL); (first | refine JL_nil ?_ | refine L_move ?_ | refine L_assign ?_ | refine L_fieldAddr ?_ | refine L_load ?_ | refine L_nilCheck ?_ | refine L_extract ?_ | refine L_bin_eql ?_ | refine L_bin_neq ?_ | refine L_bin_sub_i64 ?_ | refine L_bin_sub_r ?_ | ((with_reducible apply gL_store); (first | refine JL_st xR xR xT xC xR xE xR ?_ | refine JL_stW xR xR xT xW xR xR xR ?_ | refine JL_stS xR xR xT xW xP xR xR ?_ | refine JL_stEl xR xR xT xR xL xR (tabS stab_ok xR) xR xR xO ?_ | fail)) | ((with_reducible apply gL_go); (first | (refine JL_goq (find_miss sp mb lb c id M (fun a ha => hn _ (hM.mem ha))) (hφ := xF) (h := ?_); rintro _ _ ⟨rfl, rfl⟩; try simp only [List.cons_append, List.nil_append]) | fail)) | fail)) | ((with_reducible apply gD); (first | (refine JD_nil ?_; try simp only [List.cons_append, List.nil_append]) | (refine JD_bar ?_; try simp only [List.cons_append, List.nil_append]) | refine D_move ?_ | refine D_fieldAddr ?_ | refine D_load ?_ | refine D_nilCheck ?_ | ((with_reducible apply gD_load); (first | refine JD_ldM xR xT xC xR xR ?_ | refine JD_ldWM xR xT xW xR ?_ | refine JD_ldSM xR xT (tabS stab_ok xR) xG xC xR ?_ | fail)) | fail)) | fail))
  exact J_ret1 rfl (by rfl) fun w H => ⟨_, ⟨rfl, rfl⟩, Ow.sel (stoShut hM H (by (first | ((with_reducible (repeat (first | exact Sb.nil | apply Sb.cons | exact Tk.here | apply Tk.there))); done) | (repeat (first | exact Sb.nil | apply Sb.cons | exact Tk.here | apply Tk.there))))) (by (first | ((with_reducible (repeat (first | exact Sb.nil | apply Sb.cons | exact Tk.here | apply Tk.there))); done) | (repeat (first | exact Sb.nil | apply Sb.cons | exact Tk.here | apply Tk.there))))⟩
theorem free_dec (B : Int) (hB : B ≤ 1000000000) (sp : Nat) (A C : List En) (e : En) (c id : Int) (hs : StOk B (A ++ e :: C) c) (he : e.id = id) (h1 : e.n ≠ 1) : Pact Try.prog 15 #[.pointer (some ⟨sp, 0, none⟩), .int .i64 id] (fun _ => True) [stoA sp (A ++ e :: C) c] (fun u L' => u = .int .i64 0 ∧ L' = [stoA sp (A ++ ⟨e.id, e.n - 1, e.x⟩ :: C) c]) := by
  refine pact Try.func15 rfl Try.ntmps15 rfl ?_
  intro W K _
  have hmid := hs.mid
  have hnn := hs.n e (by simp)
  refine J_open (fun w H => stoOpen H .here) ?_
  rintro ⟨⟨mb, lb, M⟩, hM⟩
  dsimp only at hM ⊢
  obtain ⟨MA, m, MC, rfl, rfl, hMA, hMC, hmd, hmx⟩ := hM.split
  refine J_heap (fun w H => meOpen (Ow.satsMid H (by (first | ((with_reducible (repeat (first | exact Tk.here | apply Tk.there))); done) | ((simp only [List.cons_append, List.nil_append]); (with_reducible (repeat (first | exact Tk.here | apply Tk.there))); done) | fail))) .here) ?_
  (repeat' (first | ((with_reducible apply gJ); (first | refine J_seq ?_ | refine J_reg ?_ | refine J_skip ?_ | refine J_block ?_ | refine J_blk ?_ | refine J_exit rfl ?_ | refine J_goto rfl ?_ | ((with_reducible apply gJ_if); (first | refine J_ift rfl ?_ | refine J_iff rfl ?_ | (refine J_if xR ?_ ?_ <;> intro _ <;> (try (exfalso; first | contradiction | omega))) | (refine J_ifb xR ?_ ?_ <;> (intro hgb; subst hgb)) | (refine J_ifb xR ?_ ?_ <;> intro _) | fail)) | refine J_label ?_ | refine J_draw (id := 7) [0, 1, 2, 3, 4, 5, 6, 7] [8] mixed xC xD xD ?_ | fail)) | ((with_reducible apply gL); (first | refine JL_nil ?_ | refine L_move ?_ | refine L_assign ?_ | refine L_fieldAddr ?_ | refine L_load ?_ | refine L_nilCheck ?_ | refine L_extract ?_ | refine L_bin_eql ?_ | refine L_bin_neq ?_ | refine L_bin_sub_i64 ?_ | refine L_bin_sub_r ?_ | ((with_reducible apply gL_store); (first | refine JL_st xR xR xT xC xR xE xR ?_ | refine JL_stW xR xR xT xW xR xR xR ?_ | refine JL_stS xR xR xT xW xP xR xR ?_ | refine JL_stEl xR xR xT xR xL xR (tabS stab_ok xR) xR xR xO ?_ | fail)) | ((with_reducible apply gL_go); (first | (refine JL_goq (find_hit sp mb lb c id MA MC m he (fun a ha => by rw [← he]; exact (hmid.1 _ (hMA.mem ha)).1)) (hφ := xF) (h := ?_); rintro _ _ ⟨rfl, rfl⟩; try simp only [List.cons_append, List.nil_append]) | fail)) | fail)) | ((with_reducible apply gD); (first | (refine JD_nil ?_; try simp only [List.cons_append, List.nil_append]) | (refine JD_bar ?_; try simp only [List.cons_append, List.nil_append]) | refine D_move ?_ | refine D_fieldAddr ?_ | refine D_load ?_ | refine D_nilCheck ?_ | ((with_reducible apply gD_load); (first | refine JD_ldM xR xT xC xR xR ?_ | refine JD_ldWM xR xT xW xR ?_ | refine JD_ldSM xR xT (tabS stab_ok xR) xG xC xR ?_ | fail)) | fail)) | fail))
  refine J_ret1 rfl (by rfl) fun w H => ⟨_, ⟨rfl, rfl⟩, ?_⟩
  have e1 : byL (MA ++ m :: MC) = byL (MA ++ ⟨m.b, m.d, ⟨m.e.id, m.e.n - 1, m.e.x⟩⟩ :: MC) := by simp [byL]
  have e2 : idL (MA ++ m :: MC) = idL (MA ++ ⟨m.b, m.d, ⟨m.e.id, m.e.n - 1, m.e.x⟩⟩ :: MC) := by simp [idL]
  rw [e1, e2] at H
  have H := meShut (m := ⟨m.b, m.d, ⟨m.e.id, m.e.n - 1, m.e.x⟩⟩) H (by (first | ((with_reducible (repeat (first | exact Sb.nil | apply Sb.cons | exact Tk.here | apply Tk.there))); done) | (repeat (first | exact Sb.nil | apply Sb.cons | exact Tk.here | apply Tk.there))))
  have H := Ow.satsBack (A := MA) (B := MC) (m := ⟨m.b, m.d, ⟨m.e.id, m.e.n - 1, m.e.x⟩⟩) H .here (by (first | ((with_reducible (repeat (first | exact Tk.here | apply Tk.there))); done) | ((simp only [List.cons_append, List.nil_append]); (with_reducible (repeat (first | exact Tk.here | apply Tk.there))); done) | fail))
  have hJ := MOk.join (m := ⟨m.b, m.d, ⟨m.e.id, m.e.n - 1, m.e.x⟩⟩) hMA hMC hmd hmx
  exact (stoShut hJ H (by (first | ((with_reducible (repeat (first | exact Sb.nil | apply Sb.cons | exact Tk.here | apply Tk.there))); done) | (repeat (first | exact Sb.nil | apply Sb.cons | exact Tk.here | apply Tk.there))))).sel (by (first | ((with_reducible (repeat (first | exact Sb.nil | apply Sb.cons | exact Tk.here | apply Tk.there))); done) | (repeat (first | exact Sb.nil | apply Sb.cons | exact Tk.here | apply Tk.there))))
theorem free_gone (B : Int) (hB : B ≤ 1000000000) (sp : Nat) (A C : List En) (e : En) (c id : Int) (hs : StOk B (A ++ e :: C) c) (he : e.id = id) (h1 : e.n = 1) : Pact Try.prog 15 #[.pointer (some ⟨sp, 0, none⟩), .int .i64 id] (fun _ => True) [stoA sp (A ++ e :: C) c] (fun u L' => u = .int .i64 0 ∧ L' = [stoA sp (A ++ C) c]) := by
  refine pact Try.func15 rfl Try.ntmps15 rfl ?_
  intro W K _
  have hmid := hs.mid
  refine J_open (fun w H => stoOpen H .here) ?_
  rintro ⟨⟨mb, lb, M⟩, hM⟩
  dsimp only at hM ⊢
  obtain ⟨MA, m, MC, rfl, rfl, hMA, hMC, hmd, hmx⟩ := hM.split
  refine J_heap (fun w H => meOpen (Ow.satsMid H (by (first | ((with_reducible (repeat (first | exact Tk.here | apply Tk.there))); done) | ((simp only [List.cons_append, List.nil_append]); (with_reducible (repeat (first | exact Tk.here | apply Tk.there))); done) | fail))) .here) ?_
  (repeat' (first | ((with_reducible apply gJ); (first | refine J_seq ?_ | refine J_reg ?_ | refine J_skip ?_ | refine J_block ?_ | refine J_blk ?_ | refine J_exit rfl ?_ | refine J_goto rfl ?_ | ((with_reducible apply gJ_if); (first | refine J_ift rfl ?_ | refine J_iff rfl ?_ | (refine J_if xR ?_ ?_ <;> intro _ <;> (try (exfalso; first | contradiction | omega))) | (refine J_ifb xR ?_ ?_ <;> (intro hgb; subst hgb)) | (refine J_ifb xR ?_ ?_ <;> intro _) | fail)) | refine J_label ?_ | refine J_draw (id := 7) [0, 1, 2, 3, 4, 5, 6, 7] [8] mixed xC xD xD ?_ | fail)) | ((with_reducible apply gL); (first | refine JL_nil ?_ | ((with_reducible apply gL_c_delete); (first | (first | (refine JL_delG mi_i xR xR xR xA xR ?_) | (refine JD_delG mi_s xR xR xR xA xR ?_)) | fail)) | refine L_move ?_ | refine L_assign ?_ | refine L_fieldAddr ?_ | refine L_load ?_ | refine L_nilCheck ?_ | refine L_extract ?_ | refine L_bin_eql ?_ | refine L_bin_neq ?_ | refine L_bin_sub_i64 ?_ | refine L_bin_sub_r ?_ | ((with_reducible apply gL_store); (first | refine JL_st xR xR xT xC xR xE xR ?_ | refine JL_stW xR xR xT xW xR xR xR ?_ | refine JL_stS xR xR xT xW xP xR xR ?_ | refine JL_stEl xR xR xT xR xL xR (tabS stab_ok xR) xR xR xO ?_ | fail)) | ((with_reducible apply gL_go); (first | (refine JL_goq (find_hit sp mb lb c id MA MC m he (fun a ha => by rw [← he]; exact (hmid.1 _ (hMA.mem ha)).1)) (hφ := xF) (h := ?_); rintro _ _ ⟨rfl, rfl⟩; try simp only [List.cons_append, List.nil_append]) | fail)) | fail)) | ((with_reducible apply gD); (first | (refine JD_nil ?_; try simp only [List.cons_append, List.nil_append]) | (refine JD_bar ?_; try simp only [List.cons_append, List.nil_append]) | ((with_reducible apply gD_c_delete); (first | (first | (refine JL_delG mi_i xR xR xR xA xR ?_) | (refine JD_delG mi_s xR xR xR xA xR ?_)) | fail)) | refine D_move ?_ | refine D_fieldAddr ?_ | refine D_load ?_ | refine D_nilCheck ?_ | ((with_reducible apply gD_load); (first | refine JD_ldM xR xT xC xR xR ?_ | refine JD_ldWM xR xT xW xR ?_ | refine JD_ldSM xR xT (tabS stab_ok xR) xG xC xR ?_ | fail)) | fail)) | fail))
  refine J_ret1 rfl (by rfl) fun w H => ⟨_, ⟨rfl, rfl⟩, ?_⟩
  have e1 : aD (byL (MA ++ m :: MC)) (keyS m.e.x) = byL (MA ++ MC) := by
    unfold byL
    rw [List.map_append, List.map_append, List.map_cons, aD_mid]
    intro p hp
    obtain ⟨a, ha, rfl⟩ := List.mem_map.1 hp
    have h1 := hMA.mem ha
    have h2 := hs.ok a.e (by simp [h1])
    have h3 := hs.ok m.e (by simp)
    exact fun q => (hmid.1 _ h1).2 (keyS_inj h2.2 h3.2 h2.1 h3.1 q)
  have e2 : aD (idL (MA ++ m :: MC)) id = idL (MA ++ MC) := by
    unfold idL
    rw [List.map_append, List.map_append, List.map_cons, he, aD_mid]
    intro p hp
    obtain ⟨a, ha, rfl⟩ := List.mem_map.1 hp
    rw [← he]
    exact (hmid.1 _ (hMA.mem ha)).1
  rw [e1, e2] at H
  exact (stoShut (MOk.two hMA hMC) H (by (first | ((with_reducible (repeat (first | exact Sb.nil | apply Sb.cons | exact Tk.here | apply Tk.there))); done) | (repeat (first | exact Sb.nil | apply Sb.cons | exact Tk.here | apply Tk.there))))).sel (by (first | ((with_reducible (repeat (first | exact Sb.nil | apply Sb.cons | exact Tk.here | apply Tk.there))); done) | (repeat (first | exact Sb.nil | apply Sb.cons | exact Tk.here | apply Tk.there))))
end Go.Proofs.Ytimamemekdmpeaa
