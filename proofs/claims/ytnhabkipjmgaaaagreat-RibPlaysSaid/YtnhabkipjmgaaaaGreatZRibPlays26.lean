/-
  Aq15, Aq16, Rb4, Rb4b, Rb5, Rb6: merged.
-/
import Derived.Test.YtnhabkipjmgaaaaGreatZRibPlays25
namespace Go.Proofs.YtnhabkipjmgaaaaGreat
set_option linter.unusedSimpArgs false
set_option linter.unusedVariables false
set_option maxRecDepth 20000
set_option maxHeartbeats 4000000
open Go.RowKit Go.Pm

def fnd (S : List En) (id : Int) : Option En := S.find? (fun e => decide (e.id = id))
def fndX (S : List En) (x : Nf) : Option En := S.find? (fun e => decide (e.x = x))
noncomputable def keepF (S : List En) (c : Int) (x : Nf) : (List En × Int) × Int × Int :=
  match okN x with
  | false => ((S, c), 0, 2)
  | true => match fndX S x with
    | some e => ((S.map (fun a => if a.x = x then ⟨a.id, a.n + 1, a.x⟩ else a), c), e.id, 0)
    | none => if S.length = 4096 then ((S, c), 0, 4) else ((S ++ [⟨c + 1, 1, x⟩], c + 1), c + 1, 0)
def freeF (S : List En) (id : Int) : List En × Int :=
  match fnd S id with
  | none => (S, 5)
  | some e => if e.n = 1 then (S.filter (fun a => decide (a.id ≠ id)), 0) else (S.map (fun a => if a.id = id then ⟨a.id, a.n - 1, a.x⟩ else a), 0)
def cntF (S : List En) (id : Int) : Int := match fnd S id with | none => 0 | some e => e.n
theorem fnd_none {S : List En} {id : Int} (h : fnd S id = none) : ∀ e ∈ S, e.id ≠ id := fun e he => by
  have := List.find?_eq_none.1 h e he
  simpa using this
theorem fnd_some {S : List En} {id : Int} {e : En} (h : fnd S id = some e) : ∃ A C, S = A ++ e :: C ∧ e.id = id ∧ ∀ a ∈ A, a.id ≠ id := by
  obtain ⟨h1, A, C, h2, h3⟩ := List.find?_eq_some_iff_append.1 h
  exact ⟨A, C, h2, by simpa using h1, fun a ha => by simpa using h3 a ha⟩
theorem fndX_none {S : List En} {x : Nf} (h : fndX S x = none) : ∀ e ∈ S, e.x ≠ x := fun e he => by
  have := List.find?_eq_none.1 h e he
  simpa using this
theorem fndX_some {S : List En} {x : Nf} {e : En} (h : fndX S x = some e) : ∃ A C, S = A ++ e :: C ∧ e.x = x ∧ ∀ a ∈ A, a.x ≠ x := by
  obtain ⟨h1, A, C, h2, h3⟩ := List.find?_eq_some_iff_append.1 h
  exact ⟨A, C, h2, by simpa using h1, fun a ha => by simpa using h3 a ha⟩
theorem map_mid {α : Type} {p : α → Prop} [DecidablePred p] {g : α → α} {A C : List α} {e : α} (h1 : ∀ a ∈ A, ¬ p a) (h2 : ∀ a ∈ C, ¬ p a) (he : p e) : (A ++ e :: C).map (fun a => if p a then g a else a) = A ++ g e :: C := by
  rw [List.map_append, List.map_cons, if_pos he]
  congr 1
  · exact (List.map_congr_left fun a ha => if_neg (h1 a ha)).trans (List.map_id' A)
  · congr 1
    exact (List.map_congr_left fun a ha => if_neg (h2 a ha)).trans (List.map_id' C)
theorem filter_mid {α : Type} {p : α → Prop} [DecidablePred p] {A C : List α} {e : α} (h1 : ∀ a ∈ A, p a) (h2 : ∀ a ∈ C, p a) (he : ¬ p e) : (A ++ e :: C).filter (fun a => decide (p a)) = A ++ C := by
  rw [List.filter_append, List.filter_cons, if_neg (by simpa using he)]
  congr 1
  · exact List.filter_eq_self.2 fun a ha => decide_eq_true (h1 a ha)
  · exact List.filter_eq_self.2 fun a ha => decide_eq_true (h2 a ha)
theorem StOk.set {B B' : Int} {A C : List En} {e : En} {c m : Int} (h : StOk B (A ++ e :: C) c) (hb : B ≤ B') (hm : 1 ≤ m ∧ m ≤ B') : StOk B' (A ++ ⟨e.id, m, e.x⟩ :: C) c := by
  have g : ∀ a ∈ A ++ ⟨e.id, m, e.x⟩ :: C, ∃ b ∈ A ++ e :: C, b.id = a.id ∧ b.x = a.x ∧ (a.n = b.n ∨ a.n = m) := by
    intro a ha
    rcases List.mem_append.1 ha with ha | ha
    · exact ⟨a, by simp [ha], rfl, rfl, .inl rfl⟩
    · rcases List.mem_cons.1 ha with rfl | ha
      · exact ⟨e, by simp, rfl, rfl, .inr rfl⟩
      · exact ⟨a, by simp [ha], rfl, rfl, .inl rfl⟩
  have p1 := List.pairwise_append.1 h.idd
  have p2 := List.pairwise_append.1 h.xd
  have q1 := List.pairwise_cons.1 p1.2.1
  have q2 := List.pairwise_cons.1 p2.2.1
  refine ⟨⟨h.cnt.1, by have := h.cnt.2; omega⟩, fun a ha => ?_, fun a ha => ?_, fun a ha => ?_, ?_, ?_, ?_⟩
  · obtain ⟨b, hb, e1, _⟩ := g a ha
    rw [← e1]; exact h.ids b hb
  · obtain ⟨b, hb', _, _, e3⟩ := g a ha
    have := h.n b hb'
    omega
  · obtain ⟨b, hb, _, e2, _⟩ := g a ha
    rw [← e2]; exact h.ok b hb
  · refine List.pairwise_append.2 ⟨p1.1, List.pairwise_cons.2 ⟨q1.1, q1.2⟩, fun a ha b hb => ?_⟩
    rcases List.mem_cons.1 hb with rfl | hb
    · exact p1.2.2 a ha e (by simp)
    · exact p1.2.2 a ha b (by simp [hb])
  · refine List.pairwise_append.2 ⟨p2.1, List.pairwise_cons.2 ⟨q2.1, q2.2⟩, fun a ha b hb => ?_⟩
    rcases List.mem_cons.1 hb with rfl | hb
    · exact p2.2.2 a ha e (by simp)
    · exact p2.2.2 a ha b (by simp [hb])
  · have := h.len
    simpa using this
theorem StOk.gone {B : Int} {A C : List En} {e : En} {c : Int} (h : StOk B (A ++ e :: C) c) : StOk B (A ++ C) c := by
  have g : (A ++ C).Sublist (A ++ e :: C) := (List.Sublist.refl A).append (List.sublist_cons_self e C)
  exact ⟨h.cnt, fun a ha => h.ids a (g.subset ha), fun a ha => h.n a (g.subset ha), fun a ha => h.ok a (g.subset ha), h.idd.sublist g, h.xd.sublist g, Nat.le_trans g.length_le h.len⟩
theorem StOk.new {B : Int} {S : List En} {c : Int} {x : Nf} (h : StOk B S c) (hB : 0 ≤ B) (hx : okN x = true) (hn : NfN x) (hne : ∀ e ∈ S, e.x ≠ x) (hf : S.length ≠ 4096) : StOk (B + 1) (S ++ [⟨c + 1, 1, x⟩]) (c + 1) := by
  have hc := h.cnt
  refine ⟨by omega, fun a ha => ?_, fun a ha => ?_, fun a ha => ?_, ?_, ?_, ?_⟩
  · rcases List.mem_append.1 ha with ha | ha
    · have := h.ids a ha; omega
    · obtain rfl := List.mem_singleton.1 ha; dsimp only; omega
  · rcases List.mem_append.1 ha with ha | ha
    · have := h.n a ha; omega
    · obtain rfl := List.mem_singleton.1 ha; dsimp only; omega
  · rcases List.mem_append.1 ha with ha | ha
    · exact h.ok a ha
    · obtain rfl := List.mem_singleton.1 ha; exact ⟨hx, hn⟩
  · refine List.pairwise_append.2 ⟨h.idd, List.pairwise_singleton _ _, fun a ha b hb => ?_⟩
    obtain rfl := List.mem_singleton.1 hb
    have := h.ids a ha
    dsimp only
    omega
  · refine List.pairwise_append.2 ⟨h.xd, List.pairwise_singleton _ _, fun a ha b hb => ?_⟩
    obtain rfl := List.mem_singleton.1 hb
    exact hne a ha
  · have := h.len
    simp only [List.length_append, List.length_cons, List.length_nil]
    omega
theorem keepF_hit {B : Int} {A C : List En} {e : En} {c : Int} {x : Nf} (h : StOk B (A ++ e :: C) c) (he : e.x = x) (hf : fndX (A ++ e :: C) x = some e) (hx : okN x = true) : keepF (A ++ e :: C) c x = ((A ++ ⟨e.id, e.n + 1, e.x⟩ :: C, c), e.id, 0) := by
  have hm := h.mid
  unfold keepF
  rw [hx, hf]
  dsimp only
  rw [map_mid (p := fun a : En => a.x = x) (g := fun a => ⟨a.id, a.n + 1, a.x⟩) (fun a ha => by rw [← he]; exact (hm.1 a ha).2) (fun a ha => by rw [← he]; exact (hm.2 a ha).2) he]
theorem keepF_ok {B : Int} {S : List En} {c : Int} {x : Nf} (h : StOk B S c) (hB : 0 ≤ B) (hn : NfN x) : StOk (B + 1) (keepF S c x).1.1 (keepF S c x).1.2 := by
  rcases hx : okN x with _ | _
  · have : keepF S c x = ((S, c), 0, 2) := by unfold keepF; rw [hx]
    rw [this]
    exact h.mono (by omega)
  · rcases hf : fndX S x with _ | e
    · by_cases hl : S.length = 4096
      · have : keepF S c x = ((S, c), 0, 4) := by unfold keepF; rw [hx, hf]; dsimp only; rw [if_pos hl]
        rw [this]
        exact h.mono (by omega)
      · have : keepF S c x = ((S ++ [⟨c + 1, 1, x⟩], c + 1), c + 1, 0) := by unfold keepF; rw [hx, hf]; dsimp only; rw [if_neg hl]
        rw [this]
        exact h.new hB hx hn (fndX_none hf) hl
    · obtain ⟨A, C, rfl, he, _⟩ := fndX_some hf
      rw [keepF_hit h he hf hx]
      have := h.n e (by simp)
      exact h.set (by omega) (by omega)
theorem freeF_hit {B : Int} {A C : List En} {e : En} {c id : Int} (h : StOk B (A ++ e :: C) c) (he : e.id = id) (hf : fnd (A ++ e :: C) id = some e) : freeF (A ++ e :: C) id = if e.n = 1 then (A ++ C, 0) else (A ++ ⟨e.id, e.n - 1, e.x⟩ :: C, 0) := by
  have hm := h.mid
  unfold freeF
  rw [hf]
  dsimp only
  rw [map_mid (p := fun a : En => a.id = id) (g := fun a => ⟨a.id, a.n - 1, a.x⟩) (fun a ha => by rw [← he]; exact (hm.1 a ha).1) (fun a ha => by rw [← he]; exact (hm.2 a ha).1) he,
    filter_mid (p := fun a : En => a.id ≠ id) (fun a ha => by rw [← he]; exact (hm.1 a ha).1) (fun a ha => by rw [← he]; exact (hm.2 a ha).1) (by simpa using he)]
theorem freeF_ok {B : Int} {S : List En} {c id : Int} (h : StOk B S c) : StOk B (freeF S id).1 c := by
  rcases hf : fnd S id with _ | e
  · have : freeF S id = (S, 5) := by unfold freeF; rw [hf]
    rw [this]
    exact h
  · obtain ⟨A, C, rfl, he, _⟩ := fnd_some hf
    rw [freeF_hit h he hf]
    split
    · exact h.gone
    · have := h.n e (by simp)
      exact h.set (by omega) (by omega)
def zAt : At := ⟨0, none, 0, [], 0, false, 0, false, 0, false, false, 0, 0, none, 0, [], none, 0, []⟩
theorem zAt_f : AtF zAt := by
  refine ⟨⟨by unfold I64 zAt; decide, by unfold U32 zAt; decide, by unfold U32 zAt; decide, by unfold U32 zAt; decide, by unfold U32 zAt; decide, by unfold U32 zAt; decide, ?_, ?_, ?_⟩, by unfold zAt; decide, by unfold zAt; decide, by unfold zAt; decide⟩
  all_goals (intro s hs; exact absurd hs List.not_mem_nil)
theorem zAt_v (w : World) : AtV w zAt := ⟨⟨Vw.nil w 2, fun _ h => absurd h List.not_mem_nil⟩, Vw.nil w 1, Vw.nil w 2, fun _ h => absurd h List.not_mem_nil⟩
theorem free_miss (sp : Nat) (S : List En) (c id : Int) (hn : ∀ e ∈ S, e.id ≠ id) : Pact Tryz.prog 32 #[.pointer (some ⟨sp, 0, none⟩), .int .i64 id] (fun _ => True) [stoA sp S c] (fun u L' => u = .int .i64 5 ∧ L' = [stoA sp S c]) := by
  refine pact Tryz.func32 rfl Tryz.ntmps32 rfl ?_
  intro W K _
  refine J_open (fun w H => stoOpen H .here) ?_
  rintro ⟨⟨mb, lb, M⟩, hM⟩
  dsimp only at hM ⊢
  (repeat' (first | ((with_reducible apply gL); (first | refine yL0 ?_ | refine yL ?_ | ((with_reducible apply gL_go); (first | (refine JL_goq (find_miss sp mb lb c id M (fun a ha => hn _ (hM.mem ha))) (hφ := xF) (h := ?_); rintro _ _ ⟨rfl, rfl⟩; try simp only [List.cons_append, List.nil_append]) | fail)) | fail)) | ((with_reducible apply gD); (first | (refine JD_nil ?_; try simp only [List.cons_append, List.nil_append]) | (refine JD_bar ?_; try simp only [List.cons_append, List.nil_append]) | refine yD ?_ | fail)) | refine yJ ?_ | ((with_reducible apply gJ_if); (first | (refine J_if xR ?_ ?_ <;> intro _ <;> (try (exfalso; first | contradiction | omega))) | (refine J_ifb xR ?_ ?_ <;> (intro hgb; subst hgb)) | (refine J_ifb xR ?_ ?_ <;> intro _) | fail)) | refine J_draw (id := 7) [0, 1, 2, 3, 4, 5, 6, 7] [8] mixed xC xD xD ?_ | fail))
  exact J_ret1 rfl (by rfl) fun w H => ⟨_, ⟨rfl, rfl⟩, Ow.sel (stoShut hM H xZ) xZ⟩
theorem free_dec (B : Int) (hB : B ≤ 1000000000) (sp : Nat) (A C : List En) (e : En) (c id : Int) (hs : StOk B (A ++ e :: C) c) (he : e.id = id) (h1 : e.n ≠ 1) : Pact Tryz.prog 32 #[.pointer (some ⟨sp, 0, none⟩), .int .i64 id] (fun _ => True) [stoA sp (A ++ e :: C) c] (fun u L' => u = .int .i64 0 ∧ L' = [stoA sp (A ++ ⟨e.id, e.n - 1, e.x⟩ :: C) c]) := by
  refine pact Tryz.func32 rfl Tryz.ntmps32 rfl ?_
  intro W K _
  have hmid := hs.mid
  have hnn := hs.n e (by simp)
  refine J_open (fun w H => stoOpen H .here) ?_
  rintro ⟨⟨mb, lb, M⟩, hM⟩
  dsimp only at hM ⊢
  obtain ⟨MA, m, MC, rfl, rfl, hMA, hMC, hmd, hmx⟩ := hM.split
  refine J_heap (fun w H => meOpen (Ow.satsMid H xA) .here) ?_
  (repeat' (first | ((with_reducible apply gL); (first | refine yL0 ?_ | refine yL ?_ | ((with_reducible apply gL_go); (first | (refine JL_goq (find_hit sp mb lb c id MA MC m he (fun a ha => by rw [← he]; exact (hmid.1 _ (hMA.mem ha)).1)) (hφ := xF) (h := ?_); rintro _ _ ⟨rfl, rfl⟩; try simp only [List.cons_append, List.nil_append]) | fail)) | fail)) | ((with_reducible apply gD); (first | (refine JD_nil ?_; try simp only [List.cons_append, List.nil_append]) | (refine JD_bar ?_; try simp only [List.cons_append, List.nil_append]) | refine yD ?_ | fail)) | refine yJ ?_ | ((with_reducible apply gJ_if); (first | (refine J_if xR ?_ ?_ <;> intro _ <;> (try (exfalso; first | contradiction | omega))) | (refine J_ifb xR ?_ ?_ <;> (intro hgb; subst hgb)) | (refine J_ifb xR ?_ ?_ <;> intro _) | fail)) | refine J_draw (id := 7) [0, 1, 2, 3, 4, 5, 6, 7] [8] mixed xC xD xD ?_ | fail))
  refine J_ret1 rfl (by rfl) fun w H => ⟨_, ⟨rfl, rfl⟩, ?_⟩
  have e1 : byL (MA ++ m :: MC) = byL (MA ++ ⟨m.b, m.d, ⟨m.e.id, m.e.n - 1, m.e.x⟩⟩ :: MC) := by simp [byL]
  have e2 : idL (MA ++ m :: MC) = idL (MA ++ ⟨m.b, m.d, ⟨m.e.id, m.e.n - 1, m.e.x⟩⟩ :: MC) := by simp [idL]
  rw [e1, e2] at H
  have H := meShut (m := ⟨m.b, m.d, ⟨m.e.id, m.e.n - 1, m.e.x⟩⟩) H xZ
  have H := Ow.satsBack (A := MA) (B := MC) (m := ⟨m.b, m.d, ⟨m.e.id, m.e.n - 1, m.e.x⟩⟩) H .here xA
  have hJ := MOk.join (m := ⟨m.b, m.d, ⟨m.e.id, m.e.n - 1, m.e.x⟩⟩) hMA hMC hmd hmx
  exact (stoShut hJ H xZ).sel xZ
theorem free_gone (B : Int) (hB : B ≤ 1000000000) (sp : Nat) (A C : List En) (e : En) (c id : Int) (hs : StOk B (A ++ e :: C) c) (he : e.id = id) (h1 : e.n = 1) : Pact Tryz.prog 32 #[.pointer (some ⟨sp, 0, none⟩), .int .i64 id] (fun _ => True) [stoA sp (A ++ e :: C) c] (fun u L' => u = .int .i64 0 ∧ L' = [stoA sp (A ++ C) c]) := by
  refine pact Tryz.func32 rfl Tryz.ntmps32 rfl ?_
  intro W K _
  have hmid := hs.mid
  refine J_open (fun w H => stoOpen H .here) ?_
  rintro ⟨⟨mb, lb, M⟩, hM⟩
  dsimp only at hM ⊢
  obtain ⟨MA, m, MC, rfl, rfl, hMA, hMC, hmd, hmx⟩ := hM.split
  refine J_heap (fun w H => meOpen (Ow.satsMid H xA) .here) ?_
  (repeat' (first | ((with_reducible apply gL); (first | refine yL0 ?_ | ((with_reducible apply gL_c_delete); (first | (first | (refine JL_delG mi_i xR xR xR xA xR ?_) | (refine JD_delG mi_s xR xR xR xA xR ?_)) | fail)) | refine yL ?_ | ((with_reducible apply gL_go); (first | (refine JL_goq (find_hit sp mb lb c id MA MC m he (fun a ha => by rw [← he]; exact (hmid.1 _ (hMA.mem ha)).1)) (hφ := xF) (h := ?_); rintro _ _ ⟨rfl, rfl⟩; try simp only [List.cons_append, List.nil_append]) | fail)) | fail)) | ((with_reducible apply gD); (first | (refine JD_nil ?_; try simp only [List.cons_append, List.nil_append]) | (refine JD_bar ?_; try simp only [List.cons_append, List.nil_append]) | ((with_reducible apply gD_c_delete); (first | (first | (refine JL_delG mi_i xR xR xR xA xR ?_) | (refine JD_delG mi_s xR xR xR xA xR ?_)) | fail)) | refine yD ?_ | fail)) | refine yJ ?_ | ((with_reducible apply gJ_if); (first | (refine J_if xR ?_ ?_ <;> intro _ <;> (try (exfalso; first | contradiction | omega))) | (refine J_ifb xR ?_ ?_ <;> (intro hgb; subst hgb)) | (refine J_ifb xR ?_ ?_ <;> intro _) | fail)) | refine J_draw (id := 7) [0, 1, 2, 3, 4, 5, 6, 7] [8] mixed xC xD xD ?_ | fail))
  refine J_ret1 rfl (by rfl) fun w H => ⟨_, ⟨rfl, rfl⟩, ?_⟩
  have e1 : aD (byL (MA ++ m :: MC)) (keyS m.e.x) = byL (MA ++ MC) := by
    unfold byL
    rw [List.map_append, List.map_append, List.map_cons, aD_mid]
    intro p hp
    obtain ⟨a, ha, rfl⟩ := List.mem_map.1 hp
    have h1 := hMA.mem ha
    have h2 := hs.ok a.e (by simp [h1])
    have h3 := hs.ok m.e (by simp)
    exact fun q => (hmid.1 _ h1).2 (keyS_inj h2.2 h3.2 h2.1 h3.1 q)
  have e2 : aD (idL (MA ++ m :: MC)) id = idL (MA ++ MC) := by
    unfold idL
    rw [List.map_append, List.map_append, List.map_cons, he, aD_mid]
    intro p hp
    obtain ⟨a, ha, rfl⟩ := List.mem_map.1 hp
    rw [← he]
    exact (hmid.1 _ (hMA.mem ha)).1
  rw [e1, e2] at H
  exact (stoShut (MOk.two hMA hMC) H xZ).sel xZ
end Go.Proofs.YtnhabkipjmgaaaaGreat
namespace Go.Proofs.YtnhabkipjmgaaaaGreat
set_option linter.unusedSimpArgs false
set_option linter.unusedVariables false
set_option maxRecDepth 20000
set_option maxHeartbeats 4000000
open Go.RowKit Go.Pm

abbrev zC : List Value := [.int .i64 0, .slice none 0 0, .int .u32 0, .bool false, .int .u32 0, .bool false, .int .u32 0, .bool false, .bool false, .int .u32 0, .int .u32 0, .slice none 0 0, .slice none 0 0]
theorem get_miss (sp : Nat) (S : List En) (c id : Int) (hn : ∀ e ∈ S, e.id ≠ id) : Pact Tryz.prog 45 #[.pointer (some ⟨sp, 0, none⟩), .int .i64 id] (fun _ => True) [stoA sp S c] (fun u L' => u = .tuple #[.agg (atC zAt).toArray, .int .i64 5] ∧ L' = [stoA sp S c]) := by
  refine pact Tryz.func45 rfl Tryz.ntmps45 rfl ?_
  intro W K _
  refine J_open (fun w H => stoOpen H .here) ?_
  rintro ⟨⟨mb, lb, M⟩, hM⟩
  dsimp only at hM ⊢
  (repeat' (first | ((with_reducible apply gL); (first | refine yL0 ?_ | refine yL ?_ | ((with_reducible apply gL_go); (first | (refine JL_goq (find_miss sp mb lb c id M (fun a ha => hn _ (hM.mem ha))) (hφ := xF) (h := ?_); rintro _ _ ⟨rfl, rfl⟩; try simp only [List.cons_append, List.nil_append]) | fail)) | (refine yM ?_; intro _) | fail)) | refine yJ ?_ | ((with_reducible apply gJ_if); (first | (refine J_if xR ?_ ?_ <;> intro _ <;> (try (exfalso; first | contradiction | omega))) | (refine J_ifb xR ?_ ?_ <;> (intro hgb; subst hgb)) | (refine J_ifb xR ?_ ?_ <;> intro _) | fail)) | fail))
  exact J_retC1 (cs := zC) rfl (by rfl) (by rfl) xA (by rfl) fun w H => ⟨_, ⟨rfl, rfl⟩, Ow.sel (stoShut hM H xZ) xZ⟩
theorem get_hit (sp : Nat) (A C : List En) (e : En) (c id : Int) (he : e.id = id) (hA : ∀ a ∈ A, a.id ≠ id) : Pact Tryz.prog 45 #[.pointer (some ⟨sp, 0, none⟩), .int .i64 id] (fun _ => True) [stoA sp (A ++ e :: C) c] (fun u L' => ∃ d', AtF d' ∧ d'.nf = e.x ∧ u = .tuple #[.agg (atC d').toArray, .int .i64 0] ∧ L' = [stoA sp (A ++ e :: C) c, ownAt d']) := by
  refine pact Tryz.func45 rfl Tryz.ntmps45 rfl ?_
  intro W K _
  refine J_open (fun w H => stoOpen H .here) ?_
  rintro ⟨⟨mb, lb, M⟩, hM⟩
  dsimp only at hM ⊢
  obtain ⟨MA, m, MC, rfl, rfl, hMA, hMC, hmd, hmx⟩ := hM.split
  refine J_heap (fun w H => meOpen (Ow.satsMid H xA) .here) ?_
  (repeat' (first | ((with_reducible apply gL); (first | refine yL0 ?_ | refine yL ?_ | ((with_reducible apply gL_go); (first | (refine JL_goq (find_hit sp mb lb c id MA MC m he (fun a ha => hA _ (hMA.mem ha))) (hφ := xF) (h := ?_); rintro _ _ ⟨rfl, rfl⟩; try simp only [List.cons_append, List.nil_append]) | (refine JL_goq (copy_s m.d hmd) (hφ := (by (try simp only [List.cons_append, List.nil_append]); exact fun w hr => hr.has (φ := fun w => AtV w m.d) xA)) (h := ?_); rintro _ _ ⟨d', hd', hx', rfl, rfl⟩; try simp only [List.cons_append, List.nil_append]) | fail)) | (refine yM ?_; intro _) | fail)) | refine yJ ?_ | ((with_reducible apply gJ_if); (first | (refine J_if xR ?_ ?_ <;> intro _ <;> (try (exfalso; first | contradiction | omega))) | (refine J_ifb xR ?_ ?_ <;> (intro hgb; subst hgb)) | (refine J_ifb xR ?_ ?_ <;> intro _) | fail)) | fail))
  refine J_retC1 (cs := atC d') rfl (by rfl) (by rfl) xA (by rfl) fun w H => ⟨_, ⟨d', hd', by rw [hx', hmx], rfl, rfl⟩, ?_⟩
  have H := meShut (m := m) H xZ
  have H := Ow.satsBack (A := MA) (B := MC) (m := m) H .here xA
  exact (stoShut hM H xZ).sel xZ
theorem count_miss (sp : Nat) (S : List En) (c id : Int) (hn : ∀ e ∈ S, e.id ≠ id) : Pact Tryz.prog 30 #[.pointer (some ⟨sp, 0, none⟩), .int .i64 id] (fun _ => True) [stoA sp S c] (fun u L' => u = .int .i64 0 ∧ L' = [stoA sp S c]) := by
  refine pact Tryz.func30 rfl Tryz.ntmps30 rfl ?_
  intro W K _
  refine J_open (fun w H => stoOpen H .here) ?_
  rintro ⟨⟨mb, lb, M⟩, hM⟩
  dsimp only at hM ⊢
  (repeat' (first | ((with_reducible apply gL); (first | refine yL0 ?_ | refine yL ?_ | ((with_reducible apply gL_go); (first | (refine JL_goq (find_miss sp mb lb c id M (fun a ha => hn _ (hM.mem ha))) (hφ := xF) (h := ?_); rintro _ _ ⟨rfl, rfl⟩; try simp only [List.cons_append, List.nil_append]) | fail)) | fail)) | refine yJ ?_ | ((with_reducible apply gJ_if); (first | (refine J_if xR ?_ ?_ <;> intro _ <;> (try (exfalso; first | contradiction | omega))) | (refine J_ifb xR ?_ ?_ <;> (intro hgb; subst hgb)) | (refine J_ifb xR ?_ ?_ <;> intro _) | fail)) | fail))
  exact J_ret1 rfl (by rfl) fun w H => ⟨_, ⟨rfl, rfl⟩, Ow.sel (stoShut hM H xZ) xZ⟩
theorem count_hit (sp : Nat) (A C : List En) (e : En) (c id : Int) (he : e.id = id) (hA : ∀ a ∈ A, a.id ≠ id) : Pact Tryz.prog 30 #[.pointer (some ⟨sp, 0, none⟩), .int .i64 id] (fun _ => True) [stoA sp (A ++ e :: C) c] (fun u L' => u = .int .i64 e.n ∧ L' = [stoA sp (A ++ e :: C) c]) := by
  refine pact Tryz.func30 rfl Tryz.ntmps30 rfl ?_
  intro W K _
  refine J_open (fun w H => stoOpen H .here) ?_
  rintro ⟨⟨mb, lb, M⟩, hM⟩
  dsimp only at hM ⊢
  obtain ⟨MA, m, MC, rfl, rfl, hMA, hMC, hmd, hmx⟩ := hM.split
  refine J_heap (fun w H => meOpen (Ow.satsMid H xA) .here) ?_
  (repeat' (first | ((with_reducible apply gL); (first | refine yL0 ?_ | refine yL ?_ | ((with_reducible apply gL_go); (first | (refine JL_goq (find_hit sp mb lb c id MA MC m he (fun a ha => hA _ (hMA.mem ha))) (hφ := xF) (h := ?_); rintro _ _ ⟨rfl, rfl⟩; try simp only [List.cons_append, List.nil_append]) | fail)) | fail)) | refine yJ ?_ | ((with_reducible apply gJ_if); (first | (refine J_if xR ?_ ?_ <;> intro _ <;> (try (exfalso; first | contradiction | omega))) | (refine J_ifb xR ?_ ?_ <;> (intro hgb; subst hgb)) | (refine J_ifb xR ?_ ?_ <;> intro _) | fail)) | fail))
  refine J_ret1 rfl (by rfl) fun w H => ⟨_, ⟨rfl, rfl⟩, ?_⟩
  have H := meShut (m := m) H xZ
  have H := Ow.satsBack (A := MA) (B := MC) (m := m) H .here xA
  exact (stoShut hM H xZ).sel xZ
theorem len_s (sp : Nat) (S : List En) (c : Int) : Pact Tryz.prog 31 #[.pointer (some ⟨sp, 0, none⟩)] (fun _ => True) [stoA sp S c] (fun u L' => u = .int .i64 S.length ∧ L' = [stoA sp S c]) := by
  refine pact Tryz.func31 rfl Tryz.ntmps31 rfl ?_
  intro W K _
  refine J_open (fun w H => stoOpen H .here) ?_
  rintro ⟨⟨mb, lb, M⟩, hM⟩
  dsimp only at hM ⊢
  have hln := hM.len
  (repeat' (first | ((with_reducible apply gL); (first | refine yL0 ?_ | ((with_reducible apply gL_c_len); (first | (refine JL_p rfl xR xR (pe_lenG mi_i xR xA hln) ?_) | fail)) | refine yL ?_ | ((with_reducible apply gL_go); (first | (refine JL_goq (is_s sp lb (.map (some mb)) c) (hφ := xF) (h := ?_); rintro _ _ ⟨rfl, rfl⟩; try simp only [List.cons_append, List.nil_append]) | fail)) | fail)) | refine yJ ?_ | ((with_reducible apply gJ_if); (first | (refine J_if xR ?_ ?_ <;> intro _ <;> (try (exfalso; first | contradiction | omega))) | (refine J_ifb xR ?_ ?_ <;> (intro hgb; subst hgb)) | (refine J_ifb xR ?_ ?_ <;> intro _) | fail)) | fail))
  exact J_ret1 rfl (by rfl) fun w H => ⟨_, ⟨rfl, rfl⟩, Ow.sel (stoShut hM H xZ) xZ⟩
theorem Pact.imp {P : Program} {f : FuncId} {args : Array Value} {φ : World → Prop} {pre : List HP} {Rr Rr' : Value → List HP → Prop} (S : Pact P f args φ pre Rr) (h : ∀ v L', Rr v L' → Rr' v L') : Pact P f args φ pre Rr' := fun W K w hK H =>
  (S W K w hK H).mono fun e w' ⟨v, L', h1, h2, h3⟩ => ⟨v, L', h _ _ h1, h2, h3⟩
theorem keep_s (B : Int) (hB0 : 0 ≤ B) (hB : B ≤ 1000000000) (sp : Nat) (S : List En) (c : Int) (d : At) (hd : AtF d) (hs : StOk B S c) : Pact Tryz.prog 39 #[.pointer (some ⟨sp, 0, none⟩), .agg (atC d).toArray] (fun w => AtV w d) [stoA sp S c] (fun u L' => u = .tuple #[.int .i64 (keepF S c d.nf).2.1, .int .i64 (keepF S c d.nf).2.2] ∧ L' = [stoA sp (keepF S c d.nf).1.1 (keepF S c d.nf).1.2]) := by
  rcases hx : okN d.nf with _ | _
  · have : keepF S c d.nf = ((S, c), 0, 2) := by unfold keepF; rw [hx]
    rw [this]
    exact keep_bad sp S c d hd hx
  · rcases hf : fndX S d.nf with _ | e
    · by_cases hl : S.length = 4096
      · have : keepF S c d.nf = ((S, c), 0, 4) := by unfold keepF; rw [hx, hf]; dsimp only; rw [if_pos hl]
        rw [this]
        exact keep_full B hB sp S c d hd hx hs (fndX_none hf) hl
      · have : keepF S c d.nf = ((S ++ [⟨c + 1, 1, d.nf⟩], c + 1), c + 1, 0) := by unfold keepF; rw [hx, hf]; dsimp only; rw [if_neg hl]
        rw [this]
        exact keep_new B hB sp S c d hd hx hs (fndX_none hf) hl
    · obtain ⟨A, C, rfl, he, _⟩ := fndX_some hf
      rw [keepF_hit hs he hf hx]
      exact keep_hit B hB sp A C e c d hd hx hs he
theorem free_s (B : Int) (hB : B ≤ 1000000000) (sp : Nat) (S : List En) (c id : Int) (hs : StOk B S c) : Pact Tryz.prog 32 #[.pointer (some ⟨sp, 0, none⟩), .int .i64 id] (fun _ => True) [stoA sp S c] (fun u L' => u = .int .i64 (freeF S id).2 ∧ L' = [stoA sp (freeF S id).1 c]) := by
  rcases hf : fnd S id with _ | e
  · have : freeF S id = (S, 5) := by unfold freeF; rw [hf]
    rw [this]
    exact free_miss sp S c id (fnd_none hf)
  · obtain ⟨A, C, rfl, he, _⟩ := fnd_some hf
    rw [freeF_hit hs he hf]
    by_cases h1 : e.n = 1
    · rw [if_pos h1]
      exact free_gone B hB sp A C e c id hs he h1
    · rw [if_neg h1]
      exact free_dec B hB sp A C e c id hs he h1
def getE (S : List En) (id : Int) : Int := match fnd S id with | none => 5 | some _ => 0
def getX (S : List En) (id : Int) : Nf := match fnd S id with | none => zAt.nf | some e => e.x
theorem get_s (sp : Nat) (S : List En) (c id : Int) : Pact Tryz.prog 45 #[.pointer (some ⟨sp, 0, none⟩), .int .i64 id] (fun _ => True) [stoA sp S c] (fun u L' => ∃ d' P, AtF d' ∧ d'.nf = getX S id ∧ u = .tuple #[.agg (atC d').toArray, .int .i64 (getE S id)] ∧ L' = [stoA sp S c, has (fun w => AtV w d')] ++ P ∧ P = []) := by
  rcases hf : fnd S id with _ | e
  · have h1 : getE S id = 5 := by unfold getE; rw [hf]
    have h2 : getX S id = zAt.nf := by unfold getX; rw [hf]
    rw [h1, h2]
    intro W K w hK H
    refine (get_miss sp S c id (fnd_none hf) W K w hK H).mono ?_
    rintro e w' ⟨v, L', ⟨rfl, rfl⟩, h5, H'⟩
    exact ⟨_, _, ⟨zAt, [], zAt_f, rfl, rfl, rfl, rfl⟩, h5, (Ow.hasTrue (φ := fun w => AtV w zAt) H' zAt_v).sel xZ⟩
  · have h1 : getE S id = 0 := by unfold getE; rw [hf]
    have h2 : getX S id = e.x := by unfold getX; rw [hf]
    rw [h1, h2]
    obtain ⟨A, C, rfl, he, hA⟩ := fnd_some hf
    intro W K w hK H
    refine (get_hit sp A C e c id he hA W K w hK H).mono ?_
    rintro e w' ⟨v, L', ⟨d', hd, hx, rfl, rfl⟩, h5, H'⟩
    exact ⟨_, _, ⟨d', [], hd, hx, rfl, rfl, rfl⟩, h5, (ownHas H' xA).sel xZ⟩
theorem cnt_s (sp : Nat) (S : List En) (c id : Int) : Pact Tryz.prog 30 #[.pointer (some ⟨sp, 0, none⟩), .int .i64 id] (fun _ => True) [stoA sp S c] (fun u L' => u = .int .i64 (cntF S id) ∧ L' = [stoA sp S c]) := by
  rcases hf : fnd S id with _ | e
  · have : cntF S id = 0 := by unfold cntF; rw [hf]
    rw [this]
    exact count_miss sp S c id (fnd_none hf)
  · have : cntF S id = e.n := by unfold cntF; rw [hf]
    rw [this]
    obtain ⟨A, C, rfl, he, hA⟩ := fnd_some hf
    exact count_hit sp A C e c id he hA
/-! A store that is not there, or that no call made. -/
end Go.Proofs.YtnhabkipjmgaaaaGreat
namespace Go.Proofs.YtnhabkipjmgaaaaGreat
set_option linter.unusedSimpArgs false
set_option linter.unusedVariables false
set_option maxRecDepth 20000
set_option maxHeartbeats 4000000
open Go.RowKit Go.Pm

open T (Pf PfN Rt Ah pfC)
abbrev tbC (sp : Nat) (lim : Int) (tb : Nat) : List Value := [.pointer (some ⟨sp, 0, none⟩), .int .i64 lim, .pointer (some ⟨tb, 0, none⟩)]
structure Up where
  wa : Option Addr
  wc : Nat
  wd : List Pf
  ta : Option Addr
  tc : Nat
  td : List Pf
  d : At
  f : Int
def upC (u : Up) : List Value := [.slice u.wa u.wd.length u.wc, .slice u.ta u.td.length u.tc, .int .i64 u.d.origin, .slice u.d.pa u.d.path.length u.d.pc, .int .u32 u.d.next, .bool u.d.hasMed, .int .u32 u.d.med, .bool u.d.hasLocal, .int .u32 u.d.loc, .bool u.d.atomic, .bool u.d.hasMaker, .int .u32 u.d.makerAS, .int .u32 u.d.maker, .slice u.d.ca u.d.comms.length u.d.cc, .slice u.d.oa u.d.others.length u.d.oc, .int .i64 u.f]
structure UpV (w : World) (u : Up) : Prop where
  wd : Vw w (.slice u.wa u.wd.length u.wc) 2 u.wd.length (flat pfC u.wd)
  td : Vw w (.slice u.ta u.td.length u.tc) 2 u.td.length (flat pfC u.td)
  d : AtV w u.d
structure UpN (u : Up) : Prop where
  wd : ∀ p ∈ u.wd, PfN p
  td : ∀ p ∈ u.td, PfN p
  d : AtF u.d
  wl : u.wd.length ≤ 1000
  tl : u.td.length ≤ 1000
theorem tst_of {F : FuncId} {caps : List Value} {q : Pf → Bool} {φ : World → Prop} {Ls : List HP} (ho : ownB Tryz.prog F = true) (h : ∀ p, PfN p → Pact Tryz.prog F (.agg (pfC p).toArray :: caps).toArray φ Ls (fun u L' => u = .bool (q p) ∧ L' = Ls)) : TstP F caps q φ (sats Ls) := ⟨ho, fun p hp W K w hK H => by
  have H2 : Ow W K (Ls ++ []) w := H.flat .here
  rw [List.append_nil] at H2
  refine (h p hp W K w hK H2).mono fun e w' h2 => ?_
  obtain ⟨u, L', ⟨rfl, rfl⟩, h5, h6⟩ := h2
  refine ⟨_, _, ⟨rfl, rfl⟩, h5, ?_⟩
  exact Ow.unflat (As := L') h6 (by have := Sb.all L' []; rwa [List.append_nil] at this)⟩
theorem delete_f (Ls : List HP) (a : Option Addr) (c n : Nat) (es : List Pf) (hes : es.length = n) (F : FuncId) (caps : List Value) (q : Pf → Bool) (φ : World → Prop) (hT : TstP F caps q φ (sats Ls)) (hn : ∀ o ∈ es, PfN o) (hl : n ≤ 1000000) :
    Pact Tryz.prog 64 #[.slice a n c, .func (.func F) #[] caps.toArray] φ (Ls ++ [Ar 41 2 pfC (.slice a n c) es]) (fun v L' => ∃ a' c', v = .slice a' (keepP q es).length c' ∧ L' = Ls ++ [Ar 41 2 pfC (.slice a' (keepP q es).length c') (keepP q es)]) := fun W K w hK H => by
  subst hes
  have H2 : Ow W K [sats Ls, Ar 41 2 pfC (.slice a es.length c) es] w := Ow.unflat (As := Ls) H (Sb.all _ _)
  refine (delete_p a c es F caps q φ (sats Ls) hT hn hl W K w hK H2).mono fun e w' h => ?_
  obtain ⟨u, L', ⟨a', c', rfl, rfl⟩, h5, h6⟩ := h
  exact ⟨_, _, ⟨a', c', rfl, rfl⟩, h5, h6.flat .here⟩
def nrt (p : Pf) : Bool := !decide (Rt p)
theorem told1_s (p : Pf) (hp : PfN p) : Pact Tryz.prog 66 #[.agg (pfC p).toArray] (fun _ => True) [] (fun u L' => u = .bool (nrt p) ∧ L' = []) := by
  refine pact Tryz.func66 rfl Tryz.ntmps66 rfl ?_
  intro W K _
  unfold nrt
  rcases hr : decide (Rt p) with _ | _
  all_goals (
    have k := T.right_b p hp _ hr
    (repeat' (first | ((with_reducible apply gL); (first | refine yL0 ?_ | refine yL ?_ | ((with_reducible apply gL_go); (first | (refine JL_goq (k) (hφ := xF) (h := ?_); rintro _ _ ⟨rfl, rfl⟩; try simp only [List.cons_append, List.nil_append]) | fail)) | (refine yM ?_; intro _) | fail)) | refine yJ ?_ | fail))
    exact J_ret1 rfl (by rfl) fun w H => ⟨_, ⟨rfl, rfl⟩, H.sel .nil⟩)
end Go.Proofs.YtnhabkipjmgaaaaGreat
namespace Go.Proofs.YtnhabkipjmgaaaaGreat
set_option linter.unusedSimpArgs false
set_option linter.unusedVariables false
set_option maxRecDepth 20000
set_option maxHeartbeats 4000000
open Go.RowKit Go.Pm

open T (Pf PfN Rt Ah pfC)
def toldF (u : Up) : List Pf := ddP (srtP (keepP nrt u.td))
theorem told_s (u : Up) (hu : UpN u) : Pact Tryz.prog 35 #[.agg (upC u).toArray] (fun w => UpV w u) [] (fun v L' => ∃ (L : List Pf) (a : Option Addr) (c : Nat), L = (if okN u.d.nf then toldF u else []) ∧ v = .slice a L.length c ∧ L' = [Ar 41 2 pfC (.slice a L.length c) L]) := by
  refine pact Tryz.func35 rfl Tryz.ntmps35 rfl ?_
  intro W K hK
  have hkl := keepP_len nrt u.td
  have htl := hu.tl
  have hc := check_s u.d hu.d
  rcases hok : okN u.d.nf with _ | _
  · rw [hok] at hc
    (repeat' (first | ((with_reducible apply gL); (first | refine yL0 ?_ | refine yL ?_ | ((with_reducible apply gL_go); (first | (refine JL_goq (hc) (hφ := (by (try simp only [List.cons_append, List.nil_append]); exact fun w hr => (hK w hr.1).d)) (h := ?_); rintro _ _ ⟨rfl, rfl⟩; try simp only [List.cons_append, List.nil_append]) | fail)) | (refine yM ?_; intro _) | fail)) | refine yJ ?_ | ((with_reducible apply gJ_if); (first | (refine J_if xR ?_ ?_ <;> intro _ <;> (try (exfalso; first | contradiction | omega))) | (refine J_ifb xR ?_ ?_ <;> (intro hgb; subst hgb)) | (refine J_ifb xR ?_ ?_ <;> intro _) | fail)) | fail))
    exact J_ret1 rfl (by rfl) fun w H => ⟨_, ⟨[], none, 0, rfl, rfl, rfl⟩, (Ow.arNil (e := 41) (sz := 2) (enc := pfC) H).sel xZ⟩
  · rw [hok] at hc
    have hT : TstP 66 [] nrt (fun _ => True) (sats []) := tst_of (by decide +kernel) told1_s
    (repeat' (first | ((with_reducible apply gL); (first | refine yL0 ?_ | refine yL ?_ | ((with_reducible apply gL_go); (first | (refine JL_goq (hc) (hφ := (by (try simp only [List.cons_append, List.nil_append]); exact fun w hr => (hK w hr.1).d)) (h := ?_); rintro _ _ ⟨rfl, rfl⟩; try simp only [List.cons_append, List.nil_append]) | (refine JL_goq (clone_p u.ta u.tc u.td (by omega)) (hφ := (by (try simp only [List.cons_append, List.nil_append]); exact fun w hr => (hK w hr.1).td)) (h := ?_); rintro _ _ ⟨a, c, rfl, rfl⟩; try simp only [List.cons_append, List.nil_append]) | fail)) | (refine yM ?_; intro _) | fail)) | refine yJ ?_ | ((with_reducible apply gJ_if); (first | (refine J_if xR ?_ ?_ <;> intro _ <;> (try (exfalso; first | contradiction | omega))) | (refine J_ifb xR ?_ ?_ <;> (intro hgb; subst hgb)) | (refine J_ifb xR ?_ ?_ <;> intro _) | fail)) | fail))
    have kd := delete_f [] a c _ u.td rfl 66 [] nrt (fun _ => True) hT hu.td (by omega)
    simp only [List.nil_append] at kd
    (repeat' (first | ((with_reducible apply gL); (first | refine yL0 ?_ | refine yL ?_ | ((with_reducible apply gL_go); (first | (refine JL_goq (kd) (hφ := xF) (h := ?_); rintro _ _ ⟨a2, c2, rfl, rfl⟩; try simp only [List.cons_append, List.nil_append]) | fail)) | (refine yM ?_; intro _) | fail)) | refine yJ ?_ | ((with_reducible apply gJ_if); (first | (refine J_if xR ?_ ?_ <;> intro _ <;> (try (exfalso; first | contradiction | omega))) | (refine J_ifb xR ?_ ?_ <;> (intro hgb; subst hgb)) | (refine J_ifb xR ?_ ?_ <;> intro _) | fail)) | fail))
    (repeat' (first | ((with_reducible apply gL); (first | refine yL0 ?_ | refine yL ?_ | ((with_reducible apply gL_go); (first | (refine JL_goq (sort_s a2 c2 _ (keepP nrt u.td) rfl (by omega)) (hφ := xF) (h := ?_); rintro _ _ ⟨rfl, rfl⟩; try simp only [List.cons_append, List.nil_append]) | fail)) | (refine yM ?_; intro _) | fail)) | refine yJ ?_ | ((with_reducible apply gJ_if); (first | (refine J_if xR ?_ ?_ <;> intro _ <;> (try (exfalso; first | contradiction | omega))) | (refine J_ifb xR ?_ ?_ <;> (intro hgb; subst hgb)) | (refine J_ifb xR ?_ ?_ <;> intro _) | fail)) | fail))
    have kc := compact_p a2 c2 _ (srtP (keepP nrt u.td)) (srtP_len _) (by omega)
    (repeat' (first | ((with_reducible apply gL); (first | refine yL0 ?_ | refine yL ?_ | ((with_reducible apply gL_go); (first | (refine JL_goq (kc) (hφ := xF) (h := ?_); rintro _ _ ⟨a3, c3, rfl, rfl⟩; try simp only [List.cons_append, List.nil_append]) | fail)) | (refine yM ?_; intro _) | fail)) | refine yJ ?_ | ((with_reducible apply gJ_if); (first | (refine J_if xR ?_ ?_ <;> intro _ <;> (try (exfalso; first | contradiction | omega))) | (refine J_ifb xR ?_ ?_ <;> (intro hgb; subst hgb)) | (refine J_ifb xR ?_ ?_ <;> intro _) | fail)) | fail))
    exact J_ret1 rfl (by rfl) fun w H => ⟨_, ⟨toldF u, a3, c3, rfl, rfl, rfl⟩, H.sel xZ⟩
end Go.Proofs.YtnhabkipjmgaaaaGreat
namespace Go.Proofs.YtnhabkipjmgaaaaGreat
set_option linter.unusedSimpArgs false
set_option linter.unusedVariables false
set_option maxRecDepth 20000
set_option maxHeartbeats 4000000
open Go.RowKit Go.Pm

open T (Pf PfN Rt Ah pfC)
def gnT (E : List T.Ent) (L : List Pf) (p : Pf) : Bool := !(T.getL E p).isSome || decide (p ∈ L)
theorem gone1_s (b sp tb g h : Nat) (lim : Int) (E : List T.Ent) (a : Option Addr) (c : Nat) (L : List Pf) (hL : L.Pairwise fun x y => Ah x y) (hl : L.length ≤ 1000000) (p : Pf) (hp : PfN p) : Pact Tryz.prog 69 (.agg (pfC p).toArray :: [.pointer (some ⟨g, 0, none⟩), .pointer (some ⟨h, 0, none⟩)]).toArray (fun w => w.cell? ⟨g, 0, none⟩ = some (.pointer (some ⟨b, 0, none⟩)) ∧ w.cell? ⟨h, 0, none⟩ = some (.slice a L.length c)) [pts b (tbC sp lim tb) 72, T.trA tb E, Ar 41 2 pfC (.slice a L.length c) L]
    (fun u L' => u = .bool (gnT E L p) ∧ L' = [pts b (tbC sp lim tb) 72, T.trA tb E, Ar 41 2 pfC (.slice a L.length c) L]) := by
  refine pact Tryz.func69 rfl Tryz.ntmps69 rfl ?_
  intro W K hφ
  have h1 : Kn K (fun w => w.cell? ⟨g, 0, none⟩ = some (.pointer (some ⟨b, 0, none⟩))) := hφ.left
  have h2 : Kn K (fun w => w.cell? ⟨h, 0, none⟩ = some (.slice a L.length c)) := hφ.right
  have kb := bin_s a c _ L rfl p hL hl
  unfold gnT
  rcases hg : (T.getL E p).isSome with _ | _
  all_goals (
    have k := T.get_old tb E p hp _ rfl _ hg
    (repeat' (first | ((with_reducible apply gL); (first | refine yL0 ?_ | refine yL ?_ | ((with_reducible apply gL_go); (first | (refine JL_goq (k) (hφ := xF) (h := ?_); rintro _ _ ⟨rfl, rfl⟩; try simp only [List.cons_append, List.nil_append]) | (refine JL_goq (kb) (hφ := (by (try simp only [List.cons_append, List.nil_append]); exact fun w hr => Src.ar xA w hr)) (h := ?_); rintro _ _ ⟨i, rfl, rfl⟩; try simp only [List.cons_append, List.nil_append]) | fail)) | (refine yM ?_; intro _) | ((with_reducible apply gL_gd); (first | (refine JL_guard xR xR ?_ ?_ <;> intro _ <;> (try (exfalso; first | contradiction | omega))) | (refine JL_guardb xR xR ?_ ?_ <;> (intro hgb; subst hgb)) | (refine JL_guardb xR xR ?_ ?_ <;> (intro hgb; fail_if_success (have : type_of% hgb := rfl))) | fail)) | fail)) | ((with_reducible apply gD); (first | (refine JD_nil ?_; try simp only [List.cons_append, List.nil_append]) | (refine JD_bar ?_; try simp only [List.cons_append, List.nil_append]) | refine yD ?_ | ((with_reducible apply gD_go); (first | (refine JD_goq (k) (hφ := xF) (h := ?_); rintro _ _ ⟨rfl, rfl⟩; try simp only [List.cons_append, List.nil_append]) | (refine JD_goq (kb) (hφ := (by (try simp only [List.cons_append, List.nil_append]); exact fun w hr => Src.ar xA w hr)) (h := ?_); rintro _ _ ⟨i, rfl, rfl⟩; try simp only [List.cons_append, List.nil_append]) | fail)) | (refine yE ?_; intro _) | fail)) | refine yJ ?_ | refine J_draw (id := 1) [0, 1, 2, 3, 4, 5, 6, 7, 8, 9, 10] [11] mixed xC xD xD ?_ | fail))
    exact J_ret1 rfl (by rfl) fun w H => ⟨_, ⟨rfl, rfl⟩, H.sel xZ⟩)
def goneF (E : List T.Ent) (L wd : List Pf) : List Pf := ddP (srtP (keepP (gnT E L) wd))
theorem gone_s (b sp tb : Nat) (lim : Int) (E : List T.Ent) (a : Option Addr) (c n : Nat) (L : List Pf) (hn : L.length = n) (hL : L.Pairwise fun x y => Ah x y) (hl : n ≤ 1000) (u : Up) (hu : UpN u) : Pact Tryz.prog 36 #[.pointer (some ⟨b, 0, none⟩), .agg (upC u).toArray, .slice a n c] (fun w => UpV w u) [pts b (tbC sp lim tb) 72, T.trA tb E, Ar 41 2 pfC (.slice a n c) L]
    (fun v L' => ∃ (a' : Option Addr) (c' : Nat), v = .slice a' (goneF E L u.wd).length c' ∧ L' = [pts b (tbC sp lim tb) 72, T.trA tb E, Ar 41 2 pfC (.slice a n c) L, Ar 41 2 pfC (.slice a' (goneF E L u.wd).length c') (goneF E L u.wd)]) := by
  subst hn
  refine pact Tryz.func36 rfl Tryz.ntmps36 rfl ?_
  intro W K hK
  have hwl := hu.wl
  have hkl := keepP_len (gnT E L) u.wd
  (repeat' (first | ((with_reducible apply gL); (first | refine yL0 ?_ | refine yL ?_ | ((with_reducible apply gL_go); (first | (refine JL_goq (clone_p u.wa u.wc u.wd (by omega)) (hφ := (by (try simp only [List.cons_append, List.nil_append]); exact fun w hr => (hK w hr.1).wd)) (h := ?_); rintro _ _ ⟨a1, c1, rfl, rfl⟩; try simp only [List.cons_append, List.nil_append]) | fail)) | (refine yM ?_; intro _) | fail)) | refine yJ ?_ | fail))
  rename_i g ub h
  have hT : TstP 69 [.pointer (some ⟨g, 0, none⟩), .pointer (some ⟨h, 0, none⟩)] (gnT E L) _ (sats [pts b (tbC sp lim tb) 72, T.trA tb E, Ar 41 2 pfC (.slice a L.length c) L]) := tst_of (by decide +kernel) (fun p hp => gone1_s b sp tb g h lim E a c L hL (by omega) p hp)
  have kd := delete_f [pts b (tbC sp lim tb) 72, T.trA tb E, Ar 41 2 pfC (.slice a L.length c) L] a1 c1 _ u.wd rfl 69 _ (gnT E L) _ hT hu.wd (by omega)
  simp only [List.cons_append, List.nil_append] at kd
  (repeat' (first | ((with_reducible apply gL); (first | refine yL0 ?_ | refine yL ?_ | ((with_reducible apply gL_go); (first | (refine JL_goq (kd) (hφ := (by (try simp only [List.cons_append, List.nil_append]); exact fun w hr => ⟨hr.cell xA rfl, hr.cell xA rfl⟩)) (h := ?_); rintro _ _ ⟨a2, c2, rfl, rfl⟩; try simp only [List.cons_append, List.nil_append]) | fail)) | (refine yM ?_; intro _) | fail)) | refine yJ ?_ | fail))
  (repeat' (first | ((with_reducible apply gL); (first | refine yL0 ?_ | refine yL ?_ | ((with_reducible apply gL_go); (first | (refine JL_goq (sort_s a2 c2 _ (keepP (gnT E L) u.wd) rfl (by omega)) (hφ := xF) (h := ?_); rintro _ _ ⟨rfl, rfl⟩; try simp only [List.cons_append, List.nil_append]) | fail)) | (refine yM ?_; intro _) | fail)) | refine yJ ?_ | fail))
  have kc := compact_p a2 c2 _ (srtP (keepP (gnT E L) u.wd)) (srtP_len _) (by omega)
  (repeat' (first | ((with_reducible apply gL); (first | refine yL0 ?_ | refine yL ?_ | ((with_reducible apply gL_go); (first | (refine JL_goq (kc) (hφ := xF) (h := ?_); rintro _ _ ⟨a3, c3, rfl, rfl⟩; try simp only [List.cons_append, List.nil_append]) | fail)) | (refine yM ?_; intro _) | fail)) | refine yJ ?_ | fail))
  exact J_ret1 rfl (by rfl) fun w H => ⟨_, ⟨a3, c3, rfl, rfl⟩, H.sel xZ⟩
end Go.Proofs.YtnhabkipjmgaaaaGreat
namespace Go.Proofs.YtnhabkipjmgaaaaGreat
set_option linter.unusedSimpArgs false
set_option linter.unusedVariables false
set_option maxRecDepth 20000
set_option maxHeartbeats 4000000
open Go.RowKit Go.Pm

open T (Pf PfN Rt Ah pfC)
def freshN (E : List T.Ent) (L : List Pf) : Nat := (L.filter fun p => !(T.getL E p).isSome).length
theorem freshN_snoc (E : List T.Ent) {L : List Pf} {k : Nat} {p : Pf} (h : L[k]? = some p) : freshN E (L.take (k + 1)) = freshN E (L.take k) + if (T.getL E p).isSome then 0 else 1 := by
  unfold freshN
  rw [take_snoc h, List.filter_append, List.length_append]
  congr 1
  cases hg : T.getL E p <;> simp [List.filter_cons, hg]
theorem fresh_s (b tb : Nat) (E : List T.Ent) (a : Option Addr) (c n : Nat) (L : List Pf) (hn : L.length = n) (hl : n ≤ 1000) (hp : ∀ p ∈ L, PfN p) : Pact Tryz.prog 38 #[.pointer (some ⟨b, 0, none⟩), .slice a n c] (fun w => w.cell? ⟨b, 0 + 2, none⟩ = some (.pointer (some ⟨tb, 0, none⟩))) [T.trA tb E, Ar 41 2 pfC (.slice a n c) L]
    (fun v L' => v = .int .i64 (freshN E L) ∧ L' = [T.trA tb E, Ar 41 2 pfC (.slice a n c) L]) := by
  subst hn
  refine pact Tryz.func38 rfl Tryz.ntmps38 rfl ?_
  intro W K hK
  (repeat' (first | ((with_reducible apply gL); (first | refine yL0 ?_ | refine yL ?_ | (refine yM ?_; intro _) | fail)) | ((with_reducible apply gD); (first | (refine JD_nil ?_; try simp only [List.cons_append, List.nil_append]) | (refine JD_bar ?_; try simp only [List.cons_append, List.nil_append]) | refine yD ?_ | (refine yE ?_; intro _) | fail)) | refine yJ ?_ | ((with_reducible apply gJ_if); (first | (refine J_if xR ?_ ?_ <;> intro _ <;> (try (exfalso; first | contradiction | omega))) | (refine J_ifb xR ?_ ?_ <;> (intro hgb; subst hgb)) | (refine J_ifb xR ?_ ?_ <;> intro _) | fail)) | refine J_draw (id := 5) [0, 1, 2, 3, 4, 5, 6, 7, 8, 9, 10] [11] mixed xC xD xD ?_ | fail))
  refine J_loop (α := Nat) 0 (fun x => L.length - x) (fun x => x ≤ L.length) (fun x => [(0, .pointer (some ⟨b, 0, none⟩)), (5, .int .i64 (freshN E (L.take x))), (10, .slice a L.length c), (11, .int .i64 L.length), (12, .int .i64 x)]) (fun _ => [T.trA tb E, Ar 41 2 pfC (.slice a L.length c) L]) (Nat.zero_le _) ⟨rfl, rfl, rfl, rfl, rfl, trivial⟩ (fun w H => H.sel xZ) ?_
  intro k hk
  by_cases hlt : k < L.length
  · obtain ⟨p, hs⟩ : ∃ p, L[k]? = some p := ⟨_, List.getElem?_eq_getElem hlt⟩
    have hsn := freshN_snoc E hs
    have hfl : freshN E (L.take k) ≤ k := by
      unfold freshN
      have := List.length_filter_le (fun p => !(T.getL E p).isSome) (L.take k)
      rw [List.length_take] at this
      omega
    rcases hg : (T.getL E p).isSome with _ | _
    all_goals (
      rw [hg] at hsn
      have kg := T.get_old tb E p (hp p (List.mem_of_getElem? hs)) _ rfl _ hg
      (repeat' (first | ((with_reducible apply gL); (first | refine yL0 ?_ | refine yL ?_ | (refine yM ?_; intro _) | fail)) | ((with_reducible apply gD); (first | (refine JD_nil ?_; try simp only [List.cons_append, List.nil_append]) | (refine JD_bar ?_; try simp only [List.cons_append, List.nil_append]) | refine yD ?_ | ((with_reducible apply gD_go); (first | (refine JD_goq (kg) (hφ := xF) (h := ?_); rintro _ _ ⟨rfl, rfl⟩; try simp only [List.cons_append, List.nil_append]) | fail)) | (refine yE ?_; intro _) | fail)) | refine yJ ?_ | ((with_reducible apply gJ_if); (first | (refine J_if xR ?_ ?_ <;> intro _ <;> (try (exfalso; first | contradiction | omega))) | (refine J_ifb xR ?_ ?_ <;> (intro hgb; subst hgb)) | (refine J_ifb xR ?_ ?_ <;> intro _) | fail)) | refine J_draw (id := 5) [0, 1, 2, 3, 4, 5, 6, 7, 8, 9, 10] [11] mixed xC xD xD ?_ | fail))
      refine J_again (k + 1) (by omega) (by omega) ⟨rfl, ?_, rfl, rfl, rfl, trivial⟩ (fun w H => H.sel xZ)
      rw [hsn]
      rfl)
  · obtain rfl : k = L.length := by omega
    rw [List.take_length]
    (repeat' (first | ((with_reducible apply gL); (first | refine yL0 ?_ | refine yL ?_ | (refine yM ?_; intro _) | fail)) | ((with_reducible apply gD); (first | (refine JD_nil ?_; try simp only [List.cons_append, List.nil_append]) | (refine JD_bar ?_; try simp only [List.cons_append, List.nil_append]) | refine yD ?_ | (refine yE ?_; intro _) | fail)) | refine yJ ?_ | ((with_reducible apply gJ_if); (first | (refine J_if xR ?_ ?_ <;> intro _ <;> (try (exfalso; first | contradiction | omega))) | (refine J_ifb xR ?_ ?_ <;> (intro hgb; subst hgb)) | (refine J_ifb xR ?_ ?_ <;> intro _) | fail)) | refine J_draw (id := 5) [0, 1, 2, 3, 4, 5, 6, 7, 8, 9, 10] [11] mixed xC xD xD ?_ | fail))
    exact J_ret1 rfl (by rfl) fun w H => ⟨_, ⟨rfl, rfl⟩, H.sel xZ⟩
end Go.Proofs.YtnhabkipjmgaaaaGreat
