/-
  Aq13, Aq14, Aq15: merged.
-/
import Derived.Test.YtdnokmpnemaoaaaGreatZViewChooses29
namespace Go.Proofs.YtdnokmpnemaoaaaGreat
set_option linter.unusedSimpArgs false
set_option linter.unusedVariables false
set_option maxRecDepth 20000
set_option maxHeartbeats 4000000
open Go.RowKit Go.Pm

structure En where
  id : Int
  n : Int
  x : Nf
structure Me where
  b : Nat
  d : At
  e : En
abbrev enC (d : At) (k : ByteArray) (n : Int) : List Value := [.int .i64 d.origin, .slice d.pa d.path.length d.pc, .int .u32 d.next, .bool d.hasMed, .int .u32 d.med, .bool d.hasLocal, .int .u32 d.loc, .bool d.atomic, .bool d.hasMaker, .int .u32 d.makerAS, .int .u32 d.maker, .slice d.ca d.comms.length d.cc, .slice d.oa d.others.length d.oc, .string k, .int .i64 n]
def meP (m : Me) : HP := sats [pts m.b (enC m.d (keyS m.e.x) m.e.n) 140, has (fun w => AtV w m.d)]
theorem meOpen {W : World} {K : Hl} {L R : List HP} {w : World} {m : Me} (H : Ow W K L w) (t : Tk L (meP m) R) : Ow W K (pts m.b (enC m.d (keyS m.e.x) m.e.n) 140 :: has (fun w => AtV w m.d) :: R) w := H.flat t
theorem meShut {W : World} {K : Hl} {L R : List HP} {w : World} {m : Me} (H : Ow W K L w) (t : Sb L [pts m.b (enC m.d (keyS m.e.x) m.e.n) 140, has (fun w => AtV w m.d)] R) : Ow W K (meP m :: R) w := H.unflat t
def byL (M : List Me) : List (ByteArray × Value) := M.map fun m => (keyS m.e.x, Value.int .i64 m.e.id)
def idL (M : List Me) : List (Int × Value) := M.map fun m => (m.e.id, Value.pointer (some ⟨m.b, 0, none⟩))
abbrev stC (mb lb : Nat) (c : Int) : List Value := [.map (some mb), .map (some lb), .int .i64 c]
abbrev mqS := mq Value.string
abbrev mqI := mq (Value.int .i64)
structure MOk (M : List Me) (S : List En) : Prop where
  e : M.map (·.e) = S
  d : ∀ m ∈ M, AtF m.d ∧ m.d.nf = m.e.x
def stoA (sp : Nat) (S : List En) (c : Int) : HP := fun h => ∃ (mb lb : Nat) (M : List Me), MOk M S ∧ sats [pts sp (stC mb lb c) 91, mqS mb (byL M), mqI lb (idL M), sats (M.map meP)] h
structure Mx where
  mb : Nat
  lb : Nat
  M : List Me
theorem stoOpen {W : World} {K : Hl} {L R : List HP} {w : World} {sp : Nat} {S : List En} {c : Int} (H : Ow W K L w) (t : Tk L (stoA sp S c) R) : ∃ x : {x : Mx // MOk x.M S}, Ow W K (pts sp (stC x.1.mb x.1.lb c) 91 :: mqS x.1.mb (byL x.1.M) :: mqI x.1.lb (idL x.1.M) :: sats (x.1.M.map meP) :: R) w :=
  H.open t (Bs := fun x : {x : Mx // MOk x.M S} => [pts sp (stC x.1.mb x.1.lb c) 91, mqS x.1.mb (byL x.1.M), mqI x.1.lb (idL x.1.M), sats (x.1.M.map meP)]) (fun k ⟨mb, lb, M, hM, h⟩ => ⟨⟨⟨mb, lb, M⟩, hM⟩, h⟩)
theorem stoShut {W : World} {K : Hl} {L R : List HP} {w : World} {sp mb lb : Nat} {M : List Me} {S : List En} {c : Int} (hM : MOk M S) (H : Ow W K L w) (t : Sb L [pts sp (stC mb lb c) 91, mqS mb (byL M), mqI lb (idL M), sats (M.map meP)] R) : Ow W K (stoA sp S c :: R) w :=
  H.shut t (fun k hk => ⟨mb, lb, M, hM, hk⟩)
theorem mi_s : MI Tryz.prog 88 Value.string (.int .i64 0) := mi_of Tryz.underlying88 (keyOkS Tryz.underlying9) (by kernel_rfl)
theorem mi_i : MI Tryz.prog 89 (Value.int .i64) (.pointer none) := mi_of Tryz.underlying89 (keyOkI Tryz.underlying3) (by kernel_rfl)
theorem is_s (sp : Nat) (lb : Nat) (x : Value) (c : Int) : Pact Tryz.prog 51 #[.pointer (some ⟨sp, 0, none⟩)] (fun _ => True) [pts sp [x, .map (some lb), .int .i64 c] 91] (fun u L' => u = .bool true ∧ L' = [pts sp [x, .map (some lb), .int .i64 c] 91]) := by
  refine pact Tryz.func51 rfl Tryz.ntmps51 rfl ?_
  intro W K _
  (repeat' (first | (refine gL ?_; first | refine yL0 ?_ | (refine gL_bin_neq ?_; (refine JL_p rfl xR xR (pe_neM xR xR xC) ?_)) | refine yL ?_) | refine yJ ?_ | (refine yI ?_ ?_ <;> intro _ <;> try exact xX) | (refine yK ?_ ?_ <;> intro hgb <;> first | subst hgb | fail_if_success have : type_of% hgb := rfl) | fail))
  exact J_ret1 rfl (by rfl) fun w H => ⟨_, ⟨rfl, rfl⟩, H.sel xZ⟩
theorem find_hit (sp mb lb : Nat) (c id : Int) (A B : List Me) (m : Me) (hid : m.e.id = id) (hA : ∀ a ∈ A, a.e.id ≠ id) : Pact Tryz.prog 73 #[.pointer (some ⟨sp, 0, none⟩), .int .i64 id] (fun _ => True) [pts sp (stC mb lb c) 91, mqI lb (idL (A ++ m :: B))] (fun u L' => u = .tuple #[.pointer (some ⟨m.b, 0, none⟩), .int .i64 0] ∧ L' = [pts sp (stC mb lb c) 91, mqI lb (idL (A ++ m :: B))]) := by
  refine pact Tryz.func73 rfl Tryz.ntmps73 rfl ?_
  intro W K _
  have hg : lookV (aG (idL (A ++ m :: B)) id) (.pointer none) false = .pointer (some ⟨m.b, 0, none⟩) := by
    unfold idL
    rw [List.map_append, List.map_cons, hid, aG_mid]
    · rfl
    · intro p hp
      obtain ⟨a, ha, rfl⟩ := List.mem_map.1 hp
      exact hA a ha
  (repeat' (first | (refine gL ?_; first | refine yL0 ?_ | (refine gL_lookup ?_; (refine JL_p rfl xR xR (pe_lookG mi_i xR xR xA hg) ?_)) | refine yL ?_ | (refine gL_go ?_; (refine JL_goq (is_s sp lb (.map (some mb)) c) (hφ := xF) (h := ?_); rintro _ _ ⟨rfl, rfl⟩; try simp only [cAp, nAp])) | (refine gL_lookup ?_; first | refine JL_p rfl xR xR (pe_lookup xR xR (tabM mtab_ok xR) xT (by first | apply hlook | apply hlook2 | rfl)) ?_ | refine JL_p rfl xR xR (pe_lookupK xR xR (tabM mtab_ok xR) xH (by first | apply hlook | apply hlook2 | rfl)) ?_)) | refine yJ ?_ | (refine yI ?_ ?_ <;> intro _ <;> try exact xX) | (refine yK ?_ ?_ <;> intro hgb <;> first | subst hgb | fail_if_success have : type_of% hgb := rfl) | fail))
  exact J_ret2 rfl (by rfl) (by rfl) fun w H => ⟨_, ⟨rfl, rfl⟩, H.sel xZ⟩
theorem find_miss (sp mb lb : Nat) (c id : Int) (M : List Me) (hA : ∀ a ∈ M, a.e.id ≠ id) : Pact Tryz.prog 73 #[.pointer (some ⟨sp, 0, none⟩), .int .i64 id] (fun _ => True) [pts sp (stC mb lb c) 91, mqI lb (idL M)] (fun u L' => u = .tuple #[.pointer none, .int .i64 5] ∧ L' = [pts sp (stC mb lb c) 91, mqI lb (idL M)]) := by
  refine pact Tryz.func73 rfl Tryz.ntmps73 rfl ?_
  intro W K _
  have hg : lookV (aG (idL M) id) (.pointer none) false = .pointer none := by
    unfold idL
    rw [aG_none]
    · rfl
    · intro p hp
      obtain ⟨a, ha, rfl⟩ := List.mem_map.1 hp
      exact hA a ha
  (repeat' (first | (refine gL ?_; first | refine yL0 ?_ | (refine gL_lookup ?_; (refine JL_p rfl xR xR (pe_lookG mi_i xR xR xA hg) ?_)) | refine yL ?_ | (refine gL_go ?_; (refine JL_goq (is_s sp lb (.map (some mb)) c) (hφ := xF) (h := ?_); rintro _ _ ⟨rfl, rfl⟩; try simp only [cAp, nAp])) | (refine gL_lookup ?_; first | refine JL_p rfl xR xR (pe_lookup xR xR (tabM mtab_ok xR) xT (by first | apply hlook | apply hlook2 | rfl)) ?_ | refine JL_p rfl xR xR (pe_lookupK xR xR (tabM mtab_ok xR) xH (by first | apply hlook | apply hlook2 | rfl)) ?_)) | refine yJ ?_ | (refine yI ?_ ?_ <;> intro _ <;> try exact xX) | (refine yK ?_ ?_ <;> intro hgb <;> first | subst hgb | fail_if_success have : type_of% hgb := rfl) | fail))
  exact J_ret2 rfl (by rfl) (by rfl) fun w H => ⟨_, ⟨rfl, rfl⟩, H.sel xZ⟩
theorem new_s : Pact Tryz.prog 14 #[] (fun _ => True) [] (fun u L' => ∃ sp, u = .pointer (some ⟨sp, 0, none⟩) ∧ L' = [stoA sp [] 0]) := by
  refine pact (args := []) Tryz.func14 rfl Tryz.ntmps14 rfl ?_
  intro W K _
  (repeat' (first | (refine gL ?_; first | refine yL0 ?_ | (refine gL_makeMap ?_; (first | (refine JL_mmG (t := 88) Value.string xR xR ?_; intro mb) | (refine JL_mmG (t := 89) (Value.int .i64) xR xR ?_; intro lb))) | refine yL ?_ | (refine yM ?_; intro _) | (refine gL_makeMap ?_; (refine JL_mm (tabM mtab_ok xR) xR xR ?_; intro _))) | refine yJ ?_ | fail))
  rename_i sp
  refine J_ret1 rfl (by rfl) fun w H => ⟨_, ⟨sp, rfl, rfl⟩, ?_⟩
  exact Ow.sel (stoShut (M := []) ⟨rfl, fun _ h => absurd h List.not_mem_nil⟩ (Ow.satsNil H) (mb := mb) (lb := lb) xZ) xZ
theorem zd69Aq14 {p q : Prop} (k : p) (h : p → q := by intro hk; first | exact J_draw (id := 13) [0, 1, 2, 3, 4, 5, 6, 7, 8] [9] mixed xC xD xD hk | exact J_draw (id := 14) [0, 1, 2, 3, 4, 5, 6, 7, 8, 10, 9, 11, 12] [13] mixed xC xD xD hk | fail) : q := h k

structure StOk (B : Int) (S : List En) (c : Int) : Prop where
  cnt : 0 ≤ c ∧ c ≤ B
  ids : ∀ e ∈ S, 1 ≤ e.id ∧ e.id ≤ c
  n : ∀ e ∈ S, 1 ≤ e.n ∧ e.n ≤ B
  ok : ∀ e ∈ S, okN e.x = true ∧ NfN e.x
  idd : S.Pairwise (fun a b => a.id ≠ b.id)
  xd : S.Pairwise (fun a b => a.x ≠ b.x)
  len : S.length ≤ 4096
theorem StOk.mono {B B' : Int} {S : List En} {c : Int} (h : StOk B S c) (hb : B ≤ B') : StOk B' S c :=
  ⟨⟨h.cnt.1, by have := h.cnt.2; omega⟩, h.ids, fun e he => ⟨(h.n e he).1, by have := (h.n e he).2; omega⟩, h.ok, h.idd, h.xd, h.len⟩
theorem stok_nil : StOk 0 [] 0 := ⟨by omega, by simp, by simp, by simp, .nil, .nil, by simp⟩
theorem StOk.mid {B : Int} {A C : List En} {e : En} {c : Int} (h : StOk B (A ++ e :: C) c) : (∀ a ∈ A, a.id ≠ e.id ∧ a.x ≠ e.x) ∧ (∀ a ∈ C, a.id ≠ e.id ∧ a.x ≠ e.x) := by
  have h1 := List.pairwise_append.1 h.idd
  have h2 := List.pairwise_append.1 h.xd
  have h3 := List.pairwise_cons.1 h1.2.1
  have h4 := List.pairwise_cons.1 h2.2.1
  exact ⟨fun a ha => ⟨h1.2.2 a ha e (List.mem_cons_self ..), h2.2.2 a ha e (List.mem_cons_self ..)⟩, fun a ha => ⟨fun q => h3.1 a ha q.symm, fun q => h4.1 a ha q.symm⟩⟩
theorem MOk.split {M : List Me} {A C : List En} {e : En} (h : MOk M (A ++ e :: C)) : ∃ MA m MC, M = MA ++ m :: MC ∧ m.e = e ∧ MOk MA A ∧ MOk MC C ∧ AtF m.d ∧ m.d.nf = e.x := by
  obtain ⟨MA, M2, rfl, h1, h2⟩ := List.map_eq_append_iff.1 h.e
  obtain ⟨m, MC, rfl, h3, h4⟩ := List.map_eq_cons_iff.1 h2
  have hd := h.d m (by simp)
  exact ⟨MA, m, MC, rfl, h3, ⟨h1, fun a ha => h.d a (by simp [ha])⟩, ⟨h4, fun a ha => h.d a (by simp [ha])⟩, hd.1, by rw [hd.2, h3]⟩
theorem MOk.join {MA MC : List Me} {m : Me} {A C : List En} (h1 : MOk MA A) (h2 : MOk MC C) (h3 : AtF m.d) (h4 : m.d.nf = m.e.x) : MOk (MA ++ m :: MC) (A ++ m.e :: C) := by
  refine ⟨by rw [List.map_append, List.map_cons, h1.e, h2.e], fun a ha => ?_⟩
  rcases List.mem_append.1 ha with ha | ha
  · exact h1.d a ha
  · rcases List.mem_cons.1 ha with rfl | ha
    · exact ⟨h3, h4⟩
    · exact h2.d a ha
theorem MOk.two {MA MC : List Me} {A C : List En} (h1 : MOk MA A) (h2 : MOk MC C) : MOk (MA ++ MC) (A ++ C) := by
  refine ⟨by rw [List.map_append, h1.e, h2.e], fun a ha => ?_⟩
  rcases List.mem_append.1 ha with ha | ha
  · exact h1.d a ha
  · exact h2.d a ha
theorem MOk.mem {M : List Me} {S : List En} (h : MOk M S) {a : Me} (ha : a ∈ M) : a.e ∈ S := by rw [← h.e]; exact List.mem_map.2 ⟨a, ha, rfl⟩
theorem keyOk_s (d : At) (hd : AtF d) (hok : okN d.nf = true) : Pact Tryz.prog 109 #[.agg (atC d).toArray] (fun w => AtV w d) [] (ret0 (.tuple #[.string (keyS d.nf), .int .i64 0])) := fun W K w hK H =>
  (keyOf_s d hd W K w hK H).mono fun e w' ⟨v, L', h2, h1, h3⟩ => by
    obtain ⟨k, rfl, hk, rfl⟩ := h2
    exact ⟨_, [], ⟨by rw [hk hok, hok]; rfl, rfl⟩, h1, h3⟩
theorem keep_bad (sp : Nat) (S : List En) (c : Int) (d : At) (hd : AtF d) (hok : okN d.nf = false) : Pact Tryz.prog 69 #[.pointer (some ⟨sp, 0, none⟩), .agg (atC d).toArray] (fun w => AtV w d) [stoA sp S c] (fun u L' => u = .tuple #[.int .i64 0, .int .i64 2] ∧ L' = [stoA sp S c]) := by
  refine pact Tryz.func69 rfl Tryz.ntmps69 rfl ?_
  intro W K hK
  refine J_open (fun w H => stoOpen H .here) ?_
  rintro ⟨⟨mb, lb, M⟩, hM⟩
  dsimp only
  have hk := keyOf_s d hd
  rw [hok] at hk
  (repeat' (first | (refine gL ?_; first | refine yL0 ?_ | refine yL ?_ | (refine gL_go ?_; first | (refine JL_goq (is_s sp lb (.map (some mb)) c) (hφ := xF) (h := ?_); rintro _ _ ⟨rfl, rfl⟩; try simp only [cAp, nAp]) | (refine JL_goq (hk) (hφ := (by (try simp only [cAp, nAp]); exact fun w hr => hK w hr.1)) (h := ?_); rintro _ _ ⟨k, rfl, _, rfl⟩; try simp only [cAp, nAp])) | (refine yM ?_; intro _) | (refine gL_lookup ?_; first | refine JL_p rfl xR xR (pe_lookup xR xR (tabM mtab_ok xR) xT (by first | apply hlook | apply hlook2 | rfl)) ?_ | refine JL_p rfl xR xR (pe_lookupK xR xR (tabM mtab_ok xR) xH (by first | apply hlook | apply hlook2 | rfl)) ?_)) | (refine gD ?_; first | (refine yN ?_; try simp only [cAp, nAp]) | refine yD ?_ | (refine gD_go ?_; first | (refine JD_goq (is_s sp lb (.map (some mb)) c) (hφ := xF) (h := ?_); rintro _ _ ⟨rfl, rfl⟩; try simp only [cAp, nAp]) | (refine JD_goq (hk) (hφ := (by (try simp only [cAp, nAp]); exact fun w hr => hK w hr.1)) (h := ?_); rintro _ _ ⟨k, rfl, _, rfl⟩; try simp only [cAp, nAp])) | (refine yE ?_; intro _) | (refine gD_mapUpdate ?_; refine JD_mapSet xR xR xR (tabM mtab_ok xR) xT xR ?_)) | refine yJ ?_ | refine zd69Aq14 ?_ | (refine yI ?_ ?_ <;> intro _ <;> try exact xX) | (refine yK ?_ ?_ <;> intro hgb <;> first | subst hgb | fail_if_success have : type_of% hgb := rfl) | fail))
  exact J_ret2 rfl (by rfl) (by rfl) fun w H => ⟨_, ⟨rfl, rfl⟩, Ow.sel (stoShut hM H xZ) xZ⟩
theorem keep_hit (B : Int) (hB : B ≤ 1000000000) (sp : Nat) (A C : List En) (e : En) (c : Int) (d : At) (hd : AtF d) (hok : okN d.nf = true) (hs : StOk B (A ++ e :: C) c) (he : e.x = d.nf) : Pact Tryz.prog 69 #[.pointer (some ⟨sp, 0, none⟩), .agg (atC d).toArray] (fun w => AtV w d) [stoA sp (A ++ e :: C) c] (fun u L' => u = .tuple #[.int .i64 e.id, .int .i64 0] ∧ L' = [stoA sp (A ++ ⟨e.id, e.n + 1, e.x⟩ :: C) c]) := by
  refine pact Tryz.func69 rfl Tryz.ntmps69 rfl ?_
  intro W K hK
  have hmid := hs.mid
  have hnn := hs.n e (by simp)
  have hii := hs.ids e (by simp)
  refine J_open (fun w H => stoOpen H .here) ?_
  rintro ⟨⟨mb, lb, M⟩, hM⟩
  dsimp only at hM ⊢
  obtain ⟨MA, m, MC, rfl, rfl, hMA, hMC, hmd, hmx⟩ := hM.split
  have hkey := keyOk_s d hd hok
  have g1 : lookV (aG (byL (MA ++ m :: MC)) (keyS d.nf)) (.int .i64 0) false = .int .i64 m.e.id := by
    unfold byL
    rw [List.map_append, List.map_cons, ← he, aG_mid]
    · rfl
    · intro p hp
      obtain ⟨a, ha, rfl⟩ := List.mem_map.1 hp
      have h1 := hMA.mem ha
      have h2 := hs.ok a.e (by simp [h1])
      have h3 := hs.ok m.e (by simp)
      exact fun q => (hmid.1 _ h1).2 (keyS_inj h2.2 h3.2 h2.1 h3.1 q)
  have g2 : lookV (aG (idL (MA ++ m :: MC)) m.e.id) (.pointer none) false = .pointer (some ⟨m.b, 0, none⟩) := by
    unfold idL
    rw [List.map_append, List.map_cons, aG_mid]
    · rfl
    · intro p hp
      obtain ⟨a, ha, rfl⟩ := List.mem_map.1 hp
      exact (hmid.1 _ (hMA.mem ha)).1
  refine J_heap (fun w H => meOpen (Ow.satsMid H xA) .here) ?_
  (repeat' (first | (refine gL ?_; first | refine yL0 ?_ | (refine gL_lookup ?_; (first | (refine JL_p rfl xR xR (pe_lookG mi_s xR xR xA g1) ?_) | (refine JL_p rfl xR xR (pe_lookG mi_i xR xR xA g2) ?_))) | refine yL ?_ | (refine gL_go ?_; first | (refine JL_goq (is_s sp lb (.map (some mb)) c) (hφ := xF) (h := ?_); rintro _ _ ⟨rfl, rfl⟩; try simp only [cAp, nAp]) | (refine JL_goq (hkey) (hφ := (by (try simp only [cAp, nAp]); exact fun w hr => hK w hr.1)) (h := ?_); rintro _ _ ⟨rfl, rfl⟩; try simp only [cAp, nAp])) | (refine yM ?_; intro _) | (refine gL_lookup ?_; first | refine JL_p rfl xR xR (pe_lookup xR xR (tabM mtab_ok xR) xT (by first | apply hlook | apply hlook2 | rfl)) ?_ | refine JL_p rfl xR xR (pe_lookupK xR xR (tabM mtab_ok xR) xH (by first | apply hlook | apply hlook2 | rfl)) ?_)) | (refine gD ?_; first | (refine yN ?_; try simp only [cAp, nAp]) | refine yD ?_ | (refine gD_go ?_; first | (refine JD_goq (is_s sp lb (.map (some mb)) c) (hφ := xF) (h := ?_); rintro _ _ ⟨rfl, rfl⟩; try simp only [cAp, nAp]) | (refine JD_goq (hkey) (hφ := (by (try simp only [cAp, nAp]); exact fun w hr => hK w hr.1)) (h := ?_); rintro _ _ ⟨rfl, rfl⟩; try simp only [cAp, nAp])) | (refine yE ?_; intro _) | (refine gD_mapUpdate ?_; refine JD_mapSet xR xR xR (tabM mtab_ok xR) xT xR ?_)) | refine yJ ?_ | refine zd69Aq14 ?_ | (refine yI ?_ ?_ <;> intro _ <;> try exact xX) | (refine yK ?_ ?_ <;> intro hgb <;> first | subst hgb | fail_if_success have : type_of% hgb := rfl) | fail))
  refine J_ret2 rfl (by rfl) (by rfl) fun w H => ⟨_, ⟨rfl, rfl⟩, ?_⟩
  have e1 : byL (MA ++ m :: MC) = byL (MA ++ ⟨m.b, m.d, ⟨m.e.id, m.e.n + 1, m.e.x⟩⟩ :: MC) := by simp [byL]
  have e2 : idL (MA ++ m :: MC) = idL (MA ++ ⟨m.b, m.d, ⟨m.e.id, m.e.n + 1, m.e.x⟩⟩ :: MC) := by simp [idL]
  rw [e1, e2] at H
  have H := meShut (m := ⟨m.b, m.d, ⟨m.e.id, m.e.n + 1, m.e.x⟩⟩) H xZ
  have H := Ow.satsBack (A := MA) (B := MC) (m := ⟨m.b, m.d, ⟨m.e.id, m.e.n + 1, m.e.x⟩⟩) H .here xA
  have hJ := MOk.join (m := ⟨m.b, m.d, ⟨m.e.id, m.e.n + 1, m.e.x⟩⟩) hMA hMC hmd hmx
  exact (stoShut hJ H xZ).sel xZ
theorem ownHas {W : World} {K : Hl} {L R : List HP} {w : World} {d : At} (H : Ow W K L w) (t : Tk L (ownAt d) R) : Ow W K (has (fun w => AtV w d) :: R) w := by
  have H := H.flat t
  have H := Ow.sgsHas (q := d.path) H (.there .here)
  refine Ow.has (M := [has (fun w => ∀ s ∈ d.path, segV w s), Ar 87 2 sgC (.slice d.pa d.path.length d.pc) d.path, Ar 22 1 u32C (.slice d.ca d.comms.length d.cc) d.comms, has (fun w => RawsV w d.oa d.oc d.others)]) H (.cons .here (.cons .here (.cons .here (.cons .here .nil)))) ?_
  intro w hr
  exact ⟨⟨Src.ar (.there .here) w hr, hr.has .here⟩, Src.ar (.there (.there .here)) w hr, hr.has (.there (.there (.there .here)))⟩
theorem MOk.len {M : List Me} {S : List En} (h : MOk M S) : (idL M).length = S.length := by
  unfold idL
  rw [← h.e, List.length_map, List.length_map]
theorem keep_full (B : Int) (hB : B ≤ 1000000000) (sp : Nat) (S : List En) (c : Int) (d : At) (hd : AtF d) (hok : okN d.nf = true) (hs : StOk B S c) (hn : ∀ e ∈ S, e.x ≠ d.nf) (hf : S.length = 4096) : Pact Tryz.prog 69 #[.pointer (some ⟨sp, 0, none⟩), .agg (atC d).toArray] (fun w => AtV w d) [stoA sp S c] (fun u L' => u = .tuple #[.int .i64 0, .int .i64 4] ∧ L' = [stoA sp S c]) := by
  refine pact Tryz.func69 rfl Tryz.ntmps69 rfl ?_
  intro W K hK
  refine J_open (fun w H => stoOpen H .here) ?_
  rintro ⟨⟨mb, lb, M⟩, hM⟩
  dsimp only at hM ⊢
  have hkey := keyOk_s d hd hok
  have hln := hM.len
  have hnf := At.nfN hd.num
  have g1 : lookV (aG (byL M) (keyS d.nf)) (.int .i64 0) false = .int .i64 0 := by
    unfold byL
    rw [aG_none]
    · rfl
    · intro p hp
      obtain ⟨a, ha, rfl⟩ := List.mem_map.1 hp
      have h1 := hM.mem ha
      have h2 := hs.ok a.e h1
      exact fun q => hn _ h1 (keyS_inj h2.2 hnf h2.1 hok q)
  (repeat' (first | (refine gL ?_; first | refine yL0 ?_ | (refine gL_lookup ?_; (refine JL_p rfl xR xR (pe_lookG mi_s xR xR xA g1) ?_)) | (refine gL_c_len ?_; (refine JL_p rfl xR xR (pe_lenG mi_i xR xA hln) ?_)) | refine yL ?_ | (refine gL_go ?_; first | (refine JL_goq (is_s sp lb (.map (some mb)) c) (hφ := xF) (h := ?_); rintro _ _ ⟨rfl, rfl⟩; try simp only [cAp, nAp]) | (refine JL_goq (hkey) (hφ := (by (try simp only [cAp, nAp]); exact fun w hr => hK w hr.1)) (h := ?_); rintro _ _ ⟨rfl, rfl⟩; try simp only [cAp, nAp])) | (refine yM ?_; intro _) | (refine gL_lookup ?_; first | refine JL_p rfl xR xR (pe_lookup xR xR (tabM mtab_ok xR) xT (by first | apply hlook | apply hlook2 | rfl)) ?_ | refine JL_p rfl xR xR (pe_lookupK xR xR (tabM mtab_ok xR) xH (by first | apply hlook | apply hlook2 | rfl)) ?_)) | (refine gD ?_; first | (refine yN ?_; try simp only [cAp, nAp]) | refine yD ?_ | (refine gD_go ?_; first | (refine JD_goq (is_s sp lb (.map (some mb)) c) (hφ := xF) (h := ?_); rintro _ _ ⟨rfl, rfl⟩; try simp only [cAp, nAp]) | (refine JD_goq (hkey) (hφ := (by (try simp only [cAp, nAp]); exact fun w hr => hK w hr.1)) (h := ?_); rintro _ _ ⟨rfl, rfl⟩; try simp only [cAp, nAp])) | (refine yE ?_; intro _) | (refine gD_mapUpdate ?_; refine JD_mapSet xR xR xR (tabM mtab_ok xR) xT xR ?_)) | refine yJ ?_ | refine zd69Aq14 ?_ | (refine yI ?_ ?_ <;> intro _ <;> try exact xX) | (refine yK ?_ ?_ <;> intro hgb <;> first | subst hgb | fail_if_success have : type_of% hgb := rfl) | fail))
  exact J_ret2 rfl (by rfl) (by rfl) fun w H => ⟨_, ⟨rfl, rfl⟩, Ow.sel (stoShut hM H xZ) xZ⟩
theorem keep_new (B : Int) (hB : B ≤ 1000000000) (sp : Nat) (S : List En) (c : Int) (d : At) (hd : AtF d) (hok : okN d.nf = true) (hs : StOk B S c) (hn : ∀ e ∈ S, e.x ≠ d.nf) (hf : S.length ≠ 4096) : Pact Tryz.prog 69 #[.pointer (some ⟨sp, 0, none⟩), .agg (atC d).toArray] (fun w => AtV w d) [stoA sp S c] (fun u L' => u = .tuple #[.int .i64 (c + 1), .int .i64 0] ∧ L' = [stoA sp (S ++ [⟨c + 1, 1, d.nf⟩]) (c + 1)]) := by
  refine pact Tryz.func69 rfl Tryz.ntmps69 rfl ?_
  intro W K hK
  refine J_open (fun w H => stoOpen H .here) ?_
  rintro ⟨⟨mb, lb, M⟩, hM⟩
  dsimp only at hM ⊢
  have hkey := keyOk_s d hd hok
  have hln := hM.len
  have hnf := At.nfN hd.num
  have hcc := hs.cnt
  have hne : ∀ p ∈ byL M, p.1 ≠ keyS d.nf := by
    intro p hp
    obtain ⟨a, ha, rfl⟩ := List.mem_map.1 hp
    have h1 := hM.mem ha
    have h2 := hs.ok a.e h1
    exact fun q => hn _ h1 (keyS_inj h2.2 hnf h2.1 hok q)
  have hni : ∀ p ∈ idL M, p.1 ≠ c + 1 := by
    intro p hp
    obtain ⟨a, ha, rfl⟩ := List.mem_map.1 hp
    have := hs.ids a.e (hM.mem ha)
    dsimp only
    omega
  have g1 : lookV (aG (byL M) (keyS d.nf)) (.int .i64 0) false = .int .i64 0 := by
    rw [aG_none hne]
    rfl
  (repeat' (first | (refine gL ?_; first | refine yL0 ?_ | (refine gL_lookup ?_; (refine JL_p rfl xR xR (pe_lookG mi_s xR xR xA g1) ?_)) | (refine gL_c_len ?_; (refine JL_p rfl xR xR (pe_lenG mi_i xR xA hln) ?_)) | refine yL ?_ | (refine gL_go ?_; first | (refine JL_goq (is_s sp lb (.map (some mb)) c) (hφ := xF) (h := ?_); rintro _ _ ⟨rfl, rfl⟩; try simp only [cAp, nAp]) | (refine JL_goq (hkey) (hφ := (by (try simp only [cAp, nAp]); exact fun w hr => hK w hr.1)) (h := ?_); rintro _ _ ⟨rfl, rfl⟩; try simp only [cAp, nAp]) | (refine JL_goq (copy_s d hd) (hφ := (by (try simp only [cAp, nAp]); exact fun w hr => hK w hr.1)) (h := ?_); rintro _ _ ⟨d', hd', hx', rfl, rfl⟩; try simp only [cAp, nAp])) | (refine yM ?_; intro _) | (refine gL_lookup ?_; first | refine JL_p rfl xR xR (pe_lookup xR xR (tabM mtab_ok xR) xT (by first | apply hlook | apply hlook2 | rfl)) ?_ | refine JL_p rfl xR xR (pe_lookupK xR xR (tabM mtab_ok xR) xH (by first | apply hlook | apply hlook2 | rfl)) ?_)) | (refine gD ?_; first | (refine yN ?_; try simp only [cAp, nAp]) | (refine gD_mapUpdate ?_; (first | (refine JD_setG mi_s xR xR xR xA xR ?_) | (refine JD_setG mi_i xR xR xR xA xR ?_))) | refine yD ?_ | (refine gD_go ?_; first | (refine JD_goq (is_s sp lb (.map (some mb)) c) (hφ := xF) (h := ?_); rintro _ _ ⟨rfl, rfl⟩; try simp only [cAp, nAp]) | (refine JD_goq (hkey) (hφ := (by (try simp only [cAp, nAp]); exact fun w hr => hK w hr.1)) (h := ?_); rintro _ _ ⟨rfl, rfl⟩; try simp only [cAp, nAp]) | (refine JD_goq (copy_s d hd) (hφ := (by (try simp only [cAp, nAp]); exact fun w hr => hK w hr.1)) (h := ?_); rintro _ _ ⟨d', hd', hx', rfl, rfl⟩; try simp only [cAp, nAp])) | (refine yE ?_; intro _) | (refine gD_mapUpdate ?_; refine JD_mapSet xR xR xR (tabM mtab_ok xR) xT xR ?_)) | refine yJ ?_ | refine zd69Aq14 ?_ | (refine yI ?_ ?_ <;> intro _ <;> try exact xX) | (refine yK ?_ ?_ <;> intro hgb <;> first | subst hgb | fail_if_success have : type_of% hgb := rfl) | fail))
  rename_i eb
  refine J_ret2 rfl (by rfl) (by rfl) fun w H => ⟨_, ⟨rfl, rfl⟩, ?_⟩
  rw [aP_new hne, aP_new hni] at H
  have e1 : byL M ++ [(keyS d.nf, Value.int .i64 (c + 1))] = byL (M ++ [⟨eb, d', ⟨c + 1, 1, d.nf⟩⟩]) := by simp [byL]
  have e2 : idL M ++ [(c + 1, Value.pointer (some ⟨eb, 0, none⟩))] = idL (M ++ [⟨eb, d', ⟨c + 1, 1, d.nf⟩⟩]) := by simp [idL]
  rw [e1, e2] at H
  have H := ownHas H xA
  have H := meShut (m := ⟨eb, d', ⟨c + 1, 1, d.nf⟩⟩) H xZ
  have H := Ow.satsBack (A := M) (B := []) (m := ⟨eb, d', ⟨c + 1, 1, d.nf⟩⟩) H .here (by rw [List.append_nil]; (first | ((with_reducible (repeat (first | exact Tk.here | apply Tk.there))); done) | ((simp only [List.cons_append, List.nil_append]); (with_reducible (repeat (first | exact Tk.here | apply Tk.there))); done) | fail))
  have hJ := MOk.join (m := ⟨eb, d', ⟨c + 1, 1, d.nf⟩⟩) hM (MC := []) (C := []) ⟨rfl, fun _ h => absurd h List.not_mem_nil⟩ hd' hx'
  exact (stoShut hJ H xZ).sel xZ
theorem zd32Aq15 {p q : Prop} (k : p) (h : p → q := by intro hk; first | exact J_draw (id := 7) [0, 1, 2, 3, 4, 5, 6, 7] [8] mixed xC xD xD hk | fail) : q := h k

def fnd (S : List En) (id : Int) : Option En := S.find? (fun e => decide (e.id = id))
def fndX (S : List En) (x : Nf) : Option En := S.find? (fun e => decide (e.x = x))
noncomputable def keepF (S : List En) (c : Int) (x : Nf) : (List En × Int) × Int × Int :=
  match okN x with
  | false => ((S, c), 0, 2)
  | true => match fndX S x with
    | some e => ((S.map (fun a => if a.x = x then ⟨a.id, a.n + 1, a.x⟩ else a), c), e.id, 0)
    | none => if S.length = 4096 then ((S, c), 0, 4) else ((S ++ [⟨c + 1, 1, x⟩], c + 1), c + 1, 0)
def freeF (S : List En) (id : Int) : List En × Int :=
  match fnd S id with
  | none => (S, 5)
  | some e => if e.n = 1 then (S.filter (fun a => decide (a.id ≠ id)), 0) else (S.map (fun a => if a.id = id then ⟨a.id, a.n - 1, a.x⟩ else a), 0)
theorem fnd_none {S : List En} {id : Int} (h : fnd S id = none) : ∀ e ∈ S, e.id ≠ id := fun e he => by
  have := List.find?_eq_none.1 h e he
  simpa using this
theorem fnd_some {S : List En} {id : Int} {e : En} (h : fnd S id = some e) : ∃ A C, S = A ++ e :: C ∧ e.id = id ∧ ∀ a ∈ A, a.id ≠ id := by
  obtain ⟨h1, A, C, h2, h3⟩ := List.find?_eq_some_iff_append.1 h
  exact ⟨A, C, h2, by simpa using h1, fun a ha => by simpa using h3 a ha⟩
theorem fndX_none {S : List En} {x : Nf} (h : fndX S x = none) : ∀ e ∈ S, e.x ≠ x := fun e he => by
  have := List.find?_eq_none.1 h e he
  simpa using this
theorem fndX_some {S : List En} {x : Nf} {e : En} (h : fndX S x = some e) : ∃ A C, S = A ++ e :: C ∧ e.x = x ∧ ∀ a ∈ A, a.x ≠ x := by
  obtain ⟨h1, A, C, h2, h3⟩ := List.find?_eq_some_iff_append.1 h
  exact ⟨A, C, h2, by simpa using h1, fun a ha => by simpa using h3 a ha⟩
theorem map_mid {α : Type} {p : α → Prop} [DecidablePred p] {g : α → α} {A C : List α} {e : α} (h1 : ∀ a ∈ A, ¬ p a) (h2 : ∀ a ∈ C, ¬ p a) (he : p e) : (A ++ e :: C).map (fun a => if p a then g a else a) = A ++ g e :: C := by
  rw [List.map_append, List.map_cons, if_pos he]
  congr 1
  · exact (List.map_congr_left fun a ha => if_neg (h1 a ha)).trans (List.map_id' A)
  · congr 1
    exact (List.map_congr_left fun a ha => if_neg (h2 a ha)).trans (List.map_id' C)
theorem filter_mid {α : Type} {p : α → Prop} [DecidablePred p] {A C : List α} {e : α} (h1 : ∀ a ∈ A, p a) (h2 : ∀ a ∈ C, p a) (he : ¬ p e) : (A ++ e :: C).filter (fun a => decide (p a)) = A ++ C := by
  rw [List.filter_append, List.filter_cons, if_neg (by simpa using he)]
  congr 1
  · exact List.filter_eq_self.2 fun a ha => decide_eq_true (h1 a ha)
  · exact List.filter_eq_self.2 fun a ha => decide_eq_true (h2 a ha)
theorem StOk.set {B B' : Int} {A C : List En} {e : En} {c m : Int} (h : StOk B (A ++ e :: C) c) (hb : B ≤ B') (hm : 1 ≤ m ∧ m ≤ B') : StOk B' (A ++ ⟨e.id, m, e.x⟩ :: C) c := by
  have g : ∀ a ∈ A ++ ⟨e.id, m, e.x⟩ :: C, ∃ b ∈ A ++ e :: C, b.id = a.id ∧ b.x = a.x ∧ (a.n = b.n ∨ a.n = m) := by
    intro a ha
    rcases List.mem_append.1 ha with ha | ha
    · exact ⟨a, by simp [ha], rfl, rfl, .inl rfl⟩
    · rcases List.mem_cons.1 ha with rfl | ha
      · exact ⟨e, by simp, rfl, rfl, .inr rfl⟩
      · exact ⟨a, by simp [ha], rfl, rfl, .inl rfl⟩
  have p1 := List.pairwise_append.1 h.idd
  have p2 := List.pairwise_append.1 h.xd
  have q1 := List.pairwise_cons.1 p1.2.1
  have q2 := List.pairwise_cons.1 p2.2.1
  refine ⟨⟨h.cnt.1, by have := h.cnt.2; omega⟩, fun a ha => ?_, fun a ha => ?_, fun a ha => ?_, ?_, ?_, ?_⟩
  · obtain ⟨b, hb, e1, _⟩ := g a ha
    rw [← e1]; exact h.ids b hb
  · obtain ⟨b, hb', _, _, e3⟩ := g a ha
    have := h.n b hb'
    omega
  · obtain ⟨b, hb, _, e2, _⟩ := g a ha
    rw [← e2]; exact h.ok b hb
  · refine List.pairwise_append.2 ⟨p1.1, List.pairwise_cons.2 ⟨q1.1, q1.2⟩, fun a ha b hb => ?_⟩
    rcases List.mem_cons.1 hb with rfl | hb
    · exact p1.2.2 a ha e (by simp)
    · exact p1.2.2 a ha b (by simp [hb])
  · refine List.pairwise_append.2 ⟨p2.1, List.pairwise_cons.2 ⟨q2.1, q2.2⟩, fun a ha b hb => ?_⟩
    rcases List.mem_cons.1 hb with rfl | hb
    · exact p2.2.2 a ha e (by simp)
    · exact p2.2.2 a ha b (by simp [hb])
  · have := h.len
    simpa using this
theorem StOk.gone {B : Int} {A C : List En} {e : En} {c : Int} (h : StOk B (A ++ e :: C) c) : StOk B (A ++ C) c := by
  have g : (A ++ C).Sublist (A ++ e :: C) := (List.Sublist.refl A).append (List.sublist_cons_self e C)
  exact ⟨h.cnt, fun a ha => h.ids a (g.subset ha), fun a ha => h.n a (g.subset ha), fun a ha => h.ok a (g.subset ha), h.idd.sublist g, h.xd.sublist g, Nat.le_trans g.length_le h.len⟩
theorem StOk.new {B : Int} {S : List En} {c : Int} {x : Nf} (h : StOk B S c) (hB : 0 ≤ B) (hx : okN x = true) (hn : NfN x) (hne : ∀ e ∈ S, e.x ≠ x) (hf : S.length ≠ 4096) : StOk (B + 1) (S ++ [⟨c + 1, 1, x⟩]) (c + 1) := by
  have hc := h.cnt
  refine ⟨by omega, fun a ha => ?_, fun a ha => ?_, fun a ha => ?_, ?_, ?_, ?_⟩
  · rcases List.mem_append.1 ha with ha | ha
    · have := h.ids a ha; omega
    · obtain rfl := List.mem_singleton.1 ha; dsimp only; omega
  · rcases List.mem_append.1 ha with ha | ha
    · have := h.n a ha; omega
    · obtain rfl := List.mem_singleton.1 ha; dsimp only; omega
  · rcases List.mem_append.1 ha with ha | ha
    · exact h.ok a ha
    · obtain rfl := List.mem_singleton.1 ha; exact ⟨hx, hn⟩
  · refine List.pairwise_append.2 ⟨h.idd, List.pairwise_singleton _ _, fun a ha b hb => ?_⟩
    obtain rfl := List.mem_singleton.1 hb
    have := h.ids a ha
    dsimp only
    omega
  · refine List.pairwise_append.2 ⟨h.xd, List.pairwise_singleton _ _, fun a ha b hb => ?_⟩
    obtain rfl := List.mem_singleton.1 hb
    exact hne a ha
  · have := h.len
    simp only [List.length_append, List.length_cons, List.length_nil]
    omega
theorem keepF_hit {B : Int} {A C : List En} {e : En} {c : Int} {x : Nf} (h : StOk B (A ++ e :: C) c) (he : e.x = x) (hf : fndX (A ++ e :: C) x = some e) (hx : okN x = true) : keepF (A ++ e :: C) c x = ((A ++ ⟨e.id, e.n + 1, e.x⟩ :: C, c), e.id, 0) := by
  have hm := h.mid
  unfold keepF
  rw [hx, hf]
  dsimp only
  rw [map_mid (p := fun a : En => a.x = x) (g := fun a => ⟨a.id, a.n + 1, a.x⟩) (fun a ha => by rw [← he]; exact (hm.1 a ha).2) (fun a ha => by rw [← he]; exact (hm.2 a ha).2) he]
theorem keepF_ok {B : Int} {S : List En} {c : Int} {x : Nf} (h : StOk B S c) (hB : 0 ≤ B) (hn : NfN x) : StOk (B + 1) (keepF S c x).1.1 (keepF S c x).1.2 := by
  rcases hx : okN x with _ | _
  · have : keepF S c x = ((S, c), 0, 2) := by unfold keepF; rw [hx]
    rw [this]
    exact h.mono (by omega)
  · rcases hf : fndX S x with _ | e
    · by_cases hl : S.length = 4096
      · have : keepF S c x = ((S, c), 0, 4) := by unfold keepF; rw [hx, hf]; dsimp only; rw [if_pos hl]
        rw [this]
        exact h.mono (by omega)
      · have : keepF S c x = ((S ++ [⟨c + 1, 1, x⟩], c + 1), c + 1, 0) := by unfold keepF; rw [hx, hf]; dsimp only; rw [if_neg hl]
        rw [this]
        exact h.new hB hx hn (fndX_none hf) hl
    · obtain ⟨A, C, rfl, he, _⟩ := fndX_some hf
      rw [keepF_hit h he hf hx]
      have := h.n e (by simp)
      exact h.set (by omega) (by omega)
theorem freeF_hit {B : Int} {A C : List En} {e : En} {c id : Int} (h : StOk B (A ++ e :: C) c) (he : e.id = id) (hf : fnd (A ++ e :: C) id = some e) : freeF (A ++ e :: C) id = if e.n = 1 then (A ++ C, 0) else (A ++ ⟨e.id, e.n - 1, e.x⟩ :: C, 0) := by
  have hm := h.mid
  unfold freeF
  rw [hf]
  dsimp only
  rw [map_mid (p := fun a : En => a.id = id) (g := fun a => ⟨a.id, a.n - 1, a.x⟩) (fun a ha => by rw [← he]; exact (hm.1 a ha).1) (fun a ha => by rw [← he]; exact (hm.2 a ha).1) he,
    filter_mid (p := fun a : En => a.id ≠ id) (fun a ha => by rw [← he]; exact (hm.1 a ha).1) (fun a ha => by rw [← he]; exact (hm.2 a ha).1) (by simpa using he)]
theorem freeF_ok {B : Int} {S : List En} {c id : Int} (h : StOk B S c) : StOk B (freeF S id).1 c := by
  rcases hf : fnd S id with _ | e
  · have : freeF S id = (S, 5) := by unfold freeF; rw [hf]
    rw [this]
    exact h
  · obtain ⟨A, C, rfl, he, _⟩ := fnd_some hf
    rw [freeF_hit h he hf]
    split
    · exact h.gone
    · have := h.n e (by simp)
      exact h.set (by omega) (by omega)
def zAt : At := ⟨0, none, 0, [], 0, false, 0, false, 0, false, false, 0, 0, none, 0, [], none, 0, []⟩
theorem zAt_f : AtF zAt := by
  refine ⟨⟨by unfold I64 zAt; decide, by unfold U32 zAt; decide, by unfold U32 zAt; decide, by unfold U32 zAt; decide, by unfold U32 zAt; decide, by unfold U32 zAt; decide, ?_, ?_, ?_⟩, by unfold zAt; decide, by unfold zAt; decide, by unfold zAt; decide⟩
  all_goals (intro s hs; exact absurd hs List.not_mem_nil)
theorem zAt_v (w : World) : AtV w zAt := ⟨⟨Vw.nil w 2, fun _ h => absurd h List.not_mem_nil⟩, Vw.nil w 1, Vw.nil w 2, fun _ h => absurd h List.not_mem_nil⟩
theorem free_miss (sp : Nat) (S : List En) (c id : Int) (hn : ∀ e ∈ S, e.id ≠ id) : Pact Tryz.prog 32 #[.pointer (some ⟨sp, 0, none⟩), .int .i64 id] (fun _ => True) [stoA sp S c] (fun u L' => u = .int .i64 5 ∧ L' = [stoA sp S c]) := by
  refine pact Tryz.func32 rfl Tryz.ntmps32 rfl ?_
  intro W K _
  refine J_open (fun w H => stoOpen H .here) ?_
  rintro ⟨⟨mb, lb, M⟩, hM⟩
  dsimp only at hM ⊢
  (repeat' (first | (refine gL ?_; first | refine yL0 ?_ | refine yL ?_ | (refine gL_go ?_; (refine JL_goq (find_miss sp mb lb c id M (fun a ha => hn _ (hM.mem ha))) (hφ := xF) (h := ?_); rintro _ _ ⟨rfl, rfl⟩; try simp only [cAp, nAp]))) | (refine gD ?_; first | (refine yN ?_; try simp only [cAp, nAp]) | refine yD ?_) | refine yJ ?_ | refine zd32Aq15 ?_ | (refine yI ?_ ?_ <;> intro _ <;> try exact xX) | (refine yK ?_ ?_ <;> intro hgb <;> first | subst hgb | fail_if_success have : type_of% hgb := rfl) | fail))
  exact J_ret1 rfl (by rfl) fun w H => ⟨_, ⟨rfl, rfl⟩, Ow.sel (stoShut hM H xZ) xZ⟩
theorem free_dec (B : Int) (hB : B ≤ 1000000000) (sp : Nat) (A C : List En) (e : En) (c id : Int) (hs : StOk B (A ++ e :: C) c) (he : e.id = id) (h1 : e.n ≠ 1) : Pact Tryz.prog 32 #[.pointer (some ⟨sp, 0, none⟩), .int .i64 id] (fun _ => True) [stoA sp (A ++ e :: C) c] (fun u L' => u = .int .i64 0 ∧ L' = [stoA sp (A ++ ⟨e.id, e.n - 1, e.x⟩ :: C) c]) := by
  refine pact Tryz.func32 rfl Tryz.ntmps32 rfl ?_
  intro W K _
  have hmid := hs.mid
  have hnn := hs.n e (by simp)
  refine J_open (fun w H => stoOpen H .here) ?_
  rintro ⟨⟨mb, lb, M⟩, hM⟩
  dsimp only at hM ⊢
  obtain ⟨MA, m, MC, rfl, rfl, hMA, hMC, hmd, hmx⟩ := hM.split
  refine J_heap (fun w H => meOpen (Ow.satsMid H xA) .here) ?_
  (repeat' (first | (refine gL ?_; first | refine yL0 ?_ | refine yL ?_ | (refine gL_go ?_; (refine JL_goq (find_hit sp mb lb c id MA MC m he (fun a ha => by rw [← he]; exact (hmid.1 _ (hMA.mem ha)).1)) (hφ := xF) (h := ?_); rintro _ _ ⟨rfl, rfl⟩; try simp only [cAp, nAp]))) | (refine gD ?_; first | (refine yN ?_; try simp only [cAp, nAp]) | refine yD ?_) | refine yJ ?_ | refine zd32Aq15 ?_ | (refine yI ?_ ?_ <;> intro _ <;> try exact xX) | (refine yK ?_ ?_ <;> intro hgb <;> first | subst hgb | fail_if_success have : type_of% hgb := rfl) | fail))
  refine J_ret1 rfl (by rfl) fun w H => ⟨_, ⟨rfl, rfl⟩, ?_⟩
  have e1 : byL (MA ++ m :: MC) = byL (MA ++ ⟨m.b, m.d, ⟨m.e.id, m.e.n - 1, m.e.x⟩⟩ :: MC) := by simp [byL]
  have e2 : idL (MA ++ m :: MC) = idL (MA ++ ⟨m.b, m.d, ⟨m.e.id, m.e.n - 1, m.e.x⟩⟩ :: MC) := by simp [idL]
  rw [e1, e2] at H
  have H := meShut (m := ⟨m.b, m.d, ⟨m.e.id, m.e.n - 1, m.e.x⟩⟩) H xZ
  have H := Ow.satsBack (A := MA) (B := MC) (m := ⟨m.b, m.d, ⟨m.e.id, m.e.n - 1, m.e.x⟩⟩) H .here xA
  have hJ := MOk.join (m := ⟨m.b, m.d, ⟨m.e.id, m.e.n - 1, m.e.x⟩⟩) hMA hMC hmd hmx
  exact (stoShut hJ H xZ).sel xZ
theorem free_gone (B : Int) (hB : B ≤ 1000000000) (sp : Nat) (A C : List En) (e : En) (c id : Int) (hs : StOk B (A ++ e :: C) c) (he : e.id = id) (h1 : e.n = 1) : Pact Tryz.prog 32 #[.pointer (some ⟨sp, 0, none⟩), .int .i64 id] (fun _ => True) [stoA sp (A ++ e :: C) c] (fun u L' => u = .int .i64 0 ∧ L' = [stoA sp (A ++ C) c]) := by
  refine pact Tryz.func32 rfl Tryz.ntmps32 rfl ?_
  intro W K _
  have hmid := hs.mid
  refine J_open (fun w H => stoOpen H .here) ?_
  rintro ⟨⟨mb, lb, M⟩, hM⟩
  dsimp only at hM ⊢
  obtain ⟨MA, m, MC, rfl, rfl, hMA, hMC, hmd, hmx⟩ := hM.split
  refine J_heap (fun w H => meOpen (Ow.satsMid H xA) .here) ?_
  (repeat' (first | (refine gL ?_; first | refine yL0 ?_ | (refine gL_c_delete ?_; (first | (refine JL_delG mi_i xR xR xR xA xR ?_) | (refine JD_delG mi_s xR xR xR xA xR ?_))) | refine yL ?_ | (refine gL_go ?_; (refine JL_goq (find_hit sp mb lb c id MA MC m he (fun a ha => by rw [← he]; exact (hmid.1 _ (hMA.mem ha)).1)) (hφ := xF) (h := ?_); rintro _ _ ⟨rfl, rfl⟩; try simp only [cAp, nAp]))) | (refine gD ?_; first | (refine yN ?_; try simp only [cAp, nAp]) | (refine gD_c_delete ?_; (first | (refine JL_delG mi_i xR xR xR xA xR ?_) | (refine JD_delG mi_s xR xR xR xA xR ?_))) | refine yD ?_) | refine yJ ?_ | refine zd32Aq15 ?_ | (refine yI ?_ ?_ <;> intro _ <;> try exact xX) | (refine yK ?_ ?_ <;> intro hgb <;> first | subst hgb | fail_if_success have : type_of% hgb := rfl) | fail))
  refine J_ret1 rfl (by rfl) fun w H => ⟨_, ⟨rfl, rfl⟩, ?_⟩
  have e1 : aD (byL (MA ++ m :: MC)) (keyS m.e.x) = byL (MA ++ MC) := by
    unfold byL
    rw [List.map_append, List.map_append, List.map_cons, aD_mid]
    intro p hp
    obtain ⟨a, ha, rfl⟩ := List.mem_map.1 hp
    have h1 := hMA.mem ha
    have h2 := hs.ok a.e (by simp [h1])
    have h3 := hs.ok m.e (by simp)
    exact fun q => (hmid.1 _ h1).2 (keyS_inj h2.2 h3.2 h2.1 h3.1 q)
  have e2 : aD (idL (MA ++ m :: MC)) id = idL (MA ++ MC) := by
    unfold idL
    rw [List.map_append, List.map_append, List.map_cons, he, aD_mid]
    intro p hp
    obtain ⟨a, ha, rfl⟩ := List.mem_map.1 hp
    rw [← he]
    exact (hmid.1 _ (hMA.mem ha)).1
  rw [e1, e2] at H
  exact (stoShut (MOk.two hMA hMC) H xZ).sel xZ
end Go.Proofs.YtdnokmpnemaoaaaGreat
