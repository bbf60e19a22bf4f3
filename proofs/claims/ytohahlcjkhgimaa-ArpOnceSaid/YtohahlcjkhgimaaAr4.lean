/-
  What is known no more goes; a new cache.
-/
import Derived.Test.YtohahlcjkhgimaaAr3
namespace Go.Proofs.Ytohahlcjkhgimaa
set_option linter.unusedSimpArgs false
set_option linter.unusedVariables false
set_option maxRecDepth 20000
set_option maxHeartbeats 4000000
open Go.RowKit Go.Pm Go.Sort

def Ko {β : Type} (es : List (Int × β)) : Prop := (es.map (·.1)).Nodup
theorem Ko.sub {β : Type} {es fs : List (Int × β)} (h : Ko es) (s : fs.Sublist es) : Ko fs := List.Nodup.sublist (s.map _) h
theorem Ko.same {β : Type} {es : List (Int × β)} (h : Ko es) {a : Int} {p q : β} (h1 : (a, p) ∈ es) (h2 : (a, q) ∈ es) : p = q := by
  induction es with
  | nil => cases h1
  | cons x es ih =>
    unfold Ko at h
    rw [List.map_cons, List.nodup_cons] at h
    rcases List.mem_cons.1 h1 with e1 | e1 <;> rcases List.mem_cons.1 h2 with e2 | e2
    · rw [← e1] at e2; exact (Prod.mk.inj e2).2.symm
    · exact absurd (List.mem_map.2 ⟨_, e2, rfl⟩) (by rw [← e1] at h; exact h.1)
    · exact absurd (List.mem_map.2 ⟨_, e1, rfl⟩) (by rw [← e2] at h; exact h.1)
    · exact ih h.2 e1 e2
theorem Ko.get {β : Type} {es : List (Int × β)} (h : Ko es) {a : Int} {q : β} (hm : (a, q) ∈ es) : getO es a = some q := by
  unfold getO
  rcases hf : es.find? (fun p => decide (p.1 = a)) with _ | ⟨b, r⟩
  · have := List.find?_eq_none.1 hf _ hm
    simp at this
  · have h1 := List.find?_some hf
    have h2 := List.mem_of_find?_eq_some hf
    simp only [decide_eq_true_eq] at h1
    subst h1
    rw [hf, Option.map_some, h.same h2 hm]
theorem getO_none {β : Type} {es : List (Int × β)} {a : Int} (h : a ∉ es.map (·.1)) : getO es a = none := by
  unfold getO
  rw [Option.map_eq_none_iff]
  refine List.find?_eq_none.2 fun p hp => ?_
  simp only [decide_eq_true_eq]
  rintro rfl
  exact h (List.mem_map.2 ⟨p, hp, rfl⟩)
theorem getO_some {β : Type} {es : List (Int × β)} {a : Int} {q : β} (h : getO es a = some q) : (a, q) ∈ es := by
  unfold getO at h
  rcases hf : es.find? (fun p => decide (p.1 = a)) with _ | ⟨b, r⟩
  · rw [hf] at h; cases h
  · rw [hf] at h
    cases h
    have h1 := List.find?_some hf
    simp only [decide_eq_true_eq] at h1
    subst h1
    exact List.mem_of_find?_eq_some hf
/-- Without an address. -/
def del {β : Type} (es : List (Int × β)) (a : Int) : List (Int × β) := es.filter fun p => decide (p.1 ≠ a)
theorem del_none {β : Type} {es : List (Int × β)} {a : Int} (h : a ∉ es.map (·.1)) : del es a = es := List.filter_eq_self.2 fun p hp => decide_eq_true fun e => h (by rw [← e]; exact List.mem_map.2 ⟨p, hp, rfl⟩)
theorem aD_map {β : Type} (f : β → Value) {es : List (Int × β)} (h : Ko es) (a : Int) : aD (es.map fun p => (p.1, f p.2)) a = (del es a).map fun p => (p.1, f p.2) := by
  induction es with
  | nil => rfl
  | cons p es ih =>
    obtain ⟨x, q⟩ := p
    have hn := h
    unfold Ko at hn
    rw [List.map_cons, List.nodup_cons] at hn
    show (if x = a then es.map (fun p => (p.1, f p.2)) else (x, f q) :: aD (es.map fun p => (p.1, f p.2)) a) = _
    by_cases hx : x = a
    · subst hx
      rw [if_pos rfl]
      have : del ((x, q) :: es) x = es := by
        have h2 := del_none hn.1
        unfold del at h2 ⊢
        simpa using h2
      rw [this]
    · rw [if_neg hx, ih hn.2]
      unfold del
      simp [hx]
theorem del_l {es : Kl} (h : Ko es) (a : Int) : aD (lV es) a = lV (del es a) := aD_map kwV h a
theorem del_t {es : List (Int × Int)} (h : Ko es) (a : Int) : aD (tV es) a = tV (del es a) := aD_map (fun n => Value.int .i64 n) h a
theorem Ko.del {β : Type} {es : List (Int × β)} (h : Ko es) (a : Int) : Ko (del es a) := h.sub List.filter_sublist
theorem srt_mem {es : Kl} {l : List Int} {x : Int} : x ∈ srt es l ↔ x ∈ l := (List.mergeSort_perm l _).mem_iff
theorem srt_nodup {es : Kl} {l : List Int} (h : l.Nodup) : (srt es l).Nodup := (List.mergeSort_perm l _).nodup_iff.2 h
theorem srt_len (es : Kl) (l : List Int) : (srt es l).length = l.length := (List.mergeSort_perm l _).length_eq
/-- What is known still. -/
def live (es : Kl) (t : Int) : Kl := es.filter fun p => decide (t ≤ p.2.2)
theorem Ko.live {es : Kl} (h : Ko es) (t : Int) : Ko (live es t) := h.sub List.filter_sublist
/-- When the first ones were looked at. -/
def part (es : Kl) (t : Int) (l : List Int) : Kl := es.filter fun p => decide (¬ (p.1 ∈ l ∧ p.2.2 < t))
theorem part_nil (es : Kl) (t : Int) : part es t [] = es := List.filter_eq_self.2 fun p _ => decide_eq_true (by simp)
theorem part_all {es : Kl} {t : Int} {l : List Int} (h : ∀ p ∈ es, p.1 ∈ l) : part es t l = live es t := List.filter_congr fun p hp => by
  rw [Bool.eq_iff_iff]
  simp only [decide_eq_true_eq]
  have := h p hp
  constructor
  · intro h1
    have : ¬ p.2.2 < t := fun h2 => h1 ⟨this, h2⟩
    omega
  · rintro h1 ⟨_, h2⟩
    omega
theorem part_del {es : Kl} (hk : Ko es) {t : Int} {l : List Int} {a : Int} {q : Kw} (hm : (a, q) ∈ es) (hq : q.2 < t) : del (part es t l) a = part es t (l ++ [a]) := by
  unfold del part
  rw [List.filter_filter]
  refine List.filter_congr fun p hp => ?_
  rw [Bool.eq_iff_iff]
  simp only [Bool.and_eq_true, decide_eq_true_eq, List.mem_append, List.mem_singleton]
  obtain ⟨b, r⟩ := p
  dsimp only
  constructor
  · rintro ⟨h1, h2⟩ ⟨h3, h4⟩
    exact h2 ⟨h3.resolve_right h1, h4⟩
  · intro h
    refine ⟨?_, fun h2 => h ⟨.inl h2.1, h2.2⟩⟩
    rintro rfl
    have := hk.same hp hm
    exact h ⟨.inr rfl, by rw [this]; exact hq⟩
theorem part_keep {es : Kl} (hk : Ko es) {t : Int} {l : List Int} {a : Int} {q : Kw} (hm : (a, q) ∈ es) (hq : ¬ q.2 < t) : part es t l = part es t (l ++ [a]) := by
  unfold part
  refine List.filter_congr fun p hp => ?_
  rw [Bool.eq_iff_iff]
  simp only [decide_eq_true_eq, List.mem_append, List.mem_singleton]
  obtain ⟨b, r⟩ := p
  dsimp only
  constructor
  · rintro h ⟨h3 | h3, h4⟩
    · exact h ⟨h3, h4⟩
    · subst h3
      have := hk.same hp hm
      rw [this] at h4
      exact hq h4
  · rintro h ⟨h3, h4⟩
    exact h ⟨.inl h3, h4⟩
theorem take_snoc {α : Type} {l : List α} {k : Nat} {x : α} (h : l[k]? = some x) : l.take (k + 1) = l.take k ++ [x] := by
  rw [List.take_add_one, h]; rfl
theorem drop_s (cb lb tb : Nat) (keep ask now t : Int) (ad : Option Addr) (n c : Nat) (es : Kl) (hk : Ko es) (hes : es.length ≤ 1000000) : Pact Try.prog 28 #[.pointer (some ⟨cb, 0, none⟩), .int .i64 t] (fun _ => True) [pts cb (caC keep ask now lb tb ad n c) 69, mqA lb (lV es)] (fun u L' => L' = [pts cb (caC keep ask t lb tb ad n c) 69, mqA lb (lV (live es t))]) := by
  refine pact Try.func28 rfl Try.ntmps28 rfl ?_
  intro W K _
  (repeat' (first | ((with_reducible apply gJ); (first | refine J_seq ?_ | refine J_reg ?_ | refine J_skip ?_ | refine J_block ?_ | refine J_blk ?_ | refine J_exit rfl ?_ | refine J_goto rfl ?_ | ((with_reducible apply gJ_if); (first | refine J_ift rfl ?_ | refine J_iff rfl ?_ | (refine J_if xR ?_ ?_ <;> intro _ <;> (try (exfalso; first | contradiction | omega))) | (refine J_ifb xR ?_ ?_ <;> (intro hgb; subst hgb)) | (refine J_ifb xR ?_ ?_ <;> intro _) | fail)) | refine J_label ?_ | fail)) | ((with_reducible apply gL); (first | refine JL_nil ?_ | refine L_move ?_ | refine L_assign ?_ | refine L_fieldAddr ?_ | refine L_load ?_ | refine L_nilCheck ?_ | refine L_indexAddr ?_ | refine L_field ?_ | refine L_c_len ?_ | refine L_bin_lss ?_ | refine L_bin_add_i64 ?_ | refine L_bin_add_r ?_ | ((with_reducible apply gL_store); (first | refine JL_st xR xR xT xC xR xE xR ?_ | refine JL_stW xR xR xT xW xR xR xR ?_ | refine JL_stS xR xR xT xW xP xR xR ?_ | refine JL_stEl xR xR xT xR xL xR (tabS stab_ok xR) xR xR xO ?_ | fail)) | ((with_reducible apply gL_go); (first | (refine JL_goq (all_s cb lb es hes) (hφ := (by (try simp only [List.cons_append, List.nil_append]); exact fun w hr => hr.cell (by (first | ((with_reducible (repeat (first | exact Tk.here | apply Tk.there))); done) | ((simp only [List.cons_append, List.nil_append]); (with_reducible (repeat (first | exact Tk.here | apply Tk.there))); done) | fail)) rfl)) (h := ?_); rintro _ _ ⟨a2, c2, rfl, rfl⟩; try simp only [List.cons_append, List.nil_append]) | fail)) | ((with_reducible apply gL_lookup); (first | refine JL_p rfl xR xR (pe_lookup xR xR (tabM mtab_ok xR) xT (by first | apply hlook | apply hlook2 | rfl)) ?_ | refine JL_p rfl xR xR (pe_lookupK xR xR (tabM mtab_ok xR) xH (by first | apply hlook | apply hlook2 | rfl)) ?_ | fail)) | fail)) | fail))
  obtain ⟨ks, hks⟩ : ∃ ks, srt es (es.map (·.1)) = ks := ⟨_, rfl⟩
  have hkl : ks.length = es.length := by rw [← hks, srt_len, List.length_map]
  have hkn : ks.Nodup := by rw [← hks]; exact srt_nodup hk
  have hkm : ∀ x, x ∈ ks ↔ x ∈ es.map (·.1) := fun x => by rw [← hks]; exact srt_mem
  rw [hks]
  refine J_loop (α := Nat) 0 (fun x => es.length - x) (fun x => x ≤ es.length) (fun x => [(0, .pointer (some ⟨cb, 0, none⟩)), (1, .int .i64 t), (11, .slice a2 es.length c2), (12, .int .i64 es.length), (13, .int .i64 x)]) (fun x => [pts cb (caC keep ask t lb tb ad n c) 69, mqA lb (lV (part es t (ks.take x))), Ar 24 1 adC (.slice a2 es.length c2) ks]) (Nat.zero_le _) ⟨rfl, rfl, rfl, rfl, rfl, trivial⟩ (fun w H => by rw [List.take_zero, part_nil]; exact H.sel (by (first | ((with_reducible (repeat (first | exact Sb.nil | apply Sb.cons | exact Tk.here | apply Tk.there))); done) | (repeat (first | exact Sb.nil | apply Sb.cons | exact Tk.here | apply Tk.there))))) ?_
  intro k hkk
  by_cases hlt : k < es.length
  · obtain ⟨a, ha⟩ : ∃ a, ks[k]? = some a := ⟨_, List.getElem?_eq_getElem (by omega)⟩
    obtain ⟨⟨a', q⟩, hm, rfl⟩ := List.mem_map.1 ((hkm a).1 (List.mem_of_getElem? ha))
    dsimp only at ha
    have hnt : a' ∉ ks.take k := fun h => by
      obtain ⟨i, hi, he⟩ := List.getElem_of_mem h
      rw [List.getElem_take] at he
      have hi2 : i < k := by rw [List.length_take] at hi; omega
      have h2 := List.getElem?_eq_some_iff.1 ha
      have := (List.getElem_inj hkn).1 (he.trans h2.2.symm)
      omega
    have hmk : (a', q) ∈ part es t (ks.take k) := List.mem_filter.2 ⟨hm, decide_eq_true fun h => hnt h.1⟩
    have hpk : Ko (part es t (ks.take k)) := hk.sub List.filter_sublist
    have hlk : lookV (aG (lV (part es t (ks.take k))) a') (kwV (mc0, 0)) false = kwV q := by
      rw [look_l]
      unfold kwOf
      rw [hpk.get hmk]
      rfl
    have hts := take_snoc ha
    by_cases hq : q.2 < t
    · (repeat' (first | ((with_reducible apply gJ); (first | refine J_seq ?_ | refine J_reg ?_ | refine J_skip ?_ | refine J_block ?_ | refine J_blk ?_ | refine J_exit rfl ?_ | refine J_goto rfl ?_ | ((with_reducible apply gJ_if); (first | refine J_ift rfl ?_ | refine J_iff rfl ?_ | (refine J_if xR ?_ ?_ <;> intro _ <;> (try (exfalso; first | contradiction | omega))) | (refine J_ifb xR ?_ ?_ <;> (intro hgb; subst hgb)) | (refine J_ifb xR ?_ ?_ <;> intro _) | fail)) | refine J_label ?_ | fail)) | ((with_reducible apply gL); (first | refine JL_nil ?_ | ((with_reducible apply gL_lookup); (first | (refine JL_p rfl xR xR (pe_lookG mi_l xR xR xA hlk) ?_) | fail)) | ((with_reducible apply gL_c_delete); (first | (refine JL_delG mi_l xR xR xR xA xR ?_) | fail)) | refine L_move ?_ | refine L_assign ?_ | refine L_fieldAddr ?_ | refine L_load ?_ | refine L_nilCheck ?_ | refine L_indexAddr ?_ | refine L_field ?_ | refine L_c_len ?_ | refine L_bin_lss ?_ | refine L_bin_add_i64 ?_ | refine L_bin_add_r ?_ | ((with_reducible apply gL_store); (first | refine JL_st xR xR xT xC xR xE xR ?_ | refine JL_stW xR xR xT xW xR xR xR ?_ | refine JL_stS xR xR xT xW xP xR xR ?_ | refine JL_stEl xR xR xT xR xL xR (tabS stab_ok xR) xR xR xO ?_ | fail)) | ((with_reducible apply gL_lookup); (first | refine JL_p rfl xR xR (pe_lookup xR xR (tabM mtab_ok xR) xT (by first | apply hlook | apply hlook2 | rfl)) ?_ | refine JL_p rfl xR xR (pe_lookupK xR xR (tabM mtab_ok xR) xH (by first | apply hlook | apply hlook2 | rfl)) ?_ | fail)) | fail)) | fail))
      rw [del_l hpk, part_del hk hm hq, ← hts]
      exact J_again (k + 1) (by omega) (by omega) ⟨rfl, rfl, rfl, rfl, rfl, trivial⟩ (fun w H => H.sel (by (first | ((with_reducible (repeat (first | exact Sb.nil | apply Sb.cons | exact Tk.here | apply Tk.there))); done) | (repeat (first | exact Sb.nil | apply Sb.cons | exact Tk.here | apply Tk.there)))))
    · (repeat' (first | ((with_reducible apply gJ); (first | refine J_seq ?_ | refine J_reg ?_ | refine J_skip ?_ | refine J_block ?_ | refine J_blk ?_ | refine J_exit rfl ?_ | refine J_goto rfl ?_ | ((with_reducible apply gJ_if); (first | refine J_ift rfl ?_ | refine J_iff rfl ?_ | (refine J_if xR ?_ ?_ <;> intro _ <;> (try (exfalso; first | contradiction | omega))) | (refine J_ifb xR ?_ ?_ <;> (intro hgb; subst hgb)) | (refine J_ifb xR ?_ ?_ <;> intro _) | fail)) | refine J_label ?_ | fail)) | ((with_reducible apply gL); (first | refine JL_nil ?_ | ((with_reducible apply gL_lookup); (first | (refine JL_p rfl xR xR (pe_lookG mi_l xR xR xA hlk) ?_) | fail)) | ((with_reducible apply gL_c_delete); (first | (refine JL_delG mi_l xR xR xR xA xR ?_) | fail)) | refine L_move ?_ | refine L_assign ?_ | refine L_fieldAddr ?_ | refine L_load ?_ | refine L_nilCheck ?_ | refine L_indexAddr ?_ | refine L_field ?_ | refine L_c_len ?_ | refine L_bin_lss ?_ | refine L_bin_add_i64 ?_ | refine L_bin_add_r ?_ | ((with_reducible apply gL_store); (first | refine JL_st xR xR xT xC xR xE xR ?_ | refine JL_stW xR xR xT xW xR xR xR ?_ | refine JL_stS xR xR xT xW xP xR xR ?_ | refine JL_stEl xR xR xT xR xL xR (tabS stab_ok xR) xR xR xO ?_ | fail)) | ((with_reducible apply gL_lookup); (first | refine JL_p rfl xR xR (pe_lookup xR xR (tabM mtab_ok xR) xT (by first | apply hlook | apply hlook2 | rfl)) ?_ | refine JL_p rfl xR xR (pe_lookupK xR xR (tabM mtab_ok xR) xH (by first | apply hlook | apply hlook2 | rfl)) ?_ | fail)) | fail)) | fail))
      rw [part_keep hk hm hq, ← hts]
      exact J_again (k + 1) (by omega) (by omega) ⟨rfl, rfl, rfl, rfl, rfl, trivial⟩ (fun w H => H.sel (by (first | ((with_reducible (repeat (first | exact Sb.nil | apply Sb.cons | exact Tk.here | apply Tk.there))); done) | (repeat (first | exact Sb.nil | apply Sb.cons | exact Tk.here | apply Tk.there)))))
  · have hke : k = ks.length := by omega
    rw [hke, List.take_length, part_all (fun p hp => (hkm p.1).2 (List.mem_map.2 ⟨p, hp, rfl⟩)), hkl]
    (repeat' (first | ((with_reducible apply gJ); (first | refine J_seq ?_ | refine J_reg ?_ | refine J_skip ?_ | refine J_block ?_ | refine J_blk ?_ | refine J_exit rfl ?_ | refine J_goto rfl ?_ | ((with_reducible apply gJ_if); (first | refine J_ift rfl ?_ | refine J_iff rfl ?_ | (refine J_if xR ?_ ?_ <;> intro _ <;> (try (exfalso; first | contradiction | omega))) | (refine J_ifb xR ?_ ?_ <;> (intro hgb; subst hgb)) | (refine J_ifb xR ?_ ?_ <;> intro _) | fail)) | refine J_label ?_ | fail)) | ((with_reducible apply gL); (first | refine JL_nil ?_ | refine L_move ?_ | refine L_assign ?_ | refine L_fieldAddr ?_ | refine L_load ?_ | refine L_nilCheck ?_ | refine L_indexAddr ?_ | refine L_field ?_ | refine L_c_len ?_ | refine L_bin_lss ?_ | refine L_bin_add_i64 ?_ | refine L_bin_add_r ?_ | ((with_reducible apply gL_store); (first | refine JL_st xR xR xT xC xR xE xR ?_ | refine JL_stW xR xR xT xW xR xR xR ?_ | refine JL_stS xR xR xT xW xP xR xR ?_ | refine JL_stEl xR xR xT xR xL xR (tabS stab_ok xR) xR xR xO ?_ | fail)) | ((with_reducible apply gL_lookup); (first | refine JL_p rfl xR xR (pe_lookup xR xR (tabM mtab_ok xR) xT (by first | apply hlook | apply hlook2 | rfl)) ?_ | refine JL_p rfl xR xR (pe_lookupK xR xR (tabM mtab_ok xR) xH (by first | apply hlook | apply hlook2 | rfl)) ?_ | fail)) | fail)) | fail))
    exact J_end0 rfl fun w H => ⟨_, rfl, H.sel (by (first | ((with_reducible (repeat (first | exact Sb.nil | apply Sb.cons | exact Tk.here | apply Tk.there))); done) | (repeat (first | exact Sb.nil | apply Sb.cons | exact Tk.here | apply Tk.there))))⟩
end Go.Proofs.Ytohahlcjkhgimaa
