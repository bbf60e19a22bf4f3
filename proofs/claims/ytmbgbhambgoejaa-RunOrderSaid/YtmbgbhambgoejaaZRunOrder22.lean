/-
  Ru24, Sized, Law, Cq25, Ru25: merged.
-/
import Derived.Test.YtmbgbhambgoejaaZRunOrder21
import Derived.HandedShaped
import Derived.SizedLaws
namespace Go.Proofs.Ytmbgbhambgoejaa.C
set_option linter.unusedSimpArgs false
set_option linter.unusedVariables false
set_option maxRecDepth 20000
set_option maxHeartbeats 4000000
open Go.RowKit Go.Pm

abbrev exA (b4 b2 n : Nat) (l : List Int) : At := ⟨0, some ⟨b4, 0, none⟩, 1, [⟨false, some ⟨b2, 0, none⟩, n, l⟩], 0, false, 0, false, 0, false, false, 0, 0, none, 0, [], none, 0, []⟩
theorem exA_f (b4 b2 n : Nat) (l : List Int) (h1 : l.length ≤ 1000) (h2 : ∀ z ∈ l, U32 z) : AtF (exA b4 b2 n l) := ⟨⟨by show I64 0; unfold I64; decide, by show U32 0; unfold U32; decide, by show U32 0; unfold U32; decide, by show U32 0; unfold U32; decide, by show U32 0; unfold U32; decide, by show U32 0; unfold U32; decide, fun s h => (by obtain rfl := List.mem_singleton.1 h; exact ⟨by show l.length ≤ _; omega, h2⟩), fun s h => (by cases h), fun s h => (by cases h)⟩, by simp, by simp, by simp⟩
theorem ex_T : RightT exT := right_of_check ex_check
theorem ex_play {p : Pf} {x : Nf} : (playW exT p 0 x).1 = if hasN x.path 1 then some x else none := by
  have h0 : exT[0]? = some ⟨6, 1, 0, 0, 0, 1, 2⟩ := rfl
  have h1 : exT[1]? = some ⟨22, 0, 0, 0, 0, 0, 0⟩ := rfl
  have h2 : exT[2]? = some ⟨23, 0, 0, 0, 0, 0, 0⟩ := rfl
  rw [playW_step h0 (ex_T 0 _ h0) (by decide) (by decide) (z := if testN 6 1 (0, 0) p x then 1 else 2) (y := x) rfl]
  have e : testN 6 1 (0, 0) p x = hasN x.path 1 := rfl
  rw [e]
  cases hasN x.path 1 with
  | true => rw [if_pos rfl, if_pos rfl, show (1 : Int).toNat = 1 from rfl, playW_acc h1 rfl]
  | false => rw [if_neg (by simp), if_neg (by simp), show (2 : Int).toNat = 2 from rfl, playW_rej h2 rfl]
theorem exA_v {b4 b2 n : Nat} {l : List Int} {w : World} (h4 : Vw w (.slice (some ⟨b4, 0, none⟩) 1 1) 2 1 [.bool false, .slice (some ⟨b2, 0, none⟩) l.length n]) (h2 : Vw w (.slice (some ⟨b2, 0, none⟩) l.length n) 1 l.length (flat u32C l)) : AtV w (exA b4 b2 n l) :=
  ⟨⟨h4, fun s h => (by obtain rfl := List.mem_singleton.1 h; exact h2)⟩, Vw.nil w 1, ⟨Vw.nil w 2, fun s h => (by cases h)⟩⟩
theorem works27_s : Pact Try.prog 5 #[] (fun _ => True) [] (ret0 (.bool true)) := by
  refine pact Try.func5 rfl Try.ntmps5 rfl ?_
  intro W K _
  have hz : PfN (0, 0) := ⟨by show U32 0; unfold U32; decide, by show I64 0; unfold I64; decide⟩
  (repeat' (first | ((with_reducible apply gL); (first | refine yL0 ?_ | refine yL ?_ | (refine yM ?_; intro _) | ((with_reducible apply gL_gd); (first | (refine JL_guard xR xR ?_ ?_ <;> intro _ <;> (try (exfalso; first | contradiction | omega))) | (refine JL_guardb xR xR ?_ ?_ <;> (intro hgb; subst hgb)) | (refine JL_guardb xR xR ?_ ?_ <;> (intro hgb; fail_if_success (have : type_of% hgb := rfl))) | fail)) | fail)) | refine yJ ?_ | fail))
  rename_i b1 b2
  have hM := Make_s (ByteArray.mk #[]) (some ⟨b2, 0, none⟩) 1 [ex0 b1] (ex_fits b1)
  rw [ex_make, ex_err] at hM
  refine JL_heap (L' := [pts b2 (flat stC [ex0 b1]) 52, pts b1 (flat stC [ex1]) 52]) (fun w H => H) ?_
  (repeat' (first | ((with_reducible apply gL); (first | refine yL0 ?_ | refine yL ?_ | ((with_reducible apply gL_go); (first | (refine JL_goq (hM) (hφ := (by (try simp only [List.cons_append, List.nil_append]); exact fun w hr => ex_seen b1 b2 w (Src.lit xA rfl (by decide) w hr) (Src.lit xA rfl (by decide) w hr))) (h := ?_); rintro _ _ ⟨a2, c2, rfl, rfl⟩; try simp only [List.cons_append, List.nil_append]) | fail)) | (refine yM ?_; intro _) | ((with_reducible apply gL_gd); (first | (refine JL_guard xR xR ?_ ?_ <;> intro _ <;> (try (exfalso; first | contradiction | omega))) | (refine JL_guardb xR xR ?_ ?_ <;> (intro hgb; subst hgb)) | (refine JL_guardb xR xR ?_ ?_ <;> (intro hgb; fail_if_success (have : type_of% hgb := rfl))) | fail)) | fail)) | refine yJ ?_ | fail))
  rename_i g2 g4
  have hP1 := fun b4 b2 => Play_s a2 c2 exT (0, 0) hz (exA b4 b2 2 [2, 1]) (exA_f b4 b2 2 [2, 1] (by decide) (by intro z hz; simp only [List.mem_cons, List.not_mem_nil, or_false] at hz; rcases hz with rfl | rfl <;> (unfold U32; decide))) ex_check ex_spn (by decide) (by decide)
  have hP2 := fun b4 b2 => Play_s a2 c2 exT (0, 0) hz (exA b4 b2 1 [2]) (exA_f b4 b2 1 [2] (by decide) (by intro z hz; obtain rfl := List.mem_singleton.1 hz; unfold U32; decide)) ex_check ex_spn (by decide) (by decide)
  simp only [ex_play] at hP1 hP2
  have k1 : ∀ b4 b2, (if hasN (exA b4 b2 2 [2, 1]).nf.path 1 = true then some (exA b4 b2 2 [2, 1]).nf else none) = some (exA b4 b2 2 [2, 1]).nf := fun _ _ => rfl
  have k2 : ∀ b4 b2, (if hasN (exA b4 b2 1 [2]).nf.path 1 = true then some (exA b4 b2 1 [2]).nf else none) = none := fun _ _ => rfl
  simp only [k1] at hP1
  simp only [k2] at hP2
  have hQ1 : Pact Try.prog 10 #[.slice a2 exT.length c2, .agg #[.int .u32 0, .int .i64 0], .agg #[.int .i64 0, .slice (some ⟨g4, 0, none⟩) 1 1, .int .u32 0, .bool false, .int .u32 0, .bool false, .int .u32 0, .bool false, .bool false, .int .u32 0, .int .u32 0, .slice none 0 0, .slice none 0 0]] (fun w => AtV w (exA g4 g2 2 [2, 1]) ∧ Vw w (.slice a2 exT.length c2) 7 exT.length (flat spC exT)) [] (PlR (some (exA g4 g2 2 [2, 1]).nf)) := hP1 g4 g2
  (repeat' (first | ((with_reducible apply gL); (first | refine yL0 ?_ | refine yL ?_ | ((with_reducible apply gL_go); (first | (refine JL_goq (hQ1) (hφ := (by (try simp only [List.cons_append, List.nil_append]); exact fun w hr => ⟨exA_v (show Vw w (.slice (some ⟨g4, 0, none⟩) 1 1) 2 1 [.bool false, .slice (some ⟨g2, 0, none⟩) 2 2] from Src.lit xA rfl (by decide) w hr) (show Vw w (.slice (some ⟨g2, 0, none⟩) 2 2) 1 2 [.int .u32 2, .int .u32 1] from Src.lit xA rfl (by decide) w hr), Src.ar xA w hr⟩)) (h := ?_); rintro _ _ ⟨d3, hd3, hn3, rfl, rfl⟩; try simp only [List.cons_append, List.nil_append]) | fail)) | (refine yM ?_; intro _) | ((with_reducible apply gL_gd); (first | (refine JL_guard xR xR ?_ ?_ <;> intro _ <;> (try (exfalso; first | contradiction | omega))) | (refine JL_guardb xR xR ?_ ?_ <;> (intro hgb; subst hgb)) | (refine JL_guardb xR xR ?_ ?_ <;> (intro hgb; fail_if_success (have : type_of% hgb := rfl))) | fail)) | fail)) | refine yJ ?_ | fail))
  rename_i g5 g6 g7
  have hlen : d3.path.length = 1 := by
    have := pN_len (q := (exA 0 0 2 [2, 1]).path) (congrArg Nf.path hn3)
    simpa using this
  have hQ2 : Pact Try.prog 10 #[.slice a2 exT.length c2, .agg #[.int .u32 0, .int .i64 0], .agg #[.int .i64 0, .slice (some ⟨g7, 0, none⟩) 1 1, .int .u32 0, .bool false, .int .u32 0, .bool false, .int .u32 0, .bool false, .bool false, .int .u32 0, .int .u32 0, .slice none 0 0, .slice none 0 0]] (fun w => AtV w (exA g7 g6 1 [2]) ∧ Vw w (.slice a2 exT.length c2) 7 exT.length (flat spC exT)) [] (PlR none) := hP2 g7 g6
  (repeat' (first | ((with_reducible apply gL); (first | refine yL0 ?_ | refine yL ?_ | ((with_reducible apply gL_go); (first | (refine JL_goq (hQ2) (hφ := (by (try simp only [List.cons_append, List.nil_append]); exact fun w hr => ⟨exA_v (show Vw w (.slice (some ⟨g7, 0, none⟩) 1 1) 2 1 [.bool false, .slice (some ⟨g6, 0, none⟩) 1 1] from Src.lit xA rfl (by decide) w hr) (show Vw w (.slice (some ⟨g6, 0, none⟩) 1 1) 1 1 [.int .u32 2] from Src.lit xA rfl (by decide) w hr), Src.ar xA w hr⟩)) (h := ?_); rintro _ _ ⟨d4, hd4, hn4, rfl, rfl⟩; try simp only [List.cons_append, List.nil_append]) | fail)) | (refine yM ?_; intro _) | ((with_reducible apply gL_gd); (first | (refine JL_guard xR xR ?_ ?_ <;> intro _ <;> (try (exfalso; first | contradiction | omega))) | (refine JL_guardb xR xR ?_ ?_ <;> (intro hgb; subst hgb)) | (refine JL_guardb xR xR ?_ ?_ <;> (intro hgb; fail_if_success (have : type_of% hgb := rfl))) | fail)) | fail)) | refine yJ ?_ | fail))
  all_goals (first | (exfalso; omega) | skip)
  exact J_ret1 rfl (by rfl) fun w H => ⟨_, ⟨rfl, rfl⟩, H.sel .nil⟩
end Go.Proofs.Ytmbgbhambgoejaa.C
namespace Go.Pm
set_option linter.unusedSimpArgs false
set_option linter.unusedVariables false
open Go.RowKit

def Rs (P : Program) (w : World) : Nat → TypeId → List Value → Prop
  | 0, _, _ => False
  | n + 1, t, cs => match P.underlying t with
    | some .bool => ∃ b, cs = [.bool b]
    | some (.int k) => ∃ m, cs = [.int k m] ∧ (Lit.int k m).wf = true
    | some .string => ∃ s : ByteArray, cs = [.string s] ∧ s.size ≤ reachBytes
    | some (.slice e) => cs = [.slice none 0 0] ∨ ∃ (a : Addr) (len cap : Nat), cs = [.slice (some a) len cap] ∧ len ≤ cap ∧ cap ≤ maxLen ∧ cap * P.bytesOf e ≤ reachBytes ∧
        ∀ i, i < cap → ∃ ds : List Value, ds.length = P.cellsOf e ∧ (∀ j, j < ds.length → w.cell? (a.add (i * P.cellsOf e + j)) = ds[j]?) ∧ Rs P w n e ds
    | some (.struct fs) => cs.length = P.cellsOf t ∧ ∀ f, f ∈ fs.toList → Rs P w n f.type ((cs.drop f.offset).take (P.cellsOf f.type))
    | some (.array m e) => cs.length = P.cellsOf t ∧ ∀ i, i < m → Rs P w n e ((cs.drop (i * P.cellsOf e)).take (P.cellsOf e))
    | _ => True

theorem weightsAll_mem {H : Type} {P : Program} {e : TypeId} {ds : List (DataW H)} {d : DataW H} (h : d ∈ ds) {m : Nat} (hm : m ∈ d.weights P e) : m ∈ DataW.weightsAll P e ds := by
  induction ds with
  | nil => cases h
  | cons x r ih =>
    unfold DataW.weightsAll
    rcases List.mem_cons.1 h with rfl | h
    · exact List.mem_append_left _ hm
    · exact List.mem_append_right _ (ih h)
theorem weightsEach_mem {H : Type} {P : Program} : ∀ {ts : List TypeId} {ds : List (DataW H)} {i : Nat} {t : TypeId} {d : DataW H}, ts[i]? = some t → ds[i]? = some d → ∀ {m : Nat}, m ∈ d.weights P t → m ∈ DataW.weightsEach P ts ds
  | [], _, _, _, _, h, _, _, _ => by simp at h
  | _ :: _, [], _, _, _, _, h, _, _ => by simp at h
  | t :: ts, d :: ds, 0, _, _, h1, h2, m, hm => by
    simp only [List.getElem?_cons_zero, Option.some.injEq] at h1 h2
    subst h1 h2
    unfold DataW.weightsEach
    exact List.mem_append_left _ hm
  | t :: ts, d :: ds, i + 1, _, _, h1, h2, m, hm => by
    unfold DataW.weightsEach
    exact List.mem_append_right _ (weightsEach_mem (by simpa using h1) (by simpa using h2) hm)

theorem Rs.ofTrod {H : Type} {enc : TypeId × Value → H} {P : Program} {w : World} {base : Nat} {held : Bool} : ∀ (n : Nat) (t : TypeId) (cs : List Value) (x : DataW H × List MemPlace),
    DataW.trod enc P w base (fun _ => true) held n t cs = some x → (∀ m ∈ x.1.weights P t, m ≤ reachBytes) → Rs P w n t cs := by
  intro n
  induction n with
  | zero => intro t cs x h; simp [DataW.trod] at h
  | succ n ih =>
    intro t cs x h hz
    unfold Rs
    split
    · rename_i hu
      obtain ⟨b, rfl, _⟩ := DataW.trod_bool hu h
      exact ⟨b, rfl⟩
    · rename_i k hu
      obtain ⟨m, rfl, _, hw⟩ := DataW.trod_int hu h
      exact ⟨m, rfl, hw⟩
    · rename_i hu
      obtain ⟨s, rfl, rfl, hw⟩ := DataW.trod_string hu h
      exact ⟨s, rfl, by have := hz s.data.toList.length (by simp [DataW.weights]); simpa using this⟩
    · rename_i e hu
      rcases DataW.trod_slice hu h with ⟨h1, _⟩ | ⟨a, len, cap, elems, rest, m, hm, hcs, hx, _, hl, hcm, hel, he, hr, _⟩
      · exact .inl h1
      · obtain rfl : m = n := by omega
        obtain ⟨hrl, hr⟩ := hr rfl
        subst hx
        have hwe : DataW.weights P t (.slice (elems.map (·.1)) (rest.map (·.1)) : DataW H) = ((elems.map (·.1)).length + (rest.map (·.1)).length) * P.bytesOf e :: (DataW.weightsAll P e (elems.map (·.1)) ++ DataW.weightsAll P e (rest.map (·.1))) := by
          rw [DataW.weights, hu]
        have hz' : ∀ m ∈ DataW.weights P t (.slice (elems.map (·.1)) (rest.map (·.1)) : DataW H), m ≤ reachBytes := hz
        rw [hwe] at hz'
        refine .inr ⟨a, len, cap, hcs, hl, hcm, ?_, fun i hi => ?_⟩
        · have := hz' _ (List.mem_cons_self ..)
          simp only [List.length_map] at this
          rwa [show elems.length + rest.length = cap by omega] at this
        · have key : ∃ y, (w.cells? base (a.add (i * P.cellsOf e)) (P.cellsOf e)).bind (DataW.trod enc P w base (fun _ => true) held m e) = some y ∧ (∀ k ∈ y.1.weights P e, k ≤ reachBytes) := by
            by_cases hil : i < len
            · rw [he i hil, List.getElem?_eq_getElem (by omega)]
              exact ⟨_, rfl, fun k hk => hz' k (List.mem_cons_of_mem _ (List.mem_append_left _ (weightsAll_mem (List.mem_map_of_mem (List.getElem_mem _)) hk)))⟩
            · have h4 := hr (i - len) (by omega)
              rw [show len + (i - len) = i by omega, List.getElem?_eq_getElem (by omega)] at h4
              exact ⟨_, h4, fun k hk => hz' k (List.mem_cons_of_mem _ (List.mem_append_right _ (weightsAll_mem (List.mem_map_of_mem (List.getElem_mem _)) hk)))⟩
          obtain ⟨y, hy, hyz⟩ := key
          cases hc : w.cells? base (a.add (i * P.cellsOf e)) (P.cellsOf e) with
          | none => simp [hc] at hy
          | some ds =>
            simp only [hc, Option.bind_some] at hy
            obtain ⟨_, hlen, hcell⟩ := World.cells?_some hc
            refine ⟨ds, hlen, fun j hj => ?_, ih _ _ _ hy hyz⟩
            rw [← hcell j (by omega), addr_add_add]
    · rename_i fs hu
      obtain ⟨xs, m, hm, hx, hl, hxl, hf⟩ := DataW.trod_struct hu h
      obtain rfl : m = n := by omega
      subst hx
      have hz' : ∀ m ∈ DataW.weightsEach P (fs.toList.map (·.type)) (xs.map (·.1)), m ≤ reachBytes := fun k hk => hz k (by show k ∈ DataW.weights P t (.agg (xs.map (·.1)) : DataW H); rw [DataW.weights, hu]; exact hk)
      refine ⟨hl, fun f hfm => ?_⟩
      obtain ⟨i, hi⟩ := List.getElem?_of_mem hfm
      have hi' : fs[i]? = some f := by simpa using hi
      have h3 := hf i f hi'
      have hil : i < xs.length := by
        have := (List.getElem?_eq_some_iff.1 hi).1
        simp at this
        omega
      rw [List.getElem?_eq_getElem hil] at h3
      exact ih _ _ _ h3 fun k hk => hz' k (weightsEach_mem (i := i) (t := f.type) (by simp [hi]) (d := xs[i].1) (by simp [List.getElem?_eq_getElem hil]) hk)
    · rename_i m e hu
      obtain ⟨xs, m', hm, hx, hl, hxl, hf⟩ := DataW.trod_array hu h
      obtain rfl : m' = n := by omega
      subst hx
      have hz' : ∀ m ∈ DataW.weightsAll P e (xs.map (·.1)), m ≤ reachBytes := fun k hk => hz k (by show k ∈ DataW.weights P t (.agg (xs.map (·.1)) : DataW H); rw [DataW.weights, hu]; exact hk)
      refine ⟨hl, fun i hi => ?_⟩
      have h3 := hf i hi
      rw [List.getElem?_eq_getElem (by omega)] at h3
      exact ih _ _ _ h3 fun k hk => hz' k (weightsAll_mem (List.mem_map_of_mem (List.getElem_mem _)) hk)
    · trivial

theorem Rs.ofTrod' {H : Type} {enc : TypeId × Value → H} {P : Program} {w : World} {base : Nat} {held : Bool} {t : TypeId} {v : Value} {d : DataW H} {ps : List MemPlace}
    (h : DataW.Trod enc P w base (fun _ => true) held t v d ps) (hz : ∀ m ∈ d.weights P t, m ≤ reachBytes) : ∃ n, Rs P w n t v.cells.toList := by
  obtain ⟨n, h⟩ := h
  exact ⟨n, Rs.ofTrod n _ _ _ h hz⟩

theorem Rs.rd {P : Program} {w : World} : ∀ (n : Nat) (t : TypeId) (cs : List Value), Rs P w n t cs → Rd P w n t cs := by
  intro n
  induction n with
  | zero => intro t cs h; exact h
  | succ n ih =>
    intro t cs h
    unfold Rs at h
    unfold Rd
    split
    · rename_i hu; simpa only [hu] using h
    · rename_i k hu; simpa only [hu] using h
    · rename_i hu
      simp only [hu] at h
      obtain ⟨s, hs, hl⟩ := h
      exact ⟨s, hs, by unfold reachBytes at hl; unfold maxLen; omega⟩
    · rename_i e hu
      simp only [hu] at h
      rcases h with h | ⟨a, len, cap, hcs, hl, hm, _, he⟩
      · exact .inl h
      · exact .inr ⟨a, len, cap, hcs, hl, hm, fun i hi => by
          obtain ⟨ds, h1, h2, h3⟩ := he i hi
          exact ⟨ds, h1, h2, ih _ _ h3⟩⟩
    · rename_i fs hu
      simp only [hu] at h
      exact ⟨h.1, fun f hf => ih _ _ (h.2 f hf)⟩
    · rename_i m e hu
      simp only [hu] at h
      exact ⟨h.1, fun i hi => ih _ _ (h.2 i hi)⟩
    · trivial

theorem Rs.slice {P : Program} {w : World} {n : Nat} {t e : TypeId} {cs : List Value} (h : Rs P w n t cs) (hu : P.underlying t = some (.slice e)) :
    cs = [.slice none 0 0] ∨ ∃ (a : Addr) (len cap m : Nat), cs = [.slice (some a) len cap] ∧ len ≤ cap ∧ cap ≤ maxLen ∧ cap * P.bytesOf e ≤ reachBytes ∧
        ∀ i, i < cap → ∃ ds : List Value, ds.length = P.cellsOf e ∧ (∀ j, j < ds.length → w.cell? (a.add (i * P.cellsOf e + j)) = ds[j]?) ∧ Rs P w m e ds := by
  cases n with
  | zero => exact h.elim
  | succ n =>
    unfold Rs at h
    simp only [hu] at h
    rcases h with h | ⟨a, len, cap, h1, h2, h3, h4, h5⟩
    · exact .inl h
    · exact .inr ⟨a, len, cap, n, h1, h2, h3, h4, h5⟩

theorem Rs.elems {P : Program} {w : World} {n : Nat} {t e : TypeId} {a : Option Addr} {len cap sz : Nat} (h : Rs P w n t [.slice a len cap]) (hu : P.underlying t = some (.slice e)) (hc : P.cellsOf e = sz) :
    len ≤ cap ∧ cap ≤ maxLen ∧ cap * P.bytesOf e ≤ reachBytes ∧ ∃ (m : Nat) (ds : List (List Value)), ds.length = len ∧ Vw w (.slice a len cap) sz len ds.flatten ∧ ∀ d ∈ ds, d.length = sz ∧ Rs P w m e d := by
  rcases h.slice hu with h | ⟨x, l, c, m, h1, h2, h3, h4, h5⟩
  · cases h
    exact ⟨Nat.le_refl _, by simp [maxLen], by simp, 0, [], rfl, by simpa using Vw.nil w sz, by simp⟩
  · cases h1
    refine ⟨h2, h3, h4, m, ?_⟩
    obtain ⟨f, hf⟩ := choose_lt (n := len) (p := fun i (d : List Value) => d.length = sz ∧ (∀ j, j < sz → w.cell? (x.add (i * sz + j)) = d[j]?) ∧ Rs P w m e d) (by
      intro i hi
      obtain ⟨d, h6, h7, h8⟩ := h5 i (by omega)
      rw [hc] at h6 h7
      exact ⟨d, h6, fun j hj => h7 j (by omega), h8⟩)
    have hfl : ∀ k, k ≤ len → ((List.range k).map f).flatten.length = k * sz := by
      intro k
      induction k with
      | zero => intro _; simp
      | succ k ih => intro hk; rw [List.range_succ, List.map_append, List.flatten_append, List.length_append, ih (by omega)]; simp [(hf k (by omega)).1, Nat.succ_mul]
    refine ⟨(List.range len).map f, by simp, ⟨_, _, rfl, hfl len (Nat.le_refl _), h2, h3, (fun h => by cases h), fun hne => ?_⟩, ?_⟩
    · have hcell : ∀ k, k ≤ len → ∀ j u, ((List.range k).map f).flatten[j]? = some u → w.cell? (x.add j) = some u := by
        intro k
        induction k with
        | zero => intro _ j u hu; simp at hu
        | succ k ih =>
          intro hk j u hu
          rw [List.range_succ, List.map_append, List.flatten_append, List.getElem?_append] at hu
          split at hu
          · exact ih (by omega) j u hu
          · rename_i hj
            rw [hfl k (by omega)] at hu hj
            simp only [List.map_cons, List.map_nil, List.flatten_cons, List.flatten_nil, List.append_nil] at hu
            have hjl : j - k * sz < sz := by
              have := (List.getElem?_eq_some_iff.1 hu).1
              rw [(hf k (by omega)).1] at this
              exact this
            have := (hf k (by omega)).2.1 (j - k * sz) hjl
            rw [show k * sz + (j - k * sz) = j by omega] at this
            rw [this]
            exact hu
      have h0 : ∃ u, ((List.range len).map f).flatten[0]? = some u := by
        cases hq : ((List.range len).map f).flatten with
        | nil => exact (hne hq).elim
        | cons u r => exact ⟨u, rfl⟩
      obtain ⟨u0, hu0⟩ := h0
      have hc0 := hcell len (Nat.le_refl _) 0 u0 hu0
      obtain ⟨b, off, spot⟩ := x
      have hspot : spot = Option.none := by simpa [Addr.add] using World.cell?_spot hc0
      subst hspot
      exact ⟨b, off, rfl, fun j u hu => by have := hcell len (Nat.le_refl _) j u hu; rwa [addr_add_plain] at this⟩
    · intro d hd
      obtain ⟨i, hi, rfl⟩ := List.mem_map.1 hd
      have hi' : i < len := by simpa using hi
      exact ⟨(hf i hi').1, (hf i hi').2.2⟩

theorem Rs.only {P : Program} {w w' : World} (ho : Only [] w w') : ∀ (n : Nat) (t : TypeId) (cs : List Value), Rs P w n t cs → Rs P w' n t cs := by
  intro n
  induction n with
  | zero => intro t cs h; exact h
  | succ n ih =>
    intro t cs h
    unfold Rs at h ⊢
    split
    · rename_i hu; simpa only [hu] using h
    · rename_i k hu; simpa only [hu] using h
    · rename_i hu; simpa only [hu] using h
    · rename_i e hu
      simp only [hu] at h
      rcases h with h | ⟨a, len, cap, hcs, hl, hm, hz, he⟩
      · exact .inl h
      · refine .inr ⟨a, len, cap, hcs, hl, hm, hz, fun i hi => ?_⟩
        obtain ⟨ds, h1, h2, h3⟩ := he i hi
        refine ⟨ds, h1, fun j hj => ?_, ih _ _ h3⟩
        have h4 := h2 j hj
        have hlt : (a.add (i * P.cellsOf e + j)).block < w.heap.size := by
          rw [List.getElem?_eq_getElem hj] at h4
          exact World.block_lt_of_cell? w _ h4
        rw [World.cell?_of_block (w := w) (ho.block _ hlt (by simp))]
        exact h4
    · rename_i fs hu
      simp only [hu] at h
      exact ⟨h.1, fun f hf => ih _ _ (h.2 f hf)⟩
    · rename_i m e hu
      simp only [hu] at h
      exact ⟨h.1, fun i hi => ih _ _ (h.2 i hi)⟩
    · trivial
theorem Rs.struct {P : Program} {w : World} {n : Nat} {t : TypeId} {cs : List Value} {fs : Array Field} (h : Rs P w n t cs) (hu : P.underlying t = some (.struct fs)) :
    cs.length = P.cellsOf t ∧ ∃ m, ∀ f, f ∈ fs.toList → Rs P w m f.type ((cs.drop f.offset).take (P.cellsOf f.type)) := by
  cases n with
  | zero => exact h.elim
  | succ n => unfold Rs at h; simp only [hu] at h; exact ⟨h.1, n, h.2⟩
theorem Rs.field {P : Program} {w : World} {n : Nat} {t : TypeId} {cs : List Value} {fs : Array Field} (h : Rs P w n t cs) (hu : P.underlying t = some (.struct fs)) (i : Nat) (t' : TypeId) (off sz : Nat)
    (h1 : (fs[i]?).map (fun f => (f.type, f.offset)) = some (t', off)) (h2 : P.cellsOf t' = sz) : ∃ m, Rs P w m t' ((cs.drop off).take sz) := by
  obtain ⟨_, m, hf⟩ := h.struct hu
  cases hi : fs[i]? with
  | none => simp [hi] at h1
  | some f =>
    simp only [hi, Option.map_some, Option.some.injEq, Prod.mk.injEq] at h1
    obtain ⟨rfl, rfl⟩ := h1
    subst h2
    exact ⟨m, hf f (List.mem_of_getElem? (i := i) (by simpa using hi))⟩
end Go.Pm
namespace Go.Pm
set_option linter.unusedSimpArgs false
set_option linter.unusedVariables false
open Go.RowKit

theorem Pact.law {P : Program} {f : FuncId} {args : Array Value} {φ : World → Prop} {W : World} (S : Pact P f args φ [] (fun v L => v = .bool true ∧ L = [])) (h : Kn (World.all W) φ) :
    Calls P f args W fun e w' => e = .returned (.bool true) ∧ Only [] W w' :=
  (S W (World.all W) W h (Ow.start W)).mono fun e w' ⟨v, L', ⟨hv, hl⟩, he, H⟩ => by
    subst hv
    exact ⟨he, H.fin⟩

theorem cell?_heap {w w' : World} (h : w'.heap = w.heap) (a : Addr) : w'.cell? a = w.cell? a := by
  have : w' = { w' with heap := w.heap } := by rw [← h]
  unfold World.cell?
  rw [h]
theorem Rs.heap {P : Program} {w w' : World} (hh : w'.heap = w.heap) : ∀ (n : Nat) (t : TypeId) (cs : List Value), Rs P w n t cs → Rs P w' n t cs := by
  intro n
  induction n with
  | zero => intro t cs h; exact h
  | succ n ih =>
    intro t cs h
    unfold Rs at h ⊢
    split
    · rename_i hu; simpa only [hu] using h
    · rename_i k hu; simpa only [hu] using h
    · rename_i hu; simpa only [hu] using h
    · rename_i e hu
      simp only [hu] at h
      rcases h with h | ⟨a, len, cap, hcs, hl, hm, hz, he⟩
      · exact .inl h
      · refine .inr ⟨a, len, cap, hcs, hl, hm, hz, fun i hi => ?_⟩
        obtain ⟨ds, h1, h2, h3⟩ := he i hi
        exact ⟨ds, h1, fun j hj => by rw [cell?_heap hh]; exact h2 j hj, ih _ _ h3⟩
    · rename_i fs hu
      simp only [hu] at h
      exact ⟨h.1, fun f hf => ih _ _ (h.2 f hf)⟩
    · rename_i m e hu
      simp only [hu] at h
      exact ⟨h.1, fun i hi => ih _ _ (h.2 i hi)⟩
    · trivial
theorem Rs.kn {P : Program} {W : World} {n : Nat} {t : TypeId} {cs : List Value} (h : Rs P W n t cs) : Kn (World.all W) (fun w => Rs P w n t cs) :=
  Kn.all (fun _ ho => Rs.only ho n t cs h) fun _ _ hh hr => Rs.heap hh n t cs hr
theorem Rs.of_weights {H : Type} {enc : TypeId × Value → H} {P : Program} {w : World} {base : Nat} {held : Bool} {ts : List TypeId} {ds : List (DataW H)} (hz : (DataW.weightsEach P ts ds).all (· ≤ reachBytes) = true) (i : Nat) {t : TypeId} {d : DataW H} (h1 : ts[i]? = some t) (h2 : ds[i]? = some d)
    {v : Value} {ps : List MemPlace} (h : DataW.Trod enc P w base (fun _ => true) held t v d ps) : ∃ n, Rs P w n t v.cells.toList :=
  Rs.ofTrod' h fun m hm => by
    have := List.all_eq_true.1 hz m (weightsEach_mem h1 h2 hm)
    simpa using this

/-! The cells of a struct, one by one. -/
def flatF (P : Program) (r : TypeId → Option (List TypeId)) : List Field → Nat → Option (List TypeId)
  | [], _ => some []
  | f :: fs, o => if f.offset = o then match r f.type, flatF P r fs (o + P.cellsOf f.type) with
      | some a, some b => if a.length = P.cellsOf f.type then some (a ++ b) else none
      | _, _ => none
    else none
def flatT (P : Program) : Nat → TypeId → Option (List TypeId)
  | 0, _ => none
  | n + 1, t => match P.underlying t with
    | some (.struct fs) => match flatF P (flatT P n) fs.toList 0 with
      | some a => if a.length = P.cellsOf t then some a else none
      | none => none
    | some (.array m e) => match flatT P n e with
      | some a => if a.length = P.cellsOf e ∧ m * P.cellsOf e = P.cellsOf t then some (List.replicate m a).flatten else none
      | none => none
    | some .bool => some [t]
    | some (.int _) => some [t]
    | some .string => some [t]
    | some (.slice _) => some [t]
    | _ => none
def Leaf (P : Program) (w : World) : List TypeId → List Value → Prop
  | [], cs => cs = []
  | t :: ts, cs => ∃ c r, cs = c :: r ∧ (∃ m, Rs P w m t [c]) ∧ Leaf P w ts r
theorem Leaf.append {P : Program} {w : World} : ∀ {ts us : List TypeId} {cs ds : List Value}, Leaf P w ts cs → Leaf P w us ds → Leaf P w (ts ++ us) (cs ++ ds)
  | [], _, _, _, h, k => by cases h; exact k
  | _ :: _, _, _, _, ⟨c, r, e, h1, h2⟩, k => by subst e; exact ⟨c, _, rfl, h1, Leaf.append h2 k⟩
theorem Leaf.len {P : Program} {w : World} : ∀ {ts : List TypeId} {cs : List Value}, Leaf P w ts cs → cs.length = ts.length
  | [], _, h => by cases h; rfl
  | _ :: _, _, ⟨c, r, e, _, h2⟩ => by subst e; simp [Leaf.len h2]
theorem leaf_fields {P : Program} {w : World} {r : TypeId → Option (List TypeId)} (hr : ∀ t ts m cs, r t = some ts → Rs P w m t cs → Leaf P w ts cs) : ∀ (fs : List Field) (o : Nat) (ts : List TypeId) (m : Nat) (all : List Value),
    flatF P r fs o = some ts → (∀ f ∈ fs, Rs P w m f.type ((all.drop f.offset).take (P.cellsOf f.type))) → Leaf P w ts ((all.drop o).take ts.length)
  | [], _, ts, _, _, h, _ => by
    simp only [flatF, Option.some.injEq] at h
    subst h
    simp [Leaf]
  | f :: fs, o, ts, m, all, h, hf => by
    simp only [flatF] at h
    split at h
    · rename_i ho
      split at h
      · rename_i a b ha hb
        split at h
        · rename_i hl
          cases h
          have h1 := hr _ _ _ _ ha (hf f (List.mem_cons_self ..))
          have h2 := leaf_fields hr fs _ b m all hb fun g hg => hf g (List.mem_cons_of_mem _ hg)
          rw [ho] at h1
          have := h1.append h2
          rw [List.length_append, List.take_add, List.drop_drop]
          rw [hl]
          exact this
        · cases h
      · cases h
    · cases h
theorem leaf_of {P : Program} {w : World} : ∀ (k : Nat) (t : TypeId) (ts : List TypeId) (m : Nat) (cs : List Value), flatT P k t = some ts → Rs P w m t cs → Leaf P w ts cs := by
  intro k
  induction k with
  | zero => intro t ts m cs h; simp [flatT] at h
  | succ k ih =>
    intro t ts m cs h hr
    have one : ∀ c, cs = [c] → ts = [t] → Leaf P w ts cs := fun c e e2 => by subst e e2; exact ⟨c, [], rfl, ⟨m, hr⟩, rfl⟩
    simp only [flatT] at h
    split at h
    · rename_i fs hu
      split at h
      · rename_i a ha
        split at h
        · rename_i hal
          cases h
          obtain ⟨hl, m', hf⟩ := hr.struct hu
          have h1 := leaf_fields (w := w) (fun t ts m cs => ih t ts m cs) fs.toList 0 _ m' cs ha hf
          rw [List.drop_zero, List.take_of_length_le (by omega)] at h1
          exact h1
        · cases h
      · cases h
    · rename_i x e hu
      split at h
      · rename_i a ha
        split at h
        · rename_i hal
          cases h
          obtain ⟨hal, htl⟩ := hal
          cases m with
          | zero => exact hr.elim
          | succ m =>
            unfold Rs at hr
            simp only [hu] at hr
            obtain ⟨hl, hf⟩ := hr
            have key : ∀ y, y ≤ x → Leaf P w (List.replicate y a).flatten (cs.take (y * P.cellsOf e)) := by
              intro y
              induction y with
              | zero => intro _; simp [Leaf]
              | succ y ihy =>
                intro hy
                have h1 := (ihy (by omega)).append (ih _ _ _ _ ha (hf y (by omega)))
                rw [Nat.succ_mul, List.take_add, List.replicate_succ', List.flatten_append]
                simpa using h1
            have := key x (Nat.le_refl _)
            rw [List.take_of_length_le (by omega)] at this
            exact this
        · cases h
      · cases h
    · rename_i hu
      cases h
      cases m with
      | zero => exact hr.elim
      | succ m => have hr' := hr; unfold Rs at hr'; simp only [hu] at hr'; obtain ⟨b, e⟩ := hr'; exact one _ e rfl
    · rename_i hu
      cases h
      cases m with
      | zero => exact hr.elim
      | succ m => have hr' := hr; unfold Rs at hr'; simp only [hu] at hr'; obtain ⟨b, e, _⟩ := hr'; exact one _ e rfl
    · rename_i hu
      cases h
      cases m with
      | zero => exact hr.elim
      | succ m => have hr' := hr; unfold Rs at hr'; simp only [hu] at hr'; obtain ⟨b, e, _⟩ := hr'; exact one _ e rfl
    · rename_i hu
      cases h
      cases m with
      | zero => exact hr.elim
      | succ m => have hr' := hr; unfold Rs at hr'; simp only [hu] at hr'; rcases hr' with e | ⟨a, l, c, e, _⟩ <;> exact one _ e rfl
    · cases h

theorem Leaf.one {P : Program} {w : World} {t : TypeId} {ts : List TypeId} {cs : List Value} (h : Leaf P w (t :: ts) cs) : ∃ c r, cs = c :: r ∧ (∃ m, Rs P w m t [c]) ∧ Leaf P w ts r := h
theorem Leaf.nil' {P : Program} {w : World} {cs : List Value} (h : Leaf P w [] cs) : cs = [] := h
theorem Leaf.int {P : Program} {w : World} {t : TypeId} {ts : List TypeId} {cs : List Value} {k : IntKind} (h : Leaf P w (t :: ts) cs) (hu : P.underlying t = some (.int k)) : ∃ z r, cs = .int k z :: r ∧ (Lit.int k z).wf = true ∧ Leaf P w ts r := by
  obtain ⟨c, r, rfl, ⟨m, h1⟩, h2⟩ := h
  obtain ⟨z, e, h3⟩ := (Rs.rd _ _ _ h1).int hu
  cases e
  exact ⟨z, r, rfl, h3, h2⟩
theorem Leaf.i64 {P : Program} {w : World} {t : TypeId} {ts : List TypeId} {cs : List Value} (h : Leaf P w (t :: ts) cs) (hu : P.underlying t = some (.int .i64)) : ∃ z r, cs = .int .i64 z :: r ∧ (-9223372036854775808 ≤ z ∧ z ≤ 9223372036854775807) ∧ Leaf P w ts r := by
  obtain ⟨z, r, e, h1, h2⟩ := h.int hu
  exact ⟨z, r, e, bounds_i64 h1, h2⟩
theorem Leaf.u32 {P : Program} {w : World} {t : TypeId} {ts : List TypeId} {cs : List Value} (h : Leaf P w (t :: ts) cs) (hu : P.underlying t = some (.int .u32)) : ∃ z r, cs = .int .u32 z :: r ∧ (0 ≤ z ∧ z ≤ 4294967295) ∧ Leaf P w ts r := by
  obtain ⟨z, r, e, h1, h2⟩ := h.int hu
  exact ⟨z, r, e, bounds_u32 h1, h2⟩
theorem Leaf.u8 {P : Program} {w : World} {t : TypeId} {ts : List TypeId} {cs : List Value} (h : Leaf P w (t :: ts) cs) (hu : P.underlying t = some (.int .u8)) : ∃ z r, cs = .int .u8 z :: r ∧ (0 ≤ z ∧ z ≤ 255) ∧ Leaf P w ts r := by
  obtain ⟨z, r, e, h1, h2⟩ := h.int hu
  exact ⟨z, r, e, bounds_u8 h1, h2⟩
theorem Leaf.bool {P : Program} {w : World} {t : TypeId} {ts : List TypeId} {cs : List Value} (h : Leaf P w (t :: ts) cs) (hu : P.underlying t = some .bool) : ∃ z r, cs = .bool z :: r ∧ Leaf P w ts r := by
  obtain ⟨c, r, rfl, ⟨m, h1⟩, h2⟩ := h
  obtain ⟨z, e⟩ := (Rs.rd _ _ _ h1).bool hu
  cases e
  exact ⟨z, r, rfl, h2⟩
theorem Leaf.sl {P : Program} {w : World} {t e : TypeId} {ts : List TypeId} {cs : List Value} (h : Leaf P w (t :: ts) cs) (hu : P.underlying t = some (.slice e)) : ∃ a l c r, cs = .slice a l c :: r ∧ (∃ m, Rs P w m t [.slice a l c]) ∧ Leaf P w ts r := by
  obtain ⟨v, r, rfl, ⟨m, h1⟩, h2⟩ := h
  rcases h1.slice hu with e | ⟨a, l, c, _, e, _⟩
  · cases e
    exact ⟨none, 0, 0, r, rfl, ⟨m, h1⟩, h2⟩
  · cases e
    exact ⟨some a, l, c, r, rfl, ⟨m, h1⟩, h2⟩
theorem Rs.list {P : Program} {w : World} {n : Nat} {t e : TypeId} {a : Option Addr} {l c sz b : Nat} {α : Type} {enc : α → List Value} {ok : α → Prop} (h : Rs P w n t [.slice a l c]) (hu : P.underlying t = some (.slice e)) (hc : P.cellsOf e = sz) (hb : P.bytesOf e = b)
    (hx : ∀ m d, d.length = sz → Rs P w m e d → ∃ x, d = enc x ∧ ok x) :
    ∃ es : List α, es.length = l ∧ l ≤ c ∧ c ≤ maxLen ∧ c * b ≤ reachBytes ∧ Vw w (.slice a es.length c) sz es.length (flat enc es) ∧ ∀ x ∈ es, ok x := by
  obtain ⟨h1, h2, h3, m, ds, h4, h5, h6⟩ := h.elems hu hc
  subst hb
  have : ∃ es : List α, ds = es.map enc ∧ ∀ x ∈ es, ok x := by
    clear h4 h5
    induction ds with
    | nil => exact ⟨[], rfl, by simp⟩
    | cons d ds ih =>
      obtain ⟨es, e1, e2⟩ := ih fun d hd => h6 d (List.mem_cons_of_mem _ hd)
      obtain ⟨hl, hr⟩ := h6 d (List.mem_cons_self ..)
      obtain ⟨x, e3, e4⟩ := hx m d hl hr
      exact ⟨x :: es, by simp [e1, e3], fun y hy => by
        rcases List.mem_cons.1 hy with rfl | hy
        · exact e4
        · exact e2 y hy⟩
  obtain ⟨es, e1, e2⟩ := this
  subst e1
  have hel : es.length = l := by simpa using h4
  subst hel
  exact ⟨es, rfl, h1, h2, h3, by simpa [flat, List.flatMap] using h5, e2⟩
/-! What came in is known of any later world. -/
theorem vwKeep {w w' : World} (hc : ∀ b o u, w.cell? ⟨b, o, none⟩ = some u → w'.cell? ⟨b, o, none⟩ = some u) {v : Value} {sz n : Nat} {xs : List Value} (h : Vw w v sz n xs) : Vw w' v sz n xs := by
  obtain ⟨a, cap, rfl, h1, h2, h3, h4, h5⟩ := h
  refine ⟨a, cap, rfl, h1, h2, h3, h4, fun hne => ?_⟩
  obtain ⟨b, off, h6, h7⟩ := h5 hne
  exact ⟨b, off, h6, fun j u hu => hc _ _ _ (h7 j u hu)⟩
end Go.Pm
namespace Go.Proofs.Ytmbgbhambgoejaa.C
set_option linter.unusedSimpArgs false
set_option linter.unusedVariables false
open Go.RowKit Go.Pm

instance : Inhabited Cd := ⟨⟨0, 0, 0, 0, none, 0, []⟩⟩
instance : Inhabited St := ⟨⟨0, 0, 0, default, none, 0, [], none, 0, []⟩⟩
def CdsV (w : World) (d : Nat) (a : Option Addr) (c : Nat) (ys : List Cd) : Prop := match d with
  | 0 => True
  | d + 1 => Vw w (.slice a ys.length c) 5 ys.length (flat cdC ys) ∧ ∀ y ∈ ys, CdV w d y
def CdsR (d : Nat) (ys : List Cd) : Prop := match d with
  | 0 => ys.length ≤ 140737488355328
  | d + 1 => ys.length ≤ 140737488355328 ∧ ∀ y ∈ ys, CdR d y
theorem cd_mk {w : World} {d : Nat} {x : Cd} (hn : CdN x) (h1 : CdsV w d x.a x.c x.l) (h2 : CdsR d x.l) : CdV w d x ∧ CdR d x := by
  cases d with
  | zero => exact ⟨trivial, hn, h2⟩
  | succ d => exact ⟨h1, hn, h2.1, h2.2⟩
theorem cds_of {W : World} : ∀ (d m : Nat) (a : Option Addr) (l c : Nat), Rs Try.prog W m 48 [.slice a l c] → ∃ ys : List Cd, ys.length = l ∧ CdsV W d a c ys ∧ CdsR d ys
  | 0, m, a, l, c, h => by
    obtain ⟨h1, h2, h3, _⟩ := h.elems (sz := 5) Try.underlying48 (by kernel_rfl)
    have hb : Try.prog.bytesOf 50 = 56 := by kernel_rfl
    rw [hb] at h3
    simp only [reachBytes] at h3
    refine ⟨List.replicate l default, List.length_replicate, trivial, ?_⟩
    show (List.replicate l default).length ≤ _
    rw [List.length_replicate]
    omega
  | d + 1, m, a, l, c, h => by
    obtain ⟨ys, h0, h1, h2, h3, h4, h5⟩ := h.list (sz := 5) (b := 56) (enc := cdC) (ok := fun y => CdV W d y ∧ CdR d y) Try.underlying48 (by kernel_rfl) (by kernel_rfl) (fun m ds _ hr => by
      have hL := leaf_of 5 50 [3, 48, 26, 3, 3] m ds (by kernel_rfl) hr
      obtain ⟨z0, r0, rfl, h0, hL⟩ := hL.i64 Try.underlying3
      obtain ⟨a1, l1, c1, r1, rfl, ⟨m1, hs⟩, hL⟩ := hL.sl Try.underlying48
      obtain ⟨z2, r2, rfl, h2, hL⟩ := hL.u32 Try.underlying26
      obtain ⟨z3, r3, rfl, h3, hL⟩ := hL.i64 Try.underlying3
      obtain ⟨z4, r4, rfl, h4, hL⟩ := hL.i64 Try.underlying3
      obtain rfl := hL.nil'
      obtain ⟨ys, rfl, k1, k2⟩ := cds_of d m1 a1 l1 c1 hs
      exact ⟨⟨z0, z4, z2, z3, a1, c1, ys⟩, rfl, cd_mk ⟨h0, h4, h2, h3⟩ k1 k2⟩)
    simp only [reachBytes] at h3
    exact ⟨ys, h0, ⟨h4, fun y hy => (h5 y hy).1⟩, ⟨by omega, fun y hy => (h5 y hy).2⟩⟩
theorem ls_of {W : World} : ∀ (d m : Nat) (a : Option Addr) (l c : Nat), Rs Try.prog W m 22 [.slice a l c] → ∃ ts : List St, ts.length = l ∧ LsV W d a c ts ∧ LsR d ts
  | 0, m, a, l, c, h => by
    obtain ⟨h1, h2, h3, _⟩ := h.elems (sz := 10) Try.underlying22 (by kernel_rfl)
    have hb : Try.prog.bytesOf 52 = 128 := by kernel_rfl
    rw [hb] at h3
    simp only [reachBytes] at h3
    refine ⟨List.replicate l default, List.length_replicate, trivial, ?_⟩
    show (List.replicate l default).length ≤ _
    rw [List.length_replicate]
    omega
  | d + 1, m, a, l, c, h => by
    obtain ⟨ys, h0, h1, h2, h3, h4, h5⟩ := h.list (sz := 10) (b := 128) (enc := stC) (ok := fun s => (CdV W 5 s.cd ∧ LsV W d s.ta s.tc s.th ∧ LsV W d s.ea s.ec s.el) ∧ (StN s ∧ CdR 5 s.cd ∧ LsR d s.th ∧ LsR d s.el)) Try.underlying22 (by kernel_rfl) (by kernel_rfl) (fun m ds _ hr => by
      have hL := leaf_of 5 52 [3, 3, 48, 26, 3, 3, 22, 22, 3, 3] m ds (by kernel_rfl) hr
      obtain ⟨z0, r0, rfl, h0, hL⟩ := hL.i64 Try.underlying3
      obtain ⟨z1, r1, rfl, h1, hL⟩ := hL.i64 Try.underlying3
      obtain ⟨a2, l2, c2, r2, rfl, ⟨m2, hs2⟩, hL⟩ := hL.sl Try.underlying48
      obtain ⟨z3, r3, rfl, h3, hL⟩ := hL.u32 Try.underlying26
      obtain ⟨z4, r4, rfl, h4, hL⟩ := hL.i64 Try.underlying3
      obtain ⟨z5, r5, rfl, h5, hL⟩ := hL.i64 Try.underlying3
      obtain ⟨a6, l6, c6, r6, rfl, ⟨m6, hs6⟩, hL⟩ := hL.sl Try.underlying22
      obtain ⟨a7, l7, c7, r7, rfl, ⟨m7, hs7⟩, hL⟩ := hL.sl Try.underlying22
      obtain ⟨z8, r8, rfl, h8, hL⟩ := hL.i64 Try.underlying3
      obtain ⟨z9, r9, rfl, h9, hL⟩ := hL.i64 Try.underlying3
      obtain rfl := hL.nil'
      obtain ⟨ys, rfl, k1, k2⟩ := cds_of 5 m2 a2 l2 c2 hs2
      obtain ⟨th, rfl, t1, t2⟩ := ls_of d m6 a6 l6 c6 hs6
      obtain ⟨el, rfl, e1, e2⟩ := ls_of d m7 a7 l7 c7 hs7
      obtain ⟨v1, v2⟩ := cd_mk (w := W) (d := 5) (x := ⟨z1, z5, z3, z4, a2, c2, ys⟩) ⟨h1, h5, h3, h4⟩ k1 k2
      exact ⟨⟨z0, z8, z9, ⟨z1, z5, z3, z4, a2, c2, ys⟩, a6, c6, th, a7, c7, el⟩, rfl, ⟨v1, t1, e1⟩, ⟨h0, h8, h9, ⟨h1, h5, h3, h4⟩⟩, v2, t2, e2⟩)
    simp only [reachBytes] at h3
    exact ⟨ys, h0, ⟨h4, fun y hy => (h5 y hy).1⟩, ⟨by omega, fun y hy => (h5 y hy).2⟩⟩
theorem cd_keep {w w' : World} (hc : ∀ b o u, w.cell? ⟨b, o, none⟩ = some u → w'.cell? ⟨b, o, none⟩ = some u) : ∀ (d : Nat) (x : Cd), CdV w d x → CdV w' d x
  | 0, _, _ => trivial
  | d + 1, x, h => ⟨vwKeep hc h.1, fun y hy => cd_keep hc d y (h.2 y hy)⟩
theorem ls_keep {w w' : World} (hc : ∀ b o u, w.cell? ⟨b, o, none⟩ = some u → w'.cell? ⟨b, o, none⟩ = some u) : ∀ (d : Nat) (a : Option Addr) (c : Nat) (l : List St), LsV w d a c l → LsV w' d a c l
  | 0, _, _, _, _ => trivial
  | d + 1, a, c, l, h => ⟨vwKeep hc h.1, fun s hs => ⟨cd_keep hc 5 _ (h.2 s hs).1, ls_keep hc d _ _ _ (h.2 s hs).2.1, ls_keep hc d _ _ _ (h.2 s hs).2.2⟩⟩
theorem ls_kn {W : World} {d : Nat} {a : Option Addr} {c : Nat} {l : List St} (h : LsV W d a c l) : Kn (World.all W) (fun w => LsV w d a c l) :=
  Kn.all (fun w ho => ls_keep (fun b o u hu => by
    rw [World.cell?_of_block (w := W) (ho.block b (World.block_lt_of_cell? _ _ hu) (by simp))]
    exact hu) d a c l h) fun w w' hh hr => ls_keep (fun b o u hu => by rw [cell?_heap hh]; exact hu) d a c l hr
theorem policy_arg {W : World} {m : Nat} {cs : Array Value} (h : Rs Try.prog W m 24 (Value.agg cs).cells.toList) : ∃ (nm : ByteArray) (a : Option Addr) (c : Nat) (l : List St), cs = #[.string nm, .slice a l.length c] ∧ LsR 5 l ∧ Kn (World.all W) (fun w => LsV w 5 a c l) := by
  have hL := leaf_of 5 24 [9, 22] m _ (by kernel_rfl) h
  obtain ⟨v, r0, e0, ⟨m0, hv⟩, hL⟩ := hL.one
  obtain ⟨a, l, c, r1, rfl, ⟨m1, hs⟩, hL⟩ := hL.sl Try.underlying22
  obtain rfl := hL.nil'
  obtain ⟨ts, rfl, k1, k2⟩ := ls_of 5 m1 a l c hs
  have hu := Try.underlying9
  cases m0 with
  | zero => exact hv.elim
  | succ m0 =>
    unfold Rs at hv
    simp only [hu] at hv
    obtain ⟨s, e1, _⟩ := hv
    cases e1
    refine ⟨s, a, c, ts, ?_, k2, ls_kn k1⟩
    have : cs.toList = [.string s, .slice a ts.length c] := e0
    rw [← Array.toArray_toList (xs := cs), this]
end Go.Proofs.Ytmbgbhambgoejaa.C
namespace Go.Proofs.Ytmbgbhambgoejaa.C
set_option linter.unusedSimpArgs false
set_option linter.unusedVariables false
set_option maxRecDepth 20000
set_option maxHeartbeats 4000000
open Go.RowKit Go.Pm

theorem make_spn {ys : List St} (hys : LsF 5 ys) (hr : rightB 5 ys = true) (hs : sizeL 5 ys < 4096) : checkE (makeT ys) = 0 ∧ (∀ s ∈ makeT ys, SpN s) ∧ 0 < (makeT ys).length ∧ (makeT ys).length ≤ 4096 := by
  obtain ⟨h1, _, h2⟩ := make_ok hys hr hs
  have hcl := codeL_len hys hr 0
  have e1 : makeT ys = codeL 5 0 ys ++ [endS] := by unfold makeT; rw [if_pos ⟨hr, hs⟩]
  refine ⟨h1, h2, ?_, ?_⟩ <;> rw [e1, List.length_append, hcl] <;> simp <;> omega
theorem same_t (d e : At) (hd : AtF d) (he : AtF e) (h : d.nf = e.nf) : Pact Try.prog 12 #[.agg (atC d).toArray, .agg (atC e).toArray] (fun w => AtV w d ∧ AtV w e) [] (ret0 (.bool true)) := by
  have := rsame_s d e hd he
  rwa [decide_eq_true h] at this
end Go.Proofs.Ytmbgbhambgoejaa.C
