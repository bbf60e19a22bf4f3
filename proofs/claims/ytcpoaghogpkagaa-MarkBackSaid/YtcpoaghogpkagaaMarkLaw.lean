/-
  Layer 17: plain facts on streams; splitters that are dead; arguments that are slices of slices.
-/
import Derived.Test.YtcpoaghogpkagaaMarkSame
import Derived.Test.YtcpoaghogpkagaaMarkWorks
namespace Go.Proofs.Ytcpoaghogpkagaa
set_option linter.unusedSimpArgs false
set_option linter.unusedVariables false
open Go.RowKit Go.Pm


/-- No message can be told of these bytes as they are. -/
def Stable (l : List Int) : Prop := l.length < 19 ∨ (checkF (l.take 19) = none ∧ (l.length : Int) < lenOf l)

theorem stable_nil : Stable [] := .inl (by simp)

theorem parses_left {l : List Int} {ms : List (Int × List Int)} {f : Option (Int × List Int)} {r : List Int} (h : Parses l ms f r) : (f = none → Stable r) ∧ (f.isSome = true → r = []) := by
  induction h with
  | short l h => exact ⟨fun _ => .inl h, by simp⟩
  | bad l f h hf => exact ⟨by simp, fun _ => rfl⟩
  | wait l h hf hn => exact ⟨fun _ => .inr ⟨hf, hn⟩, by simp⟩
  | msg l n ms f r h hn hl hf hr ih => exact ih

theorem parses_suffix {l : List Int} {ms : List (Int × List Int)} {f : Option (Int × List Int)} {r : List Int} (h : Parses l ms f r) : (∀ x ∈ r, x ∈ l) ∧ (∀ p ∈ ms, ∀ x ∈ p.2, x ∈ l) ∧ (∀ x ∈ dataOf f, x ∈ l) := by
  induction h with
  | short l h => exact ⟨fun _ h => h, by simp, by simp [dataOf]⟩
  | wait l h hf hn => exact ⟨fun _ h => h, by simp, by simp [dataOf]⟩
  | bad l f h hf =>
    refine ⟨by simp, by simp, fun x hx => ?_⟩
    obtain ⟨s, d⟩ := f
    have hx' : x ∈ d := hx
    have hlen : (l.take 19).length = 19 := by simp; omega
    have hin : ∀ i, i < 19 → at_ (l.take 19) i ∈ l := fun i hi => by
      have h1 : at_ (l.take 19) i = (l.take 19)[i]'(by omega) := by simp [at_, List.getD, List.getElem?_eq_getElem (show i < (l.take 19).length by omega)]
      rw [h1]
      exact List.take_subset _ _ (List.getElem_mem _)
    unfold checkF at hf
    split at hf
    · cases hf; cases hx'
    · split at hf
      · cases hf
        rcases List.mem_cons.1 hx' with rfl | h2
        · exact hin 16 (by omega)
        · obtain rfl := List.mem_singleton.1 h2
          exact hin 17 (by omega)
      · split at hf
        · cases hf
          obtain rfl := List.mem_singleton.1 hx'
          exact hin 18 (by omega)
        · split at hf
          · cases hf
          · cases hf
            rcases List.mem_cons.1 hx' with rfl | h2
            · exact hin 16 (by omega)
            · obtain rfl := List.mem_singleton.1 h2
              exact hin 17 (by omega)
  | msg l n ms f r h hn hl hf hr ih =>
    refine ⟨fun x hx => List.drop_subset _ _ (ih.1 x hx), fun p hp x hx => ?_, fun x hx => List.drop_subset _ _ (ih.2.2 x hx)⟩
    rcases List.mem_cons.1 hp with rfl | hp
    · exact List.take_subset _ _ (List.drop_subset _ _ hx)
    · exact List.drop_subset _ _ (ih.2.1 p hp x hx)

theorem take_app (h b : List Int) (k : Nat) (hk : k ≤ h.length) : (h ++ b).take k = h.take k := by
  rw [List.take_append_of_le_length hk]
theorem at_app (h b : List Int) (k : Nat) (hk : k < h.length) : at_ (h ++ b) k = at_ h k := by
  unfold at_ List.getD
  rw [List.getElem?_append_left hk]

/-- Behind bytes of which no message can be told there are no more messages than new bytes. -/
theorem parses_count {h b : List Int} (hs : Stable h) {ms : List (Int × List Int)} {f : Option (Int × List Int)} {r : List Int} (hp : Parses (h ++ b) ms f r) : ms.length ≤ b.length := by
  rcases hp.inv with ⟨_, rfl, _⟩ | ⟨_, _, _, _, rfl, _⟩ | ⟨_, _, _, rfl, _⟩ | ⟨n, ms2, h19, hn, hl, hf, hr, rfl⟩
  · simp
  · simp
  · simp
  · have hnh : h.length < n := by
      rcases hs with h1 | ⟨h1, h2⟩
      · omega
      · by_cases hlt : h.length < 19
        · omega
        · have : lenOf (h ++ b) = lenOf h := by unfold lenOf; rw [at_app _ _ _ (by omega), at_app _ _ _ (by omega)]
          omega
    have h3 := parses_length hr
    simp at h3 hl ⊢
    omega

theorem byte_of_parses {l : List Int} (hy : Byte l) {ms : List (Int × List Int)} {f : Option (Int × List Int)} {r : List Int} (hp : Parses l ms f r) : Byte r ∧ (∀ p ∈ ms, Byte p.2) ∧ Byte (dataOf f) := by
  have h := parses_suffix hp
  exact ⟨fun x hx => hy x (h.1 x hx), fun p hp x hx => hy x (h.2.1 p hp x hx), fun x hx => hy x (h.2.2 x hx)⟩

set_option maxRecDepth 100000 in
theorem rfeed_dead (w : World) (sp : Nat) (vb bv : Value) (hs : Blk w sp #[vb, .bool true] 35) : Calls Try.prog 16 #[.pointer (some ⟨sp, 0, none⟩), bv] w (FeedVoid w) := by
  have s1 : w.cell? ⟨sp, 1, none⟩ = some (.bool true) := (hs.cell 1).trans rfl
  have hls := hs.lt
  clear hs
  go_enter Try.func16, Try.ntmps16
  go_wp2_with fail
  refine world_abs (fun w' => Only [] w w' ∧ Blk w' w.heap.size #[.int .i64 0, .int .i64 0, .slice none 0 0] 38) ⟨?_, ?_⟩ ?_
  · (repeat (first | with_reducible exact Only.refl _ _ | with_reducible assumption | with_reducible apply Only.drew | with_reducible apply Only.drewN | with_reducible apply Only.alloc | (refine Only.setCell ?_ (by first | (left; simp; done) | (right; omega)) _ _)))
  · (apply blk_cast; (case h => (repeat (first | with_reducible assumption | (with_reducible apply blk_newAt; (first | omega | (simp; done) | (simp; omega))) | with_reducible apply Blk.set | with_reducible apply Blk.drewN | with_reducible apply Blk.drew | with_reducible apply Blk.alloc | (with_reducible apply Blk.setOther; (case hc => first | omega | (simp; omega)))))); (case e => (first | (simp; done) | rfl)))
  rintro w9 ⟨hO9, hR9⟩
  refine bodyPost_ret (v := .tuple #[.slice none 0 0, .agg #[.int .i64 0, .int .i64 0, .slice none 0 0], .bool false]) ?_ rfl ⟨rfl, hO9⟩
  simp [results, Try.results16, loadVar_blk hR9 (.struct _) 38 Try.underlying38 rfl rfl, asAddr, Sem.run_bind]

/-- An argument: a slice of slices of bytes. -/
theorem Rd.byteses {P : Program} {w : World} {n : Nat} {t e e2 : TypeId} {a : Option Addr} {len cap : Nat} (h : Rd P w n t [.slice a len cap]) (hu : P.underlying t = some (.slice e)) (hc : P.cellsOf e = 1) (hu2 : P.underlying e = some (.slice e2)) (he : P.underlying e2 = some (.int .u8)) (hc2 : P.cellsOf e2 = 1) :
    len ≤ cap ∧ cap ≤ maxLen ∧ (len = 0 ∨ ∃ (b off : Nat) (ps : Nat → Value × List Int), a = some ⟨b, off, none⟩ ∧ b < w.heap.size ∧ ∀ i, i < len → w.cell? ⟨b, off + i, none⟩ = some (ps i).1 ∧ VwB w (ps i).1 (ps i).2 ∧ Byte (ps i).2) := by
  rcases h.slice hu with h | ⟨x, l, c, m, h1, h2, h3, h4⟩
  · cases h
    exact ⟨Nat.le_refl _, by simp [maxLen], .inl rfl⟩
  · cases h1
    refine ⟨h2, h3, ?_⟩
    by_cases hl : len = 0
    · exact .inl hl
    · right
      obtain ⟨ps, hz⟩ := choose_lt (n := len) (p := fun i (z : Value × List Int) => w.cell? (x.add i) = some z.1 ∧ VwB w z.1 z.2 ∧ Byte z.2) (by
        intro i hi
        obtain ⟨ds, hd1, hd2, hd3⟩ := h4 i (by omega)
        rw [hc] at hd1 hd2
        match ds, hd1 with
        | [d], _ =>
          have hsl : ∃ a2 l2 c2, d = .slice a2 l2 c2 := by
            rcases hd3.slice hu2 with hq | ⟨a2, l2, c2, m2, hq, _⟩
            · cases hq; exact ⟨_, _, _, rfl⟩
            · cases hq; exact ⟨_, _, _, rfl⟩
          obtain ⟨a2, l2, c2, rfl⟩ := hsl
          obtain ⟨ll, _, hv, hy⟩ := Rd.bytes hd3 hu2 he hc2
          have h5 := hd2 0 (by simp)
          exact ⟨(.slice a2 l2 c2, ll), by simpa using h5, hv, hy⟩)
      have h0 := (hz 0 (by omega)).1
      obtain ⟨b, off, spot⟩ := x
      have hspot : spot = none := by simpa [Addr.add] using World.cell?_spot h0
      subst hspot
      refine ⟨b, off, ps, rfl, World.block_lt_of_cell? w _ (by simpa [Addr.add] using h0), fun i hi => ?_⟩
      have h6 := hz i hi
      rw [addr_add_plain] at h6
      exact h6

theorem bods_v {W : World} {K : Hl} {L R : List HP} {w : World} {es : List Ms} (H : Ow W K L w) (h : Tk L (Bod es) R) : ∀ m ∈ es, VwB w m.bv m.body := by
  intro m hm
  have H2 := H.flat h
  obtain ⟨l1, l2, rfl⟩ := List.append_of_mem hm
  have hp : ((l1 ++ m :: l2).map fun m => VB m.bv m.body).Perm ((VB m.bv m.body) :: ((l1 ++ l2).map fun m => VB m.bv m.body)) := by
    exact (List.perm_middle (a := m) (l₁ := l1) (l₂ := l2)).map (fun m => VB m.bv m.body)
  have H3 := H2.perm (hp.append_right R)
  exact H3.vvB .here
end Go.Proofs.Ytcpoaghogpkagaa
