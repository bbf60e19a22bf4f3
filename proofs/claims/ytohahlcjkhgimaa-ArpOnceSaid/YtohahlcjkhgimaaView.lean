/-
  General lemmas of our own: views, that is slices of which a call owns the memory, but may only read it.
-/
import Derived.Test.YtohahlcjkhgimaaSep
namespace Go.Pm
set_option linter.unusedSimpArgs false
set_option linter.unusedVariables false
open Go.RowKit

def hcell (h : Hl) (b i : Nat) : Option Value := match h b with
  | some (.cells c _ _) => c[i]?
  | _ => none
theorem hcell_in {h : Hl} {w : World} (i : h.inn w) {b k : Nat} {v : Value} (e : hcell h b k = some v) : w.cell? ⟨b, k, none⟩ = some v := by
  unfold hcell at e
  split at e
  · rename_i c T fr hb
    unfold World.cell?
    rw [show w.heap[(⟨b, k, none⟩ : Addr).block]? = _ from i b _ hb]
    simpa using e
  · cases e

/-- The memory h is enough to read v as n elements, of cells xs. -/
def V (sz : Nat) (v : Value) (n : Nat) (xs : List Value) : HP := fun h =>
  ∃ a cap, v = .slice a n cap ∧ xs.length = n * sz ∧ n ≤ cap ∧ cap ≤ maxLen ∧ (a = none → n = 0 ∧ cap = 0) ∧ (xs ≠ [] → ∃ b off, a = some ⟨b, off, none⟩ ∧ ∀ j u, xs[j]? = some u → hcell h b (off + j) = some u)
def VB (v : Value) (l : List Int) : HP := V 1 v l.length (bys l)

theorem V.vw {sz : Nat} {v : Value} {n : Nat} {xs : List Value} {h : Hl} (hv : V sz v n xs h) {w : World} (i : h.inn w) : Vw w v sz n xs := by
  obtain ⟨a, cap, rfl, h1, h2, h3, h4, h5⟩ := hv
  refine ⟨a, cap, rfl, h1, h2, h3, h4, fun hne => ?_⟩
  obtain ⟨b, off, rfl, hc⟩ := h5 hne
  exact ⟨b, off, rfl, fun j u hu => hcell_in i (hc j u hu)⟩

theorem Sl.v {e : TypeId} {sz : Nat} {v : Value} {n : Nat} {xs : List Value} {h : Hl} (hs : Sl e sz v n xs h) : V sz v n xs h := by
  obtain ⟨hl, h1⟩ := hs
  rcases h1 with ⟨rfl, rfl, _⟩ | ⟨g, cap, cur, rfl, h2, h3, h4, h5, rfl⟩
  · exact ⟨none, 0, rfl, hl, Nat.le_refl _, by simp [maxLen], fun _ => ⟨rfl, rfl⟩, fun hne => (hne (by simpa using hl)).elim⟩
  · refine ⟨_, cap, rfl, hl, h2, h3, (fun h => by cases h), fun _ => ⟨g, 0, rfl, fun j u hu => ?_⟩⟩
    simp only [hcell, Hl.one, if_true, Nat.zero_add]
    rw [← h5, List.getElem?_take] at hu
    split at hu
    · simpa using hu
    · cases hu

theorem V.nil (sz : Nat) (h : Hl) : V sz (.slice none 0 0) 0 [] h := ⟨none, 0, rfl, by simp, Nat.le_refl _, by simp [maxLen], fun _ => ⟨rfl, rfl⟩, fun h => (h rfl).elim⟩

/-- Another view of the same block, that some world with this memory shows. -/
theorem V.rebase {sz : Nat} {v v' : Value} {n m : Nat} {xs ys : List Value} {h : Hl} (hv : V sz v n xs h) {w : World} (i : h.inn w) (hne : xs ≠ []) (hv' : Vw w v' sz m ys) (hb : v'.ownBlock = v.ownBlock) : V sz v' m ys h := by
  obtain ⟨a, cap, rfl, h1, h2, h3, h4, h5⟩ := hv
  obtain ⟨b, off, rfl, hc⟩ := h5 hne
  obtain ⟨a', cap', rfl, k1, k2, k3, k4, k5⟩ := hv'
  refine ⟨a', cap', rfl, k1, k2, k3, k4, fun hne' => ?_⟩
  obtain ⟨b', off', rfl, hc'⟩ := k5 hne'
  obtain rfl : b' = b := by simpa [Value.ownBlock] using hb
  refine ⟨b', off', rfl, fun j u hu => ?_⟩
  have h6 := hc' j u hu
  obtain ⟨x, hx⟩ : ∃ x, xs[0]? = some x := by cases xs with | nil => exact (hne rfl).elim | cons x r => exact ⟨x, rfl⟩
  have h7 := hc 0 x hx
  unfold hcell at h7 ⊢
  cases e : h b' with
  | none => simp [e] at h7
  | some o =>
    have h8 := i b' o e
    unfold World.cell? at h6
    rw [show w.heap[(⟨b', off' + j, none⟩ : Addr).block]? = some o from h8] at h6
    cases o <;> simp_all

theorem Ow.stepSl {W : World} {K : Hl} {L R : List HP} {w w' : World} (H : Ow W K L w) {b : Nat} {cs cs' : List Value} {T e : TypeId} {sz n : Nat} {v : Value} {xs : List Value} (h : Tk L (pts b cs T) R) (ho : Only [b] w w') (hb : Blk w' b cs'.toArray T)
    (hs : w'.ownsRow w.heap.size e sz v n xs) : Ow W K (pts b cs' T :: Sl e sz v n xs :: R) w' := by
  obtain ⟨k2, hk2, i2, hb2⟩ := Sl.of hs
  have hlt := (H.blk h).lt
  have key : Ow W K (sats [pts b cs' T, Sl e sz v n xs] :: R) w' := (H.tk h).change ho.os ho.tape ho.output ho.size fun k hk ik => by
    have hk' : k = Hl.one b (.cells cs.toArray T (0, 0)) := hk
    subst hk'
    have dj : (Hl.one b (.cells cs'.toArray T (0, 0))).disj k2 := fun c => by
      by_cases hc : c = b
      · right
        subst hc
        cases e2 : k2 c with
        | none => rfl
        | some o => have := (hb2 c (by rw [e2]; simp)).2; omega
      · left; simp [Hl.one, hc]
    have ii : (Hl.one b (.cells cs'.toArray T (0, 0))).inn w' := fun c o e => by
      unfold Hl.one at e
      split at e
      · rename_i hcb; subst hcb; cases e; exact hb
      · cases e
    refine ⟨⟨_, ⟨_, k2, rfl, ⟨k2, fun _ => none, hk2, fun _ => rfl, fun _ => .inr rfl, by funext c; simp [Hl.add]⟩, dj, rfl⟩, (Hl.inn_add dj).2 ⟨ii, i2⟩, fun c hc => ?_⟩, fun c hl hc => ho.block c hl (fun hm => ?_)⟩
    · by_cases hcb : c = b
      · left; simp [Hl.one, hcb]
      · right
        exact (hb2 c (by simpa [Hl.add, Hl.one, hcb] using hc)).2
    · obtain rfl : c = b := by simpa using hm
      simp [Hl.one] at hc
  obtain ⟨_, H2⟩ := key.open .here (α := Unit) (Bs := fun _ => [pts b cs' T, Sl e sz v n xs]) (fun _ h => ⟨(), h⟩)
  exact H2

section
variable {W : World} {K : Hl} {L R : List HP} {w w' : World} {sz : Nat} {v : Value} {n : Nat} {xs : List Value} {l : List Int}
theorem Ow.vv (H : Ow W K L w) (h : Tk L (V sz v n xs) R) : Vw w v sz n xs := by
  obtain ⟨k, hk, i⟩ := (H.tk h).part
  exact hk.vw i
theorem Ow.vvB (H : Ow W K L w) (h : Tk L (VB v l) R) : VwB w v l := H.vv h
theorem Kr.vv (h : Tk R (V sz v n xs) L) : Kr K R (fun w => Vw w v sz n xs) := Kr.tk h fun _ _ hk i => hk.vw i
theorem Kr.vvB (h : Tk R (VB v l) L) : Kr K R (fun w => VwB w v l) := Kr.vv h
theorem Ow.rebase (H : Ow W K L w) (h : Tk L (V sz v n xs) R) (hne : xs ≠ []) {v' : Value} {m : Nat} {ys : List Value} (hv : Vw w v' sz m ys) (hb : v'.ownBlock = v.ownBlock) : Ow W K (V sz v' m ys :: R) w := by
  obtain ⟨h, ⟨h1, h2, a, s, d', rfl⟩, d, i⟩ := (H.tk h).mem
  exact ⟨H.os, H.tape, H.output, H.size, H.kn, _, ⟨h1, h2, a.rebase ((Hl.inn_add d').1 i).1 hne hv hb, s, d', rfl⟩, d, i⟩
theorem Ow.rebaseB (H : Ow W K L w) (h : Tk L (VB v l) R) (hne : l ≠ []) {v' : Value} {l' : List Int} (hv : VwB w v' l') (hb : v'.ownBlock = v.ownBlock) : Ow W K (VB v' l' :: R) w := H.rebase h (by simpa [bys] using hne) hv hb
theorem Ow.neB (H : Ow W K L w) {b : Nat} {cs : List Value} {T : TypeId} {M : List HP} (h : Tk L (pts b cs T) M) (k : Tk M (VB v l) R) (hne : l ≠ []) : v.ownBlock ≠ some b := by
  obtain ⟨x, ⟨h1, h2, rfl, ⟨h3, h4, hv, _, _, rfl⟩, d, rfl⟩, _, _⟩ := ((H.tk h).perm ((k.perm).cons _)).mem
  obtain ⟨a, cap, rfl, _, _, _, _, h5⟩ := hv
  obtain ⟨b', off, rfl, hc⟩ := h5 (by simpa [bys] using hne)
  rintro hb
  obtain rfl : b' = b := by simpa [Value.ownBlock] using hb
  obtain ⟨x, r, rfl⟩ : ∃ x r, l = x :: r := by cases l with | nil => exact (hne rfl).elim | cons x r => exact ⟨x, r, rfl⟩
  have h7 := hc 0 (.int .u8 x) rfl
  have := (Hl.disj_add.1 d).1 b'
  rcases this with e | e
  · simp [Hl.one] at e
  · simp [hcell, e] at h7
theorem Ow.toV {e : TypeId} (H : Ow W K L w) (h : Tk L (Sl e sz v n xs) R) : Ow W K (V sz v n xs :: R) w := (H.tk h).imp fun _ => Sl.v
theorem Ow.toVB {e : TypeId} (H : Ow W K L w) (h : Tk L (SlB e v l) R) : Ow W K (VB v l :: R) w := (H.tk h).imp fun _ => Sl.v
theorem Ow.vNil (H : Ow W K L w) : Ow W K (V sz (.slice none 0 0) 0 [] :: L) w := (H.slNil (e := 0) (sz := sz)).imp fun _ => Sl.v
theorem Ow.vbNil (H : Ow W K L w) : Ow W K (VB (.slice none 0 0) [] :: L) w := H.vNil
end
/-- A part that is a list of parts. -/
theorem Ow.flat {W : World} {K : Hl} {L R : List HP} {w : World} {As : List HP} (H : Ow W K L w) (h : Tk L (sats As) R) : Ow W K (As ++ R) w := by
  obtain ⟨_, H2⟩ := H.open h (α := Unit) (Bs := fun _ => As) (fun _ h => ⟨(), h⟩)
  exact H2
theorem Ow.unflat {W : World} {K : Hl} {L R : List HP} {w : World} {As : List HP} (H : Ow W K L w) (h : Sb L As R) : Ow W K (sats As :: R) w := H.shut h (fun _ h => h)
theorem Ow.snoc {W : World} {K : Hl} {L R M : List HP} {w : World} {As : List HP} {B : HP} (H : Ow W K L w) (h : Tk L (sats As) M) (k : Tk M B R) : Ow W K (sats (As ++ [B]) :: R) w := by
  have H2 := (H.flat h).perm (List.Perm.append_left As k.perm)
  have H3 : Ow W K ((As ++ [B]) ++ R) w := by simpa using H2
  obtain ⟨x, s, d, i⟩ := H3.mem
  obtain ⟨h1, h2, s1, s2, d', e⟩ := (sats_append _ _ _).1 s
  exact ⟨H.os, H.tape, H.output, H.size, H.kn, x, ⟨h1, h2, s1, s2, d', e⟩, d, i⟩
theorem Ow.satsNil {W : World} {K : Hl} {L : List HP} {w : World} (H : Ow W K L w) : Ow W K (sats [] :: L) w := by
  obtain ⟨h, s, d, i⟩ := H.mem
  exact ⟨H.os, H.tape, H.output, H.size, H.kn, h, ⟨fun _ => none, h, fun _ => rfl, s, fun _ => .inl rfl, by funext b; simp [Hl.add]⟩, d, i⟩
end Go.Pm
