/-
  Parts of a slice that is read.
-/
import Derived.Test.YtohahlcjkhgimaaJm
namespace Go.Pm
set_option linter.unusedSimpArgs false
set_option linter.unusedVariables false
open Go.RowKit
variable {α : Type} {enc : α → List Value} {K : Hl} {L : List HP} {a : Option Addr} {c n sz : Nat} {es : List α}
theorem flat_drop (hl : ∀ x, (enc x).length = sz) (es : List α) (j : Nat) (hj : j ≤ es.length) : (flat enc es).drop (j * sz) = flat enc (es.drop j) := by
  have h : flat enc es = flat enc (es.take j) ++ flat enc (es.drop j) := by rw [← flat_append, List.take_append_drop]
  have h2 : (flat enc (es.take j)).length = j * sz := by rw [flat_length hl, List.length_take, Nat.min_eq_left hj]
  rw [h, ← h2, List.drop_left]
theorem Vw_drop {w : World} (h : Vw w (.slice a n c) sz n (flat enc es)) (hl : ∀ x, (enc x).length = sz) (hn : es.length = n) (k m : Nat) (hk : k ≤ n) (hm : m = n - k) : Vw w (.slice (slA a c k sz) m (c - k)) sz m (flat enc (es.drop k)) := by
  subst hm
  obtain ⟨a', cap, he, h1, h2, h3, h4, h5⟩ := h
  cases he
  have hlen : (es.drop k).length = n - k := by rw [List.length_drop, hn]
  unfold slA
  by_cases hck : c = k
  · rw [if_pos hck]
    refine ⟨a, c - k, rfl, by rw [flat_length hl, hlen], by omega, by omega, fun h => ⟨by have := (h4 h).1; omega, by omega⟩, fun hne => ?_⟩
    have hnil : es.drop k = [] := List.eq_nil_of_length_eq_zero (by omega)
    rw [hnil] at hne
    exact absurd rfl hne
  · rw [if_neg hck]
    refine ⟨_, c - k, rfl, by rw [flat_length hl, hlen], by omega, by omega, fun h => ?_, fun hne => ?_⟩
    · cases a with
      | none => have := h4 rfl; omega
      | some x => cases h
    · have hd := flat_drop hl es k (by omega)
      have hne' : flat enc es ≠ [] := by
        intro h
        rw [h] at hd
        exact hne (by rw [← hd]; simp)
      obtain ⟨b, off, hb, hc⟩ := h5 hne'
      subst hb
      refine ⟨b, off + k * sz, by rw [Option.map_some, addr_add_plain], fun j u hj => ?_⟩
      rw [← hd, List.getElem?_drop] at hj
      have := hc _ _ hj
      rwa [Nat.add_assoc]
theorem Vw_take' {w : World} (h : Vw w (.slice a n c) sz n (flat enc es)) (hl : ∀ x, (enc x).length = sz) (hn : es.length = n) (j : Nat) (hj : j ≤ n) : Vw w (.slice a j c) sz j (flat enc (es.take j)) := by
  obtain ⟨a', cap, he, h1, h2, h3, h4, h5⟩ := h
  cases he
  have hlen : (es.take j).length = j := by rw [List.length_take]; omega
  have hpre : flat enc es = flat enc (es.take j) ++ flat enc (es.drop j) := by rw [← flat_append, List.take_append_drop]
  refine ⟨a, c, rfl, by rw [flat_length hl, hlen], by omega, h3, fun h => ⟨by have := (h4 h).1; omega, (h4 h).2⟩, fun hne => ?_⟩
  have hne' : flat enc es ≠ [] := by
    intro h
    rw [hpre] at h
    exact hne (List.append_eq_nil_iff.1 h).1
  obtain ⟨b, off, hb, hc⟩ := h5 hne'
  refine ⟨b, off, hb, fun k u hk => hc k u ?_⟩
  rw [hpre, List.getElem?_append_left (List.getElem?_eq_some_iff.1 hk).1]
  exact hk
theorem Src.drop (h : Src K L (.slice a n c) sz n (flat enc es)) (hl : ∀ x, (enc x).length = sz) (hn : es.length = n) (k m : Nat) (hk : k ≤ n) (hm : m = n - k) : Src K L (.slice (slA a c k sz) m (c - k)) sz m (flat enc (es.drop k)) := fun w hr => Vw_drop (h w hr) hl hn k m hk hm
theorem Src.take (h : Src K L (.slice a n c) sz n (flat enc es)) (hl : ∀ x, (enc x).length = sz) (hn : es.length = n) (j : Nat) (hj : j ≤ n) : Src K L (.slice a j c) sz j (flat enc (es.take j)) := fun w hr => Vw_take' (h w hr) hl hn j hj
end Go.Pm
