/-
  The library's sort in the words of owned memory.
-/
import Derived.Test.YtohahlcjkhgimaaJy
import Derived.Shelf.SlSortCmp.NoneTotal
namespace Go.Pm
set_option linter.unusedSimpArgs false
set_option linter.unusedVariables false
open Go.RowKit Go.Shelf Go.Lib Go.Sort
/-- What lies behind is blocks and answers drawn. -/
theorem only_grow {w w' : World} (h : Only [] w w') : ∃ q os, w' = grow (w.drewN q) os := by
  have hd := h.tape.drawn
  refine ⟨w'.drawn - w.drawn, w'.heap.extract w.heap.size w'.heap.size, ?_⟩
  have hh : w'.heap = w.heap ++ w'.heap.extract w.heap.size w'.heap.size := by
    apply Array.ext_getElem?
    intro k
    by_cases hk : k < w.heap.size
    · rw [Array.getElem?_append_left hk, h.block k hk (by simp)]
    · rw [Array.getElem?_append_right (by omega), Array.getElem?_extract]
      have hs := h.size
      by_cases hk2 : k < w'.heap.size
      · rw [if_pos (by omega)]
        congr 1
        omega
      · rw [if_neg (by omega), Array.getElem?_eq_none (by omega)]
  obtain ⟨h1, h2, h3, h4, h5⟩ := w'
  have e2 := h.tape.tape
  have e4 := h.os
  have e5 := h.output
  dsimp only at *
  unfold grow World.drewN
  dsimp only
  subst e2 e4 e5
  rw [show w.drawn + (h3 - w.drawn) = h3 by omega, ← hh]
theorem Kn.le {K K' : Hl} {φ : World → Prop} (h : Kn K φ) (l : K.le K') : Kn K' φ := fun w i => h w (l.inn i)
theorem Ow.allLe {W : World} {K : Hl} {L : List HP} {w : World} (H : Ow W K L w) : K.le (World.all w) := fun b x e => H.kn b x e
/-- A contract that takes nothing, anywhere. -/
theorem Pact.at {P : Program} {g : FuncId} {args : Array Value} {φ : World → Prop} {v : Value} (S : Pact P g args φ [] (fun u L' => u = v ∧ L' = [])) {W : World} {K : Hl} {L : List HP} {w : World} (H : Ow W K L w) (hK : Kn K φ) :
    Calls P g args w fun e w' => e = .returned v ∧ ∃ q os, w' = grow (w.drewN q) os :=
  (S w (World.all w) w (hK.le H.allLe) (Ow.start w)).mono fun e w' ⟨u, L', ⟨h1, h2⟩, h3, h4⟩ => by
    subst h1 h2
    exact ⟨h3, only_grow h4.fin⟩
theorem putCells_id (F : Array Value) (cur : List Value) (h : F.size ≤ cur.length) : putCells id 0 F cur.toArray = (F.toList ++ cur.drop F.size).toArray := by
  apply Array.ext_getElem?
  intro k
  unfold putCells
  simp only [Array.getElem?_mapIdx, List.getElem?_toArray, Nat.zero_le, true_and, Nat.zero_add, Nat.sub_zero, id]
  by_cases hk : k < F.size
  · rw [List.getElem?_append_left (by simpa using hk), List.getElem?_eq_getElem (by omega)]
    simp [hk]
  · rw [List.getElem?_append_right (by simpa using hk)]
    simp only [Array.length_toList, List.getElem?_drop]
    rw [show F.size + (k - F.size) = k by omega]
    cases cur[k]? <;> simp [hk]
theorem Ow.putRow {W : World} {K : Hl} {R : List HP} {w : World} {g m : Nat} {cur : List Value} {e : TypeId} (H : Ow W K (pts g cur e :: R) w) (F : Array Value) (hF : F.size ≤ cur.length) (os : Array Obj) : Ow W K (pts g (F.toList ++ cur.drop F.size) e :: R) (grow (Sort.putRow id (Sort.ahead w m) g 0 F) os) := by
  have hb : Blk w g cur.toArray e := H.blk .here
  have hl := hb.lt
  have hbo : w.heap[g]? = some (.cells cur.toArray e (0, 0)) := hb
  have hh : (grow (Sort.putRow id (Sort.ahead w m) g 0 F) os).heap = w.heap.modify g (onCells (putCells id 0 F)) ++ os := rfl
  refine Ow.change H rfl ⟨rfl, Nat.le_add_right _ _⟩ rfl (by rw [hh]; simp) (fun h hA hi => ?_)
  have hA' : h = Hl.one g (.cells cur.toArray e (0, 0)) := hA
  subst hA'
  refine ⟨⟨Hl.one g (.cells (F.toList ++ cur.drop F.size).toArray e (0, 0)), rfl, fun c o eo => ?_, fun c hc => .inl ?_⟩, fun c hc hn => ?_⟩
  · unfold Hl.one at eo
    split at eo
    · rename_i hcg; subst hcg; cases eo
      rw [hh, Array.getElem?_append_left (by simpa using hl), Array.getElem?_modify, if_pos rfl, hbo]
      simp only [Option.map_some, onCells, putCells_id F cur hF]
    · cases eo
  · unfold Hl.one at hc ⊢
    split at hc <;> simp_all
  · have hcg : g ≠ c := fun e => by subst e; simp [Hl.one] at hn
    rw [hh, Array.getElem?_append_left (by simpa using hc), Array.getElem?_modify, if_neg hcg]
theorem putRow_map {enc : Int → Value} (w : World) (blk : Nat) (d : Array Int) : Sort.putRow enc w blk 0 d = Sort.putRow id w blk 0 (d.map enc) := by
  unfold Sort.putRow
  refine mapBlock_congr _ _ _ _ (fun c e fr _ => ?_)
  unfold putCells
  simp only [Nat.zero_le, true_and, Nat.zero_add, Nat.sub_zero, Array.size_map, id]
  apply Array.ext (by simp)
  intro k h1 h2
  simp only [Array.getElem_mapIdx]
  split
  · rename_i hk
    rw [getElem!_pos d k hk, getElem!_pos (d.map enc) k (by simpa using hk), Array.getElem_map]
  · rfl
theorem flat_map1 {α : Type} (f : α → Value) (q : List α) : flat (fun z => [f z]) q = q.map f := by
  unfold flat
  induction q with
  | nil => rfl
  | cons x r ih => rw [List.flatMap_cons, List.map_cons, ih]; rfl
section
variable {P : Program} {ρ : Ren}
/-- A sort of numbers of one kind, under a comparison that is a total order. -/
theorem sort1 (L : Go.Proofs.SlLaysF.n6 P ρ) (kd : IntKind) (e : TypeId) (cf : Int → Int → Int) (hO : SWO (Go.Proofs.ltOf cf)) (hT : ∀ x y, (Go.Proofs.ltOf cf) x y = false → (Go.Proofs.ltOf cf) y x = false → x = y) (g : Nat) (cb : Array Value) (hown : ownB P g = true) {φ : World → Prop}
    (hc : ∀ x y, Pact P g (#[.int kd x, .int kd y] ++ cb) φ [] (fun u L' => u = .int .i64 (cf x y) ∧ L' = [])) (a : Option Addr) (c : Nat) (l : List Int) (hl : l.length < 4611686018427387904) :
    Pact P (ρ.f 6) #[.slice a l.length c, .func (.func g) #[] cb] φ [Ar e 1 (fun z => [Value.int kd z]) (.slice a l.length c) l] (fun u L' => u = .tuple #[] ∧ L' = [Ar e 1 (fun z => [Value.int kd z]) (.slice a l.length c) (l.mergeSort fun x y => !(Go.Proofs.ltOf cf) y x)]) := by
  intro W K w hK H
  by_cases h0 : l.length = 0
  · have hl0 := List.eq_nil_of_length_eq_zero h0
    subst hl0
    exact (Go.Proofs.AnyF.slices_SortFunc_none { L with } a c _ w).mono fun e' w' ⟨h1, h2⟩ => by
      subst h2
      exact ⟨_, _, ⟨rfl, rfl⟩, h1, by simpa using H⟩
  · obtain ⟨gb, cur, rfl, H1, hcl, hct, hnc, hcm⟩ := H.slOpen (R := []) (by exact .here) h0
    have hflat := flat_map1 (Value.int kd) l
    rw [hflat] at hct
    have hH : Holds (Value.int kd) w gb 0 l.toArray := fun j hj => by
      have hj' : j < l.length := by simpa using hj
      have hg : cur[j]? = some (Value.int kd l[j]) := by
        have := congrArg (·[j]?) hct
        simp only [List.getElem?_take, List.getElem?_map, List.getElem?_eq_getElem hj', Option.map_some] at this
        rwa [if_pos (by omega)] at this
      have hb : Blk w gb cur.toArray e := H1.blk .here
      refine ⟨?_, ?_⟩
      · rw [Nat.zero_add, getElem!_pos l.toArray j hj]
        exact (hb.cell j).trans (by simpa using hg)
      · exact hb.free _
    have hlt : gb < w.heap.size := (H1.blk .here : Blk w gb cur.toArray e).lt
    have hcmp : Go.Proofs.CmpLays1 P g cb (Value.int kd) cf gb 0 l.toArray.size w := fun m os dk hs x y => by
      have H2 := Ow.putRow (m := m) H1 (dk.map (Value.int kd)) (by simp at hs ⊢; omega) os
      rw [← putRow_map] at H2
      exact Pact.at (hc x y) H2 hK
    have hcall := Go.Proofs.Any.slices_SortFunc_total L (Value.int kd) (fun _ => rfl) cf hO g cb gb 0 c l.toArray w (fun args w => run_own hown args w) hcmp hH hlt (by simpa using hl) hT
    have e1 : l.toArray.size = l.length := by simp
    rw [e1] at hcall
    refine hcall.mono fun e' w' ⟨h1, n, os, h2⟩ => ?_
    refine ⟨_, _, ⟨rfl, rfl⟩, h1, ?_⟩
    rw [h2]
    have hms : (l.mergeSort fun x y => !(Go.Proofs.ltOf cf) y x).length = l.length := List.length_mergeSort _
    have H2 := Ow.putRow (m := n) H1 ((l.mergeSort fun x y => !(Go.Proofs.ltOf cf) y x).toArray.map (Value.int kd)) (by simp; omega) os
    rw [← putRow_map] at H2
    show Ow W K (Sl e 1 _ _ _ :: []) _
    rw [hms]
    refine Ow.slShut H2 .here ?_ ?_ hnc hcm
    · simp; omega
    · rw [flat_map1]
      simp only [Array.toList_map, List.take_append, List.length_map, hms, Nat.mul_one, Nat.sub_self, List.take_zero, List.append_nil]
      rw [List.take_of_length_le (by simp)]
end
end Go.Pm
