/-
  Sep, View, Row: merged.
-/
import Derived.Test.YtdnokmpnemaoaaaGreatZViewChooses1
namespace Go.Pm
set_option linter.unusedSimpArgs false
set_option linter.unusedVariables false
open Go.RowKit

abbrev Hl := Nat → Option Obj
abbrev HP := Hl → Prop
def Hl.add (h k : Hl) : Hl := fun b => (h b).or (k b)
def Hl.disj (h k : Hl) : Prop := ∀ b, h b = none ∨ k b = none
def Hl.inn (h : Hl) (w : World) : Prop := ∀ b o, h b = some o → w.heap[b]? = some o
def Hl.one (b : Nat) (o : Obj) : Hl := fun c => if c = b then some o else none

theorem Hl.disj.symm {h k : Hl} (d : h.disj k) : k.disj h := fun b => (d b).symm
theorem Hl.add_comm {h k : Hl} (d : h.disj k) : h.add k = k.add h := by
  funext b
  unfold Hl.add
  rcases d b with e | e <;> simp [e]
theorem Hl.add_assoc (h k l : Hl) : (h.add k).add l = h.add (k.add l) := by
  funext b
  unfold Hl.add
  cases h b <;> simp
theorem Hl.disj_add {h k l : Hl} : h.disj (k.add l) ↔ h.disj k ∧ h.disj l := by
  unfold Hl.disj Hl.add
  constructor
  · intro d
    exact ⟨fun b => (d b).imp id (fun e => by cases hk : k b <;> simp_all), fun b => (d b).imp id (fun e => by cases hk : k b <;> simp_all)⟩
  · rintro ⟨d, e⟩ b
    rcases d b with x | x
    · exact .inl x
    · exact (e b).imp id (fun y => by simp [x, y])
theorem Hl.add_disj {h k l : Hl} : (h.add k).disj l ↔ h.disj l ∧ k.disj l :=
  ⟨fun d => ⟨(Hl.disj_add.1 d.symm).1.symm, (Hl.disj_add.1 d.symm).2.symm⟩, fun d => (Hl.disj_add.2 ⟨d.1.symm, d.2.symm⟩).symm⟩
theorem Hl.inn_add {h k : Hl} {w : World} (d : h.disj k) : (h.add k).inn w ↔ h.inn w ∧ k.inn w := by
  constructor
  · intro i
    refine ⟨fun b o e => i b o (by simp [Hl.add, e]), fun b o e => i b o ?_⟩
    rcases d b with x | x
    · simp [Hl.add, x, e]
    · rw [x] at e; cases e
  · rintro ⟨i, j⟩ b o e
    unfold Hl.add at e
    cases hb : h b with
    | none => rw [hb] at e; exact j b o e
    | some p => rw [hb] at e; exact i b o (by rw [hb]; exact e)
theorem Hl.inn.lt {h : Hl} {w : World} (i : h.inn w) {b : Nat} {o : Obj} (e : h b = some o) : b < w.heap.size := (Array.getElem?_eq_some_iff.1 (i b o e)).1

def sats : List HP → Hl → Prop
  | [], h => ∀ b, h b = none
  | A :: L, h => ∃ h1 h2, A h1 ∧ sats L h2 ∧ h1.disj h2 ∧ h = h1.add h2

theorem sats_perm {L M : List HP} (p : L.Perm M) : ∀ h, sats L h → sats M h := by
  induction p with
  | nil => exact fun _ h => h
  | cons A _ ih => rintro h ⟨h1, h2, a, s, d, e⟩; exact ⟨h1, h2, a, ih _ s, d, e⟩
  | swap A B L =>
    rintro h ⟨h1, h2, a, ⟨h3, h4, b, s, d', rfl⟩, d, rfl⟩
    have d1 := Hl.disj_add.1 d
    exact ⟨h3, h1.add h4, b, ⟨h1, h4, a, s, d1.2, rfl⟩, Hl.disj_add.2 ⟨d1.1.symm, d'⟩, by rw [← Hl.add_assoc, Hl.add_comm d1.1, Hl.add_assoc]⟩
  | trans _ _ ih1 ih2 => exact fun h s => ih2 _ (ih1 _ s)

theorem sats_append (L M : List HP) (h : Hl) : sats (L ++ M) h ↔ ∃ h1 h2, sats L h1 ∧ sats M h2 ∧ h1.disj h2 ∧ h = h1.add h2 := by
  induction L generalizing h with
  | nil =>
    constructor
    · intro s
      exact ⟨fun _ => none, h, fun _ => rfl, s, fun _ => .inl rfl, by funext b; simp [Hl.add]⟩
    · rintro ⟨h1, h2, e, s, d, rfl⟩
      have : h1.add h2 = h2 := by funext b; simp [Hl.add, e b]
      rw [this]
      exact s
  | cons A L ih =>
    constructor
    · rintro ⟨h1, h2, a, s, d, rfl⟩
      obtain ⟨h3, h4, s3, s4, d2, rfl⟩ := (ih h2).1 s
      have d1 := Hl.disj_add.1 d
      exact ⟨h1.add h3, h4, ⟨h1, h3, a, s3, d1.1, rfl⟩, s4, Hl.add_disj.2 ⟨d1.2, d2⟩, (Hl.add_assoc _ _ _).symm⟩
    · rintro ⟨h1, h2, ⟨h3, h4, a, s, d2, rfl⟩, s2, d, rfl⟩
      have d1 := Hl.add_disj.1 d
      exact ⟨h3, h4.add h2, a, (ih _).2 ⟨h4, h2, s, s2, d1.2, rfl⟩, Hl.disj_add.2 ⟨d2, d1.1⟩, Hl.add_assoc _ _ _⟩

structure Ow (W : World) (K : Hl) (L : List HP) (w : World) : Prop where
  os : w.os = W.os
  tape : Tp W w
  output : w.output = W.output
  size : W.heap.size ≤ w.heap.size
  kn : K.inn w
  mem : ∃ h, sats L h ∧ h.disj K ∧ h.inn w

def World.all (W : World) : Hl := fun b => W.heap[b]?

theorem Ow.start (W : World) : Ow W (World.all W) [] W := ⟨rfl, Tp.refl _, rfl, Nat.le_refl _, fun _ _ h => h, fun _ => none, fun _ => rfl, fun _ => .inl rfl, fun _ _ h => by cases h⟩
theorem Ow.fin {W : World} {L : List HP} {w : World} (H : Ow W (World.all W) L w) : Only [] W w :=
  ⟨H.os, H.tape, H.output, H.size, fun k hk _ => by
    have : W.heap[k]? = some W.heap[k] := Array.getElem?_eq_getElem hk
    rw [this]
    exact H.kn k _ this⟩

section
variable {W : World} {K : Hl} {L M R : List HP} {w w' : World} {A B : HP}

theorem Ow.perm (H : Ow W K L w) (p : L.Perm M) : Ow W K M w := by
  obtain ⟨h, s, d, i⟩ := H.mem
  exact ⟨H.os, H.tape, H.output, H.size, H.kn, h, sats_perm p h s, d, i⟩
theorem Ow.drew (H : Ow W K L w) : Ow W K L w.drew := ⟨H.os, H.tape.drew, H.output, H.size, H.kn, H.mem⟩
theorem Ow.imp (H : Ow W K (A :: L) w) (hi : ∀ h, A h → B h) : Ow W K (B :: L) w := by
  obtain ⟨h, ⟨h1, h2, a, s, d', e⟩, d, i⟩ := H.mem
  exact ⟨H.os, H.tape, H.output, H.size, H.kn, h, ⟨h1, h2, hi _ a, s, d', e⟩, d, i⟩
theorem Ow.drop (H : Ow W K (A :: L) w) : Ow W K L w := by
  obtain ⟨h, ⟨h1, h2, a, s, d', rfl⟩, d, i⟩ := H.mem
  exact ⟨H.os, H.tape, H.output, H.size, H.kn, h2, s, (Hl.add_disj.1 d).2, ((Hl.inn_add d').1 i).2⟩
theorem Ow.dropAll (H : Ow W K (L ++ M) w) : Ow W K L w := by
  obtain ⟨h, s, d, i⟩ := H.mem
  obtain ⟨h1, h2, s1, s2, d', rfl⟩ := (sats_append _ _ _).1 s
  exact ⟨H.os, H.tape, H.output, H.size, H.kn, h1, s1, (Hl.add_disj.1 d).1, ((Hl.inn_add d').1 i).1⟩

theorem Ow.frame (H : Ow W K (L ++ R) w) : ∃ hR, sats R hR ∧ hR.disj K ∧ Ow W (K.add hR) L w ∧ ∀ M w', Ow W (K.add hR) M w' → Ow W K (M ++ R) w' := by
  obtain ⟨h, s, d, i⟩ := H.mem
  obtain ⟨h1, h2, s1, s2, d', rfl⟩ := (sats_append _ _ _).1 s
  have dd := Hl.add_disj.1 d
  have ii := (Hl.inn_add d').1 i
  refine ⟨h2, s2, dd.2, ⟨H.os, H.tape, H.output, H.size, (Hl.inn_add dd.2.symm).2 ⟨H.kn, ii.2⟩, h1, s1, Hl.disj_add.2 ⟨dd.1, d'⟩, ii.1⟩, fun M w' H' => ?_⟩
  obtain ⟨h3, s3, d3, i3⟩ := H'.mem
  have d3' := Hl.disj_add.1 d3
  have k' := (Hl.inn_add dd.2.symm).1 H'.kn
  exact ⟨H'.os, H'.tape, H'.output, H'.size, k'.1, h3.add h2, (sats_append _ _ _).2 ⟨h3, h2, s3, s2, d3'.2, rfl⟩, Hl.add_disj.2 ⟨d3'.1, dd.2⟩, (Hl.inn_add d3'.2).2 ⟨i3, k'.2⟩⟩

def ob (b : Nat) (o : Obj) : HP := fun h => h = Hl.one b o
def pts (b : Nat) (cs : List Value) (T : TypeId) : HP := ob b (.cells cs.toArray T (0, 0))

theorem Ow.alloc (H : Ow W K L w) (o : Obj) : Ow W K (ob w.heap.size o :: L) (w.alloc o) := by
  obtain ⟨h, s, d, i⟩ := H.mem
  have old : ∀ (k : Hl), k.inn w → k.inn (w.alloc o) := fun k ik b p e => by
    have := ik.lt e
    rw [Below.heap_alloc _ _ _ this]
    exact ik b p e
  have new : ∀ (k : Hl), k.inn w → (Hl.one w.heap.size o).disj k := fun k ik b => by
    by_cases hb : b = w.heap.size
    · right
      cases e : k b with
      | none => rfl
      | some p => have := ik.lt e; omega
    · left; simp [Hl.one, hb]
  refine ⟨H.os, H.tape.same rfl rfl, H.output, ?_, old K H.kn, (Hl.one w.heap.size o).add h, ⟨_, _, rfl, s, new h i, rfl⟩, Hl.add_disj.2 ⟨new K H.kn, d⟩, (Hl.inn_add (new h i)).2 ⟨fun b p e => ?_, old h i⟩⟩
  · have := H.size; simp; omega
  · unfold Hl.one at e
    split at e
    · rename_i hb; subst hb; cases e; show (w.heap.push o)[w.heap.size]? = _; simp
    · cases e

theorem Ow.change (H : Ow W K (A :: L) w) (ho : w'.os = w.os) (ht : Tp w w') (hu : w'.output = w.output) (hs : w.heap.size ≤ w'.heap.size)
    (hb : ∀ h, A h → h.inn w → (∃ h', B h' ∧ h'.inn w' ∧ (∀ b, h' b ≠ none → h b ≠ none ∨ w.heap.size ≤ b)) ∧ ∀ b, b < w.heap.size → h b = none → w'.heap[b]? = w.heap[b]?) : Ow W K (B :: L) w' := by
  obtain ⟨h, ⟨h1, h2, a, s, d', rfl⟩, d, i⟩ := H.mem
  have ii := (Hl.inn_add d').1 i
  have dd := Hl.add_disj.1 d
  obtain ⟨⟨h3, b3, i3, o3⟩, same⟩ := hb h1 a ii.1
  have apart : ∀ k : Hl, k.inn w → h1.disj k → h3.disj k := fun k ik dk b => by
    cases e3 : h3 b with
    | none => exact .inl rfl
    | some p =>
      right
      rcases o3 b (by rw [e3]; simp) with h | h
      · exact (dk b).resolve_left h
      · cases ek : k b with
        | none => rfl
        | some q => have := ik.lt ek; omega
  have stays : ∀ k : Hl, k.inn w → h1.disj k → k.inn w' := fun k ik dk b p e => by
    rcases dk b with h | h
    · rw [same b (ik.lt e) h]; exact ik b p e
    · rw [h] at e; cases e
  exact ⟨ho.trans H.os, ht.trans H.tape, hu.trans H.output, Nat.le_trans H.size hs, stays K H.kn dd.1, h3.add h2, ⟨h3, h2, b3, s, apart h2 ii.2 d', rfl⟩, Hl.add_disj.2 ⟨apart K H.kn dd.1, dd.2⟩,
    (Hl.inn_add (apart h2 ii.2 d')).2 ⟨i3, stays h2 ii.2 d'⟩⟩

theorem Ow.only (H : Ow W K L w) (ho : Only [] w w') : Ow W K L w' := by
  obtain ⟨h, s, d, i⟩ := H.mem
  have st : ∀ k : Hl, k.inn w → k.inn w' := fun k ik b p e => by rw [ho.block b (ik.lt e) (by simp)]; exact ik b p e
  exact ⟨ho.os.trans H.os, ho.tape.trans H.tape, ho.output.trans H.output, Nat.le_trans H.size ho.size, st K H.kn, h, s, d, st h i⟩

theorem Ow.fresh (H : Ow W K L w) (ho : Only [] w w') {h' : Hl} (hA : A h') (hi : h'.inn w') (hn : ∀ b, h' b ≠ none → w.heap.size ≤ b) : Ow W K (A :: L) w' := by
  obtain ⟨h, s, d, i⟩ := H.mem
  have st : ∀ k : Hl, k.inn w → k.inn w' := fun k ik b p e => by rw [ho.block b (ik.lt e) (by simp)]; exact ik b p e
  have ap : ∀ k : Hl, k.inn w → h'.disj k := fun k ik b => by
    cases e : h' b with
    | none => exact .inl rfl
    | some p =>
      right
      cases ek : k b with
      | none => rfl
      | some q => have := ik.lt ek; have := hn b (by rw [e]; simp); omega
  exact ⟨ho.os.trans H.os, ho.tape.trans H.tape, ho.output.trans H.output, Nat.le_trans H.size ho.size, st K H.kn, h'.add h, ⟨h', h, hA, s, ap h i, rfl⟩, Hl.add_disj.2 ⟨ap K H.kn, d⟩, (Hl.inn_add (ap h i)).2 ⟨hi, st h i⟩⟩

/-! Taking a part out of the list. -/
inductive Tk : List HP → HP → List HP → Prop
  | here {A : HP} {L : List HP} : Tk (A :: L) A L
  | there {A B : HP} {L L' : List HP} : Tk L A L' → Tk (B :: L) A (B :: L')
inductive Sb : List HP → List HP → List HP → Prop
  | nil {R : List HP} : Sb R [] R
  | cons {A : HP} {As L L' R : List HP} : Tk L A L' → Sb L' As R → Sb L (A :: As) R

theorem Tk.perm (h : Tk L A M) : L.Perm (A :: M) := by
  induction h with
  | here => exact .refl _
  | there _ ih => exact (ih.cons _).trans (.swap ..)
theorem Sb.perm (h : Sb L M R) : L.Perm (M ++ R) := by
  induction h with
  | nil => exact .refl _
  | cons t _ ih => exact t.perm.trans (ih.cons _)
theorem Ow.tk (H : Ow W K L w) (h : Tk L A M) : Ow W K (A :: M) w := H.perm h.perm
theorem Ow.sb (H : Ow W K L w) (h : Sb L M R) : Ow W K (M ++ R) w := H.perm h.perm

theorem Ow.sel (H : Ow W K L w) (h : Sb L M R) : Ow W K M w := (H.sb h).dropAll

theorem Ow.part (H : Ow W K (A :: L) w) : ∃ h, A h ∧ h.inn w := by
  obtain ⟨h, ⟨h1, h2, a, s, d', rfl⟩, d, i⟩ := H.mem
  exact ⟨h1, a, ((Hl.inn_add d').1 i).1⟩

theorem Ow.blk (H : Ow W K L w) {b : Nat} {cs : List Value} {T : TypeId} (h : Tk L (pts b cs T) M) : Blk w b cs.toArray T := by
  obtain ⟨k, rfl, i⟩ := (H.tk h).part
  exact i b _ (by simp [Hl.one])

theorem Ow.open (H : Ow W K L w) (h : Tk L A R) {α : Type} {Bs : α → List HP} (ho : ∀ k, A k → ∃ x, sats (Bs x) k) : ∃ x, Ow W K (Bs x ++ R) w := by
  obtain ⟨k, ⟨h1, h2, a, s, d', rfl⟩, d, i⟩ := (H.tk h).mem
  obtain ⟨x, sx⟩ := ho h1 a
  exact ⟨x, H.os, H.tape, H.output, H.size, H.kn, _, (sats_append _ _ _).2 ⟨h1, h2, sx, s, d', rfl⟩, d, i⟩
theorem Ow.shut (H : Ow W K L w) (h : Sb L M R) (hc : ∀ k, sats M k → A k) : Ow W K (A :: R) w := by
  obtain ⟨k, s, d, i⟩ := (H.sb h).mem
  obtain ⟨h1, h2, s1, s2, d', rfl⟩ := (sats_append _ _ _).1 s
  exact ⟨H.os, H.tape, H.output, H.size, H.kn, _, ⟨h1, h2, hc _ s1, s2, d', rfl⟩, d, i⟩

theorem Ow.ne (H : Ow W K L w) {b c : Nat} {cs ds : List Value} {T U : TypeId} (h : Tk L (pts b cs T) M) (k : Tk M (pts c ds U) R) : b ≠ c := by
  obtain ⟨x, ⟨h1, h2, rfl, ⟨h3, h4, rfl, _, _, rfl⟩, d, rfl⟩, _, _⟩ := ((H.tk h).perm ((k.perm).cons _)).mem
  rintro rfl
  have := (Hl.disj_add.1 d).1 b
  simp [Hl.one] at this

theorem Ow.step (H : Ow W K L w) {b : Nat} {cs cs' : List Value} {T : TypeId} (h : Tk L (pts b cs T) R) (ho : Only [b] w w') (hb : Blk w' b cs'.toArray T) : Ow W K (pts b cs' T :: R) w' :=
  (H.tk h).change ho.os ho.tape ho.output ho.size fun k hk ik => by
    have hk' : k = Hl.one b (.cells cs.toArray T (0, 0)) := hk
    subst hk'
    refine ⟨⟨Hl.one b (.cells cs'.toArray T (0, 0)), rfl, fun c o e => ?_, fun c hc => ?_⟩, fun c hl hc => ho.block c hl (fun hm => ?_)⟩
    · unfold Hl.one at e
      split at e
      · rename_i hcb; subst hcb; cases e; exact hb
      · cases e
    · left
      unfold Hl.one at hc ⊢
      split at hc <;> simp_all
    · obtain rfl : c = b := by simpa using hm
      simp [Hl.one] at hc

def pu (p : Prop) : HP := fun h => p ∧ ∀ b, h b = none
theorem Ow.pu {p : Prop} (H : Ow W K L w) (h : Tk L (pu p) R) : p := by
  obtain ⟨k, a, _⟩ := (H.tk h).part
  exact a.1
theorem Ow.mkPu {p : Prop} (H : Ow W K L w) (hp : p) : Ow W K (Pm.pu p :: L) w := by
  obtain ⟨h, s, d, i⟩ := H.mem
  exact ⟨H.os, H.tape, H.output, H.size, H.kn, h, ⟨fun _ => none, h, ⟨hp, fun _ => rfl⟩, s, fun _ => .inl rfl, by funext b; simp [Hl.add]⟩, d, i⟩

/-! Stores. -/
inductive SetAt : List Value → Nat → Value → List Value → Prop
  | z {x v : Value} {r : List Value} : SetAt (x :: r) 0 v (v :: r)
  | s {x v : Value} {r r' : List Value} {n : Nat} : SetAt r n v r' → SetAt (x :: r) (n + 1) v (x :: r')
theorem SetAt.eq {l l' : List Value} {n : Nat} {v : Value} (h : SetAt l n v l') : l' = l.set n v ∧ n < l.length := by
  induction h with
  | z => simp
  | s _ ih => obtain ⟨rfl, h⟩ := ih; simp; exact h

theorem Ow.set (H : Ow W K L w) {b i : Nat} {cs cs' : List Value} {T : TypeId} {v : Value} (h : Tk L (pts b cs T) R) (hs : SetAt cs i v cs') : Ow W K (pts b cs' T :: R) (w.setCell ⟨b, i, none⟩ v) := by
  refine (H.tk h).change rfl ((Tp.refl _).same rfl rfl) rfl (by simp) (fun k hk ik => ⟨⟨Hl.one b (.cells cs'.toArray T (0, 0)), rfl, fun c o e => ?_, fun c hc => ?_⟩, fun c hl hc => ?_⟩)
  · have hk' : k = Hl.one b (.cells cs.toArray T (0, 0)) := hk
    subst hk'
    unfold Hl.one at e
    split at e
    · rename_i hcb
      subst hcb
      cases e
      have hB : Blk w c cs.toArray T := ik c _ (by simp [Hl.one])
      have := hB.set i v
      unfold Blk at this
      rw [this, hs.eq.1]
      simp
    · cases e
  · have hk' : k = Hl.one b (.cells cs.toArray T (0, 0)) := hk
    subst hk'
    left
    unfold Hl.one at hc ⊢
    split at hc <;> simp_all
  · have hk' : k = Hl.one b (.cells cs.toArray T (0, 0)) := hk
    subst hk'
    refine heap_setCell _ _ _ _ _ (fun e => ?_)
    subst e
    simp [Hl.one] at hc

theorem Ow.setCells (vs : List Value) : ∀ (o : Nat) {L R : List HP} {w : World} (_ : Ow W K L w) {b : Nat} {cs : List Value} {T : TypeId} (_ : Tk L (pts b cs T) R) (_ : o + vs.length ≤ cs.length),
    Ow W K (pts b (splice cs.toArray o vs).toList T :: R) (w.setCells b o vs) := by
  induction vs with
  | nil => intro o L R w H b cs T h hl; simpa [splice, World.setCells] using H.tk h
  | cons v r ih =>
    intro o L R w H b cs T h hl
    simp only [List.length_cons] at hl
    have hs : SetAt cs o v (cs.set o v) := by
      have : ∀ (cs : List Value) (o : Nat), o < cs.length → SetAt cs o v (cs.set o v) := by
        intro cs
        induction cs with
        | nil => intro o h; simp at h
        | cons x cs ih =>
          intro o h
          cases o with
          | zero => exact .z
          | succ o => exact .s (ih o (by simpa using h))
      exact this cs o (by omega)
    have := ih (o + 1) (H.set h hs) .here (by simp; omega)
    simpa [splice, World.setCells] using this
end

/-! What may be read besides: what holds in each world that has the memory K. -/
def Kn (K : Hl) (φ : World → Prop) : Prop := ∀ w, K.inn w → φ w
def Kr (K : Hl) (R : List HP) (φ : World → Prop) : Prop := ∀ h, sats R h → h.disj K → Kn (K.add h) φ
theorem Kn.of {K : Hl} {φ : World → Prop} (h : Kn K φ) {W : World} {L : List HP} {w : World} (H : Ow W K L w) : φ w := h w H.kn
theorem Kn.true {K : Hl} : Kn K (fun _ => True) := fun _ _ => trivial
theorem Kn.and {K : Hl} {φ ψ : World → Prop} (h : Kn K φ) (k : Kn K ψ) : Kn K (fun w => φ w ∧ ψ w) := fun w i => ⟨h w i, k w i⟩
theorem Kn.imp {K : Hl} {φ ψ : World → Prop} (h : Kn K φ) (k : ∀ w, φ w → ψ w) : Kn K ψ := fun w i => k w (h w i)
theorem Kn.left {K : Hl} {φ ψ : World → Prop} (h : Kn K (fun w => φ w ∧ ψ w)) : Kn K φ := fun w i => (h w i).1
theorem Kn.right {K : Hl} {φ ψ : World → Prop} (h : Kn K (fun w => φ w ∧ ψ w)) : Kn K ψ := fun w i => (h w i).2
theorem Kn.all {W : World} {φ : World → Prop} (h : ∀ w, Only [] W w → φ w) (h2 : ∀ w w', w'.heap = w.heap → φ w → φ w') : Kn (World.all W) φ := fun w i => by
  have hs : W.heap.size ≤ w.heap.size := by
    rcases Nat.lt_or_ge w.heap.size W.heap.size with hl | hl
    · have : W.heap[w.heap.size]? = some W.heap[w.heap.size] := Array.getElem?_eq_getElem hl
      have := (Array.getElem?_eq_some_iff.1 (i _ _ this)).1
      omega
    · exact hl
  refine h2 { W with heap := w.heap } w rfl (h _ ⟨rfl, (Tp.refl W).same rfl rfl, rfl, hs, fun k hk _ => ?_⟩)
  have : W.heap[k]? = some W.heap[k] := Array.getElem?_eq_getElem hk
  rw [this]
  exact i k _ this
theorem Kr.kn {K : Hl} {R : List HP} {φ : World → Prop} (h : Kn K φ) : Kr K R φ := fun k _ d w i => h w ((Hl.inn_add d.symm).1 i).1
theorem Kr.true {K : Hl} {R : List HP} : Kr K R (fun _ => True) := fun _ _ _ _ _ => trivial
theorem Kr.and {K : Hl} {R : List HP} {φ ψ : World → Prop} (h : Kr K R φ) (k : Kr K R ψ) : Kr K R (fun w => φ w ∧ ψ w) := fun x s d w i => ⟨h x s d w i, k x s d w i⟩
theorem Kr.tk {K : Hl} {R R' : List HP} {A : HP} {φ : World → Prop} (h : Tk R A R') (k : ∀ w h, A h → h.inn w → φ w) : Kr K R φ := fun x s d w i => by
  obtain ⟨h1, h2, a, _, d', rfl⟩ := sats_perm h.perm x s
  have i1 := ((Hl.inn_add d.symm).1 i).2
  exact k w h1 a ((Hl.inn_add d').1 i1).1

def Pact (P : Program) (f : FuncId) (args : Array Value) (φ : World → Prop) (pre : List HP) (Rr : Value → List HP → Prop) : Prop :=
  ∀ W K w, Kn K φ → Ow W K pre w → Calls P f args w fun e w' => ∃ v L', Rr v L' ∧ e = .returned v ∧ Ow W K L' w'

theorem Pact.call {P : Program} {f : FuncId} {args : Array Value} {φ : World → Prop} {pre : List HP} {Rr : Value → List HP → Prop} (S : Pact P f args φ pre Rr)
    {W : World} {K : Hl} {L R : List HP} {w : World} {Q : Ending → World → Prop} (H : Ow W K L w) (hs : Sb L pre R) (hφ : Kr K R φ)
    (hk : ∀ v L', Rr v L' → ∀ w', Ow W K (L' ++ R) w' → Q (.returned v) w') : Calls P f args w Q := by
  obtain ⟨hR, sR, dR, H1, back⟩ := (H.sb hs).frame
  refine (S W (K.add hR) w (hφ hR sR dR) H1).mono ?_
  rintro e w' ⟨v, L', hr, rfl, H2⟩
  exact hk v L' hr w' (back L' w' H2)

/-! The steps of a walk. -/
inductive Nth : List Value → Nat → Value → Prop
  | z {v : Value} {r : List Value} : Nth (v :: r) 0 v
  | s {x v : Value} {r : List Value} {n : Nat} : Nth r n v → Nth (x :: r) (n + 1) v
inductive Ev : Act → Operand → Value → Prop
  | t {l : List Value} {d : List Deferred} {t : Nat} {v : Value} : Nth l t v → Ev ⟨l.toArray, d⟩ (.tmp t) v
  | c {a : Act} {v : Value} : Ev a (.const v) v
inductive Pt : Act → Option Tmp → Value → Act → Prop
  | n {a : Act} {v : Value} : Pt a none v a
  | s {l l' : List Value} {d : List Deferred} {t : Nat} {v : Value} : SetAt l t v l' → Pt ⟨l.toArray, d⟩ (some t) v ⟨l'.toArray, d⟩
theorem Pt.eq {a a' : Act} {t : Option Tmp} {v : Value} (h : Pt a t v a') : a.put t v = a' := by
  cases h with
  | n => rfl
  | s h => simp [Act.put, h.eq.1]
theorem Nth.eq {l : List Value} {n : Nat} {v : Value} (h : Nth l n v) : l[n]? = some v := by
  induction h with
  | z => rfl
  | s _ ih => simpa using ih
theorem Ev.eq {a : Act} {x : Operand} {v : Value} (h : Ev a x v) : a.eval x = v := by
  cases h with
  | t h => simp [Act.eval, Array.getD_eq_getD_getElem?, h.eq]
  | c => rfl
def cellTy (P : Program) (t : TypeId) : Bool := match P.underlying t, P.info? t with
  | some d, some i => !d.isRow && i.size == 1
  | _, _ => false
def rowTy (P : Program) (t : TypeId) (n : Nat) : Bool := match P.underlying t, P.info? t with
  | some d, some i => d.isRow && i.size == n
  | _, _ => false

inductive Len : List Value → Nat → Prop
  | z : Len [] 0
  | s {x : Value} {r : List Value} {n : Nat} : Len r n → Len (x :: r) (n + 1)
theorem Len.eq {l : List Value} {n : Nat} (h : Len l n) : l.length = n := by
  induction h with
  | z => rfl
  | s _ ih => simp [ih]

theorem run_load_cell {P : Program} {w : World} {t : TypeId} {p : Addr} {v : Value} (ht : cellTy P t = true) (hc : w.cell? p = some v) : (loadVar t p).run P w = .ok v w := by
  unfold cellTy at ht
  cases hu : P.underlying t with
  | none => simp [hu] at ht
  | some d =>
    cases hi : P.info? t with
    | none => simp [hu, hi] at ht
    | some i =>
      simp only [hu, hi, Bool.and_eq_true, Bool.not_eq_true', beq_iff_eq] at ht
      have hagg : (isAgg t).run P w = .ok false w := by
        unfold isAgg
        rw [Sem.run_bind, run_underlying hu w]
        cases d <;> simp_all
      simp [loadVar, Sem.run_bind, hagg, load, Sem.run, hc]

theorem run_load_row {P : Program} {w : World} {t : TypeId} {b o : Nat} {cs : List Value} (ht : rowTy P t cs.length = true) (hc : w.rangeAt b o cs) : (loadVar t ⟨b, o, none⟩).run P w = .ok (.agg cs.toArray) w := by
  unfold rowTy at ht
  cases hu : P.underlying t with
  | none => simp [hu] at ht
  | some d =>
    cases hi : P.info? t with
    | none => simp [hu, hi] at ht
    | some i =>
      simp only [hu, hi, Bool.and_eq_true, beq_iff_eq] at ht
      exact run_loadVar_mid w b o t cs d hc hu ht.1 (by simp [hi, ht.2])

section
variable {P : Program} {ops : Array Oper} {rest : List Oper} {a : Act} {Q : Exit → Act → World → Prop} {W : World} {K : Hl} {L R : List HP} {w : World}

inductive Seg : List Value → Nat → Nat → List Value → Prop
  | e {r : List Value} : Seg r 0 0 []
  | t {x : Value} {r vs : List Value} {n : Nat} : Seg r 0 n vs → Seg (x :: r) 0 (n + 1) (x :: vs)
  | s {x : Value} {r vs : List Value} {i n : Nat} : Seg r i n vs → Seg (x :: r) (i + 1) n vs
theorem Seg.get {r vs : List Value} {i n : Nat} (h : Seg r i n vs) : ∀ j v, vs[j]? = some v → r[i + j]? = some v := by
  induction h with
  | e => simp
  | t _ ih =>
    intro j v hv
    cases j with
    | zero => simpa using hv
    | succ j => rw [Nat.zero_add]; simpa using ih j v (by simpa using hv)
  | s _ ih => intro j v hv; rw [Nat.add_right_comm]; simpa using ih j v hv
theorem Seg.len {r vs : List Value} {i n : Nat} (h : Seg r i n vs) : vs.length = n := by
  induction h with
  | e => rfl
  | t _ ih => simp [ih]
  | s _ ih => exact ih
theorem run_store_cell {P : Program} {w : World} {t : TypeId} {p : Addr} {u v : Value} (ht : cellTy P t = true) (hc : w.cell? p = some u) (hf : w.frozen? p = false) (h1 : v.oneCell' = true) : (storeVar t p v).run P w = .ok () (w.setCell p v) := by
  unfold cellTy at ht
  cases hu : P.underlying t with
  | none => simp [hu] at ht
  | some d =>
    cases hi : P.info? t with
    | none => simp [hu, hi] at ht
    | some i =>
      simp only [hu, hi, Bool.and_eq_true, Bool.not_eq_true', beq_iff_eq] at ht
      have hv : v.cells = #[v] := by cases v <;> first | rfl | (simp [Value.oneCell'] at h1)
      have hz : (storeCells p [v]).run P w = .ok () (w.setCell p v) := by
        have h0 : p.add 0 = p := by simp [Addr.add]
        simp [storeCells, h0, Sem.run_bind, run_store P w p v _ h1, hc, hf]
      simp [storeVar, sizeOf, typeInfo, hi, hv, ht.2, hz]

end

/-! Slices of the call's own. -/
def Sl (e : TypeId) (sz : Nat) (v : Value) (n : Nat) (xs : List Value) : HP := fun h =>
  xs.length = n * sz ∧ ((v = .slice none 0 0 ∧ n = 0 ∧ ∀ b, h b = none) ∨
    ∃ g cap cur, v = .slice (some ⟨g, 0, none⟩) n cap ∧ n ≤ cap ∧ cap ≤ maxLen ∧ cur.size = cap * sz ∧ cur.toList.take (n * sz) = xs ∧ h = Hl.one g (.cells cur e (0, 0)))

theorem Sl.owns {e : TypeId} {sz : Nat} {v : Value} {n : Nat} {xs : List Value} {w : World} {h : Hl} (hs : Sl e sz v n xs h) (i : h.inn w) (base : Nat) (hb : ∀ b, h b ≠ none → base ≤ b) : w.ownsRow base e sz v n xs := by
  refine ⟨hs.1, ?_⟩
  rcases hs.2 with ⟨h1, h2, _⟩ | ⟨g, cap, cur, h1, h2, h3, h4, h5, rfl⟩
  · exact .inl ⟨h1, h2⟩
  · exact .inr ⟨g, cap, cur, h1, hb g (by simp [Hl.one]), i g _ (by simp [Hl.one]), h2, h3, h4, h5⟩

theorem Sl.of {e : TypeId} {sz base : Nat} {v : Value} {n : Nat} {xs : List Value} {w : World} (h : w.ownsRow base e sz v n xs) : ∃ k : Hl, Sl e sz v n xs k ∧ k.inn w ∧ ∀ b, k b ≠ none → v.ownBlock = some b ∧ base ≤ b := by
  obtain ⟨h0, h⟩ := h
  rcases h with ⟨rfl, rfl⟩ | ⟨g, cap, cur, rfl, hb, hg, h2, h3, h4, h5⟩
  · exact ⟨fun _ => none, ⟨h0, .inl ⟨rfl, rfl, fun _ => rfl⟩⟩, fun _ _ h => (by cases h), fun _ h => (h rfl).elim⟩
  · refine ⟨Hl.one g (.cells cur e (0, 0)), ⟨h0, .inr ⟨g, cap, cur, rfl, h2, h3, h4, h5, rfl⟩⟩, fun b o e => ?_, fun b hb' => ?_⟩
    · unfold Hl.one at e
      split at e
      · rename_i hbg; subst hbg; cases e; exact hg
      · cases e
    · unfold Hl.one at hb'
      split at hb'
      · rename_i hbg; subst hbg; exact ⟨rfl, hb⟩
      · exact (hb' rfl).elim

section
variable {W : World} {K : Hl} {L R : List HP} {w w' : World} {e : TypeId} {sz : Nat} {v v' : Value} {n m : Nat} {xs ys : List Value}

theorem Ow.owns (H : Ow W K L w) (h : Tk L (Sl e sz v n xs) R) : w.ownsRow 0 e sz v n xs := by
  obtain ⟨k, hk, i⟩ := (H.tk h).part
  exact hk.owns i 0 (fun _ _ => Nat.zero_le _)
theorem Ow.vw (H : Ow W K L w) (h : Tk L (Sl e sz v n xs) R) : Vw w v sz n xs := own_vw (H.owns h)
theorem Kr.vw (h : Tk R (Sl e sz v n xs) L) : Kr K R (fun w => Vw w v sz n xs) := Kr.tk h fun w k hk i => own_vw (hk.owns i 0 (fun _ _ => Nat.zero_le _))

theorem Ow.freshSl (H : Ow W K L w) (ho : Only [] w w') (hs : w'.ownsRow w.heap.size e sz v n xs) : Ow W K (Sl e sz v n xs :: L) w' := by
  obtain ⟨k, hk, i, hb⟩ := Sl.of hs
  exact H.fresh ho hk i (fun b hb' => (hb b hb').2)

theorem Ow.bld (H : Ow W K (Sl e sz v n xs :: L) w) (hb : Bld e sz 0 w w' v v' m ys) : Ow W K (Sl e sz v' m ys :: L) w' := by
  refine H.change hb.only.os hb.only.tape hb.only.output hb.only.size (fun k hk ik => ?_)
  have hv : ∀ b, v.ownBlock = some b ↔ k b ≠ none := fun b => by
    rcases hk.2 with ⟨rfl, _, h3⟩ | ⟨g, cap, cur, rfl, _, _, _, _, rfl⟩
    · simp [Value.ownBlock, h3]
    · simp [Value.ownBlock, Hl.one, eq_comm]
  obtain ⟨k', hk', ik', hb'⟩ := Sl.of hb.own
  refine ⟨⟨k', hk', ik', fun b hbn => ?_⟩, fun b hl hbn => hb.only.block b hl (fun hm => ?_)⟩
  · have h1 := (hb' b hbn).1
    rcases hb.lies with h2 | h2
    · exact .inl ((hv b).1 (h2 ▸ h1))
    · exact .inr (h2 b h1)
  · exact (hv b).1 (by simpa using hm) hbn

theorem Ow.slNil (H : Ow W K L w) : Ow W K (Sl e sz (.slice none 0 0) 0 [] :: L) w := by
  obtain ⟨h, s, d, i⟩ := H.mem
  exact ⟨H.os, H.tape, H.output, H.size, H.kn, h, ⟨fun _ => none, h, ⟨by simp, .inl ⟨rfl, rfl, fun _ => rfl⟩⟩, s, fun _ => .inl rfl, by funext b; simp [Hl.add]⟩, d, i⟩

theorem Ow.slLit (H : Ow W K L w) {g : Nat} {cs : List Value} (h : Tk L (pts g cs e) R) (hl : cs.length = n * sz) (hm : n ≤ maxLen) : Ow W K (Sl e sz (.slice (some ⟨g, 0, none⟩) n n) n cs :: R) w :=
  (H.tk h).imp fun k hk => ⟨hl, .inr ⟨g, n, cs.toArray, rfl, Nat.le_refl _, hm, by simpa using hl, by simp [← hl], hk⟩⟩
theorem Ow.slShape (H : Ow W K L w) (h : Tk L (Sl e sz v n xs) R) : xs.length = n * sz ∧ ∃ a cap, v = .slice a n cap ∧ n ≤ cap ∧ cap ≤ maxLen := by
  obtain ⟨a, cap, rfl, h1, h2, h3, _⟩ := H.vw h
  exact ⟨h1, a, cap, rfl, h2, h3⟩
end

def SlB (e : TypeId) (v : Value) (l : List Int) : HP := Sl e 1 v l.length (bys l)
section
variable {W : World} {K : Hl} {L R : List HP} {w w' : World} {e : TypeId} {v v' : Value} {l m : List Int}
theorem Ow.ownB (H : Ow W K L w) (h : Tk L (SlB e v l) R) : OwnB e w 0 v l := H.owns h
theorem Ow.freshB (H : Ow W K L w) (ho : Only [] w w') (hs : OwnB e w' w.heap.size v l) : Ow W K (SlB e v l :: L) w' := H.freshSl ho hs
end

end Go.Pm
namespace Go.Pm
set_option linter.unusedSimpArgs false
set_option linter.unusedVariables false
open Go.RowKit

def hcell (h : Hl) (b i : Nat) : Option Value := match h b with
  | some (.cells c _ _) => c[i]?
  | _ => none
theorem hcell_in {h : Hl} {w : World} (i : h.inn w) {b k : Nat} {v : Value} (e : hcell h b k = some v) : w.cell? ⟨b, k, none⟩ = some v := by
  unfold hcell at e
  split at e
  · rename_i c T fr hb
    unfold World.cell?
    rw [show w.heap[(⟨b, k, none⟩ : Addr).block]? = _ from i b _ hb]
    simpa using e
  · cases e

def V (sz : Nat) (v : Value) (n : Nat) (xs : List Value) : HP := fun h =>
  ∃ a cap, v = .slice a n cap ∧ xs.length = n * sz ∧ n ≤ cap ∧ cap ≤ maxLen ∧ (a = none → n = 0 ∧ cap = 0) ∧ (xs ≠ [] → ∃ b off, a = some ⟨b, off, none⟩ ∧ ∀ j u, xs[j]? = some u → hcell h b (off + j) = some u)
theorem V.vw {sz : Nat} {v : Value} {n : Nat} {xs : List Value} {h : Hl} (hv : V sz v n xs h) {w : World} (i : h.inn w) : Vw w v sz n xs := by
  obtain ⟨a, cap, rfl, h1, h2, h3, h4, h5⟩ := hv
  refine ⟨a, cap, rfl, h1, h2, h3, h4, fun hne => ?_⟩
  obtain ⟨b, off, rfl, hc⟩ := h5 hne
  exact ⟨b, off, rfl, fun j u hu => hcell_in i (hc j u hu)⟩

theorem Sl.v {e : TypeId} {sz : Nat} {v : Value} {n : Nat} {xs : List Value} {h : Hl} (hs : Sl e sz v n xs h) : V sz v n xs h := by
  obtain ⟨hl, h1⟩ := hs
  rcases h1 with ⟨rfl, rfl, _⟩ | ⟨g, cap, cur, rfl, h2, h3, h4, h5, rfl⟩
  · exact ⟨none, 0, rfl, hl, Nat.le_refl _, by simp [maxLen], fun _ => ⟨rfl, rfl⟩, fun hne => (hne (by simpa using hl)).elim⟩
  · refine ⟨_, cap, rfl, hl, h2, h3, (fun h => by cases h), fun _ => ⟨g, 0, rfl, fun j u hu => ?_⟩⟩
    simp only [hcell, Hl.one, if_true, Nat.zero_add]
    rw [← h5, List.getElem?_take] at hu
    split at hu
    · simpa using hu
    · cases hu

theorem V.nil (sz : Nat) (h : Hl) : V sz (.slice none 0 0) 0 [] h := ⟨none, 0, rfl, by simp, Nat.le_refl _, by simp [maxLen], fun _ => ⟨rfl, rfl⟩, fun h => (h rfl).elim⟩

section
variable {W : World} {K : Hl} {L R : List HP} {w w' : World} {sz : Nat} {v : Value} {n : Nat} {xs : List Value} {l : List Int}
end
theorem Ow.flat {W : World} {K : Hl} {L R : List HP} {w : World} {As : List HP} (H : Ow W K L w) (h : Tk L (sats As) R) : Ow W K (As ++ R) w := by
  obtain ⟨_, H2⟩ := H.open h (α := Unit) (Bs := fun _ => As) (fun _ h => ⟨(), h⟩)
  exact H2
theorem Ow.unflat {W : World} {K : Hl} {L R : List HP} {w : World} {As : List HP} (H : Ow W K L w) (h : Sb L As R) : Ow W K (sats As :: R) w := H.shut h (fun _ h => h)
theorem Ow.snoc {W : World} {K : Hl} {L R M : List HP} {w : World} {As : List HP} {B : HP} (H : Ow W K L w) (h : Tk L (sats As) M) (k : Tk M B R) : Ow W K (sats (As ++ [B]) :: R) w := by
  have H2 := (H.flat h).perm (List.Perm.append_left As k.perm)
  have H3 : Ow W K ((As ++ [B]) ++ R) w := by simpa using H2
  obtain ⟨x, s, d, i⟩ := H3.mem
  obtain ⟨h1, h2, s1, s2, d', e⟩ := (sats_append _ _ _).1 s
  exact ⟨H.os, H.tape, H.output, H.size, H.kn, x, ⟨h1, h2, s1, s2, d', e⟩, d, i⟩
theorem Ow.satsNil {W : World} {K : Hl} {L : List HP} {w : World} (H : Ow W K L w) : Ow W K (sats [] :: L) w := by
  obtain ⟨h, s, d, i⟩ := H.mem
  exact ⟨H.os, H.tape, H.output, H.size, H.kn, h, ⟨fun _ => none, h, fun _ => rfl, s, fun _ => .inl rfl, by funext b; simp [Hl.add]⟩, d, i⟩
end Go.Pm
namespace Go.Pm
set_option linter.unusedSimpArgs false
set_option linter.unusedVariables false
open Go.RowKit

def flat {α : Type} (f : α → List Value) (es : List α) : List Value := es.flatMap f
theorem flat_length {α : Type} {f : α → List Value} {sz : Nat} (hf : ∀ x, (f x).length = sz) (es : List α) : (flat f es).length = es.length * sz := by
  induction es with
  | nil => simp [flat]
  | cons e es ih => simp [flat, hf, Nat.succ_mul] at ih ⊢; omega
theorem flat_append {α : Type} (f : α → List Value) (es fs : List α) : flat f (es ++ fs) = flat f es ++ flat f fs := by simp [flat]
theorem flat_get {α : Type} {f : α → List Value} {sz : Nat} (hf : ∀ x, (f x).length = sz) : ∀ (es : List α) (k j : Nat) (hk : k < es.length) (_ : j < sz), (flat f es)[k * sz + j]? = (f es[k])[j]?
  | [], _, _, hk, _ => by simp at hk
  | e :: es, 0, j, _, hj => by
    rw [Nat.zero_mul, Nat.zero_add]
    show (f e ++ flat f es)[j]? = _
    rw [List.getElem?_append_left (by rw [hf]; exact hj)]
    rfl
  | e :: es, k + 1, j, hk, hj => by
    show (f e ++ flat f es)[(k + 1) * sz + j]? = _
    rw [List.getElem?_append_right (by rw [hf, Nat.succ_mul]; omega), hf, show (k + 1) * sz + j - sz = k * sz + j by rw [Nat.succ_mul]; omega]
    exact flat_get hf es k j (by simpa using hk) hj

theorem Vw.row {α : Type} {f : α → List Value} {sz : Nat} (hf : ∀ x, (f x).length = sz) {w : World} {b off n cap : Nat} {es : List α} (h : Vw w (.slice (some ⟨b, off, none⟩) n cap) sz n (flat f es)) (hn : es.length = n) (k : Nat) (hk : k < es.length) : w.rangeAt b (off + k * sz) (f es[k]) := by
  intro j u hu
  have hj : j < sz := by
    have := (List.getElem?_eq_some_iff.1 hu).1
    rwa [hf] at this
  obtain ⟨a, c, he, h1, h2, h3, h4, h5⟩ := h
  cases he
  have h6 := flat_get hf es k j hk hj
  rw [hu] at h6
  obtain ⟨b', off', he, hc⟩ := h5 (by intro h0; rw [h0] at h6; simp at h6)
  cases he
  rw [Nat.add_assoc]
  exact hc _ _ h6

theorem Vw.addr {w : World} {a : Option Addr} {n cap sz : Nat} {xs : List Value} (h : Vw w (.slice a n cap) sz n xs) (hne : xs ≠ []) : ∃ b off, a = some ⟨b, off, none⟩ := by
  obtain ⟨a', c, he, h1, h2, h3, h4, h5⟩ := h
  cases he
  obtain ⟨b, off, rfl, _⟩ := h5 hne
  exact ⟨b, off, rfl⟩

section
variable {W : World} {K : Hl} {L R : List HP} {w w' : World} {e : TypeId} {sz n cap : Nat} {xs : List Value}

theorem Ow.slOpen {a : Option Addr} (H : Ow W K L w) (h : Tk L (Sl e sz (.slice a n cap) n xs) R) (hn : n ≠ 0) : ∃ g cur, a = some ⟨g, 0, none⟩ ∧ Ow W K (pts g cur e :: R) w ∧ cur.length = cap * sz ∧ cur.take (n * sz) = xs ∧ n ≤ cap ∧ cap ≤ maxLen := by
  obtain ⟨k, ⟨h1, h2, hs, s, d', rfl⟩, d, i⟩ := (H.tk h).mem
  obtain ⟨hl, hs⟩ := hs
  rcases hs with ⟨_, h0, _⟩ | ⟨g, cap', cur, he, h3, h4, h5, h6, rfl⟩
  · exact (hn h0).elim
  · cases he
    refine ⟨g, cur.toList, rfl, ⟨H.os, H.tape, H.output, H.size, H.kn, _, ⟨_, h2, rfl, s, ?_, rfl⟩, ?_, ?_⟩, by simpa using h5, h6, h3, h4⟩
    all_goals simpa using by assumption

theorem Ow.slShut {g : Nat} {cur : List Value} (H : Ow W K L w) (h : Tk L (pts g cur e) R) (hl : cur.length = cap * sz) (hx : cur.take (n * sz) = xs) (hn : n ≤ cap) (hc : cap ≤ maxLen) : Ow W K (Sl e sz (.slice (some ⟨g, 0, none⟩) n cap) n xs :: R) w :=
  (H.tk h).imp fun k hk => ⟨by
    subst hx
    rw [List.length_take, hl]
    exact Nat.min_eq_left (Nat.mul_le_mul_right _ hn), .inr ⟨g, cap, cur.toArray, rfl, hn, hc, by simpa using hl, by simpa using hx, hk⟩⟩
end

def rowOf (sz : Nat) (cur : List Value) (k : Nat) : List Value := (cur.drop (k * sz)).take sz
theorem rowOf_get {sz : Nat} {cur : List Value} {k j : Nat} (hj : j < sz) : (rowOf sz cur k)[j]? = cur[k * sz + j]? := by
  simp [rowOf, List.getElem?_take, hj, List.getElem?_drop]
theorem rowOf_splice_lt {sz : Nat} {cur vs : List Value} {i : Nat} (hi : i * sz + vs.length ≤ cur.length) (k : Nat) (hk : k < i) : rowOf sz (splice cur.toArray (i * sz) vs).toList k = rowOf sz cur k := by
  have e2 : (k + 1) * sz ≤ i * sz := Nat.mul_le_mul_right _ hk
  have e3 : (k + 1) * sz = k * sz + sz := Nat.succ_mul k sz
  apply List.ext_getElem?
  intro j
  by_cases hj : j < sz
  · rw [rowOf_get hj, rowOf_get hj, Array.getElem?_toList, splice_get vs (i * sz) cur.toArray (k * sz + j) (by simpa using hi), if_neg (by omega)]
    simp
  · have l1 : (rowOf sz (splice cur.toArray (i * sz) vs).toList k).length ≤ sz := by unfold rowOf; rw [List.length_take]; omega
    have l2 : (rowOf sz cur k).length ≤ sz := by unfold rowOf; rw [List.length_take]; omega
    rw [List.getElem?_eq_none (by omega), List.getElem?_eq_none (by omega)]
theorem rows_of {α : Type} {f : α → List Value} {sz : Nat} (hf : ∀ x, (f x).length = sz) {cur : List Value} {es : List α} (h : cur.take (es.length * sz) = flat f es) (k : Nat) (hk : k < es.length) : rowOf sz cur k = f es[k] := by
  have e2 : (k + 1) * sz ≤ es.length * sz := Nat.mul_le_mul_right _ hk
  have e3 : (k + 1) * sz = k * sz + sz := Nat.succ_mul k sz
  have hl : es.length * sz ≤ cur.length := by have := congrArg List.length h; rw [flat_length hf, List.length_take] at this; omega
  apply List.ext_getElem?
  intro j
  by_cases hj : j < sz
  · rw [rowOf_get hj, ← flat_get hf es k j hk hj, ← h, List.getElem?_take, if_pos (by omega)]
  · have l1 : (rowOf sz cur k).length ≤ sz := by unfold rowOf; rw [List.length_take]; omega
    rw [List.getElem?_eq_none (by omega), List.getElem?_eq_none (by rw [hf]; omega)]
theorem take_rows {α : Type} {f : α → List Value} {sz : Nat} (hf : ∀ x, (f x).length = sz) {cur : List Value} : ∀ (ys : List α), ys.length * sz ≤ cur.length → (∀ k (hk : k < ys.length), rowOf sz cur k = f ys[k]) → cur.take (ys.length * sz) = flat f ys := by
  intro ys hl h
  apply List.ext_getElem?
  intro j
  by_cases hj : j < ys.length * sz
  · have hs0 : 0 < sz := by rcases Nat.eq_zero_or_pos sz with h0 | h0; · subst h0; simp at hj
                            · exact h0
    have hk : j / sz < ys.length := Nat.div_lt_of_lt_mul (by rw [Nat.mul_comm]; exact hj)
    have hm : j % sz < sz := Nat.mod_lt _ hs0
    have he : j / sz * sz + j % sz = j := Nat.div_add_mod' j sz
    have h1 := flat_get hf ys (j / sz) (j % sz) hk hm
    rw [he] at h1
    rw [h1, ← h _ hk, rowOf_get hm, he, List.getElem?_take, if_pos hj]
  · rw [List.getElem?_eq_none (by rw [List.length_take]; omega), List.getElem?_eq_none (by rw [flat_length hf]; omega)]

end Go.Pm
