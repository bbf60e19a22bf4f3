/-
  Aq1, Jx, Jy, Jz, J3, Rb1, Rb2, Rb3, Aq2, Aq3, Jv, Aq4: merged.
-/
import Derived.Test.YtnhabkipjmgaaaaGreatZRibLimit9
import Derived.Maps.RangeRun
import Derived.Shelf.SlSortCmp.NoneTotal
import Derived.Laws.Concat
import Derived.Laws.Strings2
namespace Go.Proofs.YtnhabkipjmgaaaaGreat
set_option linter.unusedSimpArgs false
set_option linter.unusedVariables false
open Go.RowKit Go.Pm


def I64 (n : Int) : Prop := -9223372036854775808 ≤ n ∧ n ≤ 9223372036854775807
def U32 (n : Int) : Prop := 0 ≤ n ∧ n ≤ 4294967295
def U8 (n : Int) : Prop := 0 ≤ n ∧ n ≤ 255
def u32C (n : Int) : List Value := [.int .u32 n]
abbrev ret0 (v : Value) : Value → List HP → Prop := fun u L' => u = v ∧ L' = []
/-- A segment. -/
structure Sg where
  set : Bool
  a : Option Addr
  c : Nat
  as_ : List Int
def sgC (s : Sg) : List Value := [.bool s.set, .slice s.a s.as_.length s.c]
/-- An attribute that is not known. -/
structure Rw where
  kind : Int
  a : Option Addr
  c : Nat
  data : List Int
def rwC (r : Rw) : List Value := [.int .i64 r.kind, .slice r.a r.data.length r.c]
/-- Attributes. -/
structure At where
  origin : Int
  pa : Option Addr
  pc : Nat
  path : List Sg
  next : Int
  hasMed : Bool
  med : Int
  hasLocal : Bool
  loc : Int
  atomic : Bool
  hasMaker : Bool
  makerAS : Int
  maker : Int
  ca : Option Addr
  cc : Nat
  comms : List Int
  oa : Option Addr
  oc : Nat
  others : List Rw
def atN (c : At) (n m k : Nat) : List Value := [.int .i64 c.origin, .slice c.pa n c.pc, .int .u32 c.next, .bool c.hasMed, .int .u32 c.med, .bool c.hasLocal, .int .u32 c.loc, .bool c.atomic, .bool c.hasMaker, .int .u32 c.makerAS, .int .u32 c.maker, .slice c.ca m c.cc, .slice c.oa k c.oc]
def atC (c : At) : List Value := atN c c.path.length c.comms.length c.others.length
/-- A segment, an unknown one can be read. -/
def segV (w : World) (s : Sg) : Prop := Vw w (.slice s.a s.as_.length s.c) 1 s.as_.length (flat u32C s.as_)
def rawV (w : World) (r : Rw) : Prop := Vw w (.slice r.a r.data.length r.c) 1 r.data.length (flat byC r.data)
structure PathV (w : World) (a : Option Addr) (c : Nat) (p : List Sg) : Prop where
  vw : Vw w (.slice a p.length c) 2 p.length (flat sgC p)
  segs : ∀ s ∈ p, segV w s
structure RawsV (w : World) (a : Option Addr) (c : Nat) (p : List Rw) : Prop where
  vw : Vw w (.slice a p.length c) 2 p.length (flat rwC p)
  raws : ∀ s ∈ p, rawV w s
structure AtV (w : World) (d : At) : Prop where
  path : PathV w d.pa d.pc d.path
  comms : Vw w (.slice d.ca d.comms.length d.cc) 1 d.comms.length (flat u32C d.comms)
  others : RawsV w d.oa d.oc d.others
/-- Numbers of their types. -/
def SgN (s : Sg) : Prop := s.as_.length ≤ 35184372088832 ∧ ∀ z ∈ s.as_, U32 z
def RwN (r : Rw) : Prop := I64 r.kind ∧ r.data.length ≤ 140737488355328 ∧ ∀ z ∈ r.data, U8 z
structure AtN (d : At) : Prop where
  origin : I64 d.origin
  next : U32 d.next
  med : U32 d.med
  loc : U32 d.loc
  makerAS : U32 d.makerAS
  maker : U32 d.maker
  path : ∀ s ∈ d.path, SgN s
  comms : ∀ z ∈ d.comms, U32 z
  others : ∀ r ∈ d.others, RwN r
/-- Not too many. -/
structure AtF (d : At) : Prop where
  num : AtN d
  path : d.path.length ≤ 8
  comms : d.comms.length ≤ 40
  others : d.others.length ≤ 9
/-- What they say. -/
structure Nf where
  origin : Int
  path : List (Bool × List Int)
  next : Int
  med : Option Int
  loc : Option Int
  atomic : Bool
  maker : Option (Int × Int)
  comms : List Int
  others : List (Int × List Int)
deriving DecidableEq
def pN (p : List Sg) : List (Bool × List Int) := p.map fun s => (s.set, s.as_)
def oN (p : List Rw) : List (Int × List Int) := p.map fun r => (r.kind, r.data)
def At.nf (d : At) : Nf := ⟨d.origin, pN d.path, d.next, if d.hasMed then some d.med else none, if d.hasLocal then some d.loc else none, d.atomic, if d.hasMaker then some (d.makerAS, d.maker) else none, d.comms, oN d.others⟩
/-- The same with its memory elsewhere. -/
def At.at_ (c : At) (p : List Sg) (pa : Option Addr) (pc : Nat) (q : List Int) (ca : Option Addr) (cc : Nat) (o : List Rw) (oa : Option Addr) (oc : Nat) : At := { c with path := p, pa := pa, pc := pc, comms := q, ca := ca, cc := cc, others := o, oa := oa, oc := oc }
theorem At.at_nf (c : At) (p : List Sg) (pa : Option Addr) (pc : Nat) (q : List Int) (ca : Option Addr) (cc : Nat) (o : List Rw) (oa : Option Addr) (oc : Nat) (h1 : pN p = pN c.path) (h2 : q = c.comms) (h3 : oN o = oN c.others) : (c.at_ p pa pc q ca cc o oa oc).nf = c.nf := by
  subst h2
  simp only [At.nf, At.at_, h1, h3]
  rfl
theorem pN_len {p q : List Sg} (h : pN p = pN q) : p.length = q.length := by have := congrArg List.length h; simpa [pN] using this
theorem oN_len {p q : List Rw} (h : oN p = oN q) : p.length = q.length := by have := congrArg List.length h; simpa [oN] using this
theorem pN_num {p q : List Sg} (h : pN p = pN q) (hn : ∀ s ∈ q, SgN s) : ∀ s ∈ p, SgN s := by
  intro s hs
  have : (s.set, s.as_) ∈ pN q := h ▸ List.mem_map.2 ⟨s, hs, rfl⟩
  obtain ⟨t, ht, e⟩ := List.mem_map.1 this
  have e2 : t.as_ = s.as_ := congrArg Prod.snd e
  have := hn t ht
  unfold SgN at this ⊢
  rwa [e2] at this
theorem oN_num {p q : List Rw} (h : oN p = oN q) (hn : ∀ s ∈ q, RwN s) : ∀ s ∈ p, RwN s := by
  intro s hs
  have : (s.kind, s.data) ∈ oN q := h ▸ List.mem_map.2 ⟨s, hs, rfl⟩
  obtain ⟨t, ht, e⟩ := List.mem_map.1 this
  have e1 : t.kind = s.kind := congrArg Prod.fst e
  have e2 : t.data = s.data := congrArg Prod.snd e
  have := hn t ht
  unfold RwN at this ⊢
  rwa [e1, e2] at this
theorem At.at_num {c : At} (h : AtF c) (p : List Sg) (pa : Option Addr) (pc : Nat) (q : List Int) (ca : Option Addr) (cc : Nat) (o : List Rw) (oa : Option Addr) (oc : Nat) (h1 : pN p = pN c.path) (h2 : q = c.comms) (h3 : oN o = oN c.others) : AtF (c.at_ p pa pc q ca cc o oa oc) := by
  subst h2
  exact ⟨⟨h.num.origin, h.num.next, h.num.med, h.num.loc, h.num.makerAS, h.num.maker, pN_num h1 h.num.path, h.num.comms, oN_num h3 h.num.others⟩, (pN_len h1).symm ▸ h.path, h.comms, (oN_len h3).symm ▸ h.others⟩
theorem take_snoc {α : Type} {l : List α} {k : Nat} {x : α} (h : l[k]? = some x) : l.take (k + 1) = l.take k ++ [x] := by
  rw [List.take_add_one, h]; rfl
/-- Owned, only read from now on. -/
def CopyR (d : At) (v : Value) (L' : List HP) : Prop := ∃ d', AtF d' ∧ d'.nf = d.nf ∧ v = .agg (atC d').toArray ∧ L' = [has (fun w => AtV w d')]
end Go.Proofs.YtnhabkipjmgaaaaGreat
namespace Go.Pm
set_option linter.unusedSimpArgs false
set_option linter.unusedVariables false
open Go.RowKit
section
variable {P : Program} {n : Nat} {W : World} {K : Hl} {F : Fp} {k : List It} {tm : TM} {L L' R S M C : List HP} {T : TypeId} {pos : String} {af : Array Edge} {gd : Option (Nat × Bool)} {ops : Array Oper} {rest nx : List Oper} {d : Option Tmp}
def isMapT : TypeDesc → Bool
  | .map _ _ => true
  | _ => false
theorem run_eqM {t : TypeId} (ht : tyIs P t isMapT = true) (a : Option Nat) (w : World) : (Op.equal t (.map a) (.map none)).run P w = .ok a.isNone w := by
  obtain ⟨d, hd, hf⟩ := tyIs_spec ht
  cases d <;> simp [isMapT] at hf
  have key : ∀ m, (Op.equalIn (m + 1) t (.map a) (.map none)).run P w = .ok a.isNone w := fun m => by cases a <;> simp [Op.equalIn, Sem.run_bind, run_underlying hd]
  exact key 9999
theorem pe_neM {xt yt : TypeId} {x y : Operand} {a : Option Nat} (hx : evT tm x = some (.map a)) (hy : evT tm y = some (.map none)) (ht : tyIs P xt isMapT = true) : PE P K L ⟨d, .binOp .neq xt x y yt, T, pos, af, gd⟩ (tget tm) (.bool (decide (a ≠ none))) := pe_bin hx hy fun w => by
  cases a <;> simp [eqGuard, binOp, Sem.run_bind, run_eqM ht]
end
section
variable {κ : Type} [DecidableEq κ]
theorem mi_of {P : Program} {t key elem : TypeId} {kv : κ → Value} {zv : Value} (h1 : P.underlying t = some (.map key elem)) (hk : KeyOk P key kv) (h2 : (P.info? elem).bind (·.zero) = some zv) : MI P t kv zv := by
  rcases h : P.info? elem with _ | i
  · rw [h] at h2; cases h2
  · rw [h] at h2; exact ⟨key, elem, i, h1, hk, h, h2⟩
theorem aG_none {A : List (κ × Value)} {z : κ} (h : ∀ p ∈ A, p.1 ≠ z) : aG A z = none := by
  induction A with
  | nil => rfl
  | cons p A ih =>
    obtain ⟨x, v⟩ := p
    unfold aG
    rw [if_neg (h (x, v) (List.mem_cons_self ..))]
    exact ih fun q hq => h q (List.mem_cons_of_mem _ hq)
theorem aG_mid {A B : List (κ × Value)} {z : κ} {v : Value} (h : ∀ p ∈ A, p.1 ≠ z) : aG (A ++ (z, v) :: B) z = some v := by
  induction A with
  | nil => simp [aG]
  | cons p A ih =>
    obtain ⟨x, u⟩ := p
    show (if x = z then some u else aG (A ++ (z, v) :: B) z) = _
    rw [if_neg (h (x, u) (List.mem_cons_self ..))]
    exact ih fun q hq => h q (List.mem_cons_of_mem _ hq)
theorem aD_mid {A B : List (κ × Value)} {z : κ} {v : Value} (h : ∀ p ∈ A, p.1 ≠ z) : aD (A ++ (z, v) :: B) z = A ++ B := by
  induction A with
  | nil => simp [aD]
  | cons p A ih =>
    obtain ⟨x, u⟩ := p
    show (if x = z then A ++ (z, v) :: B else (x, u) :: aD (A ++ (z, v) :: B) z) = _
    rw [if_neg (h (x, u) (List.mem_cons_self ..)), ih fun q hq => h q (List.mem_cons_of_mem _ hq)]
    rfl
theorem aP_new {A : List (κ × Value)} {z : κ} {v : Value} (h : ∀ p ∈ A, p.1 ≠ z) : aP A z v = A ++ [(z, v)] := by
  induction A with
  | nil => rfl
  | cons p A ih =>
    obtain ⟨x, u⟩ := p
    show (if x = z then (x, v) :: A else (x, u) :: aP A z v) = _
    rw [if_neg (h (x, u) (List.mem_cons_self ..)), ih fun q hq => h q (List.mem_cons_of_mem _ hq)]
    rfl
end
/-- Take one part out of many, put it back. -/
theorem Ow.satsMid {α : Type} {f : α → HP} {A B : List α} {m : α} {W : World} {K : Hl} {L R : List HP} {w : World} (H : Ow W K L w) (t : Tk L (sats ((A ++ m :: B).map f)) R) : Ow W K (f m :: sats ((A ++ B).map f) :: R) w := by
  have h1 := H.flat t
  rw [List.map_append, List.map_cons] at h1
  have h2 : Ow W K ((A.map f ++ B.map f) ++ (f m :: R)) w := h1.perm (by
    refine List.Perm.trans (l₂ := f m :: ((A.map f ++ B.map f) ++ R)) ?_ ?_
    · simp
    · exact (List.perm_middle (a := f m) (l₁ := A.map f ++ B.map f) (l₂ := R)).symm)
  have h3 := h2.unflat (As := A.map f ++ B.map f) (Sb.all _ _)
  rw [List.map_append]
  exact h3.perm (.swap ..)
theorem Ow.satsBack {α : Type} {f : α → HP} {A B : List α} {m : α} {W : World} {K : Hl} {L R R' : List HP} {w : World} (H : Ow W K L w) (t1 : Tk L (f m) R) (t2 : Tk R (sats ((A ++ B).map f)) R') : Ow W K (sats ((A ++ m :: B).map f) :: R') w := by
  have h0 := H.perm (t1.perm.trans ((t2.perm.cons _).trans (.swap ..)))
  have h1 := h0.flat .here
  have h2 : Ow W K ((A ++ m :: B).map f ++ R') w := h1.perm (by
    rw [List.map_append, List.map_append, List.map_cons]
    refine List.Perm.trans (List.perm_middle (a := f m) (l₁ := A.map f ++ B.map f) (l₂ := R')) ?_
    have := (List.perm_middle (a := f m) (l₁ := A.map f) (l₂ := B.map f ++ R')).symm
    simpa using this)
  exact h2.unflat (Sb.all _ _)
end Go.Pm
namespace Go.Pm
set_option linter.unusedSimpArgs false
set_option linter.unusedVariables false
open Go.RowKit
section
variable {κ : Type} [DecidableEq κ] {kv : κ → Value}
variable {P : Program} {n : Nat} {W : World} {K : Hl} {F : Fp} {k : List It} {tm : TM} {L L' R S M M' : List HP} {T : TypeId} {pos : String} {af : Array Edge} {gd : Option (Nat × Bool)} {ops : Array Oper} {rest nx : List Oper} {d : Tmp}
omit [DecidableEq κ] in
theorem Rdw.mq {b : Nat} {es : List (κ × Value)} {w : World} (h : Rdw K L w) (t : Tk L (mq kv b es) R) : ∃ q, Pm.mq kv b es q ∧ q.inn w := h.tk t
end
end Go.Pm
namespace Go.Pm
set_option linter.unusedSimpArgs false
set_option linter.unusedVariables false
open Go.RowKit Go.Shelf Go.Lib Go.Sort
/-- What lies behind is blocks and answers drawn. -/
theorem only_grow {w w' : World} (h : Only [] w w') : ∃ q os, w' = grow (w.drewN q) os := by
  have hd := h.tape.drawn
  refine ⟨w'.drawn - w.drawn, w'.heap.extract w.heap.size w'.heap.size, ?_⟩
  have hh : w'.heap = w.heap ++ w'.heap.extract w.heap.size w'.heap.size := by
    apply Array.ext_getElem?
    intro k
    by_cases hk : k < w.heap.size
    · rw [Array.getElem?_append_left hk, h.block k hk (by simp)]
    · rw [Array.getElem?_append_right (by omega), Array.getElem?_extract]
      have hs := h.size
      by_cases hk2 : k < w'.heap.size
      · rw [if_pos (by omega)]
        congr 1
        omega
      · rw [if_neg (by omega), Array.getElem?_eq_none (by omega)]
  obtain ⟨h1, h2, h3, h4, h5⟩ := w'
  have e2 := h.tape.tape
  have e4 := h.os
  have e5 := h.output
  dsimp only at *
  unfold grow World.drewN
  dsimp only
  subst e2 e4 e5
  rw [show w.drawn + (h3 - w.drawn) = h3 by omega, ← hh]
theorem Kn.le {K K' : Hl} {φ : World → Prop} (h : Kn K φ) (l : K.le K') : Kn K' φ := fun w i => h w (l.inn i)
theorem Ow.allLe {W : World} {K : Hl} {L : List HP} {w : World} (H : Ow W K L w) : K.le (World.all w) := fun b x e => H.kn b x e
/-- A contract that takes nothing, anywhere. -/
theorem Pact.at {P : Program} {g : FuncId} {args : Array Value} {φ : World → Prop} {v : Value} (S : Pact P g args φ [] (fun u L' => u = v ∧ L' = [])) {W : World} {K : Hl} {L : List HP} {w : World} (H : Ow W K L w) (hK : Kn K φ) :
    Calls P g args w fun e w' => e = .returned v ∧ ∃ q os, w' = grow (w.drewN q) os :=
  (S w (World.all w) w (hK.le H.allLe) (Ow.start w)).mono fun e w' ⟨u, L', ⟨h1, h2⟩, h3, h4⟩ => by
    subst h1 h2
    exact ⟨h3, only_grow h4.fin⟩
theorem putCells_id (F : Array Value) (cur : List Value) (h : F.size ≤ cur.length) : putCells id 0 F cur.toArray = (F.toList ++ cur.drop F.size).toArray := by
  apply Array.ext_getElem?
  intro k
  unfold putCells
  simp only [Array.getElem?_mapIdx, List.getElem?_toArray, Nat.zero_le, true_and, Nat.zero_add, Nat.sub_zero, id]
  by_cases hk : k < F.size
  · rw [List.getElem?_append_left (by simpa using hk), List.getElem?_eq_getElem (by omega)]
    simp [hk]
  · rw [List.getElem?_append_right (by simpa using hk)]
    simp only [Array.length_toList, List.getElem?_drop]
    rw [show F.size + (k - F.size) = k by omega]
    cases cur[k]? <;> simp [hk]
theorem Ow.putRow {W : World} {K : Hl} {R : List HP} {w : World} {g m : Nat} {cur : List Value} {e : TypeId} (H : Ow W K (pts g cur e :: R) w) (F : Array Value) (hF : F.size ≤ cur.length) (os : Array Obj) : Ow W K (pts g (F.toList ++ cur.drop F.size) e :: R) (grow (Sort.putRow id (Sort.ahead w m) g 0 F) os) := by
  have hb : Blk w g cur.toArray e := H.blk .here
  have hl := hb.lt
  have hbo : w.heap[g]? = some (.cells cur.toArray e (0, 0)) := hb
  have hh : (grow (Sort.putRow id (Sort.ahead w m) g 0 F) os).heap = w.heap.modify g (onCells (putCells id 0 F)) ++ os := rfl
  refine Ow.change H rfl ⟨rfl, Nat.le_add_right _ _⟩ rfl (by rw [hh]; simp) (fun h hA hi => ?_)
  have hA' : h = Hl.one g (.cells cur.toArray e (0, 0)) := hA
  subst hA'
  refine ⟨⟨Hl.one g (.cells (F.toList ++ cur.drop F.size).toArray e (0, 0)), rfl, fun c o eo => ?_, fun c hc => .inl ?_⟩, fun c hc hn => ?_⟩
  · unfold Hl.one at eo
    split at eo
    · rename_i hcg; subst hcg; cases eo
      rw [hh, Array.getElem?_append_left (by simpa using hl), Array.getElem?_modify, if_pos rfl, hbo]
      simp only [Option.map_some, onCells, putCells_id F cur hF]
    · cases eo
  · unfold Hl.one at hc ⊢
    split at hc <;> simp_all
  · have hcg : g ≠ c := fun e => by subst e; simp [Hl.one] at hn
    rw [hh, Array.getElem?_append_left (by simpa using hc), Array.getElem?_modify, if_neg hcg]
section
variable {P : Program} {ρ : Ren}
end
end Go.Pm
namespace Go.Pm
set_option linter.unusedSimpArgs false
set_option linter.unusedVariables false
open Go.RowKit Go.Shelf Go.Lib Go.Sort
theorem flatK_flat {α : Type} [Inhabited α] (enc : α → List Value) (k : Nat) (hk : ∀ x, (enc x).length = k) (l : List α) : (flatK enc k l.toArray).toList = flat enc l := by
  apply List.ext_getElem?
  intro t
  have hfl := flat_length hk l
  by_cases ht : t < l.length * k
  · have hk0 : 0 < k := by
      rcases Nat.eq_zero_or_pos k with h | h
      · subst h; simp at ht
      · exact h
    have hq : t / k < l.length := (Nat.div_lt_iff_lt_mul hk0).2 ht
    have hr : t % k < k := Nat.mod_lt _ hk0
    have e1 : (flatK enc k l.toArray).toList[t]? = some (flatK enc k l.toArray)[t]! := by
      rw [Array.getElem?_toList, Array.getElem?_eq_getElem (by simpa using ht), getElem!_pos (flatK enc k l.toArray) t (by simpa using ht)]
    rw [e1, get_flatK _ _ _ _ (by simpa using ht)]
    have e2 : l.toArray[t / k]! = l[t / k] := by rw [getElem!_pos l.toArray (t / k) (by simpa using hq)]; simp
    rw [e2]
    have e3 : (flat enc l)[t]? = some ((enc l[t / k])[t % k]!) := by
      have h1 : l = l.take (t / k) ++ l[t / k] :: l.drop (t / k + 1) := by rw [List.getElem_cons_drop]; exact (List.take_append_drop _ _).symm
      have h2 : flat enc l = flat enc (l.take (t / k)) ++ (enc l[t / k] ++ flat enc (l.drop (t / k + 1))) := by
        conv => lhs; rw [h1]
        rw [flat_append]
        rfl
      have h3 : (flat enc (l.take (t / k))).length = t / k * k := by rw [flat_length hk, List.length_take]; congr 1; omega
      have h4 : t = t / k * k + t % k := by have := Nat.div_add_mod t k; rw [Nat.mul_comm] at this; exact this.symm
      have h5 : t - t / k * k = t % k := by omega
      rw [h2, List.getElem?_append_right (by omega), h3, h5, List.getElem?_append_left (by rw [hk]; exact hr), List.getElem?_eq_getElem (by rw [hk]; exact hr), getElem!_pos (enc l[t / k]) (t % k) (by rw [hk]; exact hr)]
    exact e3.symm
  · rw [List.getElem?_eq_none (by rw [Array.length_toList, size_flatK]; simp; omega), List.getElem?_eq_none (by rw [hfl]; omega)]
section
variable {P : Program} {ρ : Ren} {α : Type} [Inhabited α]
/-- A sort of structs, under a comparison that is a total order. -/
theorem sortS (L : Go.Proofs.SlLaysF0.n6 P ρ) (k : Nat) (hk0 : 0 < k) (aE : ∀ w, (isAgg (ρ.t 24)).run P w = .ok true w) (zE : ∀ w, (Go.sizeOf (ρ.t 24)).run P w = .ok k w) (e : TypeId) (enc : α → List Value) (hk : ∀ x, (enc x).length = k) (h1 : ∀ x, ∀ v ∈ enc x, v.oneCell' = true) (cf : α → α → Int) (hO : SWO (Go.Proofs.ltOf cf)) (hT : ∀ x y, (Go.Proofs.ltOf cf) x y = false → (Go.Proofs.ltOf cf) y x = false → x = y) (g : Nat) (cb : Array Value) (hown : ownB P g = true) {φ : World → Prop}
    (hc : ∀ x y, Pact P g (#[.agg (enc x).toArray, .agg (enc y).toArray] ++ cb) φ [] (fun u L' => u = .int .i64 (cf x y) ∧ L' = [])) (a : Option Addr) (c : Nat) (l : List α) (hl : l.length < 4611686018427387904) :
    Pact P (ρ.f 6) #[.slice a l.length c, .func (.func g) #[] cb] φ [Ar e k enc (.slice a l.length c) l] (fun u L' => u = .tuple #[] ∧ L' = [Ar e k enc (.slice a l.length c) (l.mergeSort fun x y => !(Go.Proofs.ltOf cf) y x)]) := by
  intro W K w hK H
  by_cases h0 : l.length = 0
  · have hl0 := List.eq_nil_of_length_eq_zero h0
    subst hl0
    exact (Go.Proofs.AnyF.slices_SortFunc_none L a c _ w).mono fun e' w' ⟨h1, h2⟩ => by
      subst h2
      exact ⟨_, _, ⟨rfl, rfl⟩, h1, by simpa using H⟩
  · obtain ⟨gb, cur, rfl, H1, hcl, hct, hnc, hcm⟩ := H.slOpen (R := []) (by exact .here) h0
    have hflat := flatK_flat enc k hk l
    have hfs : (flatK enc k l.toArray).size = l.length * k := by simp
    have hH : HoldsK enc k w gb 0 l.toArray := fun j hj => by
      have hj' : j < l.length * k := by simpa using hj
      have hb : Blk w gb cur.toArray e := H1.blk .here
      have hg : cur[j]? = some (flatK enc k l.toArray)[j]! := by
        have h2 := congrArg (·[j]?) hct
        simp only [List.getElem?_take] at h2
        rw [if_pos hj'] at h2
        rw [h2, ← hflat, Array.getElem?_toList, Array.getElem?_eq_getElem hj, getElem!_pos (flatK enc k l.toArray) j hj]
      refine ⟨?_, ?_⟩
      · rw [Nat.zero_add]
        exact (hb.cell j).trans (by simpa using hg)
      · exact hb.free _
    have hlt : gb < w.heap.size := (H1.blk .here : Blk w gb cur.toArray e).lt
    have hbd : l.length * k ≤ cur.length := by rw [hcl]; exact Nat.mul_le_mul_right _ hnc
    have hcmp : Go.Proofs.CmpLays P g cb enc k cf gb 0 l.toArray.size w := fun m os dk hs x y => by
      have H2 := Ow.putRow (m := m) H1 (flatK enc k dk) (by simp at hs ⊢; rw [hs]; exact hbd) os
      exact Pact.at (hc x y) H2 hK
    have hcall := Go.Proofs.AnyQ.slices_SortFunc_total L k aE zE enc hk h1 cf hO g cb gb 0 c l.toArray w (fun args w => run_own hown args w) hcmp hH hlt (by simpa using hl) hT
    have e1 : l.toArray.size = l.length := by simp
    rw [e1] at hcall
    refine hcall.mono fun e' w' ⟨h1, n, os, h2⟩ => ?_
    refine ⟨_, _, ⟨rfl, rfl⟩, h1, ?_⟩
    rw [h2]
    have hms : (l.mergeSort fun x y => !(Go.Proofs.ltOf cf) y x).length = l.length := List.length_mergeSort _
    have H2 := Ow.putRow (m := n) H1 (flatK enc k (l.mergeSort fun x y => !(Go.Proofs.ltOf cf) y x).toArray) (by simp; exact hbd) os
    show Ow W K (Sl e k _ _ _ :: []) _
    rw [hms]
    have hfl2 := flatK_flat enc k hk (l.mergeSort fun x y => !(Go.Proofs.ltOf cf) y x)
    refine Ow.slShut H2 .here ?_ ?_ hnc hcm
    · simp; omega
    · rw [hfl2]
      have hlen : (flat enc (l.mergeSort fun x y => !(Go.Proofs.ltOf cf) y x)).length = l.length * k := by rw [flat_length hk, hms]
      rw [List.take_append_of_le_length (by omega), List.take_of_length_le (by omega)]
end
end Go.Pm
namespace Go.Proofs.YtnhabkipjmgaaaaGreat
set_option linter.unusedSimpArgs false
set_option linter.unusedVariables false
set_option maxRecDepth 20000
set_option maxHeartbeats 4000000
open Go.RowKit Go.Pm Go.Sort Go.Shelf

def sortLays_ren : Go.Shelf.Ren := ⟨fun | 6 => 42 | 15 => 76 | 14 => 75 | 28 => 104 | 29 => 105 | 20 => 96 | 21 => 97 | 22 => 98 | 23 => 99 | 24 => 100 | 25 => 101 | 26 => 102 | 27 => 103 | 46 => 125 | 47 => 126 | 48 => 127 | 49 => 128 | 50 => 129 | 57 => 142 | n => n, fun | 22 => 22 | 24 => 41 | 25 => 91 | 3 => 3 | 39 => 125 | 0 => 0 | 53 => 24 | 55 => 78 | 4 => 4 | 46 => 151 | 45 => 150 | 50 => 119 | 5 => 5 | 9 => 9 | 66 => 185 | 70 => 189 | 76 => 202 | 77 => 203 | n => n, fun | n => n⟩
theorem sortLays : Go.Proofs.SlLaysF0.n6 Tryz.prog sortLays_ren := {
  mixed := by kernel_rfl
  f6 := ⟨ "slices.SortFunc[[]pointsman/api.Prefix,pointsman/api.Prefix]", by decide, Tryz.func42.trans (congrArg some (by kernel_rfl))⟩
  f14 := ⟨ "slices.pdqsortCmpFunc[pointsman/api.Prefix]", by decide, Tryz.func75.trans (congrArg some (by kernel_rfl))⟩
  f15 := Tryz.func76.trans (congrArg some (by kernel_rfl))
  f20 := ⟨ "slices.insertionSortCmpFunc[pointsman/api.Prefix]", by decide, Tryz.func96.trans (congrArg some (by kernel_rfl))⟩
  f21 := ⟨ "slices.heapSortCmpFunc[pointsman/api.Prefix]", by decide, Tryz.func97.trans (congrArg some (by kernel_rfl))⟩
  f22 := ⟨ "slices.breakPatternsCmpFunc[pointsman/api.Prefix]", by decide, Tryz.func98.trans (congrArg some (by kernel_rfl))⟩
  f23 := ⟨ "slices.choosePivotCmpFunc[pointsman/api.Prefix]", by decide, Tryz.func99.trans (congrArg some (by kernel_rfl))⟩
  f24 := ⟨ "slices.reverseRangeCmpFunc[pointsman/api.Prefix]", by decide, Tryz.func100.trans (congrArg some (by kernel_rfl))⟩
  f25 := ⟨ "slices.partialInsertionSortCmpFunc[pointsman/api.Prefix]", by decide, Tryz.func101.trans (congrArg some (by kernel_rfl))⟩
  f26 := ⟨ "slices.partitionEqualCmpFunc[pointsman/api.Prefix]", by decide, Tryz.func102.trans (congrArg some (by kernel_rfl))⟩
  f27 := ⟨ "slices.partitionCmpFunc[pointsman/api.Prefix]", by decide, Tryz.func103.trans (congrArg some (by kernel_rfl))⟩
  f28 := Tryz.func104.trans (congrArg some (by kernel_rfl))
  f29 := Tryz.func105.trans (congrArg some (by kernel_rfl))
  f46 := ⟨ "slices.siftDownCmpFunc[pointsman/api.Prefix]", by decide, Tryz.func125.trans (congrArg some (by kernel_rfl))⟩
  f47 := Tryz.func126.trans (congrArg some (by kernel_rfl))
  f48 := Tryz.func127.trans (congrArg some (by kernel_rfl))
  f49 := ⟨ "slices.medianAdjacentCmpFunc[pointsman/api.Prefix]", by decide, Tryz.func128.trans (congrArg some (by kernel_rfl))⟩
  f50 := ⟨ "slices.medianCmpFunc[pointsman/api.Prefix]", by decide, Tryz.func129.trans (congrArg some (by kernel_rfl))⟩
  f57 := ⟨ "slices.order2CmpFunc[pointsman/api.Prefix]", by decide, Tryz.func142.trans (congrArg some (by kernel_rfl))⟩
  t0 := Tryz.underlying0
  a0 := Tryz.isAgg0
  z0 := Tryz.sizeOf0
  v0 := Tryz.zeroValue0
  t3 := Tryz.underlying3
  a3 := Tryz.isAgg3
  z3 := Tryz.sizeOf3
  v3 := Tryz.zeroValue3
  t4 := Tryz.underlying4
  a4 := Tryz.isAgg4
  z4 := Tryz.sizeOf4
  v4 := Tryz.zeroValue4
  t5 := Tryz.underlying5
  a5 := Tryz.isAgg5
  z5 := Tryz.sizeOf5
  v5 := Tryz.zeroValue5
  t9 := Tryz.underlying9
  a9 := Tryz.isAgg9
  z9 := Tryz.sizeOf9
  v9 := Tryz.zeroValue9
  t22 := Tryz.underlying22
  a22 := Tryz.isAgg22
  z22 := Tryz.sizeOf22
  v22 := Tryz.zeroValue22
  t25 := Tryz.underlying91
  a25 := Tryz.isAgg91
  z25 := Tryz.sizeOf91
  v25 := Tryz.zeroValue91
  t39 := Tryz.underlying125
  a39 := Tryz.isAgg125
  z39 := Tryz.sizeOf125
  v39 := Tryz.zeroValue125
  t45 := Tryz.underlying150
  a45 := Tryz.isAgg150
  z45 := Tryz.sizeOf150
  v45 := Tryz.zeroValue150
  t46 := Tryz.underlying151
  a46 := Tryz.isAgg151
  z46 := Tryz.sizeOf151
  v46 := Tryz.zeroValue151
  t50 := Tryz.underlying119
  a50 := Tryz.isAgg119
  z50 := Tryz.sizeOf119
  v50 := Tryz.zeroValue119
  t53 := Tryz.underlying24
  a53 := Tryz.isAgg24
  z53 := Tryz.sizeOf24
  v53 := Tryz.zeroValue24
  t55 := Tryz.underlying78
  a55 := Tryz.isAgg78
  z55 := Tryz.sizeOf78
  v55 := Tryz.zeroValue78
  t66 := Tryz.underlying185
  a66 := Tryz.isAgg185
  z66 := Tryz.sizeOf185
  v66 := Tryz.zeroValue185
  t70 := Tryz.underlying189
  a70 := Tryz.isAgg189
  z70 := Tryz.sizeOf189
  v70 := Tryz.zeroValue189
  t76 := Tryz.underlying202
  a76 := Tryz.isAgg202
  z76 := Tryz.sizeOf202
  v76 := Tryz.zeroValue202
  t77 := Tryz.underlying203
  a77 := Tryz.isAgg203
  z77 := Tryz.sizeOf203
  v77 := Tryz.zeroValue203 }

open T (Pf PfN Rt Ah pfC)
def cmpP (p q : Pf) : Int := if p = q then 0 else if Ah p q then -1 else 1
theorem ltP (p q : Pf) : Go.Proofs.ltOf cmpP p q = decide (Ah p q) := by
  unfold Go.Proofs.ltOf cmpP
  rw [Bool.eq_iff_iff]
  simp only [decide_eq_true_eq]
  by_cases h : p = q
  · subst h
    simp [T.Ah.irrefl]
  · rw [if_neg h]
    by_cases ha : Ah p q <;> simp [ha]
theorem compare_s (p q : Pf) : Pact Tryz.prog 43 #[.agg (pfC p).toArray, .agg (pfC q).toArray] (fun _ => True) [] (ret0 (.int .i64 (cmpP p q))) := by
  refine pact Tryz.func43 rfl Tryz.ntmps43 rfl ?_
  intro W K _
  have ha := T.ahead_s p q
  by_cases h : p.1 = q.1 ∧ p.2 = q.2
  · obtain rfl : p = q := Prod.ext h.1 h.2
    have e : cmpP p p = 0 := if_pos rfl
    rw [e]
    (repeat' (first | ((with_reducible apply gL); (first | refine yL0 ?_ | refine yL ?_ | (refine yM ?_; intro _) | fail)) | refine yJ ?_ | ((with_reducible apply gJ_if); (first | (refine J_if xR ?_ ?_ <;> intro _ <;> (try (exfalso; first | contradiction | omega))) | (refine J_ifb xR ?_ ?_ <;> (intro hgb; subst hgb)) | (refine J_ifb xR ?_ ?_ <;> intro _) | fail)) | fail))
    all_goals (first | (exfalso; simp_all; done) | skip)
    all_goals exact J_ret1 rfl (by rfl) fun w H => ⟨_, ⟨rfl, rfl⟩, H.sel .nil⟩
  · have hne : p ≠ q := fun e => h ⟨by rw [e], by rw [e]⟩
    rcases hb : decide (Ah p q) with _ | _
    · have e : cmpP p q = 1 := by unfold cmpP; rw [if_neg hne, if_neg (of_decide_eq_false hb)]
      rw [e]
      rw [hb] at ha
      (repeat' (first | ((with_reducible apply gL); (first | refine yL0 ?_ | refine yL ?_ | ((with_reducible apply gL_go); (first | (refine JL_goq (ha) (hφ := xF) (h := ?_); rintro _ _ ⟨rfl, rfl⟩; try simp only [List.cons_append, List.nil_append]) | fail)) | (refine yM ?_; intro _) | fail)) | refine yJ ?_ | ((with_reducible apply gJ_if); (first | (refine J_if xR ?_ ?_ <;> intro _ <;> (try (exfalso; first | contradiction | omega))) | (refine J_ifb xR ?_ ?_ <;> (intro hgb; subst hgb)) | (refine J_ifb xR ?_ ?_ <;> intro _) | fail)) | fail))
      all_goals exact J_ret1 rfl (by rfl) fun w H => ⟨_, ⟨rfl, rfl⟩, H.sel .nil⟩
    · have e : cmpP p q = -1 := by unfold cmpP; rw [if_neg hne, if_pos (of_decide_eq_true hb)]
      rw [e]
      rw [hb] at ha
      (repeat' (first | ((with_reducible apply gL); (first | refine yL0 ?_ | refine yL ?_ | ((with_reducible apply gL_go); (first | (refine JL_goq (ha) (hφ := xF) (h := ?_); rintro _ _ ⟨rfl, rfl⟩; try simp only [List.cons_append, List.nil_append]) | fail)) | (refine yM ?_; intro _) | fail)) | refine yJ ?_ | ((with_reducible apply gJ_if); (first | (refine J_if xR ?_ ?_ <;> intro _ <;> (try (exfalso; first | contradiction | omega))) | (refine J_ifb xR ?_ ?_ <;> (intro hgb; subst hgb)) | (refine J_ifb xR ?_ ?_ <;> intro _) | fail)) | fail))
      all_goals exact J_ret1 rfl (by rfl) fun w H => ⟨_, ⟨rfl, rfl⟩, H.sel .nil⟩
theorem swoP : SWO (Go.Proofs.ltOf cmpP) where
  irrefl x := by rw [ltP]; exact decide_eq_false T.Ah.irrefl
  trans x y z h1 h2 := by rw [ltP] at *; exact decide_eq_true ((of_decide_eq_true h1).trans (of_decide_eq_true h2))
  ntrans x y z h1 h2 := by
    rw [ltP] at *
    have a := of_decide_eq_false h1
    have b := of_decide_eq_false h2
    refine decide_eq_false fun c => ?_
    unfold Ah at *
    omega
theorem totP (x y : Pf) (h1 : Go.Proofs.ltOf cmpP x y = false) (h2 : Go.Proofs.ltOf cmpP y x = false) : x = y := by
  rw [ltP] at *
  have a := of_decide_eq_false h1
  have b := of_decide_eq_false h2
  by_cases h : x = y
  · exact h
  · exact absurd (T.Ah.total a h) b
def srtP (l : List Pf) : List Pf := l.mergeSort fun x y => !(Go.Proofs.ltOf cmpP) y x
theorem sort_s (a : Option Addr) (c n : Nat) (l : List Pf) (hn : l.length = n) (hl : n < 4611686018427387904) : Pact Tryz.prog 42 #[.slice a n c, .func (.func 43) #[] #[]] (fun _ => True) [Ar 41 2 pfC (.slice a n c) l] (fun u L' => u = .tuple #[] ∧ L' = [Ar 41 2 pfC (.slice a n c) (srtP l)]) := by
  subst hn
  exact sortS sortLays 2 (by decide) (fun w => Tryz.isAgg41 w) (fun w => Tryz.sizeOf41 w) 41 pfC (fun _ => rfl) (fun x v hv => by
    simp only [pfC, List.mem_cons, List.not_mem_nil, or_false] at hv
    rcases hv with rfl | rfl <;> rfl) cmpP swoP totP 43 #[] (by decide +kernel) (fun x y => compare_s x y) a c l hl
theorem srtP_perm (l : List Pf) : (srtP l).Perm l := List.mergeSort_perm l _
theorem srtP_len (l : List Pf) : (srtP l).length = l.length := List.length_mergeSort _
theorem srtP_srt (l : List Pf) : (srtP l).Pairwise fun x y => ¬ Ah y x := by
  have tr : ∀ a b c : Pf, (!(Go.Proofs.ltOf cmpP) b a) = true → (!(Go.Proofs.ltOf cmpP) c b) = true → (!(Go.Proofs.ltOf cmpP) c a) = true := fun a b c h1 h2 => by
    simp only [Bool.not_eq_true'] at *
    exact swoP.ntrans c b a h2 h1
  have to : ∀ a b : Pf, ((!(Go.Proofs.ltOf cmpP) b a) || (!(Go.Proofs.ltOf cmpP) a b)) = true := fun a b => by
    rw [ltP, ltP]
    simp only [Bool.or_eq_true, Bool.not_eq_true', decide_eq_false_iff_not]
    unfold Ah
    omega
  refine (List.pairwise_mergeSort tr to l).imp fun {a b} h => ?_
  rw [ltP] at h
  simpa using h
theorem clone_p (a : Option Addr) (c : Nat) (l : List Pf) (hl : l.length ≤ 1000000) : Pact Tryz.prog 65 #[.slice a l.length c] (fun w => Vw w (.slice a l.length c) 2 l.length (flat pfC l)) [] (fun u L' => ∃ a c, u = .slice a l.length c ∧ L' = [Ar 41 2 pfC (.slice a l.length c) l]) := by
  refine pact Tryz.func65 rfl Tryz.ntmps65 rfl ?_
  intro W K hK
  cases a with
  | none =>
    refine J_fact (φ := l = []) (fun w H => ?_) ?_
    · obtain ⟨a', c', he, _, _, _, h4, _⟩ := hK.of H
      cases he
      exact List.eq_nil_of_length_eq_zero (h4 rfl).1
    · rintro rfl
      (repeat' (first | ((with_reducible apply gL); (first | refine yL0 ?_ | refine yL ?_ | (refine yM ?_; intro _) | (refine yA ?_; intro _ _ _ _) | fail)) | refine yJ ?_ | ((with_reducible apply gJ_if); (first | (refine J_if xR ?_ ?_ <;> intro _ <;> (try (exfalso; first | contradiction | omega))) | (refine J_ifb xR ?_ ?_ <;> (intro hgb; subst hgb)) | (refine J_ifb xR ?_ ?_ <;> intro _) | fail)) | fail))
      exact J_ret1 rfl (by rfl) fun w H => ⟨_, ⟨none, 0, rfl, rfl⟩, (Ow.arNil (e := 41) (sz := 2) (enc := pfC) H).sel xZ⟩
  | some p =>
    (repeat' (first | ((with_reducible apply gL); (first | refine yL0 ?_ | ((with_reducible apply gL_c_append); (first | (refine JL_appL pfC (fs := l) (tabE etab_ok xR) xR xR xA (Src.kn hK) xC xL (all_one _ (by intro _ _; rfl)) (by omega) xR xR ?_; intro ad c2 _ _) | fail)) | refine yL ?_ | (refine yM ?_; intro _) | (refine yA ?_; intro _ _ _ _) | fail)) | refine yJ ?_ | ((with_reducible apply gJ_if); (first | (refine J_if xR ?_ ?_ <;> intro _ <;> (try (exfalso; first | contradiction | omega))) | (refine J_ifb xR ?_ ?_ <;> (intro hgb; subst hgb)) | (refine J_ifb xR ?_ ?_ <;> intro _) | fail)) | fail))
    exact J_ret1 rfl (by rfl) fun w H => ⟨_, ⟨ad, c2, rfl, rfl⟩, H.sel xZ⟩
end Go.Proofs.YtnhabkipjmgaaaaGreat
namespace Go.Proofs.YtnhabkipjmgaaaaGreat
set_option linter.unusedSimpArgs false
set_option linter.unusedVariables false
set_option maxRecDepth 20000
set_option maxHeartbeats 4000000
open Go.RowKit Go.Pm

open T (Pf PfN Rt Ah pfC)
/-- A test of prefixes, that reads a part and leaves it. -/
def TstP (F : FuncId) (caps : List Value) (q : Pf → Bool) (φ : World → Prop) (A : HP) : Prop := ownB Tryz.prog F = true ∧ ∀ p, PfN p → Pact Tryz.prog F (.agg (pfC p).toArray :: caps).toArray φ [A] (fun u L' => u = .bool (q p) ∧ L' = [A])
def idxP (q : Pf → Bool) : List Pf → Nat → Int
  | [], _ => -1
  | o :: r, k => if q o then k else idxP q r (k + 1)
theorem idxP_drop (q : Pf → Bool) {es : List Pf} {k : Nat} {o : Pf} (h : es[k]? = some o) : idxP q (es.drop k) k = if q o then (k : Int) else idxP q (es.drop (k + 1)) (k + 1) := by
  obtain ⟨hk, rfl⟩ := List.getElem?_eq_some_iff.1 h
  rw [List.drop_eq_getElem_cons hk]; rfl
def keepP (q : Pf → Bool) (es : List Pf) : List Pf := es.filter (fun o => !q o)
theorem keepP_snoc (q : Pf → Bool) {es : List Pf} {j : Nat} {o : Pf} (h : es[j]? = some o) : keepP q (es.take (j + 1)) = keepP q (es.take j) ++ (if q o then [] else [o]) := by
  rw [take_snoc h]
  unfold keepP
  rw [List.filter_append]
  congr 1
  cases hD : q o <;> simp [List.filter_cons, hD]
theorem keepP_len (q : Pf → Bool) (es : List Pf) : (keepP q es).length ≤ es.length := List.length_filter_le _ _
theorem idxP_none (q : Pf → Bool) : ∀ (es : List Pf) (k : Nat), idxP q es k = -1 → keepP q es = es
  | [], _, _ => rfl
  | o :: r, k, h => by
    unfold idxP at h
    cases hD : q o
    · rw [hD] at h
      have := idxP_none q r (k + 1) h
      unfold keepP at this ⊢
      simp [List.filter_cons, hD, this]
    · rw [hD] at h; simp at h
theorem idxP_some (q : Pf → Bool) : ∀ (es : List Pf) (k : Nat), idxP q es k ≠ -1 → ∃ i, ∃ (hi : i < es.length), idxP q es k = (k : Int) + i ∧ q es[i] = true ∧ keepP q (es.take i) = es.take i
  | [], k, h => (h rfl).elim
  | o :: r, k, h => by
    cases hD : q o
    · have he : idxP q (o :: r) k = idxP q r (k + 1) := by show (if q o then _ else _) = _; rw [hD]; rfl
      rw [he] at h
      obtain ⟨i, hi, h1, h2, h3⟩ := idxP_some q r (k + 1) h
      refine ⟨i + 1, by simp; exact hi, by rw [he, h1]; omega, by simpa using h2, ?_⟩
      unfold keepP at h3 ⊢
      simp [List.filter_cons, hD, h3]
    · refine ⟨0, by simp, ?_, by simpa using hD, rfl⟩
      show (if q o then _ else _) = _
      rw [hD]; simp
theorem index_p (a : Option Addr) (c : Nat) (es : List Pf) (F : FuncId) (caps : List Value) (q : Pf → Bool) (φ : World → Prop) (A : HP) (hT : TstP F caps q φ A) (hn : ∀ o ∈ es, PfN o) (hl : es.length ≤ 1000000) :
    Pact Tryz.prog 90 #[.slice a es.length c, .func (.func F) #[] caps.toArray] (fun w => Vw w (.slice a es.length c) 2 es.length (flat pfC es) ∧ φ w) [A] (fun u L' => u = .int .i64 (idxP q es 0) ∧ L' = [A]) := by
  have ho := hT.1
  refine pact Tryz.func90 rfl Tryz.ntmps90 rfl ?_
  intro W K hK
  have hv := hK.left
  (repeat' (first | ((with_reducible apply gL); (first | refine yL0 ?_ | refine yL ?_ | fail)) | refine yJ ?_ | ((with_reducible apply gJ_if); (first | (refine J_if xR ?_ ?_ <;> intro _ <;> (try (exfalso; first | contradiction | omega))) | (refine J_ifb xR ?_ ?_ <;> (intro hgb; subst hgb)) | (refine J_ifb xR ?_ ?_ <;> intro _) | fail)) | fail))
  refine J_loop (α := Nat) 0 (fun k => es.length - k) (fun k => k ≤ es.length ∧ idxP q es 0 = idxP q (es.drop k) k) (fun k => [(0, .slice a es.length c), (1, .func (.func F) #[] caps.toArray), (7, .int .i64 es.length), (8, .int .i64 k)]) (fun _ => [A]) ⟨Nat.zero_le _, rfl⟩ ⟨rfl, rfl, rfl, rfl, trivial⟩ (fun w H => H) ?_
  rintro k ⟨hk, he⟩
  by_cases hlt : k < es.length
  · obtain ⟨o, hs⟩ : ∃ o, es[k]? = some o := ⟨_, List.getElem?_eq_getElem hlt⟩
    have hm := List.mem_of_getElem? hs
    rw [idxP_drop q hs] at he
    have ht := hT.2 o (hn o hm)
    rcases hqo : q o with _ | _
    · rw [hqo] at ht he
      (repeat' (first | ((with_reducible apply gL); (first | refine yL0 ?_ | refine yL ?_ | ((with_reducible apply gL_go); (first | (refine JL_goq (ht) (hφ := (by (try simp only [List.cons_append, List.nil_append]); exact fun w hr => (hK w hr.1).2)) (h := ?_); rintro _ _ ⟨rfl, rfl⟩; try simp only [List.cons_append, List.nil_append]) | fail)) | fail)) | refine yJ ?_ | ((with_reducible apply gJ_if); (first | (refine J_if xR ?_ ?_ <;> intro _ <;> (try (exfalso; first | contradiction | omega))) | (refine J_ifb xR ?_ ?_ <;> (intro hgb; subst hgb)) | (refine J_ifb xR ?_ ?_ <;> intro _) | fail)) | fail))
      exact J_again (k + 1) (by omega) ⟨by omega, he⟩ ⟨rfl, rfl, rfl, rfl, trivial⟩ (fun w H => H.sel xZ)
    · rw [hqo] at ht he
      (repeat' (first | ((with_reducible apply gL); (first | refine yL0 ?_ | refine yL ?_ | ((with_reducible apply gL_go); (first | (refine JL_goq (ht) (hφ := (by (try simp only [List.cons_append, List.nil_append]); exact fun w hr => (hK w hr.1).2)) (h := ?_); rintro _ _ ⟨rfl, rfl⟩; try simp only [List.cons_append, List.nil_append]) | fail)) | fail)) | refine yJ ?_ | ((with_reducible apply gJ_if); (first | (refine J_if xR ?_ ?_ <;> intro _ <;> (try (exfalso; first | contradiction | omega))) | (refine J_ifb xR ?_ ?_ <;> (intro hgb; subst hgb)) | (refine J_ifb xR ?_ ?_ <;> intro _) | fail)) | fail))
      exact J_ret1 rfl (by rfl) fun w H => ⟨_, ⟨by rw [he]; rfl, rfl⟩, H.sel xZ⟩
  · obtain rfl : k = es.length := by omega
    (repeat' (first | ((with_reducible apply gL); (first | refine yL0 ?_ | refine yL ?_ | fail)) | refine yJ ?_ | ((with_reducible apply gJ_if); (first | (refine J_if xR ?_ ?_ <;> intro _ <;> (try (exfalso; first | contradiction | omega))) | (refine J_ifb xR ?_ ?_ <;> (intro hgb; subst hgb)) | (refine J_ifb xR ?_ ?_ <;> intro _) | fail)) | fail))
    refine J_ret1 rfl (by rfl) fun w H => ⟨_, ⟨?_, rfl⟩, H.sel xZ⟩
    rw [he, List.drop_length]; rfl
def DelR (A : HP) (q : Pf → Bool) (es : List Pf) (v : Value) (L' : List HP) : Prop := ∃ a' c', v = .slice a' (keepP q es).length c' ∧ L' = [A, Ar 41 2 pfC (.slice a' (keepP q es).length c') (keepP q es)]
structure Lp where
  j : Nat
  xs : List Pf
theorem delete_p (a : Option Addr) (c : Nat) (es : List Pf) (F : FuncId) (caps : List Value) (q : Pf → Bool) (φ : World → Prop) (A : HP) (hT : TstP F caps q φ A) (hn : ∀ o ∈ es, PfN o) (hl : es.length ≤ 1000000) :
    Pact Tryz.prog 64 #[.slice a es.length c, .func (.func F) #[] caps.toArray] φ [A, Ar 41 2 pfC (.slice a es.length c) es] (DelR A q es) := by
  have ho := hT.1
  refine pact Tryz.func64 rfl Tryz.ntmps64 rfl ?_
  intro W K hK
  refine J_fact (φ := es.length ≤ c ∧ c ≤ maxLen) (fun w H => (H.arShape (.there .here)).2) ?_
  rintro ⟨hnc, hcm⟩
  unfold maxLen at hcm
  by_cases hi : idxP q es 0 = -1
  · (repeat' (first | ((with_reducible apply gL); (first | refine yL0 ?_ | refine yL ?_ | ((with_reducible apply gL_go); (first | (refine JL_goq (index_p a c es F caps q φ A hT hn hl) (hφ := (by (try simp only [List.cons_append, List.nil_append]); exact fun w hr => ⟨Src.ar .here w hr, hK w hr.1⟩)) (h := ?_); rintro _ _ ⟨rfl, rfl⟩; try simp only [List.cons_append, List.nil_append]) | fail)) | (refine yM ?_; intro _) | fail)) | refine yJ ?_ | ((with_reducible apply gJ_if); (first | (refine J_if xR ?_ ?_ <;> intro _ <;> (try (exfalso; first | contradiction | omega))) | (refine J_ifb xR ?_ ?_ <;> (intro hgb; subst hgb)) | (refine J_ifb xR ?_ ?_ <;> intro _) | fail)) | fail))
    refine J_ret1 rfl (by rfl) fun w H => ⟨_, ⟨a, c, ?_, rfl⟩, ?_⟩ <;> rw [idxP_none q es 0 hi]
    exact H.sel xZ
  · obtain ⟨i, hil, hie, hD, hkeep⟩ := idxP_some q es 0 hi
    have hx := index_p a c es F caps q φ A hT hn hl
    rw [hie, Int.natCast_zero, Int.zero_add] at hx
    have hk1 : keepP q (es.take (i + 1)) = es.take i := by rw [keepP_snoc q (List.getElem?_eq_getElem hil), hkeep, hD]; simp
    have hkl : (es.take i).length = i := by simp; omega
    (repeat' (first | ((with_reducible apply gL); (first | refine yL0 ?_ | refine yL ?_ | ((with_reducible apply gL_go); (first | (refine JL_goq (hx) (hφ := (by (try simp only [List.cons_append, List.nil_append]); exact fun w hr => ⟨Src.ar .here w hr, hK w hr.1⟩)) (h := ?_); rintro _ _ ⟨rfl, rfl⟩; try simp only [List.cons_append, List.nil_append]) | fail)) | (refine yM ?_; intro _) | fail)) | refine yJ ?_ | ((with_reducible apply gJ_if); (first | (refine J_if xR ?_ ?_ <;> intro _ <;> (try (exfalso; first | contradiction | omega))) | (refine J_ifb xR ?_ ?_ <;> (intro hgb; subst hgb)) | (refine J_ifb xR ?_ ?_ <;> intro _) | fail)) | fail))
    refine J_loop (α := Lp) ⟨i + 1, es⟩ (fun x => es.length - x.j) (fun x => x.j ≤ es.length ∧ x.xs.length = es.length ∧ (keepP q (es.take x.j)).length < x.j ∧ x.xs.take (keepP q (es.take x.j)).length = keepP q (es.take x.j) ∧ x.xs.drop x.j = es.drop x.j)
      (fun x => [(0, .slice a es.length c), (1, .func (.func F) #[] caps.toArray), (5, .int .i64 (keepP q (es.take x.j)).length), (6, .int .i64 x.j)]) (fun x => [A, Ar 41 2 pfC (.slice a es.length c) x.xs]) ?_ ?_ (fun w H => H.sel xZ) ?_
    · dsimp only; rw [hk1, hkl]; exact ⟨hil, rfl, by omega, rfl, rfl⟩
    · dsimp only; rw [hk1, hkl]; exact ⟨rfl, rfl, rfl, rfl, trivial⟩
    rintro ⟨j, xs⟩ ⟨hj, hxl, hkj, hxt, hxd⟩
    dsimp only at hj hxl hkj hxt hxd ⊢
    by_cases hlt : j < es.length
    · obtain ⟨o, hs⟩ : ∃ o, es[j]? = some o := ⟨_, List.getElem?_eq_getElem hlt⟩
      have hm := List.mem_of_getElem? hs
      have hxs : xs[j]? = some o := by have := congrArg (·[0]?) hxd; simpa [hs] using this
      have hke := keepP_snoc q hs
      have ht := hT.2 o (hn o hm)
      rcases hqo : q o with _ | _
      · rw [hqo] at ht
        have hke2 : keepP q (es.take (j + 1)) = keepP q (es.take j) ++ [o] := by rw [hke, hqo]; rfl
        have hil2 : (keepP q (es.take j)).length < xs.length := by omega
        (repeat' (first | ((with_reducible apply gL); (first | refine yL0 ?_ | refine yL ?_ | ((with_reducible apply gL_go); (first | (refine JL_goq (ht) (hφ := (by (try simp only [List.cons_append, List.nil_append]); exact fun w hr => hK w hr.1)) (h := ?_); rintro _ _ ⟨rfl, rfl⟩; try simp only [List.cons_append, List.nil_append]) | fail)) | (refine yM ?_; intro _) | fail)) | refine yJ ?_ | ((with_reducible apply gJ_if); (first | (refine J_if xR ?_ ?_ <;> intro _ <;> (try (exfalso; first | contradiction | omega))) | (refine J_ifb xR ?_ ?_ <;> (intro hgb; subst hgb)) | (refine J_ifb xR ?_ ?_ <;> intro _) | fail)) | fail))
        refine J_again ⟨j + 1, xs.set (keepP q (es.take j)).length o⟩ (by dsimp only; omega) ?_ ?_ (fun w H => H.sel xZ)
        · dsimp only
          rw [hke2]
          refine ⟨hlt, by simp [hxl], by simp; omega, ?_, ?_⟩
          · rw [List.length_append, List.length_singleton, List.take_add_one, List.getElem?_set_self hil2, List.take_set_of_le (Nat.le_refl _), hxt]
            rfl
          · rw [List.drop_set_of_lt (by omega), ← List.drop_drop, hxd, List.drop_drop]
        · refine ⟨rfl, rfl, ?_, rfl, trivial⟩
          show some _ = some _
          rw [hke2, List.length_append]
          rfl
      · rw [hqo] at ht
        have hke2 : keepP q (es.take (j + 1)) = keepP q (es.take j) := by rw [hke, hqo]; simp
        (repeat' (first | ((with_reducible apply gL); (first | refine yL0 ?_ | refine yL ?_ | ((with_reducible apply gL_go); (first | (refine JL_goq (ht) (hφ := (by (try simp only [List.cons_append, List.nil_append]); exact fun w hr => hK w hr.1)) (h := ?_); rintro _ _ ⟨rfl, rfl⟩; try simp only [List.cons_append, List.nil_append]) | fail)) | (refine yM ?_; intro _) | fail)) | refine yJ ?_ | ((with_reducible apply gJ_if); (first | (refine J_if xR ?_ ?_ <;> intro _ <;> (try (exfalso; first | contradiction | omega))) | (refine J_ifb xR ?_ ?_ <;> (intro hgb; subst hgb)) | (refine J_ifb xR ?_ ?_ <;> intro _) | fail)) | fail))
        refine J_again ⟨j + 1, xs⟩ (by dsimp only; omega) ?_ ?_ (fun w H => H.sel xZ)
        · dsimp only
          rw [hke2]
          exact ⟨hlt, hxl, by omega, hxt, by rw [← List.drop_drop, hxd, List.drop_drop]⟩
        · refine ⟨rfl, rfl, ?_, rfl, trivial⟩
          show some _ = some _
          rw [hke2]
    · obtain rfl : j = es.length := by omega
      rw [List.take_length] at *
      (repeat' (first | ((with_reducible apply gL); (first | refine yL0 ?_ | ((with_reducible apply gL_c_clear); (first | refine JL_clear ((0, 0) : Pf) (tabE etab_ok (by rfl)) (by rfl) (by with_reducible exact Tk.there Tk.here) (by rfl) (by decide +kernel) (by decide +kernel) (by intro _; rfl) (by omega) (by rfl) ?_ | fail)) | refine yL ?_ | (refine yM ?_; intro _) | fail)) | refine yJ ?_ | ((with_reducible apply gJ_if); (first | (refine J_if xR ?_ ?_ <;> intro _ <;> (try (exfalso; first | contradiction | omega))) | (refine J_ifb xR ?_ ?_ <;> (intro hgb; subst hgb)) | (refine J_ifb xR ?_ ?_ <;> intro _) | fail)) | fail))
      refine J_ret1 rfl (by rfl) fun w H => ⟨_, ⟨a, c, rfl, rfl⟩, ?_⟩
      have hkl2 := keepP_len q es
      have H2 := H.arTake xA (by intro _; rfl) (keepP q es).length (by simp; omega)
      rw [List.take_append_of_le_length (by simp; omega), List.take_take, Nat.min_self, hxt] at H2
      exact H2.sel xZ
/-! Compact. -/
def ddF : Option Pf → List Pf → List Pf
  | _, [] => []
  | o, x :: r => if o = some x then ddF (some x) r else x :: ddF (some x) r
def lastO : Option Pf → List Pf → Option Pf
  | o, [] => o
  | _, x :: r => lastO (some x) r
theorem ddF_snoc (x : Pf) : ∀ (l : List Pf) (o : Option Pf), ddF o (l ++ [x]) = ddF o l ++ if lastO o l = some x then [] else [x]
  | [], o => by
    show (if o = some x then [] else [x]) = _
    rfl
  | y :: r, o => by
    simp only [List.cons_append, ddF, lastO]
    split
    · exact ddF_snoc x r _
    · rw [ddF_snoc x r]; rfl
abbrev ddP (l : List Pf) : List Pf := ddF none l
theorem lastO_snoc (x : Pf) : ∀ (l : List Pf) (o : Option Pf), lastO o (l ++ [x]) = some x
  | [], _ => rfl
  | y :: r, _ => lastO_snoc x r _
theorem ddP_take {es : List Pf} {m : Nat} {x y : Pf} (hx : es[m + 1]? = some x) (hy : es[m]? = some y) : ddP (es.take (m + 1 + 1)) = ddP (es.take (m + 1)) ++ if y = x then [] else [x] := by
  rw [take_snoc hx]
  unfold ddP
  rw [ddF_snoc, take_snoc hy, lastO_snoc]
  simp
theorem ddF_len : ∀ (l : List Pf) (o : Option Pf), (ddF o l).length ≤ l.length
  | [], _ => Nat.le_refl _
  | x :: r, o => by
    simp only [ddF]
    have := ddF_len r (some x)
    split
    · simp only [List.length_cons]; omega
    · simp only [List.length_cons]; omega
theorem ddF_mem : ∀ (l : List Pf) (o : Option Pf) (z : Pf), (z ∈ ddF o l → z ∈ l) ∧ (z ∈ l → z ∈ ddF o l ∨ o = some z)
  | [], _, _ => ⟨id, fun h => absurd h List.not_mem_nil⟩
  | x :: r, o, z => by
    obtain ⟨h1, h2⟩ := ddF_mem r (some x) z
    simp only [ddF]
    split
    · rename_i e
      refine ⟨fun h => List.mem_cons_of_mem _ (h1 h), fun h => ?_⟩
      rcases List.mem_cons.1 h with rfl | h
      · exact .inr e
      · rcases h2 h with h | h
        · exact .inl h
        · cases h; exact .inr e
    · refine ⟨fun h => ?_, fun h => ?_⟩
      · rcases List.mem_cons.1 h with rfl | h
        · exact List.mem_cons_self ..
        · exact List.mem_cons_of_mem _ (h1 h)
      · rcases List.mem_cons.1 h with rfl | h
        · exact .inl (List.mem_cons_self ..)
        · rcases h2 h with h | h
          · exact .inl (List.mem_cons_of_mem _ h)
          · cases h; exact .inl (List.mem_cons_self ..)
theorem ddP_mem (l : List Pf) (z : Pf) : z ∈ ddP l ↔ z ∈ l := ⟨(ddF_mem l none z).1, fun h => by
  rcases (ddF_mem l none z).2 h with h | h
  · exact h
  · cases h⟩
theorem ddF_srt : ∀ (l : List Pf) (o : Option Pf), l.Pairwise (fun x y => ¬ Ah y x) → (∀ y, o = some y → ∀ x ∈ l, ¬ Ah x y) → (ddF o l).Pairwise (fun x y => Ah x y) ∧ ∀ y, o = some y → ∀ x ∈ ddF o l, Ah y x
  | [], _, _, _ => ⟨.nil, fun _ _ _ h => absurd h List.not_mem_nil⟩
  | x :: r, o, h, ho => by
    obtain ⟨h1, h2⟩ := List.pairwise_cons.1 h
    obtain ⟨i1, i2⟩ := ddF_srt r (some x) h2 (fun y e z hz => by cases e; exact h1 z hz)
    simp only [ddF]
    split
    · rename_i e
      subst e
      exact ⟨i1, i2⟩
    · rename_i e
      refine ⟨List.pairwise_cons.2 ⟨fun z hz => i2 x rfl z hz, i1⟩, fun y hy z hz => ?_⟩
      have hyx : Ah y x := T.Ah.total (ho y hy x (List.mem_cons_self ..)) (fun e2 => e (by rw [hy, e2]))
      rcases List.mem_cons.1 hz with rfl | hz
      · exact hyx
      · exact hyx.trans (i2 x rfl z hz)
structure Kp where
  k : Nat
  j : Nat
  xs : List Pf
theorem compact_p (a : Option Addr) (c n : Nat) (es : List Pf) (hes : es.length = n) (hl : n ≤ 1000000) :
    Pact Tryz.prog 68 #[.slice a n c] (fun _ => True) [Ar 41 2 pfC (.slice a n c) es] (fun u L' => ∃ a' c', u = .slice a' (ddP es).length c' ∧ L' = [Ar 41 2 pfC (.slice a' (ddP es).length c') (ddP es)]) := by
  subst hes
  refine pact Tryz.func68 rfl Tryz.ntmps68 rfl ?_
  intro W K hK
  refine J_fact (φ := es.length ≤ c ∧ c ≤ maxLen) (fun w H => (H.arShape .here).2) ?_
  rintro ⟨hnc, hcm⟩
  unfold maxLen at hcm
  by_cases h2 : es.length < 2
  · have e : ddP es = es := by
      rcases es with _ | ⟨x, _ | ⟨y, r⟩⟩
      · rfl
      · rfl
      · simp at h2; omega
    rw [e]
    (repeat' (first | ((with_reducible apply gL); (first | refine yL0 ?_ | refine yL ?_ | fail)) | ((with_reducible apply gD); (first | (refine JD_nil ?_; try simp only [List.cons_append, List.nil_append]) | (refine JD_bar ?_; try simp only [List.cons_append, List.nil_append]) | refine yD ?_ | fail)) | refine yJ ?_ | ((with_reducible apply gJ_if); (first | (refine J_if xR ?_ ?_ <;> intro _ <;> (try (exfalso; first | contradiction | omega))) | (refine J_ifb xR ?_ ?_ <;> (intro hgb; subst hgb)) | (refine J_ifb xR ?_ ?_ <;> intro _) | fail)) | refine J_draw (id := 6) [0, 1, 2, 3, 4, 5, 6, 7, 8] [9] mixed xC xD xD ?_ | refine J_draw (id := 11) [0, 1, 2, 3, 4, 5, 6, 7, 8] [9] mixed xC xD xD ?_ | fail))
    all_goals (first | (exfalso; omega) | skip)
    exact J_ret1 rfl (by rfl) fun w H => ⟨_, ⟨a, c, rfl, rfl⟩, H.sel xZ⟩
  · obtain ⟨x0, hx0⟩ : ∃ x, es[0]? = some x := ⟨_, List.getElem?_eq_getElem (by omega)⟩
    have h1 : ddP (es.take (0 + 1)) = es.take (0 + 1) := by rw [take_snoc hx0]; rfl
    (repeat' (first | ((with_reducible apply gL); (first | refine yL0 ?_ | refine yL ?_ | fail)) | ((with_reducible apply gD); (first | (refine JD_nil ?_; try simp only [List.cons_append, List.nil_append]) | (refine JD_bar ?_; try simp only [List.cons_append, List.nil_append]) | refine yD ?_ | fail)) | refine yJ ?_ | ((with_reducible apply gJ_if); (first | (refine J_if xR ?_ ?_ <;> intro _ <;> (try (exfalso; first | contradiction | omega))) | (refine J_ifb xR ?_ ?_ <;> (intro hgb; subst hgb)) | (refine J_ifb xR ?_ ?_ <;> intro _) | fail)) | refine J_draw (id := 6) [0, 1, 2, 3, 4, 5, 6, 7, 8] [9] mixed xC xD xD ?_ | refine J_draw (id := 11) [0, 1, 2, 3, 4, 5, 6, 7, 8] [9] mixed xC xD xD ?_ | fail))
    all_goals (first | (exfalso; omega) | skip)
    refine J_loop (α := Nat) 0 (fun x => es.length - x) (fun x => x + 1 ≤ es.length ∧ ddP (es.take (x + 1)) = es.take (x + 1)) (fun x => [(0, .slice a es.length c), (3, .int .i64 ((x + 1 : Nat) : Int))]) (fun _ => [Ar 41 2 pfC (.slice a es.length c) es]) ⟨by omega, h1⟩ ⟨rfl, rfl, trivial⟩ (fun w H => H.sel xZ) ?_
    rintro k ⟨hk, hd⟩
    by_cases hlt : k + 1 < es.length
    · obtain ⟨x, hx⟩ : ∃ x, es[k + 1]? = some x := ⟨_, List.getElem?_eq_getElem hlt⟩
      obtain ⟨y, hy⟩ : ∃ y, es[k]? = some y := ⟨_, List.getElem?_eq_getElem (by omega)⟩
      have hsn := ddP_take hx hy
      have hy2 : es[(((k + 1 : Nat) : Int) - 1).toNat]? = some y := by rw [show (((k + 1 : Nat) : Int) - 1).toNat = k by omega]; exact hy
      by_cases hxy : x.1 = y.1 ∧ x.2 = y.2
      · obtain rfl : x = y := Prod.ext hxy.1 hxy.2
        rw [if_pos rfl, List.append_nil, hd] at hsn
        have htl : (es.take (k + 1)).length = k + 1 := by rw [List.length_take]; omega
        (repeat' (first | ((with_reducible apply gL); (first | refine yL0 ?_ | refine yL ?_ | fail)) | ((with_reducible apply gD); (first | (refine JD_nil ?_; try simp only [List.cons_append, List.nil_append]) | (refine JD_bar ?_; try simp only [List.cons_append, List.nil_append]) | refine yD ?_ | fail)) | refine yJ ?_ | ((with_reducible apply gJ_if); (first | (refine J_if xR ?_ ?_ <;> intro _ <;> (try (exfalso; first | contradiction | omega))) | (refine J_ifb xR ?_ ?_ <;> (intro hgb; subst hgb)) | (refine J_ifb xR ?_ ?_ <;> intro _) | fail)) | refine J_draw (id := 6) [0, 1, 2, 3, 4, 5, 6, 7, 8] [9] mixed xC xD xD ?_ | refine J_draw (id := 11) [0, 1, 2, 3, 4, 5, 6, 7, 8] [9] mixed xC xD xD ?_ | fail))
        all_goals (first | (exfalso; omega) | skip)
        refine J_loop (α := Kp) ⟨k + 1, 0, es⟩ (fun x => es.length - x.j) (fun x => k + 1 + x.j + 1 ≤ es.length ∧ x.xs.length = es.length ∧ x.k = (ddP (es.take (k + 1 + x.j + 1))).length ∧ x.k ≤ k + 1 + x.j ∧ x.xs.take x.k = ddP (es.take (k + 1 + x.j + 1)) ∧ x.xs.drop (k + 1 + x.j) = es.drop (k + 1 + x.j))
          (fun x => [(0, .slice a es.length c), (3, .int .i64 x.k), (4, .slice (slA a c (k + 1) 2) (es.length - (k + 1)) (c - (k + 1))), (5, .int .i64 ((x.j + 1 : Nat) : Int))]) (fun x => [Ar 41 2 pfC (.slice a es.length c) x.xs]) ?_ ⟨rfl, rfl, rfl, rfl, trivial⟩ (fun w H => H.sel xZ) ?_
        · dsimp only
          have e : k + 1 + 0 + 1 = k + 1 + 1 := rfl
          rw [e, hsn]
          exact ⟨by omega, rfl, htl.symm, by omega, rfl, rfl⟩
        rintro ⟨m, j, xs⟩ ⟨hj, hxl, hm, hmj, hxt, hxd⟩
        dsimp only at hj hxl hm hmj hxt hxd ⊢
        have hS : ∀ {K' : Hl} {L R : List HP}, Tk L (Ar 41 2 pfC (.slice a es.length c) xs) R → Src K' L (.slice (slA a c (k + 1) 2) (es.length - (k + 1)) (c - (k + 1))) 2 (es.length - (k + 1)) (flat pfC (xs.drop (k + 1))) := fun {K' L R} t =>
          Src.drop (a := a) (c := c) (n := es.length) (enc := pfC) (es := xs) (by have h := Src.ar (K := K') t; rw [hxl] at h; exact h) (fun _ => rfl) hxl (k + 1) (es.length - (k + 1)) (by omega) rfl
        by_cases hjl : k + 1 + j + 1 < es.length
        · obtain ⟨x', hx'⟩ : ∃ x, es[k + 1 + j + 1]? = some x := ⟨_, List.getElem?_eq_getElem hjl⟩
          obtain ⟨y', hy'⟩ : ∃ y, es[k + 1 + j]? = some y := ⟨_, List.getElem?_eq_getElem (by omega)⟩
          have hsn' := ddP_take hx' hy'
          have d1 : (xs.drop (k + 1))[j + 1]? = some x' := by
            rw [List.getElem?_drop]
            have := congrArg (·[1]?) hxd
            simp only [List.getElem?_drop] at this
            rw [show k + 1 + (j + 1) = k + 1 + j + 1 by omega, this]; exact hx'
          have d2 : (xs.drop (k + 1))[(((j + 1 : Nat) : Int) - 1).toNat]? = some y' := by
            rw [List.getElem?_drop, show (((j + 1 : Nat) : Int) - 1).toNat = j by omega]
            have := congrArg (·[0]?) hxd
            simp only [List.getElem?_drop, Nat.add_zero] at this
            rw [this]; exact hy'
          by_cases hxy' : x'.1 = y'.1 ∧ x'.2 = y'.2
          · obtain rfl : x' = y' := Prod.ext hxy'.1 hxy'.2
            (repeat' (first | ((with_reducible apply gL); (first | refine yL0 ?_ | ((with_reducible apply gL_indexAddr); (first | (first | (refine JD_pM rfl xR rfl xA (pe_ix xR xR (tabE etab_ok xR) (hS .here) xI xO) ?_) | (refine JD_p rfl xR rfl (pe_ix xR xR (tabE etab_ok xR) (hS xA) xI xO) ?_) | (refine JL_p rfl xR xR (pe_ix xR xR (tabE etab_ok xR) (hS xA) xI xO) ?_)) | fail)) | ((with_reducible apply gL_load); (first | (first | (refine JD_p rfl xR rfl (pe_el xR (hS xA) xL xR xC xH) ?_) | (refine JL_p rfl xR xR (pe_el xR (hS xA) xL xR xC xH) ?_)) | fail)) | refine yL ?_ | fail)) | ((with_reducible apply gD); (first | (refine JD_nil ?_; try simp only [List.cons_append, List.nil_append]) | (refine JD_bar ?_; try simp only [List.cons_append, List.nil_append]) | ((with_reducible apply gD_indexAddr); (first | (first | (refine JD_pM rfl xR rfl xA (pe_ix xR xR (tabE etab_ok xR) (hS .here) xI xO) ?_) | (refine JD_p rfl xR rfl (pe_ix xR xR (tabE etab_ok xR) (hS xA) xI xO) ?_) | (refine JL_p rfl xR xR (pe_ix xR xR (tabE etab_ok xR) (hS xA) xI xO) ?_)) | fail)) | ((with_reducible apply gD_load); (first | (first | (refine JD_p rfl xR rfl (pe_el xR (hS xA) xL xR xC xH) ?_) | (refine JL_p rfl xR xR (pe_el xR (hS xA) xL xR xC xH) ?_)) | fail)) | refine yD ?_ | fail)) | refine yJ ?_ | ((with_reducible apply gJ_if); (first | (refine J_if xR ?_ ?_ <;> intro _ <;> (try (exfalso; first | contradiction | omega))) | (refine J_ifb xR ?_ ?_ <;> (intro hgb; subst hgb)) | (refine J_ifb xR ?_ ?_ <;> intro _) | fail)) | refine J_draw (id := 6) [0, 1, 2, 3, 4, 5, 6, 7, 8] [9] mixed xC xD xD ?_ | refine J_draw (id := 11) [0, 1, 2, 3, 4, 5, 6, 7, 8] [9] mixed xC xD xD ?_ | fail))
            all_goals (first | (exfalso; omega) | skip)
            refine J_again ⟨m, j + 1, xs⟩ (by dsimp only; omega) ?_ ⟨rfl, rfl, rfl, rfl, trivial⟩ (fun w H => H.sel xZ)
            dsimp only
            rw [if_pos rfl, List.append_nil] at hsn'
            have e : k + 1 + (j + 1) + 1 = k + 1 + j + 1 + 1 := by omega
            rw [e, hsn']
            refine ⟨by omega, hxl, hm, by omega, hxt, ?_⟩
            rw [show k + 1 + (j + 1) = k + 1 + j + 1 by omega, ← List.drop_drop, hxd, List.drop_drop]
          · have hne' : ¬ y' = x' := fun e => hxy' ⟨by rw [e], by rw [e]⟩
            have hml : m < xs.length := by omega
            (repeat' (first | ((with_reducible apply gL); (first | refine yL0 ?_ | ((with_reducible apply gL_indexAddr); (first | (first | (refine JD_pM rfl xR rfl xA (pe_ix xR xR (tabE etab_ok xR) (hS .here) xI xO) ?_) | (refine JD_p rfl xR rfl (pe_ix xR xR (tabE etab_ok xR) (hS xA) xI xO) ?_) | (refine JL_p rfl xR xR (pe_ix xR xR (tabE etab_ok xR) (hS xA) xI xO) ?_)) | fail)) | ((with_reducible apply gL_load); (first | (first | (refine JD_p rfl xR rfl (pe_el xR (hS xA) xL xR xC xH) ?_) | (refine JL_p rfl xR xR (pe_el xR (hS xA) xL xR xC xH) ?_)) | fail)) | refine yL ?_ | fail)) | ((with_reducible apply gD); (first | (refine JD_nil ?_; try simp only [List.cons_append, List.nil_append]) | (refine JD_bar ?_; try simp only [List.cons_append, List.nil_append]) | ((with_reducible apply gD_indexAddr); (first | (first | (refine JD_pM rfl xR rfl xA (pe_ix xR xR (tabE etab_ok xR) (hS .here) xI xO) ?_) | (refine JD_p rfl xR rfl (pe_ix xR xR (tabE etab_ok xR) (hS xA) xI xO) ?_) | (refine JL_p rfl xR xR (pe_ix xR xR (tabE etab_ok xR) (hS xA) xI xO) ?_)) | fail)) | ((with_reducible apply gD_load); (first | (first | (refine JD_p rfl xR rfl (pe_el xR (hS xA) xL xR xC xH) ?_) | (refine JL_p rfl xR xR (pe_el xR (hS xA) xL xR xC xH) ?_)) | fail)) | refine yD ?_ | fail)) | refine yJ ?_ | ((with_reducible apply gJ_if); (first | (refine J_if xR ?_ ?_ <;> intro _ <;> (try (exfalso; first | contradiction | omega))) | (refine J_ifb xR ?_ ?_ <;> (intro hgb; subst hgb)) | (refine J_ifb xR ?_ ?_ <;> intro _) | fail)) | refine J_draw (id := 6) [0, 1, 2, 3, 4, 5, 6, 7, 8] [9] mixed xC xD xD ?_ | refine J_draw (id := 11) [0, 1, 2, 3, 4, 5, 6, 7, 8] [9] mixed xC xD xD ?_ | fail))
            all_goals (first | (exfalso; omega) | skip)
            refine J_again ⟨m + 1, j + 1, xs.set m x'⟩ (by dsimp only; omega) ?_ ⟨rfl, rfl, rfl, rfl, trivial⟩ (fun w H => H.sel xZ)
            dsimp only
            rw [if_neg hne'] at hsn'
            have e : k + 1 + (j + 1) + 1 = k + 1 + j + 1 + 1 := by omega
            rw [e, hsn']
            refine ⟨by omega, by simp [hxl], by rw [List.length_append, ← hm]; rfl, by omega, ?_, ?_⟩
            · rw [List.take_add_one, List.getElem?_set_self hml, List.take_set_of_le (Nat.le_refl _), hxt]
              rfl
            · rw [List.drop_set_of_lt (by omega), show k + 1 + (j + 1) = k + 1 + j + 1 by omega, ← List.drop_drop, hxd, List.drop_drop]
        · have hje : k + 1 + j + 1 = es.length := by omega
          rw [hje, List.take_length] at hm hxt
          (repeat' (first | ((with_reducible apply gL); (first | refine yL0 ?_ | ((with_reducible apply gL_c_clear); (first | refine JL_clear ((0, 0) : Pf) (tabE etab_ok (by rfl)) (by rfl) (by with_reducible exact Tk.here) (by rfl) (by decide +kernel) (by decide +kernel) (by intro _; rfl) (by omega) (by rfl) ?_ | fail)) | refine yL ?_ | fail)) | ((with_reducible apply gD); (first | (refine JD_nil ?_; try simp only [List.cons_append, List.nil_append]) | (refine JD_bar ?_; try simp only [List.cons_append, List.nil_append]) | refine yD ?_ | fail)) | refine yJ ?_ | ((with_reducible apply gJ_if); (first | (refine J_if xR ?_ ?_ <;> intro _ <;> (try (exfalso; first | contradiction | omega))) | (refine J_ifb xR ?_ ?_ <;> (intro hgb; subst hgb)) | (refine J_ifb xR ?_ ?_ <;> intro _) | fail)) | refine J_draw (id := 6) [0, 1, 2, 3, 4, 5, 6, 7, 8] [9] mixed xC xD xD ?_ | refine J_draw (id := 11) [0, 1, 2, 3, 4, 5, 6, 7, 8] [9] mixed xC xD xD ?_ | fail))
          all_goals (first | (exfalso; omega) | skip)
          refine J_ret1 rfl (by rfl) fun w H => ⟨_, ⟨a, c, by rw [← hm], rfl⟩, ?_⟩
          have H2 := H.arTake xA (by intro _; rfl) m (by simp; omega)
          rw [List.take_append_of_le_length (by simp; omega), List.take_take, Nat.min_self, hxt] at H2
          rw [← hm]
          exact H2.sel xZ
      · have hne : ¬ y = x := fun e => hxy ⟨by rw [e], by rw [e]⟩
        rw [if_neg hne, hd, ← take_snoc hx] at hsn
        (repeat' (first | ((with_reducible apply gL); (first | refine yL0 ?_ | refine yL ?_ | fail)) | ((with_reducible apply gD); (first | (refine JD_nil ?_; try simp only [List.cons_append, List.nil_append]) | (refine JD_bar ?_; try simp only [List.cons_append, List.nil_append]) | refine yD ?_ | fail)) | refine yJ ?_ | ((with_reducible apply gJ_if); (first | (refine J_if xR ?_ ?_ <;> intro _ <;> (try (exfalso; first | contradiction | omega))) | (refine J_ifb xR ?_ ?_ <;> (intro hgb; subst hgb)) | (refine J_ifb xR ?_ ?_ <;> intro _) | fail)) | refine J_draw (id := 6) [0, 1, 2, 3, 4, 5, 6, 7, 8] [9] mixed xC xD xD ?_ | refine J_draw (id := 11) [0, 1, 2, 3, 4, 5, 6, 7, 8] [9] mixed xC xD xD ?_ | fail))
        all_goals (first | (exfalso; omega) | skip)
        exact J_again (k + 1) (by omega) ⟨by omega, hsn⟩ ⟨rfl, rfl, trivial⟩ (fun w H => H.sel xZ)
    · have he : k + 1 = es.length := by omega
      rw [he, List.take_length] at hd
      rw [hd]
      (repeat' (first | ((with_reducible apply gL); (first | refine yL0 ?_ | refine yL ?_ | fail)) | ((with_reducible apply gD); (first | (refine JD_nil ?_; try simp only [List.cons_append, List.nil_append]) | (refine JD_bar ?_; try simp only [List.cons_append, List.nil_append]) | refine yD ?_ | fail)) | refine yJ ?_ | ((with_reducible apply gJ_if); (first | (refine J_if xR ?_ ?_ <;> intro _ <;> (try (exfalso; first | contradiction | omega))) | (refine J_ifb xR ?_ ?_ <;> (intro hgb; subst hgb)) | (refine J_ifb xR ?_ ?_ <;> intro _) | fail)) | refine J_draw (id := 6) [0, 1, 2, 3, 4, 5, 6, 7, 8] [9] mixed xC xD xD ?_ | refine J_draw (id := 11) [0, 1, 2, 3, 4, 5, 6, 7, 8] [9] mixed xC xD xD ?_ | fail))
      all_goals (first | (exfalso; omega) | skip)
      exact J_ret1 rfl (by rfl) fun w H => ⟨_, ⟨a, c, rfl, rfl⟩, H.sel xZ⟩
end Go.Proofs.YtnhabkipjmgaaaaGreat
namespace Go.Proofs.YtnhabkipjmgaaaaGreat
set_option linter.unusedSimpArgs false
set_option linter.unusedVariables false
set_option maxRecDepth 20000
set_option maxHeartbeats 4000000
open Go.RowKit Go.Pm

open T (Pf PfN Rt Ah pfC)
structure Ij where
  i : Nat
  j : Nat
theorem cmpP_lt {p q : Pf} : cmpP p q < 0 ↔ Ah p q := by
  have h := ltP p q
  unfold Go.Proofs.ltOf at h
  rw [Bool.eq_iff_iff] at h
  simpa using h
theorem cmpP_eq {p q : Pf} : cmpP p q = 0 ↔ p = q := by
  unfold cmpP
  constructor
  · intro h
    by_cases e : p = q
    · exact e
    · rw [if_neg e] at h
      split at h <;> cases h
  · intro e; rw [if_pos e]
theorem found_iff {l : List Pf} {p : Pf} {i : Nat} (hs : l.Pairwise fun x y => Ah x y) (h1 : ∀ k x, k < i → l[k]? = some x → Ah x p) (h2 : ∀ k x, i ≤ k → l[k]? = some x → ¬ Ah x p) : p ∈ l ↔ l[i]? = some p := by
  constructor
  · intro hm
    obtain ⟨k, hk, e⟩ := List.getElem_of_mem hm
    have hk' : l[k]? = some p := by rw [List.getElem?_eq_getElem hk, e]
    rcases Nat.lt_trichotomy k i with h | h | h
    · exact absurd (h1 k p h hk') T.Ah.irrefl
    · rw [← h]; exact hk'
    · exfalso
      have hi : i < l.length := by omega
      have h3 := h2 i l[i] (Nat.le_refl _) (List.getElem?_eq_getElem hi)
      have h4 := List.pairwise_iff_getElem.1 hs i k hi hk h
      rw [e] at h4
      exact h3 h4
  · intro h; exact List.mem_of_getElem? h
theorem bin_s (a : Option Addr) (c n : Nat) (l : List Pf) (hn : l.length = n) (p : Pf) (hs : l.Pairwise fun x y => Ah x y) (hl : n ≤ 1000000) : Pact Tryz.prog 70 #[.slice a n c, .agg (pfC p).toArray, .func (.func 43) #[] #[]] (fun w => Vw w (.slice a n c) 2 n (flat pfC l)) [] (fun u L' => ∃ i : Nat, u = .tuple #[.int .i64 i, .bool (decide (p ∈ l))] ∧ L' = []) := by
  subst hn
  refine pact Tryz.func70 rfl Tryz.ntmps70 rfl ?_
  intro W K hK
  (repeat' (first | ((with_reducible apply gL); (first | refine yL0 ?_ | refine yL ?_ | (refine yM ?_; intro _) | fail)) | ((with_reducible apply gD); (first | (refine JD_nil ?_; try simp only [List.cons_append, List.nil_append]) | (refine JD_bar ?_; try simp only [List.cons_append, List.nil_append]) | refine yD0 ?_ | refine yD ?_ | ((with_reducible apply gD_gd); (first | (refine JD_guard xR xR ?_ ?_ <;> intro _ <;> (try (exfalso; first | contradiction | omega))) | (refine JD_guardb xR xR ?_ ?_ <;> (intro hgb; subst hgb)) | (refine JD_guardb xR xR ?_ ?_ <;> (intro hgb; fail_if_success (have : type_of% hgb := rfl))) | fail)) | fail)) | refine yJ ?_ | ((with_reducible apply gJ_if); (first | (refine J_if xR ?_ ?_ <;> intro _ <;> (try (exfalso; first | contradiction | omega))) | (refine J_ifb xR ?_ ?_ <;> (intro hgb; subst hgb)) | (refine J_ifb xR ?_ ?_ <;> intro _) | fail)) | refine J_draw (id := 5) [0, 1, 2, 3, 4, 5] [6, 7] mixed xC xD xD ?_ | refine J_draw (id := 8) [0, 1, 2, 3, 4, 5, 6, 7, 8, 9, 10, 11, 12, 13, 14] [15] mixed xC xD xD ?_ | fail))
  rename_i b
  refine J_loop (α := Ij) ⟨0, l.length⟩ (fun x => x.j - x.i) (fun x => x.i ≤ x.j ∧ x.j ≤ l.length ∧ (∀ k y, k < x.i → l[k]? = some y → Ah y p) ∧ (∀ k y, x.j ≤ k → l[k]? = some y → ¬ Ah y p)) (fun x => [(0, .slice a l.length c), (2, .func (.func 43) #[] #[]), (4, .pointer (some ⟨b, 0, none⟩)), (8, .int .i64 l.length), (9, .int .i64 x.i), (10, .int .i64 x.j)]) (fun _ => [pts b (pfC p) 41])
    ⟨Nat.zero_le _, Nat.le_refl _, fun k y h => absurd h (Nat.not_lt_zero _), fun k y h hk => absurd (List.getElem?_eq_some_iff.1 hk).1 (by dsimp only at h; omega)⟩ ⟨rfl, rfl, rfl, rfl, rfl, rfl, trivial⟩ (fun w H => H.sel xZ) ?_
  rintro ⟨i, j⟩ ⟨hij, hjl, h1, h2⟩
  dsimp only at hij hjl h1 h2 ⊢
  by_cases hlt : i < j
  · obtain ⟨m, hm⟩ : ∃ m, (i + j) / 2 = m := ⟨_, rfl⟩
    have hm1 : i ≤ m := by omega
    have hm2 : m < j := by omega
    obtain ⟨x, hx⟩ : ∃ x, l[m]? = some x := ⟨_, List.getElem?_eq_getElem (by omega)⟩
    have e1 : (((i : Nat) : Int) + ((j : Nat) : Int)) / 2 ^ 1 = ((m : Nat) : Int) := by omega
    have hc := compare_s x p
    by_cases ha : Ah x p
    · have hlt0 := cmpP_lt.2 ha
      (repeat' (first | ((with_reducible apply gL); (first | refine yL0 ?_ | refine yL ?_ | (refine yM ?_; intro _) | fail)) | ((with_reducible apply gD); (first | (refine JD_nil ?_; try simp only [List.cons_append, List.nil_append]) | (refine JD_bar ?_; try simp only [List.cons_append, List.nil_append]) | refine yD0 ?_ | ((with_reducible apply gD_indexAddr); (first | (refine JD_p rfl xR rfl (pe_ix (j := m) xR xR (tabE etab_ok xR) (Src.kn hK) e1 xO) ?_) | fail)) | refine yD ?_ | ((with_reducible apply gD_go); (first | (refine JD_goq (hc) (hφ := xF) (h := ?_); rintro _ _ ⟨rfl, rfl⟩; try simp only [List.cons_append, List.nil_append]) | fail)) | ((with_reducible apply gD_gd); (first | (refine JD_guard xR xR ?_ ?_ <;> intro _ <;> (try (exfalso; first | contradiction | omega))) | (refine JD_guardb xR xR ?_ ?_ <;> (intro hgb; subst hgb)) | (refine JD_guardb xR xR ?_ ?_ <;> (intro hgb; fail_if_success (have : type_of% hgb := rfl))) | fail)) | fail)) | refine yJ ?_ | ((with_reducible apply gJ_if); (first | (refine J_if xR ?_ ?_ <;> intro _ <;> (try (exfalso; first | contradiction | omega))) | (refine J_ifb xR ?_ ?_ <;> (intro hgb; subst hgb)) | (refine J_ifb xR ?_ ?_ <;> intro _) | fail)) | refine J_draw (id := 5) [0, 1, 2, 3, 4, 5] [6, 7] mixed xC xD xD ?_ | refine J_draw (id := 8) [0, 1, 2, 3, 4, 5, 6, 7, 8, 9, 10, 11, 12, 13, 14] [15] mixed xC xD xD ?_ | fail))
      all_goals (first | (exfalso; omega) | skip)
      refine J_again ⟨m + 1, j⟩ (by dsimp only; omega) ⟨by dsimp only; omega, hjl, fun k y hk hy => ?_, h2⟩ ⟨rfl, rfl, rfl, rfl, ?_, rfl, trivial⟩ (fun w H => H.sel xZ)
      · dsimp only at hk
        rcases Nat.lt_or_eq_of_le (Nat.le_of_lt_succ hk) with h | h
        · obtain ⟨hkl, e⟩ := List.getElem?_eq_some_iff.1 hy
          have h4 := List.pairwise_iff_getElem.1 hs k m hkl (by omega) h
          obtain ⟨_, e'⟩ := List.getElem?_eq_some_iff.1 hx
          rw [e, e'] at h4
          exact h4.trans ha
        · subst h
          rw [hx] at hy
          cases hy
          exact ha
      · show some (Value.int .i64 _) = some (Value.int .i64 _)
        rw [e1]
        rfl
    · have hlt0 : ¬ cmpP x p < 0 := fun h => ha (cmpP_lt.1 h)
      (repeat' (first | ((with_reducible apply gL); (first | refine yL0 ?_ | refine yL ?_ | (refine yM ?_; intro _) | fail)) | ((with_reducible apply gD); (first | (refine JD_nil ?_; try simp only [List.cons_append, List.nil_append]) | (refine JD_bar ?_; try simp only [List.cons_append, List.nil_append]) | refine yD0 ?_ | ((with_reducible apply gD_indexAddr); (first | (refine JD_p rfl xR rfl (pe_ix (j := m) xR xR (tabE etab_ok xR) (Src.kn hK) e1 xO) ?_) | fail)) | refine yD ?_ | ((with_reducible apply gD_go); (first | (refine JD_goq (hc) (hφ := xF) (h := ?_); rintro _ _ ⟨rfl, rfl⟩; try simp only [List.cons_append, List.nil_append]) | fail)) | ((with_reducible apply gD_gd); (first | (refine JD_guard xR xR ?_ ?_ <;> intro _ <;> (try (exfalso; first | contradiction | omega))) | (refine JD_guardb xR xR ?_ ?_ <;> (intro hgb; subst hgb)) | (refine JD_guardb xR xR ?_ ?_ <;> (intro hgb; fail_if_success (have : type_of% hgb := rfl))) | fail)) | fail)) | refine yJ ?_ | ((with_reducible apply gJ_if); (first | (refine J_if xR ?_ ?_ <;> intro _ <;> (try (exfalso; first | contradiction | omega))) | (refine J_ifb xR ?_ ?_ <;> (intro hgb; subst hgb)) | (refine J_ifb xR ?_ ?_ <;> intro _) | fail)) | refine J_draw (id := 5) [0, 1, 2, 3, 4, 5] [6, 7] mixed xC xD xD ?_ | refine J_draw (id := 8) [0, 1, 2, 3, 4, 5, 6, 7, 8, 9, 10, 11, 12, 13, 14] [15] mixed xC xD xD ?_ | fail))
      all_goals (first | (exfalso; omega) | skip)
      refine J_again ⟨i, m⟩ (by dsimp only; omega) ⟨hm1, by dsimp only; omega, h1, fun k y hk hy => ?_⟩ ⟨rfl, rfl, rfl, rfl, rfl, ?_, trivial⟩ (fun w H => H.sel xZ)
      · dsimp only at hk
        rcases Nat.lt_or_eq_of_le hk with h | h
        · obtain ⟨hkl, e⟩ := List.getElem?_eq_some_iff.1 hy
          have h4 := List.pairwise_iff_getElem.1 hs m k (by omega) hkl h
          obtain ⟨_, e'⟩ := List.getElem?_eq_some_iff.1 hx
          rw [e, e'] at h4
          exact fun h5 => ha (h4.trans h5)
        · subst h
          rw [hx] at hy
          cases hy
          exact ha
      · show some (Value.int .i64 _) = some (Value.int .i64 _)
        rw [e1]
  · obtain rfl : i = j := by omega
    have hf := found_iff hs h1 h2
    by_cases hil : i < l.length
    · obtain ⟨x, hx⟩ : ∃ x, l[i]? = some x := ⟨_, List.getElem?_eq_getElem hil⟩
      have hc := compare_s x p
      rw [hx] at hf
      have e : decide (p ∈ l) = decide (cmpP x p = 0) := by
        rw [Bool.eq_iff_iff]
        simp only [decide_eq_true_eq]
        rw [hf, cmpP_eq]
        simp
      rw [e]
      (repeat' (first | ((with_reducible apply gL); (first | refine yL0 ?_ | refine yL ?_ | (refine yM ?_; intro _) | fail)) | ((with_reducible apply gD); (first | (refine JD_nil ?_; try simp only [List.cons_append, List.nil_append]) | (refine JD_bar ?_; try simp only [List.cons_append, List.nil_append]) | refine yD0 ?_ | refine yD ?_ | ((with_reducible apply gD_go); (first | (refine JD_goq (hc) (hφ := xF) (h := ?_); rintro _ _ ⟨rfl, rfl⟩; try simp only [List.cons_append, List.nil_append]) | fail)) | ((with_reducible apply gD_gd); (first | (refine JD_guard xR xR ?_ ?_ <;> intro _ <;> (try (exfalso; first | contradiction | omega))) | (refine JD_guardb xR xR ?_ ?_ <;> (intro hgb; subst hgb)) | (refine JD_guardb xR xR ?_ ?_ <;> (intro hgb; fail_if_success (have : type_of% hgb := rfl))) | fail)) | fail)) | refine yJ ?_ | ((with_reducible apply gJ_if); (first | (refine J_if xR ?_ ?_ <;> intro _ <;> (try (exfalso; first | contradiction | omega))) | (refine J_ifb xR ?_ ?_ <;> (intro hgb; subst hgb)) | (refine J_ifb xR ?_ ?_ <;> intro _) | fail)) | refine J_draw (id := 5) [0, 1, 2, 3, 4, 5] [6, 7] mixed xC xD xD ?_ | refine J_draw (id := 8) [0, 1, 2, 3, 4, 5, 6, 7, 8, 9, 10, 11, 12, 13, 14] [15] mixed xC xD xD ?_ | fail))
      all_goals (first | (exfalso; omega) | skip)
      exact J_ret2 rfl (by rfl) (by rfl) fun w H => ⟨_, ⟨i, rfl, rfl⟩, H.sel .nil⟩
    · have e : decide (p ∈ l) = false := decide_eq_false fun h => by
        have := hf.1 h
        rw [List.getElem?_eq_none (by omega)] at this
        cases this
      rw [e]
      (repeat' (first | ((with_reducible apply gL); (first | refine yL0 ?_ | refine yL ?_ | (refine yM ?_; intro _) | fail)) | ((with_reducible apply gD); (first | (refine JD_nil ?_; try simp only [List.cons_append, List.nil_append]) | (refine JD_bar ?_; try simp only [List.cons_append, List.nil_append]) | refine yD0 ?_ | refine yD ?_ | ((with_reducible apply gD_gd); (first | (refine JD_guard xR xR ?_ ?_ <;> intro _ <;> (try (exfalso; first | contradiction | omega))) | (refine JD_guardb xR xR ?_ ?_ <;> (intro hgb; subst hgb)) | (refine JD_guardb xR xR ?_ ?_ <;> (intro hgb; fail_if_success (have : type_of% hgb := rfl))) | fail)) | fail)) | refine yJ ?_ | ((with_reducible apply gJ_if); (first | (refine J_if xR ?_ ?_ <;> intro _ <;> (try (exfalso; first | contradiction | omega))) | (refine J_ifb xR ?_ ?_ <;> (intro hgb; subst hgb)) | (refine J_ifb xR ?_ ?_ <;> intro _) | fail)) | refine J_draw (id := 5) [0, 1, 2, 3, 4, 5] [6, 7] mixed xC xD xD ?_ | refine J_draw (id := 8) [0, 1, 2, 3, 4, 5, 6, 7, 8, 9, 10, 11, 12, 13, 14] [15] mixed xC xD xD ?_ | fail))
      all_goals (first | (exfalso; omega) | skip)
      exact J_ret2 rfl (by rfl) (by rfl) fun w H => ⟨_, ⟨i, rfl, rfl⟩, H.sel .nil⟩
end Go.Proofs.YtnhabkipjmgaaaaGreat
namespace Go.Proofs.YtnhabkipjmgaaaaGreat
set_option linter.unusedSimpArgs false
set_option linter.unusedVariables false
set_option maxRecDepth 20000
set_option maxHeartbeats 4000000
open Go.RowKit Go.Pm

structure Lc where
  q : List Sg
  ad : Option Addr
  cc : Nat
def PathR (p : List Sg) (v : Value) (L' : List HP) : Prop := ∃ q a' c', v = .slice a' q.length c' ∧ pN q = pN p ∧ L' = [has (fun w => PathV w a' c' q)]
theorem pcopy_s (a : Option Addr) (c : Nat) (p : List Sg) (n : Nat) (hn : p.length = n) (h8 : n ≤ 1000) (hsm : ∀ s ∈ p, SgN s) : Pact Tryz.prog 79 #[.slice a n c] (fun w => PathV w a c p) [] (PathR p) := by
  subst hn
  refine pact Tryz.func79 rfl Tryz.ntmps79 rfl ?_
  intro W K hK
  have hv : Kn K (fun w => Vw w (.slice a p.length c) 2 p.length (flat sgC p)) := hK.imp fun _ h => h.vw
  (repeat' (first | ((with_reducible apply gL); (first | refine yL0 ?_ | refine yL ?_ | (refine yM ?_; intro _) | fail)) | ((with_reducible apply gD); (first | (refine JD_nil ?_; try simp only [List.cons_append, List.nil_append]) | (refine JD_bar ?_; try simp only [List.cons_append, List.nil_append]) | refine yD ?_ | (refine yE ?_; intro _) | (refine yB ?_; intro _ _ _ _) | fail)) | refine yJ ?_ | ((with_reducible apply gJ_if); (first | (refine J_if xR ?_ ?_ <;> intro _ <;> (try (exfalso; first | contradiction | omega))) | (refine J_ifb xR ?_ ?_ <;> (intro hgb; subst hgb)) | (refine J_ifb xR ?_ ?_ <;> intro _) | fail)) | refine J_draw (id := 5) [0, 1, 2, 3, 4, 5, 7, 8, 9, 10, 11, 6, 12, 13, 14] [15, 16] mixed xC xD xD ?_ | fail))
  rename_i b0
  refine J_loop (α := Lc) ⟨[], some ⟨b0, 0, none⟩, 0⟩ (fun x => p.length - x.q.length) (fun x => x.q.length ≤ p.length ∧ pN x.q = pN (p.take x.q.length)) (fun x => [(0, .slice a p.length c), (3, .slice x.ad x.q.length x.cc), (4, .int .i64 x.q.length)])
    (fun x => [Ar 135 2 sgC (.slice x.ad x.q.length x.cc) x.q, has (fun w => ∀ s ∈ x.q, segV w s)]) ⟨Nat.zero_le _, rfl⟩ ⟨rfl, rfl, rfl, trivial⟩ (fun w H => (Ow.hasTrue (φ := fun w => ∀ s ∈ ([] : List Sg), segV w s) (H.arLit0 .here) (by intro _ _ h; exact absurd h List.not_mem_nil)).sel xZ) ?_
  rintro ⟨q, ad, cc⟩ ⟨hq, hsame⟩
  dsimp only at hq hsame ⊢
  by_cases hlt : q.length < p.length
  · obtain ⟨s, hs⟩ : ∃ s, p[q.length]? = some s := ⟨_, List.getElem?_eq_getElem hlt⟩
    have hm := List.mem_of_getElem? hs
    have hsn := hsm s hm
    have hsn1 := hsn.1
    have hu : Kn K (fun w => Vw w (.slice s.a s.as_.length s.c) 1 s.as_.length (flat u32C s.as_)) := hK.imp fun _ h => h.segs s hm
    (repeat' (first | ((with_reducible apply gL); (first | refine yL0 ?_ | refine yL ?_ | (refine yM ?_; intro _) | fail)) | ((with_reducible apply gD); (first | (refine JD_nil ?_; try simp only [List.cons_append, List.nil_append]) | (refine JD_bar ?_; try simp only [List.cons_append, List.nil_append]) | ((with_reducible apply gD_c_append); (first | ((refine JD_appL u32C (tabE etab_ok (by rfl)) (by rfl) (by rfl) xA (Src.kn hu) (by decide +kernel) (by intro _; rfl) (all_one _ (by intro _ _; rfl)) (by omega) (by rfl) ?_; intro ad2 c2 _ _)) | ((refine JD_ap1 (z := Sg.mk s.set ad2 c2 s.as_) (tabE etab_ok (by rfl)) (by rfl) (by rfl) xA xA (by decide +kernel) (by rfl) (by intro _; rfl) (by rfl) (by omega) (by rfl) ?_; intro ad3 c3 _ _)) | fail)) | refine yD ?_ | (refine yE ?_; intro _) | (refine yB ?_; intro _ _ _ _) | fail)) | refine yJ ?_ | ((with_reducible apply gJ_if); (first | (refine J_if xR ?_ ?_ <;> intro _ <;> (try (exfalso; first | contradiction | omega))) | (refine J_ifb xR ?_ ?_ <;> (intro hgb; subst hgb)) | (refine J_ifb xR ?_ ?_ <;> intro _) | fail)) | refine J_draw (id := 5) [0, 1, 2, 3, 4, 5, 7, 8, 9, 10, 11, 6, 12, 13, 14] [15, 16] mixed xC xD xD ?_ | fail))
    refine J_again ⟨q ++ [Sg.mk s.set ad2 c2 s.as_], ad3, c3⟩ (by simp; omega) ⟨by simp; omega, ?_⟩ ⟨rfl, ?_, ?_, trivial⟩ (fun w H => ?_)
    · simp only [List.length_append, List.length_cons, List.length_nil]
      rw [take_snoc hs]
      unfold pN at hsame ⊢
      rw [List.map_append, List.map_append, hsame]
      rfl
    · show some _ = some _
      simp
    · show some _ = some _
      simp
    · simp only [List.length_append, List.length_cons, List.length_nil]
      refine (Ow.has (M := [Ar 24 1 u32C (.slice ad2 s.as_.length c2) s.as_, has (fun w => ∀ s ∈ q, segV w s)]) (φ := fun w => ∀ x ∈ q ++ [Sg.mk s.set ad2 c2 s.as_], segV w x) H xZ ?_).sel xZ
      intro w hr x hx
      rcases List.mem_append.1 hx with hx | hx
      · exact hr.has (.there .here) x hx
      · obtain rfl := List.mem_singleton.1 hx
        exact Src.ar .here w hr
  · obtain hql : q.length = p.length := by omega
    rw [hql, List.take_length] at hsame
    (repeat' (first | ((with_reducible apply gL); (first | refine yL0 ?_ | refine yL ?_ | (refine yM ?_; intro _) | fail)) | ((with_reducible apply gD); (first | (refine JD_nil ?_; try simp only [List.cons_append, List.nil_append]) | (refine JD_bar ?_; try simp only [List.cons_append, List.nil_append]) | refine yD ?_ | (refine yE ?_; intro _) | (refine yB ?_; intro _ _ _ _) | fail)) | refine yJ ?_ | ((with_reducible apply gJ_if); (first | (refine J_if xR ?_ ?_ <;> intro _ <;> (try (exfalso; first | contradiction | omega))) | (refine J_ifb xR ?_ ?_ <;> (intro hgb; subst hgb)) | (refine J_ifb xR ?_ ?_ <;> intro _) | fail)) | refine J_draw (id := 5) [0, 1, 2, 3, 4, 5, 7, 8, 9, 10, 11, 6, 12, 13, 14] [15, 16] mixed xC xD xD ?_ | fail))
    refine J_ret1 rfl (by rfl) fun w H => ⟨_, ⟨q, ad, cc, rfl, hsame, rfl⟩, ?_⟩
    refine (Ow.has (M := [Ar 135 2 sgC (.slice ad q.length cc) q, has (fun w => ∀ s ∈ q, segV w s)]) (φ := fun w => PathV w ad cc q) H xZ ?_).sel xZ
    intro w hr
    exact ⟨Src.ar .here w hr, fun s hs => hr.has (.there .here) s hs⟩
structure Lo where
  q : List Rw
  ad : Option Addr
  cc : Nat
/-- Attributes as they are copied. -/
def cpC (d : At) (n : Nat) (a' : Option Addr) (c' : Nat) (ad2 : Option Addr) (c2 : Nat) (oa : Option Addr) (k oc : Nat) : List Value := [.int .i64 d.origin, .slice a' n c', .int .u32 d.next, .bool d.hasMed, .int .u32 d.med, .bool d.hasLocal, .int .u32 d.loc, .bool d.atomic, .bool d.hasMaker, .int .u32 d.makerAS, .int .u32 d.maker, .slice ad2 d.comms.length c2, .slice oa k oc]
theorem acopy_s (d : At) (hd : AtF d) (n m k : Nat) (hn : d.path.length = n) (hm : d.comms.length = m) (hk : d.others.length = k) : Pact Tryz.prog 46 #[.agg (atN d n m k).toArray] (fun w => AtV w d) [] (CopyR d) := by
  subst hn hm hk
  refine pact Tryz.func46 rfl Tryz.ntmps46 rfl ?_
  intro W K hK
  have hd1 := hd.path
  have hd2 := hd.comms
  have hd3 := hd.others
  have hcv : Kn K (fun w => Vw w (.slice d.ca d.comms.length d.cc) 1 d.comms.length (flat u32C d.comms)) := hK.imp fun _ h => h.comms
  have hov : Kn K (fun w => Vw w (.slice d.oa d.others.length d.oc) 2 d.others.length (flat rwC d.others)) := hK.imp fun _ h => h.others.vw
  (repeat' (first | ((with_reducible apply gL); (first | refine yL0 ?_ | ((with_reducible apply gL_c_append); (first | (refine JL_appL (fs := d.comms) u32C (tabE etab_ok (by rfl)) (by rfl) (by rfl) xA (Src.kn hcv) (by decide +kernel) (by intro _; rfl) (all_one _ (by intro _ _; rfl)) (by omega) (by rfl) (by rfl) ?_; intro ad2 c2 _ _) | fail)) | refine yL ?_ | ((with_reducible apply gL_go); (first | (refine JL_goq (pcopy_s d.pa d.pc d.path _ rfl (by omega) hd.num.path) (hφ := (by (try simp only [List.cons_append, List.nil_append]); exact fun w hr => (hK w hr.1).path)) (h := ?_); rintro _ _ ⟨q, a', c', rfl, hs, rfl⟩; try simp only [List.cons_append, List.nil_append]) | fail)) | (refine yM ?_; intro _) | (refine yA ?_; intro _ _ _ _) | fail)) | ((with_reducible apply gD); (first | (refine JD_nil ?_; try simp only [List.cons_append, List.nil_append]) | (refine JD_bar ?_; try simp only [List.cons_append, List.nil_append]) | ((with_reducible apply gD_c_append); (first | (refine JL_appL (fs := d.comms) u32C (tabE etab_ok (by rfl)) (by rfl) (by rfl) xA (Src.kn hcv) (by decide +kernel) (by intro _; rfl) (all_one _ (by intro _ _; rfl)) (by omega) (by rfl) (by rfl) ?_; intro ad2 c2 _ _) | fail)) | refine yD ?_ | (refine yE ?_; intro _) | (refine yB ?_; intro _ _ _ _) | fail)) | refine yJ ?_ | ((with_reducible apply gJ_if); (first | (refine J_if xR ?_ ?_ <;> intro _ <;> (try (exfalso; first | contradiction | omega))) | (refine J_ifb xR ?_ ?_ <;> (intro hgb; subst hgb)) | (refine J_ifb xR ?_ ?_ <;> intro _) | fail)) | refine J_draw (id := 8) [0, 1, 2, 3, 4, 5, 6, 7, 9, 10, 11, 12, 13, 14, 8, 15, 16, 17] [18, 19, 20] mixed xC xD xD ?_ | fail))
  rename_i b1 b2 b3 _ _ _ b4
  refine J_loop (α := Lo) ⟨[], some ⟨b4, 0, none⟩, 0⟩ (fun x => d.others.length - x.q.length) (fun x => x.q.length ≤ d.others.length ∧ oN x.q = oN (d.others.take x.q.length)) (fun x => [(1, .pointer (some ⟨b1, 0, none⟩)), (2, .pointer (some ⟨b2, 0, none⟩)), (3, .pointer (some ⟨b3, 0, none⟩)), (4, .int .i64 x.q.length)])
    (fun x => [pts b3 (cpC d q.length a' c' ad2 c2 x.ad x.q.length x.cc) 29, Ar 104 2 rwC (.slice x.ad x.q.length x.cc) x.q, has (fun w => ∀ s ∈ x.q, rawV w s), Ar 24 1 u32C (.slice ad2 d.comms.length c2) d.comms, has (fun w => PathV w a' c' q), pts b2 [.int .i64 0, .slice none 0 0, .int .u32 0, .bool false, .int .u32 0, .bool false, .int .u32 0, .bool false, .bool false, .int .u32 0, .int .u32 0, .slice none 0 0, .slice none 0 0] 29, pts b1 (atN d d.path.length d.comms.length d.others.length) 29]) ⟨Nat.zero_le _, rfl⟩ ⟨rfl, rfl, rfl, rfl, trivial⟩ (fun w H => (Ow.hasTrue (φ := fun w => ∀ s ∈ ([] : List Rw), rawV w s) (H.arLit0 xA) (by intro _ _ h; exact absurd h List.not_mem_nil)).sel xZ) ?_
  rintro ⟨o, oa, oc⟩ ⟨ho, hsame⟩
  dsimp only at ho hsame ⊢
  by_cases hlt : o.length < d.others.length
  · obtain ⟨s, hs⟩ : ∃ s, d.others[o.length]? = some s := ⟨_, List.getElem?_eq_getElem hlt⟩
    have hm := List.mem_of_getElem? hs
    have hsn := hd.num.others s hm
    have hsn1 := hsn.2.1
    have hu : Kn K (fun w => Vw w (.slice s.a s.data.length s.c) 1 s.data.length (flat byC s.data)) := hK.imp fun _ h => h.others.raws s hm
    (repeat' (first | ((with_reducible apply gL); (first | refine yL0 ?_ | ((with_reducible apply gL_c_append); (first | ((refine JD_appL byC (tabE etab_ok (by rfl)) (by rfl) (by rfl) xA (Src.kn hu) (by decide +kernel) (by intro _; rfl) (all_one _ (by intro _ _; rfl)) (by omega) (by rfl) ?_; intro ad3 c3 _ _)) | ((refine JD_ap1 (z := Rw.mk s.kind ad3 c3 s.data) (tabE etab_ok (by rfl)) (by rfl) (by rfl) xA xA (by decide +kernel) (by rfl) (by intro _; rfl) (by rfl) (by omega) (by rfl) ?_; intro ad4 c4 _ _)) | fail)) | refine yL ?_ | (refine yM ?_; intro _) | (refine yA ?_; intro _ _ _ _) | fail)) | ((with_reducible apply gD); (first | (refine JD_nil ?_; try simp only [List.cons_append, List.nil_append]) | (refine JD_bar ?_; try simp only [List.cons_append, List.nil_append]) | ((with_reducible apply gD_c_append); (first | ((refine JD_appL byC (tabE etab_ok (by rfl)) (by rfl) (by rfl) xA (Src.kn hu) (by decide +kernel) (by intro _; rfl) (all_one _ (by intro _ _; rfl)) (by omega) (by rfl) ?_; intro ad3 c3 _ _)) | ((refine JD_ap1 (z := Rw.mk s.kind ad3 c3 s.data) (tabE etab_ok (by rfl)) (by rfl) (by rfl) xA xA (by decide +kernel) (by rfl) (by intro _; rfl) (by rfl) (by omega) (by rfl) ?_; intro ad4 c4 _ _)) | fail)) | refine yD ?_ | (refine yE ?_; intro _) | (refine yB ?_; intro _ _ _ _) | fail)) | refine yJ ?_ | ((with_reducible apply gJ_if); (first | (refine J_if xR ?_ ?_ <;> intro _ <;> (try (exfalso; first | contradiction | omega))) | (refine J_ifb xR ?_ ?_ <;> (intro hgb; subst hgb)) | (refine J_ifb xR ?_ ?_ <;> intro _) | fail)) | refine J_draw (id := 8) [0, 1, 2, 3, 4, 5, 6, 7, 9, 10, 11, 12, 13, 14, 8, 15, 16, 17] [18, 19, 20] mixed xC xD xD ?_ | fail))
    refine J_again ⟨o ++ [Rw.mk s.kind ad3 c3 s.data], ad4, c4⟩ (by simp; omega) ⟨by simp; omega, ?_⟩ ⟨rfl, rfl, rfl, ?_, trivial⟩ (fun w H => ?_)
    · simp only [List.length_append, List.length_cons, List.length_nil]
      rw [take_snoc hs]
      unfold oN at hsame ⊢
      rw [List.map_append, List.map_append, hsame]
      rfl
    · show some _ = some _
      simp
    · simp only [List.length_append, List.length_cons, List.length_nil]
      refine (Ow.has (M := [Ar 5 1 byC (.slice ad3 s.data.length c3) s.data, has (fun w => ∀ s ∈ o, rawV w s)]) (φ := fun w => ∀ x ∈ o ++ [Rw.mk s.kind ad3 c3 s.data], rawV w x) H xZ ?_).sel xZ
      intro w hr x hx
      rcases List.mem_append.1 hx with hx | hx
      · exact hr.has (.there .here) x hx
      · obtain rfl := List.mem_singleton.1 hx
        exact Src.ar .here w hr
  · obtain hol : o.length = d.others.length := by omega
    rw [hol, List.take_length] at hsame
    (repeat' (first | ((with_reducible apply gL); (first | refine yL0 ?_ | refine yL ?_ | (refine yM ?_; intro _) | (refine yA ?_; intro _ _ _ _) | fail)) | ((with_reducible apply gD); (first | (refine JD_nil ?_; try simp only [List.cons_append, List.nil_append]) | (refine JD_bar ?_; try simp only [List.cons_append, List.nil_append]) | refine yD ?_ | (refine yE ?_; intro _) | (refine yB ?_; intro _ _ _ _) | fail)) | refine yJ ?_ | ((with_reducible apply gJ_if); (first | (refine J_if xR ?_ ?_ <;> intro _ <;> (try (exfalso; first | contradiction | omega))) | (refine J_ifb xR ?_ ?_ <;> (intro hgb; subst hgb)) | (refine J_ifb xR ?_ ?_ <;> intro _) | fail)) | refine J_draw (id := 8) [0, 1, 2, 3, 4, 5, 6, 7, 9, 10, 11, 12, 13, 14, 8, 15, 16, 17] [18, 19, 20] mixed xC xD xD ?_ | fail))
    refine J_retC (cs := cpC d q.length a' c' ad2 c2 oa o.length oc) rfl (by rfl) xA (by rfl) fun w H => ⟨_, ⟨d.at_ q a' c' d.comms ad2 c2 o oa oc, At.at_num hd _ _ _ _ _ _ _ _ _ hs rfl hsame, d.at_nf _ _ _ _ _ _ _ _ _ hs rfl hsame, rfl, rfl⟩, ?_⟩
    refine (Ow.has (M := [has (fun w => PathV w a' c' q), Ar 24 1 u32C (.slice ad2 d.comms.length c2) d.comms, Ar 104 2 rwC (.slice oa o.length oc) o, has (fun w => ∀ s ∈ o, rawV w s)]) (φ := fun w => AtV w (d.at_ q a' c' d.comms ad2 c2 o oa oc)) H xZ ?_).sel xZ
    intro w hr
    exact ⟨hr.has .here, Src.ar (.there .here) w hr, Src.ar (.there (.there .here)) w hr, fun s hs => hr.has (.there (.there (.there .here))) s hs⟩
theorem Vw_take {w : World} {a : Option Addr} {c sz n : Nat} {α : Type} {enc : α → List Value} {es : List α} (h : Vw w (.slice a n c) sz n (flat enc es)) (hl : ∀ x, (enc x).length = sz) (hn : es.length = n) (j m : Nat) (hm : (es.take j).length = m) : Vw w (.slice a m c) sz m (flat enc (es.take j)) := by
  obtain ⟨a', cap, he, h1, h2, h3, h4, h5⟩ := h
  cases he
  have hpre : flat enc es = flat enc (es.take j) ++ flat enc (es.drop j) := by rw [← flat_append, List.take_append_drop]
  have hmn : m ≤ n := by rw [← hm, ← hn, List.length_take]; omega
  refine ⟨a, c, rfl, by rw [flat_length hl, hm], by omega, h3, fun h => ⟨by have := (h4 h).1; omega, (h4 h).2⟩, fun hne => ?_⟩
  have hne' : flat enc es ≠ [] := by
    intro h
    rw [hpre] at h
    exact hne (List.append_eq_nil_iff.1 h).1
  obtain ⟨b, off, hb, hc⟩ := h5 hne'
  refine ⟨b, off, hb, fun k u hk => hc k u ?_⟩
  rw [hpre, List.getElem?_append_left (List.getElem?_eq_some_iff.1 hk).1]
  exact hk
/-- So many of them at most. -/
def At.tr (d : At) : At := d.at_ (d.path.take 8) d.pa d.pc (d.comms.take 40) d.ca d.cc (d.others.take 9) d.oa d.oc
theorem AtV.tr {w : World} {d : At} (h : AtV w d) : AtV w d.tr :=
  ⟨⟨Vw_take h.path.vw (by intro _; rfl) rfl 8 _ rfl, fun s hs => h.path.segs s (List.take_subset _ _ hs)⟩, Vw_take h.comms (by intro _; rfl) rfl 40 _ rfl, ⟨Vw_take h.others.vw (by intro _; rfl) rfl 9 _ rfl, fun s hs => h.others.raws s (List.take_subset _ _ hs)⟩⟩
end Go.Proofs.YtnhabkipjmgaaaaGreat
namespace Go.Proofs.YtnhabkipjmgaaaaGreat
set_option linter.unusedSimpArgs false
set_option linter.unusedVariables false
set_option maxRecDepth 20000
set_option maxHeartbeats 4000000
open Go.RowKit Go.Pm

/-- May a path be? -/
def ckP : List (Bool × List Int) → Nat → Bool
  | [], _ => true
  | s :: p, n => if s.2.length = 0 ∨ 255 < s.2.length then false else if (0 : Int) ∈ s.2 then false else if 64 < n + s.2.length then false else ckP p (n + s.2.length)
def er (b : Bool) : Int := if b then 0 else 2
def kno (k : Int) : Bool := decide ((1 ≤ k ∧ k ≤ 8) ∨ k = 17 ∨ k = 18)
/-- May those be that are not known? -/
def ckO : List (Int × List Int) → Int → Bool
  | [], _ => true
  | o :: l, last => if o.1 ≤ last ∨ 255 < o.1 ∨ kno o.1 = true ∨ 255 < o.2.length then false else ckO l o.1
theorem ckO_step {p : List Rw} {k : Nat} {s : Rw} (hs : p[k]? = some s) (n : Int) : ckO (oN (p.drop k)) n = (if s.kind ≤ n ∨ 255 < s.kind ∨ kno s.kind = true ∨ 255 < s.data.length then false else ckO (oN (p.drop (k + 1))) s.kind) := by
  have : p.drop k = s :: p.drop (k + 1) := by
    obtain ⟨hk, e⟩ := List.getElem?_eq_some_iff.1 hs
    rw [List.drop_eq_getElem_cons hk, e]
  rw [this]
  rfl
/-- May attributes be? -/
structure OkN (x : Nf) : Prop where
  origin : 0 ≤ x.origin ∧ x.origin ≤ 2
  path : ckP x.path 0 = true
  next : x.next ≠ 0 ∧ x.next < 3758096384
  maker : ∀ m, x.maker = some m → m.1 ≠ 0
  comms : x.comms.length ≤ 32
  others : x.others.length ≤ 8 ∧ ckO x.others (-1) = true
open Classical in
noncomputable def okN (x : Nf) : Bool := decide (OkN x)
open Classical in
theorem okN_t {d : At} (h1 : 0 ≤ d.origin ∧ d.origin ≤ 2) (h2 : ckP (pN d.path) 0 = true) (h3 : d.next ≠ 0 ∧ d.next < 3758096384) (h4 : d.hasMaker = true → d.makerAS ≠ 0) (h5 : d.comms.length ≤ 32) (h6 : d.others.length ≤ 8) (h7 : ckO (oN d.others) (-1) = true) : okN d.nf = true := by
  refine decide_eq_true ⟨h1, h2, h3, fun m hm => ?_, h5, by simpa [At.nf, oN] using h6, h7⟩
  unfold At.nf at hm
  dsimp only at hm
  split at hm
  · cases hm; exact h4 (by assumption)
  · cases hm
open Classical in
theorem okN_f {d : At} (h : ¬ ((0 ≤ d.origin ∧ d.origin ≤ 2) ∧ ckP (pN d.path) 0 = true ∧ (d.next ≠ 0 ∧ d.next < 3758096384) ∧ (d.hasMaker = true → d.makerAS ≠ 0) ∧ d.comms.length ≤ 32 ∧ d.others.length ≤ 8 ∧ ckO (oN d.others) (-1) = true)) : okN d.nf = false := by
  refine decide_eq_false fun hh => h ⟨hh.origin, hh.path, hh.next, fun hm => ?_, hh.comms, by simpa [At.nf, oN] using hh.others.1, hh.others.2⟩
  exact hh.maker (d.makerAS, d.maker) (by simp [At.nf, hm])
end Go.Proofs.YtnhabkipjmgaaaaGreat
namespace Go.Pm
set_option linter.unusedSimpArgs false
set_option linter.unusedVariables false
open Go.RowKit
section
variable {P : Program} {n : Nat} {W : World} {K : Hl} {F : Fp} {k : List It} {tm : TM} {L L' R S M C : List HP} {T : TypeId} {pos : String} {af : Array Edge} {gd : Option (Nat × Bool)} {ops : Array Oper} {rest nx : List Oper} {d : Option Tmp}
end
end Go.Pm
namespace Go.Proofs.YtnhabkipjmgaaaaGreat
set_option linter.unusedSimpArgs false
set_option linter.unusedVariables false
set_option maxRecDepth 20000
set_option maxHeartbeats 4000000
open Go.RowKit Go.Pm

theorem strOf_inj {l m : List Int} (hl : ∀ z ∈ l, U8 z) (hm : ∀ z ∈ m, U8 z) (h : strOfNums l = strOfNums m) : l = m := by
  have h2 : l.map (fun n => UInt8.ofNat n.toNat) = m.map (fun n => UInt8.ofNat n.toNat) := by
    have := congrArg (fun b => b.data.toList) h
    simpa [strOfNums] using this
  clear h
  induction l generalizing m with
  | nil => cases m with | nil => rfl | cons => simp at h2
  | cons x l ih =>
    cases m with
    | nil => simp at h2
    | cons y m =>
      simp only [List.map_cons, List.cons.injEq] at h2
      obtain ⟨e1, e2⟩ := h2
      have a1 := hl x (List.mem_cons_self ..)
      have a2 := hm y (List.mem_cons_self ..)
      unfold U8 at a1 a2
      have e3 := congrArg UInt8.toNat e1
      simp only [UInt8.toNat_ofNat'] at e3
      have : x = y := by omega
      rw [this, ih (fun z hz => hl z (List.mem_cons_of_mem _ hz)) (fun z hz => hm z (List.mem_cons_of_mem _ hz)) e2]
/-- All that is looked at ahead of the loops. -/
structure HeadEq (d e : At) : Prop where
  origin : d.origin = e.origin
  path : pN d.path = pN e.path
  next : d.next = e.next
  hasMed : d.hasMed = e.hasMed
  med : d.hasMed = true → d.med = e.med
  hasLocal : d.hasLocal = e.hasLocal
  loc : d.hasLocal = true → d.loc = e.loc
  atomic : d.atomic = e.atomic
  hasMaker : d.hasMaker = e.hasMaker
  makerAS : d.hasMaker = true → d.makerAS = e.makerAS
  maker : d.hasMaker = true → d.maker = e.maker
  comms : d.comms.length = e.comms.length
  others : d.others.length = e.others.length
end Go.Proofs.YtnhabkipjmgaaaaGreat
