/-
  Attributes: what they look like in memory, and what they say.
-/
import Derived.Test.YtimamemekdmpeaaWProg
import Derived.Test.YtimamemekdmpeaaJu
import Derived.Test.YtimamemekdmpeaaJp
namespace Go.Proofs.Ytimamemekdmpeaa
set_option linter.unusedSimpArgs false
set_option linter.unusedVariables false
open Go.RowKit Go.Pm


def I64 (n : Int) : Prop := -9223372036854775808 ≤ n ∧ n ≤ 9223372036854775807
def U32 (n : Int) : Prop := 0 ≤ n ∧ n ≤ 4294967295
def U8 (n : Int) : Prop := 0 ≤ n ∧ n ≤ 255
def u32C (n : Int) : List Value := [.int .u32 n]
abbrev ret0 (v : Value) : Value → List HP → Prop := fun u L' => u = v ∧ L' = []
/-- A segment. -/
structure Sg where
  set : Bool
  a : Option Addr
  c : Nat
  as_ : List Int
def sgC (s : Sg) : List Value := [.bool s.set, .slice s.a s.as_.length s.c]
/-- An attribute that is not known. -/
structure Rw where
  kind : Int
  a : Option Addr
  c : Nat
  data : List Int
def rwC (r : Rw) : List Value := [.int .i64 r.kind, .slice r.a r.data.length r.c]
/-- Attributes. -/
structure At where
  origin : Int
  pa : Option Addr
  pc : Nat
  path : List Sg
  next : Int
  hasMed : Bool
  med : Int
  hasLocal : Bool
  loc : Int
  atomic : Bool
  hasMaker : Bool
  makerAS : Int
  maker : Int
  ca : Option Addr
  cc : Nat
  comms : List Int
  oa : Option Addr
  oc : Nat
  others : List Rw
def atN (c : At) (n m k : Nat) : List Value := [.int .i64 c.origin, .slice c.pa n c.pc, .int .u32 c.next, .bool c.hasMed, .int .u32 c.med, .bool c.hasLocal, .int .u32 c.loc, .bool c.atomic, .bool c.hasMaker, .int .u32 c.makerAS, .int .u32 c.maker, .slice c.ca m c.cc, .slice c.oa k c.oc]
def atC (c : At) : List Value := atN c c.path.length c.comms.length c.others.length
/-- A segment, an unknown one can be read. -/
def segV (w : World) (s : Sg) : Prop := Vw w (.slice s.a s.as_.length s.c) 1 s.as_.length (flat u32C s.as_)
def rawV (w : World) (r : Rw) : Prop := Vw w (.slice r.a r.data.length r.c) 1 r.data.length (flat byC r.data)
structure PathV (w : World) (a : Option Addr) (c : Nat) (p : List Sg) : Prop where
  vw : Vw w (.slice a p.length c) 2 p.length (flat sgC p)
  segs : ∀ s ∈ p, segV w s
structure RawsV (w : World) (a : Option Addr) (c : Nat) (p : List Rw) : Prop where
  vw : Vw w (.slice a p.length c) 2 p.length (flat rwC p)
  raws : ∀ s ∈ p, rawV w s
structure AtV (w : World) (d : At) : Prop where
  path : PathV w d.pa d.pc d.path
  comms : Vw w (.slice d.ca d.comms.length d.cc) 1 d.comms.length (flat u32C d.comms)
  others : RawsV w d.oa d.oc d.others
/-- Numbers of their types. -/
def SgN (s : Sg) : Prop := s.as_.length ≤ 35184372088832 ∧ ∀ z ∈ s.as_, U32 z
def RwN (r : Rw) : Prop := I64 r.kind ∧ r.data.length ≤ 140737488355328 ∧ ∀ z ∈ r.data, U8 z
structure AtN (d : At) : Prop where
  origin : I64 d.origin
  next : U32 d.next
  med : U32 d.med
  loc : U32 d.loc
  makerAS : U32 d.makerAS
  maker : U32 d.maker
  path : ∀ s ∈ d.path, SgN s
  comms : ∀ z ∈ d.comms, U32 z
  others : ∀ r ∈ d.others, RwN r
/-- Not too many. -/
structure AtF (d : At) : Prop where
  num : AtN d
  path : d.path.length ≤ 8
  comms : d.comms.length ≤ 40
  others : d.others.length ≤ 9
/-- What they say. -/
structure Nf where
  origin : Int
  path : List (Bool × List Int)
  next : Int
  med : Option Int
  loc : Option Int
  atomic : Bool
  maker : Option (Int × Int)
  comms : List Int
  others : List (Int × List Int)
deriving DecidableEq
def pN (p : List Sg) : List (Bool × List Int) := p.map fun s => (s.set, s.as_)
def oN (p : List Rw) : List (Int × List Int) := p.map fun r => (r.kind, r.data)
def At.nf (d : At) : Nf := ⟨d.origin, pN d.path, d.next, if d.hasMed then some d.med else none, if d.hasLocal then some d.loc else none, d.atomic, if d.hasMaker then some (d.makerAS, d.maker) else none, d.comms, oN d.others⟩
/-- The same with its memory elsewhere. -/
def At.at_ (c : At) (p : List Sg) (pa : Option Addr) (pc : Nat) (q : List Int) (ca : Option Addr) (cc : Nat) (o : List Rw) (oa : Option Addr) (oc : Nat) : At := { c with path := p, pa := pa, pc := pc, comms := q, ca := ca, cc := cc, others := o, oa := oa, oc := oc }
theorem At.at_nf (c : At) (p : List Sg) (pa : Option Addr) (pc : Nat) (q : List Int) (ca : Option Addr) (cc : Nat) (o : List Rw) (oa : Option Addr) (oc : Nat) (h1 : pN p = pN c.path) (h2 : q = c.comms) (h3 : oN o = oN c.others) : (c.at_ p pa pc q ca cc o oa oc).nf = c.nf := by
  subst h2
  simp only [At.nf, At.at_, h1, h3]
  rfl
theorem pN_len {p q : List Sg} (h : pN p = pN q) : p.length = q.length := by have := congrArg List.length h; simpa [pN] using this
theorem oN_len {p q : List Rw} (h : oN p = oN q) : p.length = q.length := by have := congrArg List.length h; simpa [oN] using this
theorem pN_num {p q : List Sg} (h : pN p = pN q) (hn : ∀ s ∈ q, SgN s) : ∀ s ∈ p, SgN s := by
  intro s hs
  have : (s.set, s.as_) ∈ pN q := h ▸ List.mem_map.2 ⟨s, hs, rfl⟩
  obtain ⟨t, ht, e⟩ := List.mem_map.1 this
  have e2 : t.as_ = s.as_ := congrArg Prod.snd e
  have := hn t ht
  unfold SgN at this ⊢
  rwa [e2] at this
theorem oN_num {p q : List Rw} (h : oN p = oN q) (hn : ∀ s ∈ q, RwN s) : ∀ s ∈ p, RwN s := by
  intro s hs
  have : (s.kind, s.data) ∈ oN q := h ▸ List.mem_map.2 ⟨s, hs, rfl⟩
  obtain ⟨t, ht, e⟩ := List.mem_map.1 this
  have e1 : t.kind = s.kind := congrArg Prod.fst e
  have e2 : t.data = s.data := congrArg Prod.snd e
  have := hn t ht
  unfold RwN at this ⊢
  rwa [e1, e2] at this
theorem At.at_num {c : At} (h : AtF c) (p : List Sg) (pa : Option Addr) (pc : Nat) (q : List Int) (ca : Option Addr) (cc : Nat) (o : List Rw) (oa : Option Addr) (oc : Nat) (h1 : pN p = pN c.path) (h2 : q = c.comms) (h3 : oN o = oN c.others) : AtF (c.at_ p pa pc q ca cc o oa oc) := by
  subst h2
  exact ⟨⟨h.num.origin, h.num.next, h.num.med, h.num.loc, h.num.makerAS, h.num.maker, pN_num h1 h.num.path, h.num.comms, oN_num h3 h.num.others⟩, (pN_len h1).symm ▸ h.path, h.comms, (oN_len h3).symm ▸ h.others⟩
theorem take_snoc {α : Type} {l : List α} {k : Nat} {x : α} (h : l[k]? = some x) : l.take (k + 1) = l.take k ++ [x] := by
  rw [List.take_add_one, h]; rfl
/-- Owned, only read from now on. -/
def CopyR (d : At) (v : Value) (L' : List HP) : Prop := ∃ d', AtF d' ∧ d'.nf = d.nf ∧ v = .agg (atC d').toArray ∧ L' = [has (fun w => AtV w d')]
end Go.Proofs.Ytimamemekdmpeaa
