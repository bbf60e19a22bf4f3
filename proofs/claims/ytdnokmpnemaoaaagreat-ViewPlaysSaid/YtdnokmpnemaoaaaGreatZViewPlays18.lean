/-
  Aq1, Aq2, Aq3, Jv: merged.
-/
import Derived.Test.YtdnokmpnemaoaaaGreatZViewPlays17
import Derived.Laws.Concat
import Derived.Laws.Strings2
namespace Go.Proofs.YtdnokmpnemaoaaaGreat
set_option linter.unusedSimpArgs false
set_option linter.unusedVariables false
open Go.RowKit Go.Pm

def I64 (n : Int) : Prop := -9223372036854775808 ≤ n ∧ n ≤ 9223372036854775807
def U32 (n : Int) : Prop := 0 ≤ n ∧ n ≤ 4294967295
def U8 (n : Int) : Prop := 0 ≤ n ∧ n ≤ 255
def u32C (n : Int) : List Value := [.int .u32 n]
abbrev ret0 (v : Value) : Value → List HP → Prop := fun u L' => u = v ∧ L' = []
structure Sg where
  set : Bool
  a : Option Addr
  c : Nat
  as_ : List Int
def sgC (s : Sg) : List Value := [.bool s.set, .slice s.a s.as_.length s.c]
structure Rw where
  kind : Int
  a : Option Addr
  c : Nat
  data : List Int
def rwC (r : Rw) : List Value := [.int .i64 r.kind, .slice r.a r.data.length r.c]
structure At where
  origin : Int
  pa : Option Addr
  pc : Nat
  path : List Sg
  next : Int
  hasMed : Bool
  med : Int
  hasLocal : Bool
  loc : Int
  atomic : Bool
  hasMaker : Bool
  makerAS : Int
  maker : Int
  ca : Option Addr
  cc : Nat
  comms : List Int
  oa : Option Addr
  oc : Nat
  others : List Rw
def atN (c : At) (n m k : Nat) : List Value := [.int .i64 c.origin, .slice c.pa n c.pc, .int .u32 c.next, .bool c.hasMed, .int .u32 c.med, .bool c.hasLocal, .int .u32 c.loc, .bool c.atomic, .bool c.hasMaker, .int .u32 c.makerAS, .int .u32 c.maker, .slice c.ca m c.cc, .slice c.oa k c.oc]
def atC (c : At) : List Value := atN c c.path.length c.comms.length c.others.length
def segV (w : World) (s : Sg) : Prop := Vw w (.slice s.a s.as_.length s.c) 1 s.as_.length (flat u32C s.as_)
def rawV (w : World) (r : Rw) : Prop := Vw w (.slice r.a r.data.length r.c) 1 r.data.length (flat byC r.data)
structure PathV (w : World) (a : Option Addr) (c : Nat) (p : List Sg) : Prop where
  vw : Vw w (.slice a p.length c) 2 p.length (flat sgC p)
  segs : ∀ s ∈ p, segV w s
structure RawsV (w : World) (a : Option Addr) (c : Nat) (p : List Rw) : Prop where
  vw : Vw w (.slice a p.length c) 2 p.length (flat rwC p)
  raws : ∀ s ∈ p, rawV w s
structure AtV (w : World) (d : At) : Prop where
  path : PathV w d.pa d.pc d.path
  comms : Vw w (.slice d.ca d.comms.length d.cc) 1 d.comms.length (flat u32C d.comms)
  others : RawsV w d.oa d.oc d.others
def SgN (s : Sg) : Prop := s.as_.length ≤ 35184372088832 ∧ ∀ z ∈ s.as_, U32 z
def RwN (r : Rw) : Prop := I64 r.kind ∧ r.data.length ≤ 140737488355328 ∧ ∀ z ∈ r.data, U8 z
structure AtN (d : At) : Prop where
  origin : I64 d.origin
  next : U32 d.next
  med : U32 d.med
  loc : U32 d.loc
  makerAS : U32 d.makerAS
  maker : U32 d.maker
  path : ∀ s ∈ d.path, SgN s
  comms : ∀ z ∈ d.comms, U32 z
  others : ∀ r ∈ d.others, RwN r
structure AtF (d : At) : Prop where
  num : AtN d
  path : d.path.length ≤ 8
  comms : d.comms.length ≤ 40
  others : d.others.length ≤ 9
structure Nf where
  origin : Int
  path : List (Bool × List Int)
  next : Int
  med : Option Int
  loc : Option Int
  atomic : Bool
  maker : Option (Int × Int)
  comms : List Int
  others : List (Int × List Int)
deriving DecidableEq
def pN (p : List Sg) : List (Bool × List Int) := p.map fun s => (s.set, s.as_)
def oN (p : List Rw) : List (Int × List Int) := p.map fun r => (r.kind, r.data)
def At.nf (d : At) : Nf := ⟨d.origin, pN d.path, d.next, if d.hasMed then some d.med else none, if d.hasLocal then some d.loc else none, d.atomic, if d.hasMaker then some (d.makerAS, d.maker) else none, d.comms, oN d.others⟩
def At.at_ (c : At) (p : List Sg) (pa : Option Addr) (pc : Nat) (q : List Int) (ca : Option Addr) (cc : Nat) (o : List Rw) (oa : Option Addr) (oc : Nat) : At := { c with path := p, pa := pa, pc := pc, comms := q, ca := ca, cc := cc, others := o, oa := oa, oc := oc }
theorem At.at_nf (c : At) (p : List Sg) (pa : Option Addr) (pc : Nat) (q : List Int) (ca : Option Addr) (cc : Nat) (o : List Rw) (oa : Option Addr) (oc : Nat) (h1 : pN p = pN c.path) (h2 : q = c.comms) (h3 : oN o = oN c.others) : (c.at_ p pa pc q ca cc o oa oc).nf = c.nf := by
  subst h2
  simp only [At.nf, At.at_, h1, h3]
  rfl
theorem pN_len {p q : List Sg} (h : pN p = pN q) : p.length = q.length := by have := congrArg List.length h; simpa [pN] using this
theorem oN_len {p q : List Rw} (h : oN p = oN q) : p.length = q.length := by have := congrArg List.length h; simpa [oN] using this
theorem pN_num {p q : List Sg} (h : pN p = pN q) (hn : ∀ s ∈ q, SgN s) : ∀ s ∈ p, SgN s := by
  intro s hs
  have : (s.set, s.as_) ∈ pN q := h ▸ List.mem_map.2 ⟨s, hs, rfl⟩
  obtain ⟨t, ht, e⟩ := List.mem_map.1 this
  have e2 : t.as_ = s.as_ := congrArg Prod.snd e
  have := hn t ht
  unfold SgN at this ⊢
  rwa [e2] at this
theorem oN_num {p q : List Rw} (h : oN p = oN q) (hn : ∀ s ∈ q, RwN s) : ∀ s ∈ p, RwN s := by
  intro s hs
  have : (s.kind, s.data) ∈ oN q := h ▸ List.mem_map.2 ⟨s, hs, rfl⟩
  obtain ⟨t, ht, e⟩ := List.mem_map.1 this
  have e1 : t.kind = s.kind := congrArg Prod.fst e
  have e2 : t.data = s.data := congrArg Prod.snd e
  have := hn t ht
  unfold RwN at this ⊢
  rwa [e1, e2] at this
theorem At.at_num {c : At} (h : AtF c) (p : List Sg) (pa : Option Addr) (pc : Nat) (q : List Int) (ca : Option Addr) (cc : Nat) (o : List Rw) (oa : Option Addr) (oc : Nat) (h1 : pN p = pN c.path) (h2 : q = c.comms) (h3 : oN o = oN c.others) : AtF (c.at_ p pa pc q ca cc o oa oc) := by
  subst h2
  exact ⟨⟨h.num.origin, h.num.next, h.num.med, h.num.loc, h.num.makerAS, h.num.maker, pN_num h1 h.num.path, h.num.comms, oN_num h3 h.num.others⟩, (pN_len h1).symm ▸ h.path, h.comms, (oN_len h3).symm ▸ h.others⟩
theorem take_snoc {α : Type} {l : List α} {k : Nat} {x : α} (h : l[k]? = some x) : l.take (k + 1) = l.take k ++ [x] := by
  rw [List.take_add_one, h]; rfl
def CopyR (d : At) (v : Value) (L' : List HP) : Prop := ∃ d', AtF d' ∧ d'.nf = d.nf ∧ v = .agg (atC d').toArray ∧ L' = [has (fun w => AtV w d')]
end Go.Proofs.YtdnokmpnemaoaaaGreat
namespace Go.Proofs.YtdnokmpnemaoaaaGreat
set_option linter.unusedSimpArgs false
set_option linter.unusedVariables false
set_option maxRecDepth 20000
set_option maxHeartbeats 4000000
open Go.RowKit Go.Pm

structure Lc where
  q : List Sg
  ad : Option Addr
  cc : Nat
def PathR (p : List Sg) (v : Value) (L' : List HP) : Prop := ∃ q a' c', v = .slice a' q.length c' ∧ pN q = pN p ∧ L' = [has (fun w => PathV w a' c' q)]
theorem pcopy_s (a : Option Addr) (c : Nat) (p : List Sg) (n : Nat) (hn : p.length = n) (h8 : n ≤ 1000) (hsm : ∀ s ∈ p, SgN s) : Pact Tryz.prog 62 #[.slice a n c] (fun w => PathV w a c p) [] (PathR p) := by
  subst hn
  refine pact Tryz.func62 rfl Tryz.ntmps62 rfl ?_
  intro W K hK
  have hv : Kn K (fun w => Vw w (.slice a p.length c) 2 p.length (flat sgC p)) := hK.imp fun _ h => h.vw
  (repeat' (first | ((with_reducible apply gL); (first | refine yL0 ?_ | refine yL ?_ | (refine yM ?_; intro _) | fail)) | ((with_reducible apply gD); (first | (refine JD_nil ?_; try simp only [List.cons_append, List.nil_append]) | (refine JD_bar ?_; try simp only [List.cons_append, List.nil_append]) | refine yD ?_ | (refine yE ?_; intro _) | (refine yB ?_; intro _ _ _ _) | fail)) | refine yJ ?_ | ((with_reducible apply gJ_if); (first | (refine J_if xR ?_ ?_ <;> intro _ <;> (try (exfalso; first | contradiction | omega))) | (refine J_ifb xR ?_ ?_ <;> (intro hgb; subst hgb)) | (refine J_ifb xR ?_ ?_ <;> intro _) | fail)) | refine J_draw (id := 5) [0, 1, 2, 3, 4, 5, 7, 8, 9, 10, 11, 6, 12, 13, 14] [15, 16] mixed xC xD xD ?_ | fail))
  rename_i b0
  refine J_loop (α := Lc) ⟨[], some ⟨b0, 0, none⟩, 0⟩ (fun x => p.length - x.q.length) (fun x => x.q.length ≤ p.length ∧ pN x.q = pN (p.take x.q.length)) (fun x => [(0, .slice a p.length c), (3, .slice x.ad x.q.length x.cc), (4, .int .i64 x.q.length)])
    (fun x => [Ar 87 2 sgC (.slice x.ad x.q.length x.cc) x.q, has (fun w => ∀ s ∈ x.q, segV w s)]) ⟨Nat.zero_le _, rfl⟩ ⟨rfl, rfl, rfl, trivial⟩ (fun w H => (Ow.hasTrue (φ := fun w => ∀ s ∈ ([] : List Sg), segV w s) (H.arLit0 .here) (by intro _ _ h; exact absurd h List.not_mem_nil)).sel xZ) ?_
  rintro ⟨q, ad, cc⟩ ⟨hq, hsame⟩
  dsimp only at hq hsame ⊢
  by_cases hlt : q.length < p.length
  · obtain ⟨s, hs⟩ : ∃ s, p[q.length]? = some s := ⟨_, List.getElem?_eq_getElem hlt⟩
    have hm := List.mem_of_getElem? hs
    have hsn := hsm s hm
    have hsn1 := hsn.1
    have hu : Kn K (fun w => Vw w (.slice s.a s.as_.length s.c) 1 s.as_.length (flat u32C s.as_)) := hK.imp fun _ h => h.segs s hm
    (repeat' (first | ((with_reducible apply gL); (first | refine yL0 ?_ | refine yL ?_ | (refine yM ?_; intro _) | fail)) | ((with_reducible apply gD); (first | (refine JD_nil ?_; try simp only [List.cons_append, List.nil_append]) | (refine JD_bar ?_; try simp only [List.cons_append, List.nil_append]) | ((with_reducible apply gD_c_append); (first | ((refine JD_appL u32C (tabE etab_ok (by rfl)) (by rfl) (by rfl) xA (Src.kn hu) (by decide +kernel) (by intro _; rfl) (all_one _ (by intro _ _; rfl)) (by omega) (by rfl) ?_; intro ad2 c2 _ _)) | ((refine JD_ap1 (z := Sg.mk s.set ad2 c2 s.as_) (tabE etab_ok (by rfl)) (by rfl) (by rfl) xA xA (by decide +kernel) (by rfl) (by intro _; rfl) (by rfl) (by omega) (by rfl) ?_; intro ad3 c3 _ _)) | fail)) | refine yD ?_ | (refine yE ?_; intro _) | (refine yB ?_; intro _ _ _ _) | fail)) | refine yJ ?_ | ((with_reducible apply gJ_if); (first | (refine J_if xR ?_ ?_ <;> intro _ <;> (try (exfalso; first | contradiction | omega))) | (refine J_ifb xR ?_ ?_ <;> (intro hgb; subst hgb)) | (refine J_ifb xR ?_ ?_ <;> intro _) | fail)) | refine J_draw (id := 5) [0, 1, 2, 3, 4, 5, 7, 8, 9, 10, 11, 6, 12, 13, 14] [15, 16] mixed xC xD xD ?_ | fail))
    refine J_again ⟨q ++ [Sg.mk s.set ad2 c2 s.as_], ad3, c3⟩ (by simp; omega) ⟨by simp; omega, ?_⟩ ⟨rfl, ?_, ?_, trivial⟩ (fun w H => ?_)
    · simp only [List.length_append, List.length_cons, List.length_nil]
      rw [take_snoc hs]
      unfold pN at hsame ⊢
      rw [List.map_append, List.map_append, hsame]
      rfl
    · show some _ = some _
      simp
    · show some _ = some _
      simp
    · simp only [List.length_append, List.length_cons, List.length_nil]
      refine (Ow.has (M := [Ar 22 1 u32C (.slice ad2 s.as_.length c2) s.as_, has (fun w => ∀ s ∈ q, segV w s)]) (φ := fun w => ∀ x ∈ q ++ [Sg.mk s.set ad2 c2 s.as_], segV w x) H xZ ?_).sel xZ
      intro w hr x hx
      rcases List.mem_append.1 hx with hx | hx
      · exact hr.has (.there .here) x hx
      · obtain rfl := List.mem_singleton.1 hx
        exact Src.ar .here w hr
  · obtain hql : q.length = p.length := by omega
    rw [hql, List.take_length] at hsame
    (repeat' (first | ((with_reducible apply gL); (first | refine yL0 ?_ | refine yL ?_ | (refine yM ?_; intro _) | fail)) | ((with_reducible apply gD); (first | (refine JD_nil ?_; try simp only [List.cons_append, List.nil_append]) | (refine JD_bar ?_; try simp only [List.cons_append, List.nil_append]) | refine yD ?_ | (refine yE ?_; intro _) | (refine yB ?_; intro _ _ _ _) | fail)) | refine yJ ?_ | ((with_reducible apply gJ_if); (first | (refine J_if xR ?_ ?_ <;> intro _ <;> (try (exfalso; first | contradiction | omega))) | (refine J_ifb xR ?_ ?_ <;> (intro hgb; subst hgb)) | (refine J_ifb xR ?_ ?_ <;> intro _) | fail)) | refine J_draw (id := 5) [0, 1, 2, 3, 4, 5, 7, 8, 9, 10, 11, 6, 12, 13, 14] [15, 16] mixed xC xD xD ?_ | fail))
    refine J_ret1 rfl (by rfl) fun w H => ⟨_, ⟨q, ad, cc, rfl, hsame, rfl⟩, ?_⟩
    refine (Ow.has (M := [Ar 87 2 sgC (.slice ad q.length cc) q, has (fun w => ∀ s ∈ q, segV w s)]) (φ := fun w => PathV w ad cc q) H xZ ?_).sel xZ
    intro w hr
    exact ⟨Src.ar .here w hr, fun s hs => hr.has (.there .here) s hs⟩
structure Lo where
  q : List Rw
  ad : Option Addr
  cc : Nat
def cpC (d : At) (n : Nat) (a' : Option Addr) (c' : Nat) (ad2 : Option Addr) (c2 : Nat) (oa : Option Addr) (k oc : Nat) : List Value := [.int .i64 d.origin, .slice a' n c', .int .u32 d.next, .bool d.hasMed, .int .u32 d.med, .bool d.hasLocal, .int .u32 d.loc, .bool d.atomic, .bool d.hasMaker, .int .u32 d.makerAS, .int .u32 d.maker, .slice ad2 d.comms.length c2, .slice oa k oc]
theorem acopy_s (d : At) (hd : AtF d) (n m k : Nat) (hn : d.path.length = n) (hm : d.comms.length = m) (hk : d.others.length = k) : Pact Tryz.prog 27 #[.agg (atN d n m k).toArray] (fun w => AtV w d) [] (CopyR d) := by
  subst hn hm hk
  refine pact Tryz.func27 rfl Tryz.ntmps27 rfl ?_
  intro W K hK
  have hd1 := hd.path
  have hd2 := hd.comms
  have hd3 := hd.others
  have hcv : Kn K (fun w => Vw w (.slice d.ca d.comms.length d.cc) 1 d.comms.length (flat u32C d.comms)) := hK.imp fun _ h => h.comms
  have hov : Kn K (fun w => Vw w (.slice d.oa d.others.length d.oc) 2 d.others.length (flat rwC d.others)) := hK.imp fun _ h => h.others.vw
  (repeat' (first | ((with_reducible apply gL); (first | refine yL0 ?_ | ((with_reducible apply gL_c_append); (first | (refine JL_appL (fs := d.comms) u32C (tabE etab_ok (by rfl)) (by rfl) (by rfl) xA (Src.kn hcv) (by decide +kernel) (by intro _; rfl) (all_one _ (by intro _ _; rfl)) (by omega) (by rfl) (by rfl) ?_; intro ad2 c2 _ _) | fail)) | refine yL ?_ | ((with_reducible apply gL_go); (first | (refine JL_goq (pcopy_s d.pa d.pc d.path _ rfl (by omega) hd.num.path) (hφ := (by (try simp only [List.cons_append, List.nil_append]); exact fun w hr => (hK w hr.1).path)) (h := ?_); rintro _ _ ⟨q, a', c', rfl, hs, rfl⟩; try simp only [List.cons_append, List.nil_append]) | fail)) | (refine yM ?_; intro _) | (refine yA ?_; intro _ _ _ _) | fail)) | ((with_reducible apply gD); (first | (refine JD_nil ?_; try simp only [List.cons_append, List.nil_append]) | (refine JD_bar ?_; try simp only [List.cons_append, List.nil_append]) | ((with_reducible apply gD_c_append); (first | (refine JL_appL (fs := d.comms) u32C (tabE etab_ok (by rfl)) (by rfl) (by rfl) xA (Src.kn hcv) (by decide +kernel) (by intro _; rfl) (all_one _ (by intro _ _; rfl)) (by omega) (by rfl) (by rfl) ?_; intro ad2 c2 _ _) | fail)) | refine yD ?_ | (refine yE ?_; intro _) | (refine yB ?_; intro _ _ _ _) | fail)) | refine yJ ?_ | ((with_reducible apply gJ_if); (first | (refine J_if xR ?_ ?_ <;> intro _ <;> (try (exfalso; first | contradiction | omega))) | (refine J_ifb xR ?_ ?_ <;> (intro hgb; subst hgb)) | (refine J_ifb xR ?_ ?_ <;> intro _) | fail)) | refine J_draw (id := 8) [0, 1, 2, 3, 4, 5, 6, 7, 9, 10, 11, 12, 13, 14, 8, 15, 16, 17] [18, 19, 20] mixed xC xD xD ?_ | fail))
  rename_i b1 b2 b3 _ _ _ b4
  refine J_loop (α := Lo) ⟨[], some ⟨b4, 0, none⟩, 0⟩ (fun x => d.others.length - x.q.length) (fun x => x.q.length ≤ d.others.length ∧ oN x.q = oN (d.others.take x.q.length)) (fun x => [(1, .pointer (some ⟨b1, 0, none⟩)), (2, .pointer (some ⟨b2, 0, none⟩)), (3, .pointer (some ⟨b3, 0, none⟩)), (4, .int .i64 x.q.length)])
    (fun x => [pts b3 (cpC d q.length a' c' ad2 c2 x.ad x.q.length x.cc) 35, Ar 79 2 rwC (.slice x.ad x.q.length x.cc) x.q, has (fun w => ∀ s ∈ x.q, rawV w s), Ar 22 1 u32C (.slice ad2 d.comms.length c2) d.comms, has (fun w => PathV w a' c' q), pts b2 [.int .i64 0, .slice none 0 0, .int .u32 0, .bool false, .int .u32 0, .bool false, .int .u32 0, .bool false, .bool false, .int .u32 0, .int .u32 0, .slice none 0 0, .slice none 0 0] 35, pts b1 (atN d d.path.length d.comms.length d.others.length) 35]) ⟨Nat.zero_le _, rfl⟩ ⟨rfl, rfl, rfl, rfl, trivial⟩ (fun w H => (Ow.hasTrue (φ := fun w => ∀ s ∈ ([] : List Rw), rawV w s) (H.arLit0 xA) (by intro _ _ h; exact absurd h List.not_mem_nil)).sel xZ) ?_
  rintro ⟨o, oa, oc⟩ ⟨ho, hsame⟩
  dsimp only at ho hsame ⊢
  by_cases hlt : o.length < d.others.length
  · obtain ⟨s, hs⟩ : ∃ s, d.others[o.length]? = some s := ⟨_, List.getElem?_eq_getElem hlt⟩
    have hm := List.mem_of_getElem? hs
    have hsn := hd.num.others s hm
    have hsn1 := hsn.2.1
    have hu : Kn K (fun w => Vw w (.slice s.a s.data.length s.c) 1 s.data.length (flat byC s.data)) := hK.imp fun _ h => h.others.raws s hm
    (repeat' (first | ((with_reducible apply gL); (first | refine yL0 ?_ | ((with_reducible apply gL_c_append); (first | ((refine JD_appL byC (tabE etab_ok (by rfl)) (by rfl) (by rfl) xA (Src.kn hu) (by decide +kernel) (by intro _; rfl) (all_one _ (by intro _ _; rfl)) (by omega) (by rfl) ?_; intro ad3 c3 _ _)) | ((refine JD_ap1 (z := Rw.mk s.kind ad3 c3 s.data) (tabE etab_ok (by rfl)) (by rfl) (by rfl) xA xA (by decide +kernel) (by rfl) (by intro _; rfl) (by rfl) (by omega) (by rfl) ?_; intro ad4 c4 _ _)) | fail)) | refine yL ?_ | (refine yM ?_; intro _) | (refine yA ?_; intro _ _ _ _) | fail)) | ((with_reducible apply gD); (first | (refine JD_nil ?_; try simp only [List.cons_append, List.nil_append]) | (refine JD_bar ?_; try simp only [List.cons_append, List.nil_append]) | ((with_reducible apply gD_c_append); (first | ((refine JD_appL byC (tabE etab_ok (by rfl)) (by rfl) (by rfl) xA (Src.kn hu) (by decide +kernel) (by intro _; rfl) (all_one _ (by intro _ _; rfl)) (by omega) (by rfl) ?_; intro ad3 c3 _ _)) | ((refine JD_ap1 (z := Rw.mk s.kind ad3 c3 s.data) (tabE etab_ok (by rfl)) (by rfl) (by rfl) xA xA (by decide +kernel) (by rfl) (by intro _; rfl) (by rfl) (by omega) (by rfl) ?_; intro ad4 c4 _ _)) | fail)) | refine yD ?_ | (refine yE ?_; intro _) | (refine yB ?_; intro _ _ _ _) | fail)) | refine yJ ?_ | ((with_reducible apply gJ_if); (first | (refine J_if xR ?_ ?_ <;> intro _ <;> (try (exfalso; first | contradiction | omega))) | (refine J_ifb xR ?_ ?_ <;> (intro hgb; subst hgb)) | (refine J_ifb xR ?_ ?_ <;> intro _) | fail)) | refine J_draw (id := 8) [0, 1, 2, 3, 4, 5, 6, 7, 9, 10, 11, 12, 13, 14, 8, 15, 16, 17] [18, 19, 20] mixed xC xD xD ?_ | fail))
    refine J_again ⟨o ++ [Rw.mk s.kind ad3 c3 s.data], ad4, c4⟩ (by simp; omega) ⟨by simp; omega, ?_⟩ ⟨rfl, rfl, rfl, ?_, trivial⟩ (fun w H => ?_)
    · simp only [List.length_append, List.length_cons, List.length_nil]
      rw [take_snoc hs]
      unfold oN at hsame ⊢
      rw [List.map_append, List.map_append, hsame]
      rfl
    · show some _ = some _
      simp
    · simp only [List.length_append, List.length_cons, List.length_nil]
      refine (Ow.has (M := [Ar 5 1 byC (.slice ad3 s.data.length c3) s.data, has (fun w => ∀ s ∈ o, rawV w s)]) (φ := fun w => ∀ x ∈ o ++ [Rw.mk s.kind ad3 c3 s.data], rawV w x) H xZ ?_).sel xZ
      intro w hr x hx
      rcases List.mem_append.1 hx with hx | hx
      · exact hr.has (.there .here) x hx
      · obtain rfl := List.mem_singleton.1 hx
        exact Src.ar .here w hr
  · obtain hol : o.length = d.others.length := by omega
    rw [hol, List.take_length] at hsame
    (repeat' (first | ((with_reducible apply gL); (first | refine yL0 ?_ | refine yL ?_ | (refine yM ?_; intro _) | (refine yA ?_; intro _ _ _ _) | fail)) | ((with_reducible apply gD); (first | (refine JD_nil ?_; try simp only [List.cons_append, List.nil_append]) | (refine JD_bar ?_; try simp only [List.cons_append, List.nil_append]) | refine yD ?_ | (refine yE ?_; intro _) | (refine yB ?_; intro _ _ _ _) | fail)) | refine yJ ?_ | ((with_reducible apply gJ_if); (first | (refine J_if xR ?_ ?_ <;> intro _ <;> (try (exfalso; first | contradiction | omega))) | (refine J_ifb xR ?_ ?_ <;> (intro hgb; subst hgb)) | (refine J_ifb xR ?_ ?_ <;> intro _) | fail)) | refine J_draw (id := 8) [0, 1, 2, 3, 4, 5, 6, 7, 9, 10, 11, 12, 13, 14, 8, 15, 16, 17] [18, 19, 20] mixed xC xD xD ?_ | fail))
    refine J_retC (cs := cpC d q.length a' c' ad2 c2 oa o.length oc) rfl (by rfl) xA (by rfl) fun w H => ⟨_, ⟨d.at_ q a' c' d.comms ad2 c2 o oa oc, At.at_num hd _ _ _ _ _ _ _ _ _ hs rfl hsame, d.at_nf _ _ _ _ _ _ _ _ _ hs rfl hsame, rfl, rfl⟩, ?_⟩
    refine (Ow.has (M := [has (fun w => PathV w a' c' q), Ar 22 1 u32C (.slice ad2 d.comms.length c2) d.comms, Ar 79 2 rwC (.slice oa o.length oc) o, has (fun w => ∀ s ∈ o, rawV w s)]) (φ := fun w => AtV w (d.at_ q a' c' d.comms ad2 c2 o oa oc)) H xZ ?_).sel xZ
    intro w hr
    exact ⟨hr.has .here, Src.ar (.there .here) w hr, Src.ar (.there (.there .here)) w hr, fun s hs => hr.has (.there (.there (.there .here))) s hs⟩
theorem Vw_take {w : World} {a : Option Addr} {c sz n : Nat} {α : Type} {enc : α → List Value} {es : List α} (h : Vw w (.slice a n c) sz n (flat enc es)) (hl : ∀ x, (enc x).length = sz) (hn : es.length = n) (j m : Nat) (hm : (es.take j).length = m) : Vw w (.slice a m c) sz m (flat enc (es.take j)) := by
  obtain ⟨a', cap, he, h1, h2, h3, h4, h5⟩ := h
  cases he
  have hpre : flat enc es = flat enc (es.take j) ++ flat enc (es.drop j) := by rw [← flat_append, List.take_append_drop]
  have hmn : m ≤ n := by rw [← hm, ← hn, List.length_take]; omega
  refine ⟨a, c, rfl, by rw [flat_length hl, hm], by omega, h3, fun h => ⟨by have := (h4 h).1; omega, (h4 h).2⟩, fun hne => ?_⟩
  have hne' : flat enc es ≠ [] := by
    intro h
    rw [hpre] at h
    exact hne (List.append_eq_nil_iff.1 h).1
  obtain ⟨b, off, hb, hc⟩ := h5 hne'
  refine ⟨b, off, hb, fun k u hk => hc k u ?_⟩
  rw [hpre, List.getElem?_append_left (List.getElem?_eq_some_iff.1 hk).1]
  exact hk
def At.tr (d : At) : At := d.at_ (d.path.take 8) d.pa d.pc (d.comms.take 40) d.ca d.cc (d.others.take 9) d.oa d.oc
theorem AtV.tr {w : World} {d : At} (h : AtV w d) : AtV w d.tr :=
  ⟨⟨Vw_take h.path.vw (by intro _; rfl) rfl 8 _ rfl, fun s hs => h.path.segs s (List.take_subset _ _ hs)⟩, Vw_take h.comms (by intro _; rfl) rfl 40 _ rfl, ⟨Vw_take h.others.vw (by intro _; rfl) rfl 9 _ rfl, fun s hs => h.others.raws s (List.take_subset _ _ hs)⟩⟩
end Go.Proofs.YtdnokmpnemaoaaaGreat
namespace Go.Proofs.YtdnokmpnemaoaaaGreat
set_option linter.unusedSimpArgs false
set_option linter.unusedVariables false
set_option maxRecDepth 20000
set_option maxHeartbeats 4000000
open Go.RowKit Go.Pm

def ckP : List (Bool × List Int) → Nat → Bool
  | [], _ => true
  | s :: p, n => if s.2.length = 0 ∨ 255 < s.2.length then false else if (0 : Int) ∈ s.2 then false else if 64 < n + s.2.length then false else ckP p (n + s.2.length)
def er (b : Bool) : Int := if b then 0 else 2
theorem er_t {b : Bool} (h : b = true) : er b = 0 := by rw [h]; rfl
theorem er_f {b : Bool} (h : b = false) : er b = 2 := by rw [h]; rfl
theorem ckP_step {p : List Sg} {k : Nat} {s : Sg} (hs : p[k]? = some s) (n : Nat) : ckP (pN (p.drop k)) n = (if s.as_.length = 0 ∨ 255 < s.as_.length then false else if (0 : Int) ∈ s.as_ then false else if 64 < n + s.as_.length then false else ckP (pN (p.drop (k + 1))) (n + s.as_.length)) := by
  have : p.drop k = s :: p.drop (k + 1) := by
    obtain ⟨hk, e⟩ := List.getElem?_eq_some_iff.1 hs
    rw [List.drop_eq_getElem_cons hk, e]
  rw [this]
  rfl
theorem pcheck_s (a : Option Addr) (c : Nat) (p : List Sg) (h8 : p.length ≤ 1000) (hsm : ∀ s ∈ p, SgN s) : Pact Tryz.prog 112 #[.slice a p.length c] (fun w => PathV w a c p) [] (ret0 (.int .i64 (er (ckP (pN p) 0)))) := by
  refine pact Tryz.func112 rfl Tryz.ntmps112 rfl ?_
  intro W K hK
  have hv : Kn K (fun w => Vw w (.slice a p.length c) 2 p.length (flat sgC p)) := hK.imp fun _ h => h.vw
  (repeat' (first | ((with_reducible apply gL); (first | refine yL0 ?_ | refine yL ?_ | ((with_reducible apply gL_gd); (first | (refine JL_guard xR xR ?_ ?_ <;> intro _ <;> (try (exfalso; first | contradiction | omega))) | (refine JL_guardb xR xR ?_ ?_ <;> (intro hgb; subst hgb)) | (refine JL_guardb xR xR ?_ ?_ <;> (intro hgb; fail_if_success (have : type_of% hgb := rfl))) | fail)) | fail)) | refine yJ ?_ | ((with_reducible apply gJ_if); (first | (refine J_if xR ?_ ?_ <;> intro _ <;> (try (exfalso; first | contradiction | omega))) | (refine J_ifb xR ?_ ?_ <;> (intro hgb; subst hgb)) | (refine J_ifb xR ?_ ?_ <;> intro _) | fail)) | fail))
  refine J_loop (α := Nat × Nat) (0, 0) (fun x => p.length - x.1) (fun x => x.1 ≤ p.length ∧ x.2 ≤ 64 ∧ ckP (pN p) 0 = ckP (pN (p.drop x.1)) x.2) (fun x => [(0, .slice a p.length c), (3, .int .i64 x.2), (4, .int .i64 x.1)]) (fun x => []) ⟨Nat.zero_le _, Nat.zero_le _, rfl⟩ ⟨rfl, rfl, rfl, trivial⟩ (fun w H => H) ?_
  rintro ⟨k, n⟩ ⟨hk, hn, hck⟩
  dsimp only at hk hn hck ⊢
  by_cases hlt : k < p.length
  · obtain ⟨s, hs⟩ : ∃ s, p[k]? = some s := ⟨_, List.getElem?_eq_getElem hlt⟩
    have hm := List.mem_of_getElem? hs
    have hsn := hsm s hm
    have hsn1 := hsn.1
    rw [ckP_step hs] at hck
    have hu : Kn K (fun w => Vw w (.slice s.a s.as_.length s.c) 1 s.as_.length (flat u32C s.as_)) := hK.imp fun _ h => h.segs s hm
    (repeat' (first | ((with_reducible apply gL); (first | refine yL0 ?_ | refine yL ?_ | ((with_reducible apply gL_gd); (first | (refine JL_guard xR xR ?_ ?_ <;> intro _ <;> (try (exfalso; first | contradiction | omega))) | (refine JL_guardb xR xR ?_ ?_ <;> (intro hgb; subst hgb)) | (refine JL_guardb xR xR ?_ ?_ <;> (intro hgb; fail_if_success (have : type_of% hgb := rfl))) | fail)) | fail)) | refine yJ ?_ | ((with_reducible apply gJ_if); (first | (refine J_if xR ?_ ?_ <;> intro _ <;> (try (exfalso; first | contradiction | omega))) | (refine J_ifb xR ?_ ?_ <;> (intro hgb; subst hgb)) | (refine J_ifb xR ?_ ?_ <;> intro _) | fail)) | fail))
    · rw [if_pos (by omega)] at hck
      exact J_ret1 rfl (by rfl) fun w H => ⟨_, ⟨by rw [er_f hck], rfl⟩, H.sel .nil⟩
    · rw [if_pos (by omega)] at hck
      exact J_ret1 rfl (by rfl) fun w H => ⟨_, ⟨by rw [er_f hck], rfl⟩, H.sel .nil⟩
    · rw [if_neg (by omega)] at hck
      refine J_loop (α := Nat) 0 (fun x => s.as_.length - x) (fun x => x ≤ s.as_.length ∧ (0 : Int) ∉ s.as_.take x) (fun x => [(0, .slice a p.length c), (3, .int .i64 n), (4, .int .i64 k), (5, .int .i64 x)]) (fun x => []) ⟨Nat.zero_le _, by simp⟩ ⟨rfl, rfl, rfl, rfl, trivial⟩ (fun w H => H) ?_
      rintro j ⟨hj, hz⟩
      by_cases hjl : j < s.as_.length
      · obtain ⟨x, hx⟩ : ∃ x, s.as_[j]? = some x := ⟨_, List.getElem?_eq_getElem hjl⟩
        (repeat' (first | ((with_reducible apply gL); (first | refine yL0 ?_ | refine yL ?_ | ((with_reducible apply gL_gd); (first | (refine JL_guard xR xR ?_ ?_ <;> intro _ <;> (try (exfalso; first | contradiction | omega))) | (refine JL_guardb xR xR ?_ ?_ <;> (intro hgb; subst hgb)) | (refine JL_guardb xR xR ?_ ?_ <;> (intro hgb; fail_if_success (have : type_of% hgb := rfl))) | fail)) | fail)) | refine yJ ?_ | ((with_reducible apply gJ_if); (first | (refine J_if xR ?_ ?_ <;> intro _ <;> (try (exfalso; first | contradiction | omega))) | (refine J_ifb xR ?_ ?_ <;> (intro hgb; subst hgb)) | (refine J_ifb xR ?_ ?_ <;> intro _) | fail)) | fail))
        · rename_i h0
          subst h0
          rw [if_pos (List.mem_of_getElem? hx)] at hck
          exact J_ret1 rfl (by rfl) fun w H => ⟨_, ⟨by rw [er_f hck], rfl⟩, H.sel .nil⟩
        · rename_i h0
          exact J_again (j + 1) (by omega) ⟨by omega, by rw [take_snoc hx]; simp only [List.mem_append, List.mem_singleton]; rintro (h | h); exact hz h; exact h0 h.symm⟩ ⟨rfl, rfl, rfl, rfl, trivial⟩ (fun w H => H.sel .nil)
      · have hje : j = s.as_.length := by omega
        rw [hje, List.take_length] at hz
        rw [if_neg hz] at hck
        (repeat' (first | ((with_reducible apply gL); (first | refine yL0 ?_ | refine yL ?_ | ((with_reducible apply gL_gd); (first | (refine JL_guard xR xR ?_ ?_ <;> intro _ <;> (try (exfalso; first | contradiction | omega))) | (refine JL_guardb xR xR ?_ ?_ <;> (intro hgb; subst hgb)) | (refine JL_guardb xR xR ?_ ?_ <;> (intro hgb; fail_if_success (have : type_of% hgb := rfl))) | fail)) | fail)) | refine yJ ?_ | ((with_reducible apply gJ_if); (first | (refine J_if xR ?_ ?_ <;> intro _ <;> (try (exfalso; first | contradiction | omega))) | (refine J_ifb xR ?_ ?_ <;> (intro hgb; subst hgb)) | (refine J_ifb xR ?_ ?_ <;> intro _) | fail)) | fail))
        · rw [if_pos (by omega)] at hck
          exact J_ret1 rfl (by rfl) fun w H => ⟨_, ⟨by rw [er_f hck], rfl⟩, H.sel .nil⟩
        · rw [if_neg (by omega)] at hck
          exact J_again (k + 1, n + s.as_.length) (by dsimp only; omega) ⟨by dsimp only; omega, by dsimp only; omega, hck⟩ ⟨rfl, rfl, rfl, trivial⟩ (fun w H => H.sel .nil)
  · have hke : k = p.length := by omega
    have hck2 : ckP (pN p) 0 = true := by rw [hck, hke, List.drop_length]; rfl
    (repeat' (first | ((with_reducible apply gL); (first | refine yL0 ?_ | refine yL ?_ | ((with_reducible apply gL_gd); (first | (refine JL_guard xR xR ?_ ?_ <;> intro _ <;> (try (exfalso; first | contradiction | omega))) | (refine JL_guardb xR xR ?_ ?_ <;> (intro hgb; subst hgb)) | (refine JL_guardb xR xR ?_ ?_ <;> (intro hgb; fail_if_success (have : type_of% hgb := rfl))) | fail)) | fail)) | refine yJ ?_ | ((with_reducible apply gJ_if); (first | (refine J_if xR ?_ ?_ <;> intro _ <;> (try (exfalso; first | contradiction | omega))) | (refine J_ifb xR ?_ ?_ <;> (intro hgb; subst hgb)) | (refine J_ifb xR ?_ ?_ <;> intro _) | fail)) | fail))
    exact J_ret1 rfl (by rfl) fun w H => ⟨_, ⟨by rw [er_t hck2], rfl⟩, H.sel .nil⟩
def kno (k : Int) : Bool := decide ((1 ≤ k ∧ k ≤ 8) ∨ k = 17 ∨ k = 18)
theorem rknown_s (k : Int) : Pact Tryz.prog 113 #[.int .i64 k] (fun _ => True) [] (ret0 (.bool (kno k))) := by
  refine pact Tryz.func113 rfl Tryz.ntmps113 rfl ?_
  intro W K _
  (repeat' (first | ((with_reducible apply gL); (first | refine yL0 ?_ | refine yL ?_ | ((with_reducible apply gL_gd); (first | (refine JL_guard xR xR ?_ ?_ <;> intro _ <;> (try (exfalso; first | contradiction | omega))) | (refine JL_guardb xR xR ?_ ?_ <;> (intro hgb; subst hgb)) | (refine JL_guardb xR xR ?_ ?_ <;> (intro hgb; fail_if_success (have : type_of% hgb := rfl))) | fail)) | fail)) | refine yJ ?_ | fail))
  all_goals (first | (exfalso; omega) | skip)
  all_goals (refine J_ret1 rfl (by rfl) fun w H => ⟨_, ⟨?_, rfl⟩, H.sel .nil⟩; refine congrArg Value.bool ?_; unfold kno; rw [Bool.eq_iff_iff]; simp only [decide_eq_true_eq, true_iff, Bool.false_eq_true, false_iff] <;> omega)
def ckO : List (Int × List Int) → Int → Bool
  | [], _ => true
  | o :: l, last => if o.1 ≤ last ∨ 255 < o.1 ∨ kno o.1 = true ∨ 255 < o.2.length then false else ckO l o.1
theorem ckO_step {p : List Rw} {k : Nat} {s : Rw} (hs : p[k]? = some s) (n : Int) : ckO (oN (p.drop k)) n = (if s.kind ≤ n ∨ 255 < s.kind ∨ kno s.kind = true ∨ 255 < s.data.length then false else ckO (oN (p.drop (k + 1))) s.kind) := by
  have : p.drop k = s :: p.drop (k + 1) := by
    obtain ⟨hk, e⟩ := List.getElem?_eq_some_iff.1 hs
    rw [List.drop_eq_getElem_cons hk, e]
  rw [this]
  rfl
structure OkN (x : Nf) : Prop where
  origin : 0 ≤ x.origin ∧ x.origin ≤ 2
  path : ckP x.path 0 = true
  next : x.next ≠ 0 ∧ x.next < 3758096384
  maker : ∀ m, x.maker = some m → m.1 ≠ 0
  comms : x.comms.length ≤ 32
  others : x.others.length ≤ 8 ∧ ckO x.others (-1) = true
open Classical in
noncomputable def okN (x : Nf) : Bool := decide (OkN x)
open Classical in
theorem okN_t {d : At} (h1 : 0 ≤ d.origin ∧ d.origin ≤ 2) (h2 : ckP (pN d.path) 0 = true) (h3 : d.next ≠ 0 ∧ d.next < 3758096384) (h4 : d.hasMaker = true → d.makerAS ≠ 0) (h5 : d.comms.length ≤ 32) (h6 : d.others.length ≤ 8) (h7 : ckO (oN d.others) (-1) = true) : okN d.nf = true := by
  refine decide_eq_true ⟨h1, h2, h3, fun m hm => ?_, h5, by simpa [At.nf, oN] using h6, h7⟩
  unfold At.nf at hm
  dsimp only at hm
  split at hm
  · cases hm; exact h4 (by assumption)
  · cases hm
open Classical in
theorem okN_f {d : At} (h : ¬ ((0 ≤ d.origin ∧ d.origin ≤ 2) ∧ ckP (pN d.path) 0 = true ∧ (d.next ≠ 0 ∧ d.next < 3758096384) ∧ (d.hasMaker = true → d.makerAS ≠ 0) ∧ d.comms.length ≤ 32 ∧ d.others.length ≤ 8 ∧ ckO (oN d.others) (-1) = true)) : okN d.nf = false := by
  refine decide_eq_false fun hh => h ⟨hh.origin, hh.path, hh.next, fun hm => ?_, hh.comms, by simpa [At.nf, oN] using hh.others.1, hh.others.2⟩
  exact hh.maker (d.makerAS, d.maker) (by simp [At.nf, hm])
theorem rcheck_s (d : At) (hd : AtF d) : Pact Tryz.prog 78 #[.agg (atC d).toArray] (fun w => AtV w d) [] (ret0 (.int .i64 (er (okN d.nf)))) := by
  refine pact Tryz.func78 rfl Tryz.ntmps78 rfl ?_
  intro W K hK
  have hd1 := hd.path
  have hd2 := hd.comms
  have hd3 := hd.others
  have hov : Kn K (fun w => Vw w (.slice d.oa d.others.length d.oc) 2 d.others.length (flat rwC d.others)) := hK.imp fun _ h => h.others.vw
  have hPC := pcheck_s d.pa d.pc d.path (by omega) hd.num.path
  rcases hp : ckP (pN d.path) 0 with _ | _
  · rw [hp] at hPC
    have hok : okN d.nf = false := okN_f fun h => by rw [hp] at h; exact absurd h.2.1 (by decide)
    rw [hok]
    (repeat' (first | ((with_reducible apply gL); (first | (with_reducible apply gL_app) | (with_reducible apply gL_app0) | refine yL0 ?_ | refine yL ?_ | ((with_reducible apply gL_go); (first | (refine JL_goq (hPC) (hφ := (by (try simp only [List.cons_append, List.nil_append]); exact fun w hr => (hK w hr.1).path)) (h := ?_); rintro _ _ ⟨rfl, rfl⟩; try simp only [List.cons_append, List.nil_append]) | fail)) | (refine yM ?_; intro _) | ((with_reducible apply gL_gd); (first | (refine JL_guard xR xR ?_ ?_ <;> intro _ <;> (try (exfalso; first | contradiction | omega))) | (refine JL_guardb xR xR ?_ ?_ <;> (intro hgb; subst hgb)) | (refine JL_guardb xR xR ?_ ?_ <;> (intro hgb; fail_if_success (have : type_of% hgb := rfl))) | fail)) | fail)) | refine yJ ?_ | ((with_reducible apply gJ_if); (first | (refine J_if xR ?_ ?_ <;> intro _ <;> (try (exfalso; first | contradiction | omega))) | (refine J_ifb xR ?_ ?_ <;> (intro hgb; subst hgb)) | (refine J_ifb xR ?_ ?_ <;> intro _) | fail)) | fail))
    all_goals (first | exact J_ret1 rfl (by rfl) fun w H => ⟨_, ⟨rfl, rfl⟩, H.sel .nil⟩ | skip)
  · rw [hp] at hPC
    (iterate 3 (first | ((with_reducible apply gL); (first | (with_reducible apply gL_app) | (with_reducible apply gL_app0) | refine yL0 ?_ | refine yL ?_ | (refine yM ?_; intro _) | ((with_reducible apply gL_gd); (first | (refine JL_guard xR xR ?_ ?_ <;> intro _ <;> (try (exfalso; first | contradiction | omega))) | (refine JL_guardb xR xR ?_ ?_ <;> (intro hgb; subst hgb)) | (refine JL_guardb xR xR ?_ ?_ <;> (intro hgb; fail_if_success (have : type_of% hgb := rfl))) | fail)) | fail)) | refine yJ ?_ | ((with_reducible apply gJ_if); (first | (refine J_if xR ?_ ?_ <;> intro _ <;> (try (exfalso; first | contradiction | omega))) | (refine J_ifb xR ?_ ?_ <;> (intro hgb; subst hgb)) | (refine J_ifb xR ?_ ?_ <;> intro _) | fail)) | fail))
    rename_i b0
    (repeat' (first | ((with_reducible apply gL); (first | (with_reducible apply gL_app) | (with_reducible apply gL_app0) | refine yL0 ?_ | refine yL ?_ | ((with_reducible apply gL_go); (first | (refine JL_goq (hPC) (hφ := (by (try simp only [List.cons_append, List.nil_append]); exact fun w hr => (hK w hr.1).path)) (h := ?_); rintro _ _ ⟨rfl, rfl⟩; try simp only [List.cons_append, List.nil_append]) | fail)) | (refine yM ?_; intro _) | ((with_reducible apply gL_gd); (first | (refine JL_guard xR xR ?_ ?_ <;> intro _ <;> (try (exfalso; first | contradiction | omega))) | (refine JL_guardb xR xR ?_ ?_ <;> (intro hgb; subst hgb)) | (refine JL_guardb xR xR ?_ ?_ <;> (intro hgb; fail_if_success (have : type_of% hgb := rfl))) | fail)) | fail)) | refine yJ ?_ | ((with_reducible apply gJ_if); (first | (refine J_if xR ?_ ?_ <;> intro _ <;> (try (exfalso; first | contradiction | omega))) | (refine J_ifb xR ?_ ?_ <;> (intro hgb; subst hgb)) | (refine J_ifb xR ?_ ?_ <;> intro _) | fail)) | fail))
    all_goals (first | (have hok : okN d.nf = false := okN_f (fun ⟨h1, _, h3, h4, h5, h6, _⟩ => by first | omega | (have := h4 (by assumption); omega)); rw [hok]; exact J_ret1 rfl (by rfl) fun w H => ⟨_, ⟨rfl, rfl⟩, H.sel .nil⟩) | skip)
    all_goals (
      have hok : okN d.nf = ckO (oN d.others) (-1) := by
        rcases ho : ckO (oN d.others) (-1) with _ | _
        · exact okN_f (fun h => by rw [ho] at h; exact absurd h.2.2.2.2.2.2 (by decide))
        · exact okN_t (by omega) hp (by omega) (by first | (intro _; assumption) | (intro hh; simp_all; done)) (by omega) (by omega) ho
      refine J_loop (α := Nat × Int) (0, -1) (fun x => d.others.length - x.1) (fun x => x.1 ≤ d.others.length ∧ okN d.nf = ckO (oN (d.others.drop x.1)) x.2) (fun x => [(1, .pointer (some ⟨b0, 0, none⟩)), (3, .int .i64 x.2), (4, .int .i64 x.1)]) (fun x => [pts b0 (atC d) 35]) ⟨Nat.zero_le _, hok⟩ ⟨rfl, rfl, rfl, trivial⟩ (fun w H => H.sel xZ) ?_
      clear hok
      rintro ⟨k, n⟩ ⟨hk, hck⟩
      dsimp only at hk hck ⊢
      by_cases hlt : k < d.others.length
      · obtain ⟨s, hs⟩ : ∃ s, d.others[k]? = some s := ⟨_, List.getElem?_eq_getElem hlt⟩
        have hm := List.mem_of_getElem? hs
        have hsn := hd.num.others s hm
        have hsn1 := hsn.2.1
        obtain ⟨hk1, hk2⟩ := hsn.1
        rw [ckO_step hs] at hck
        (repeat' (first | ((with_reducible apply gL); (first | (with_reducible apply gL_app) | (with_reducible apply gL_app0) | refine yL0 ?_ | refine yL ?_ | ((with_reducible apply gL_go); (first | (refine JL_goq (rknown_s s.kind) (hφ := xF) (h := ?_); rintro _ _ ⟨rfl, rfl⟩; try simp only [List.cons_append, List.nil_append]) | fail)) | (refine yM ?_; intro _) | ((with_reducible apply gL_gd); (first | (refine JL_guard xR xR ?_ ?_ <;> intro _ <;> (try (exfalso; first | contradiction | omega))) | (refine JL_guardb xR xR ?_ ?_ <;> (intro hgb; subst hgb)) | (refine JL_guardb xR xR ?_ ?_ <;> (intro hgb; fail_if_success (have : type_of% hgb := rfl))) | fail)) | fail)) | refine yJ ?_ | ((with_reducible apply gJ_if); (first | (refine J_if xR ?_ ?_ <;> intro _ <;> (try (exfalso; first | contradiction | omega))) | (refine J_ifb xR ?_ ?_ <;> (intro hgb; subst hgb)) | (refine J_ifb xR ?_ ?_ <;> intro _) | fail)) | fail))
        all_goals (first | (rw [if_pos (by first | exact .inl (by omega) | exact .inr (.inl (by omega)) | exact .inr (.inr (.inl (by unfold kno; exact decide_eq_true (by assumption)))) | exact .inr (.inr (.inr (by omega))))] at hck; rw [hck]; exact J_ret1 rfl (by rfl) fun w H => ⟨_, ⟨rfl, rfl⟩, H.sel .nil⟩) | skip)
        all_goals (
          rw [if_neg (by rintro (h | h | h | h) <;> first | omega | exact absurd (of_decide_eq_true h) (by assumption))] at hck
          exact J_again (k + 1, s.kind) (by dsimp only; omega) ⟨by dsimp only; omega, hck⟩ ⟨rfl, rfl, rfl, trivial⟩ (fun w H => H.sel xZ))
      · have hke : k = d.others.length := by omega
        have hck2 : okN d.nf = true := by rw [hck, hke, List.drop_length]; rfl
        rw [hck2]
        (repeat' (first | ((with_reducible apply gL); (first | (with_reducible apply gL_app) | (with_reducible apply gL_app0) | refine yL0 ?_ | refine yL ?_ | (refine yM ?_; intro _) | ((with_reducible apply gL_gd); (first | (refine JL_guard xR xR ?_ ?_ <;> intro _ <;> (try (exfalso; first | contradiction | omega))) | (refine JL_guardb xR xR ?_ ?_ <;> (intro hgb; subst hgb)) | (refine JL_guardb xR xR ?_ ?_ <;> (intro hgb; fail_if_success (have : type_of% hgb := rfl))) | fail)) | fail)) | refine yJ ?_ | ((with_reducible apply gJ_if); (first | (refine J_if xR ?_ ?_ <;> intro _ <;> (try (exfalso; first | contradiction | omega))) | (refine J_ifb xR ?_ ?_ <;> (intro hgb; subst hgb)) | (refine J_ifb xR ?_ ?_ <;> intro _) | fail)) | fail))
        exact J_ret1 rfl (by rfl) fun w H => ⟨_, ⟨rfl, rfl⟩, H.sel .nil⟩)
end Go.Proofs.YtdnokmpnemaoaaaGreat
namespace Go.Pm
set_option linter.unusedSimpArgs false
set_option linter.unusedVariables false
open Go.RowKit
section
variable {P : Program} {n : Nat} {W : World} {K : Hl} {F : Fp} {k : List It} {tm : TM} {L L' R S M C : List HP} {T : TypeId} {pos : String} {af : Array Edge} {gd : Option (Nat × Bool)} {ops : Array Oper} {rest nx : List Oper} {d : Option Tmp}
theorem pe_neStr {xt yt : TypeId} {x y : Operand} {a b : ByteArray} {c : Bool} (hx : evT tm x = some (.string a)) (hy : evT tm y = some (.string b)) (_ht : tyIs P xt isStrD = true) (hc : decide (a ≠ b) = c) : PE P K L ⟨d, .binOp .neq xt x y yt, T, pos, af, gd⟩ (tget tm) (.bool c) := pe_bin hx hy fun w => by
  have : (!(a.toList == b.toList)) = c := by
    rw [← hc, ByteArray.toList_eq, ByteArray.toList_eq]
    by_cases h : a = b
    · subst h; simp
    · have h2 : ¬ a.data.toList = b.data.toList := fun e => h (ByteArray.ext (Array.toList_inj.1 e))
      rw [decide_eq_true h]
      simpa using h2
  simp [eqGuard, Sem.run_bind, binOp_string_neq, this]
end
end Go.Pm
