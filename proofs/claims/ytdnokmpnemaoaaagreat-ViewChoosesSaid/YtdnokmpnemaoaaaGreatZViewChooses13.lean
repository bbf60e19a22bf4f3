/-
  Aq3, Jv: merged.
-/
import Derived.Test.YtdnokmpnemaoaaaGreatZViewChooses12
import Derived.Laws.Concat
import Derived.Laws.Strings2
namespace Go.Proofs.YtdnokmpnemaoaaaGreat
set_option linter.unusedSimpArgs false
set_option linter.unusedVariables false
set_option maxRecDepth 20000
set_option maxHeartbeats 4000000
open Go.RowKit Go.Pm

def ckP : List (Bool × List Int) → Nat → Bool
  | [], _ => true
  | s :: p, n => if s.2.length = 0 ∨ 255 < s.2.length then false else if (0 : Int) ∈ s.2 then false else if 64 < n + s.2.length then false else ckP p (n + s.2.length)
def er (b : Bool) : Int := if b then 0 else 2
theorem er_t {b : Bool} (h : b = true) : er b = 0 := by rw [h]; rfl
theorem er_f {b : Bool} (h : b = false) : er b = 2 := by rw [h]; rfl
theorem ckP_step {p : List Sg} {k : Nat} {s : Sg} (hs : p[k]? = some s) (n : Nat) : ckP (pN (p.drop k)) n = (if s.as_.length = 0 ∨ 255 < s.as_.length then false else if (0 : Int) ∈ s.as_ then false else if 64 < n + s.as_.length then false else ckP (pN (p.drop (k + 1))) (n + s.as_.length)) := by
  have : p.drop k = s :: p.drop (k + 1) := by
    obtain ⟨hk, e⟩ := List.getElem?_eq_some_iff.1 hs
    rw [List.drop_eq_getElem_cons hk, e]
  rw [this]
  rfl
theorem pcheck_s (a : Option Addr) (c : Nat) (p : List Sg) (h8 : p.length ≤ 1000) (hsm : ∀ s ∈ p, SgN s) : Pact Tryz.prog 112 #[.slice a p.length c] (fun w => PathV w a c p) [] (ret0 (.int .i64 (er (ckP (pN p) 0)))) := by
  refine pact Tryz.func112 rfl Tryz.ntmps112 rfl ?_
  intro W K hK
  have hv : Kn K (fun w => Vw w (.slice a p.length c) 2 p.length (flat sgC p)) := hK.imp fun _ h => h.vw
  (repeat' (first | (refine gL ?_; first | refine yL0 ?_ | refine yL ?_) | refine yJ ?_ | (refine yI ?_ ?_ <;> intro _ <;> try exact xX) | (refine yK ?_ ?_ <;> intro hgb <;> first | subst hgb | fail_if_success have : type_of% hgb := rfl) | fail))
  refine J_loop (α := Nat × Nat) (0, 0) (fun x => p.length - x.1) (fun x => x.1 ≤ p.length ∧ x.2 ≤ 64 ∧ ckP (pN p) 0 = ckP (pN (p.drop x.1)) x.2) (fun x => [(0, .slice a p.length c), (3, .int .i64 x.2), (4, .int .i64 x.1)]) (fun x => []) ⟨Nat.zero_le _, Nat.zero_le _, rfl⟩ ⟨rfl, rfl, rfl, trivial⟩ (fun w H => H) ?_
  rintro ⟨k, n⟩ ⟨hk, hn, hck⟩
  dsimp only at hk hn hck ⊢
  by_cases hlt : k < p.length
  · obtain ⟨s, hs⟩ : ∃ s, p[k]? = some s := ⟨_, List.getElem?_eq_getElem hlt⟩
    have hm := List.mem_of_getElem? hs
    have hsn := hsm s hm
    have hsn1 := hsn.1
    rw [ckP_step hs] at hck
    have hu : Kn K (fun w => Vw w (.slice s.a s.as_.length s.c) 1 s.as_.length (flat u32C s.as_)) := hK.imp fun _ h => h.segs s hm
    (repeat' (first | (refine gL ?_; first | refine yL0 ?_ | refine yL ?_) | refine yJ ?_ | (refine yI ?_ ?_ <;> intro _ <;> try exact xX) | (refine yK ?_ ?_ <;> intro hgb <;> first | subst hgb | fail_if_success have : type_of% hgb := rfl) | fail))
    · rw [if_pos (by omega)] at hck
      exact J_ret1 rfl (by rfl) fun w H => ⟨_, ⟨by rw [er_f hck], rfl⟩, H.sel .nil⟩
    · rw [if_pos (by omega)] at hck
      exact J_ret1 rfl (by rfl) fun w H => ⟨_, ⟨by rw [er_f hck], rfl⟩, H.sel .nil⟩
    · rw [if_neg (by omega)] at hck
      refine J_loop (α := Nat) 0 (fun x => s.as_.length - x) (fun x => x ≤ s.as_.length ∧ (0 : Int) ∉ s.as_.take x) (fun x => [(0, .slice a p.length c), (3, .int .i64 n), (4, .int .i64 k), (5, .int .i64 x)]) (fun x => []) ⟨Nat.zero_le _, by simp⟩ ⟨rfl, rfl, rfl, rfl, trivial⟩ (fun w H => H) ?_
      rintro j ⟨hj, hz⟩
      by_cases hjl : j < s.as_.length
      · obtain ⟨x, hx⟩ : ∃ x, s.as_[j]? = some x := ⟨_, List.getElem?_eq_getElem hjl⟩
        (repeat' (first | (refine gL ?_; first | refine yL0 ?_ | refine yL ?_) | refine yJ ?_ | (refine yI ?_ ?_ <;> intro _ <;> try exact xX) | (refine yK ?_ ?_ <;> intro hgb <;> first | subst hgb | fail_if_success have : type_of% hgb := rfl) | fail))
        · rename_i h0
          subst h0
          rw [if_pos (List.mem_of_getElem? hx)] at hck
          exact J_ret1 rfl (by rfl) fun w H => ⟨_, ⟨by rw [er_f hck], rfl⟩, H.sel .nil⟩
        · rename_i h0
          exact J_again (j + 1) (by omega) ⟨by omega, by rw [take_snoc hx]; simp only [List.mem_append, List.mem_singleton]; rintro (h | h); exact hz h; exact h0 h.symm⟩ ⟨rfl, rfl, rfl, rfl, trivial⟩ (fun w H => H.sel .nil)
      · have hje : j = s.as_.length := by omega
        rw [hje, List.take_length] at hz
        rw [if_neg hz] at hck
        (repeat' (first | (refine gL ?_; first | refine yL0 ?_ | refine yL ?_) | refine yJ ?_ | (refine yI ?_ ?_ <;> intro _ <;> try exact xX) | (refine yK ?_ ?_ <;> intro hgb <;> first | subst hgb | fail_if_success have : type_of% hgb := rfl) | fail))
        · rw [if_pos (by omega)] at hck
          exact J_ret1 rfl (by rfl) fun w H => ⟨_, ⟨by rw [er_f hck], rfl⟩, H.sel .nil⟩
        · rw [if_neg (by omega)] at hck
          exact J_again (k + 1, n + s.as_.length) (by dsimp only; omega) ⟨by dsimp only; omega, by dsimp only; omega, hck⟩ ⟨rfl, rfl, rfl, trivial⟩ (fun w H => H.sel .nil)
  · have hke : k = p.length := by omega
    have hck2 : ckP (pN p) 0 = true := by rw [hck, hke, List.drop_length]; rfl
    (repeat' (first | (refine gL ?_; first | refine yL0 ?_ | refine yL ?_) | refine yJ ?_ | (refine yI ?_ ?_ <;> intro _ <;> try exact xX) | (refine yK ?_ ?_ <;> intro hgb <;> first | subst hgb | fail_if_success have : type_of% hgb := rfl) | fail))
    exact J_ret1 rfl (by rfl) fun w H => ⟨_, ⟨by rw [er_t hck2], rfl⟩, H.sel .nil⟩
def kno (k : Int) : Bool := decide ((1 ≤ k ∧ k ≤ 8) ∨ k = 17 ∨ k = 18)
theorem rknown_s (k : Int) : Pact Tryz.prog 113 #[.int .i64 k] (fun _ => True) [] (ret0 (.bool (kno k))) := by
  refine pact Tryz.func113 rfl Tryz.ntmps113 rfl ?_
  intro W K _
  (repeat' (first | (refine gL ?_; first | refine yL0 ?_ | refine yL ?_) | refine yJ ?_ | (refine yI ?_ ?_ <;> intro _ <;> try exact xX) | (refine yK ?_ ?_ <;> intro hgb <;> first | subst hgb | fail_if_success have : type_of% hgb := rfl) | fail))
  all_goals (first | (exfalso; omega) | skip)
  all_goals (refine J_ret1 rfl (by rfl) fun w H => ⟨_, ⟨?_, rfl⟩, H.sel .nil⟩; refine congrArg Value.bool ?_; unfold kno; rw [Bool.eq_iff_iff]; simp only [decide_eq_true_eq, true_iff, Bool.false_eq_true, false_iff] <;> omega)
def ckO : List (Int × List Int) → Int → Bool
  | [], _ => true
  | o :: l, last => if o.1 ≤ last ∨ 255 < o.1 ∨ kno o.1 = true ∨ 255 < o.2.length then false else ckO l o.1
theorem ckO_step {p : List Rw} {k : Nat} {s : Rw} (hs : p[k]? = some s) (n : Int) : ckO (oN (p.drop k)) n = (if s.kind ≤ n ∨ 255 < s.kind ∨ kno s.kind = true ∨ 255 < s.data.length then false else ckO (oN (p.drop (k + 1))) s.kind) := by
  have : p.drop k = s :: p.drop (k + 1) := by
    obtain ⟨hk, e⟩ := List.getElem?_eq_some_iff.1 hs
    rw [List.drop_eq_getElem_cons hk, e]
  rw [this]
  rfl
structure OkN (x : Nf) : Prop where
  origin : 0 ≤ x.origin ∧ x.origin ≤ 2
  path : ckP x.path 0 = true
  next : x.next ≠ 0 ∧ x.next < 3758096384
  maker : ∀ m, x.maker = some m → m.1 ≠ 0
  comms : x.comms.length ≤ 32
  others : x.others.length ≤ 8 ∧ ckO x.others (-1) = true
open Classical in
noncomputable def okN (x : Nf) : Bool := decide (OkN x)
open Classical in
theorem okN_t {d : At} (h1 : 0 ≤ d.origin ∧ d.origin ≤ 2) (h2 : ckP (pN d.path) 0 = true) (h3 : d.next ≠ 0 ∧ d.next < 3758096384) (h4 : d.hasMaker = true → d.makerAS ≠ 0) (h5 : d.comms.length ≤ 32) (h6 : d.others.length ≤ 8) (h7 : ckO (oN d.others) (-1) = true) : okN d.nf = true := by
  refine decide_eq_true ⟨h1, h2, h3, fun m hm => ?_, h5, by simpa [At.nf, oN] using h6, h7⟩
  unfold At.nf at hm
  dsimp only at hm
  split at hm
  · cases hm; exact h4 (by assumption)
  · cases hm
open Classical in
theorem okN_f {d : At} (h : ¬ ((0 ≤ d.origin ∧ d.origin ≤ 2) ∧ ckP (pN d.path) 0 = true ∧ (d.next ≠ 0 ∧ d.next < 3758096384) ∧ (d.hasMaker = true → d.makerAS ≠ 0) ∧ d.comms.length ≤ 32 ∧ d.others.length ≤ 8 ∧ ckO (oN d.others) (-1) = true)) : okN d.nf = false := by
  refine decide_eq_false fun hh => h ⟨hh.origin, hh.path, hh.next, fun hm => ?_, hh.comms, by simpa [At.nf, oN] using hh.others.1, hh.others.2⟩
  exact hh.maker (d.makerAS, d.maker) (by simp [At.nf, hm])
theorem rcheck_s (d : At) (hd : AtF d) : Pact Tryz.prog 78 #[.agg (atC d).toArray] (fun w => AtV w d) [] (ret0 (.int .i64 (er (okN d.nf)))) := by
  refine pact Tryz.func78 rfl Tryz.ntmps78 rfl ?_
  intro W K hK
  have hd1 := hd.path
  have hd2 := hd.comms
  have hd3 := hd.others
  have hov : Kn K (fun w => Vw w (.slice d.oa d.others.length d.oc) 2 d.others.length (flat rwC d.others)) := hK.imp fun _ h => h.others.vw
  have hPC := pcheck_s d.pa d.pc d.path (by omega) hd.num.path
  rcases hp : ckP (pN d.path) 0 with _ | _
  · rw [hp] at hPC
    have hok : okN d.nf = false := okN_f fun h => by rw [hp] at h; exact absurd h.2.1 (by decide)
    rw [hok]
    (repeat' (first | (refine gL ?_; first | (with_reducible apply gL_app) | (with_reducible apply gL_app0) | refine yL0 ?_ | refine yL ?_ | (refine gL_go ?_; (refine JL_goq (hPC) (hφ := (by (try simp only [cAp, nAp]); exact fun w hr => (hK w hr.1).path)) (h := ?_); rintro _ _ ⟨rfl, rfl⟩; try simp only [cAp, nAp])) | (refine yM ?_; intro _)) | refine yJ ?_ | (refine yI ?_ ?_ <;> intro _ <;> try exact xX) | (refine yK ?_ ?_ <;> intro hgb <;> first | subst hgb | fail_if_success have : type_of% hgb := rfl) | fail))
    all_goals (first | exact J_ret1 rfl (by rfl) fun w H => ⟨_, ⟨rfl, rfl⟩, H.sel .nil⟩ | skip)
  · rw [hp] at hPC
    (iterate 3 (first | (refine gL ?_; first | (with_reducible apply gL_app) | (with_reducible apply gL_app0) | refine yL0 ?_ | refine yL ?_ | (refine yM ?_; intro _)) | refine yJ ?_ | (refine yI ?_ ?_ <;> intro _ <;> try exact xX) | (refine yK ?_ ?_ <;> intro hgb <;> first | subst hgb | fail_if_success have : type_of% hgb := rfl) | fail))
    rename_i b0
    (repeat' (first | (refine gL ?_; first | (with_reducible apply gL_app) | (with_reducible apply gL_app0) | refine yL0 ?_ | refine yL ?_ | (refine gL_go ?_; (refine JL_goq (hPC) (hφ := (by (try simp only [cAp, nAp]); exact fun w hr => (hK w hr.1).path)) (h := ?_); rintro _ _ ⟨rfl, rfl⟩; try simp only [cAp, nAp])) | (refine yM ?_; intro _)) | refine yJ ?_ | (refine yI ?_ ?_ <;> intro _ <;> try exact xX) | (refine yK ?_ ?_ <;> intro hgb <;> first | subst hgb | fail_if_success have : type_of% hgb := rfl) | fail))
    all_goals (first | (have hok : okN d.nf = false := okN_f (fun ⟨h1, _, h3, h4, h5, h6, _⟩ => by first | omega | (have := h4 (by assumption); omega)); rw [hok]; exact J_ret1 rfl (by rfl) fun w H => ⟨_, ⟨rfl, rfl⟩, H.sel .nil⟩) | skip)
    all_goals (
      have hok : okN d.nf = ckO (oN d.others) (-1) := by
        rcases ho : ckO (oN d.others) (-1) with _ | _
        · exact okN_f (fun h => by rw [ho] at h; exact absurd h.2.2.2.2.2.2 (by decide))
        · exact okN_t (by omega) hp (by omega) (by first | (intro _; assumption) | (intro hh; simp_all; done)) (by omega) (by omega) ho
      refine J_loop (α := Nat × Int) (0, -1) (fun x => d.others.length - x.1) (fun x => x.1 ≤ d.others.length ∧ okN d.nf = ckO (oN (d.others.drop x.1)) x.2) (fun x => [(1, .pointer (some ⟨b0, 0, none⟩)), (3, .int .i64 x.2), (4, .int .i64 x.1)]) (fun x => [pts b0 (atC d) 35]) ⟨Nat.zero_le _, hok⟩ ⟨rfl, rfl, rfl, trivial⟩ (fun w H => H.sel xZ) ?_
      clear hok
      rintro ⟨k, n⟩ ⟨hk, hck⟩
      dsimp only at hk hck ⊢
      by_cases hlt : k < d.others.length
      · obtain ⟨s, hs⟩ : ∃ s, d.others[k]? = some s := ⟨_, List.getElem?_eq_getElem hlt⟩
        have hm := List.mem_of_getElem? hs
        have hsn := hd.num.others s hm
        have hsn1 := hsn.2.1
        obtain ⟨hk1, hk2⟩ := hsn.1
        rw [ckO_step hs] at hck
        (repeat' (first | (refine gL ?_; first | (with_reducible apply gL_app) | (with_reducible apply gL_app0) | refine yL0 ?_ | refine yL ?_ | (refine gL_go ?_; (refine JL_goq (rknown_s s.kind) (hφ := xF) (h := ?_); rintro _ _ ⟨rfl, rfl⟩; try simp only [cAp, nAp])) | (refine yM ?_; intro _)) | refine yJ ?_ | (refine yI ?_ ?_ <;> intro _ <;> try exact xX) | (refine yK ?_ ?_ <;> intro hgb <;> first | subst hgb | fail_if_success have : type_of% hgb := rfl) | fail))
        all_goals (first | (rw [if_pos (by first | exact .inl (by omega) | exact .inr (.inl (by omega)) | exact .inr (.inr (.inl (by unfold kno; exact decide_eq_true (by assumption)))) | exact .inr (.inr (.inr (by omega))))] at hck; rw [hck]; exact J_ret1 rfl (by rfl) fun w H => ⟨_, ⟨rfl, rfl⟩, H.sel .nil⟩) | skip)
        all_goals (
          rw [if_neg (by rintro (h | h | h | h) <;> first | omega | exact absurd (of_decide_eq_true h) (by assumption))] at hck
          exact J_again (k + 1, s.kind) (by dsimp only; omega) ⟨by dsimp only; omega, hck⟩ ⟨rfl, rfl, rfl, trivial⟩ (fun w H => H.sel xZ))
      · have hke : k = d.others.length := by omega
        have hck2 : okN d.nf = true := by rw [hck, hke, List.drop_length]; rfl
        rw [hck2]
        (repeat' (first | (refine gL ?_; first | (with_reducible apply gL_app) | (with_reducible apply gL_app0) | refine yL0 ?_ | refine yL ?_ | (refine yM ?_; intro _)) | refine yJ ?_ | (refine yI ?_ ?_ <;> intro _ <;> try exact xX) | (refine yK ?_ ?_ <;> intro hgb <;> first | subst hgb | fail_if_success have : type_of% hgb := rfl) | fail))
        exact J_ret1 rfl (by rfl) fun w H => ⟨_, ⟨rfl, rfl⟩, H.sel .nil⟩)
end Go.Proofs.YtdnokmpnemaoaaaGreat
namespace Go.Pm
set_option linter.unusedSimpArgs false
set_option linter.unusedVariables false
open Go.RowKit
section
variable {P : Program} {n : Nat} {W : World} {K : Hl} {F : Fp} {k : List It} {tm : TM} {L L' R S M C : List HP} {T : TypeId} {pos : String} {af : Array Edge} {gd : Option (Nat × Bool)} {ops : Array Oper} {rest nx : List Oper} {d : Option Tmp}
theorem pe_neStr {xt yt : TypeId} {x y : Operand} {a b : ByteArray} {c : Bool} (hx : evT tm x = some (.string a)) (hy : evT tm y = some (.string b)) (_ht : tyIs P xt isStrD = true) (hc : decide (a ≠ b) = c) : PE P K L ⟨d, .binOp .neq xt x y yt, T, pos, af, gd⟩ (tget tm) (.bool c) := pe_bin hx hy fun w => by
  have : (!(a.toList == b.toList)) = c := by
    rw [← hc, ByteArray.toList_eq, ByteArray.toList_eq]
    by_cases h : a = b
    · subst h; simp
    · have h2 : ¬ a.data.toList = b.data.toList := fun e => h (ByteArray.ext (Array.toList_inj.1 e))
      rw [decide_eq_true h]
      simpa using h2
  simp [eqGuard, Sem.run_bind, binOp_string_neq, this]
end
end Go.Pm
