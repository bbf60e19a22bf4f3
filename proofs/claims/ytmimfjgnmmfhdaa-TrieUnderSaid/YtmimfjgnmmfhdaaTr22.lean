/-
  Acts that came in; both tries under any acts.
-/
import Derived.Test.YtmimfjgnmmfhdaaTr21
namespace Go.Proofs.Ytmimfjgnmmfhdaa
set_option linter.unusedSimpArgs false
set_option linter.unusedVariables false
open Go.RowKit Go.Pm


theorem act_el {w : World} (m : Nat) (d : List Value) (_ : d.length = 4) (h : Rs Try.prog w m 42 d) : ∃ x : Ac, d = acC x ∧ AcN x := by
  have h0 := leaf_of 5 42 [3, 29, 3, 3] m d (by kernel_rfl) h
  obtain ⟨d, r, e, b0, h1⟩ := h0.i64 Try.underlying3
  subst e
  obtain ⟨a, r, e, b1, h2⟩ := h1.u32 Try.underlying29
  subst e
  obtain ⟨l, r, e, b2, h3⟩ := h2.i64 Try.underlying3
  subst e
  obtain ⟨v, r, e, b3, h4⟩ := h3.i64 Try.underlying3
  subst e
  obtain rfl := h4.nil'
  exact ⟨⟨d, (a, l), v⟩, rfl, b0, ⟨b1, b2⟩, b3⟩
theorem pf_el {w : World} (m : Nat) (d : List Value) (_ : d.length = 2) (h : Rs Try.prog w m 31 d) : ∃ x : Pf, d = pfC x ∧ PfN x := by
  have h0 := leaf_of 5 31 [29, 3] m d (by kernel_rfl) h
  obtain ⟨a, r, e, b0, h1⟩ := h0.u32 Try.underlying29
  subst e
  obtain ⟨l, r2, e2, b1, h2⟩ := h1.i64 Try.underlying3
  subst e2
  obtain rfl := h2.nil'
  exact ⟨(a, l), rfl, b0, b1⟩
theorem vw_keepL {w w' : World} (hc : ∀ b o u, w.cell? ⟨b, o, none⟩ = some u → w'.cell? ⟨b, o, none⟩ = some u) {v : Value} {sz n : Nat} {xs : List Value} (h : Vw w v sz n xs) : Vw w' v sz n xs := by
  obtain ⟨a, cap, rfl, h1, h2, h3, h4, h5⟩ := h
  refine ⟨a, cap, rfl, h1, h2, h3, h4, fun hne => ?_⟩
  obtain ⟨b, off, h6, h7⟩ := h5 hne
  exact ⟨b, off, h6, fun j u hu => hc _ _ _ (h7 j u hu)⟩
theorem vw_kn {W : World} {v : Value} {sz n : Nat} {xs : List Value} (h : Vw W v sz n xs) : Kn (World.all W) (fun w => Vw w v sz n xs) :=
  Kn.all (fun w ho => vw_keepL (fun b o u hu => by
    rw [World.cell?_of_block (w := W) (ho.block b (World.block_lt_of_cell? _ _ hu) (by simp))]
    exact hu) h) fun w w' hh hr => vw_keepL (fun b o u hu => by rw [cell?_heap hh]; exact hu) hr
theorem acts_arg {W : World} {n : Nat} {a : Option Addr} {l c : Nat} (h : Rs Try.prog W n 35 [.slice a l c]) : ∃ es : List Ac, es.length = l ∧ es.length ≤ 140737488355328 ∧ (∀ x ∈ es, AcN x) ∧ Kn (World.all W) (fun w => Vw w (.slice a es.length c) 4 es.length (flat acC es)) := by
  obtain ⟨es, rfl, h1, h2, h3, h4, h5⟩ := h.list (sz := 4) (b := 32) (enc := acC) (ok := AcN) Try.underlying35 (by kernel_rfl) (by kernel_rfl) act_el
  exact ⟨es, rfl, by simp only [reachBytes] at h3; omega, h5, vw_kn h4⟩
theorem pfs_arg {W : World} {n : Nat} {a : Option Addr} {l c : Nat} (h : Rs Try.prog W n 45 [.slice a l c]) : ∃ es : List Pf, es.length = l ∧ es.length ≤ 140737488355328 ∧ (∀ x ∈ es, PfN x) ∧ Kn (World.all W) (fun w => Vw w (.slice a es.length c) 2 es.length (flat pfC es)) := by
  obtain ⟨es, rfl, h1, h2, h3, h4, h5⟩ := h.list (sz := 2) (b := 16) (enc := pfC) (ok := PfN) Try.underlying45 (by kernel_rfl) (by kernel_rfl) pf_el
  exact ⟨es, rfl, by simp only [reachBytes] at h3; omega, h5, vw_kn h4⟩
theorem rlon_o (rb : Nat) (a : Option Addr) (c : Nat) (l : List Ent) (ad : Int) (best : Pf) (any : Bool) (hk : LonOk l ad best any) (ha : U32 ad) (hl : l.length ≤ 1000000) (he : ∀ e ∈ l, EnN e) : Pact Try.prog 22 #[.pointer (some ⟨rb, 0, none⟩), .int .u32 ad] (fun _ => True) [pts rb [.slice a l.length c] 39, Ar 72 3 enC (.slice a l.length c) l] (fun u L' => u = .tuple [.agg (pfC best).toArray, .bool any].toArray ∧ L' = [pts rb [.slice a l.length c] 39, Ar 72 3 enC (.slice a l.length c) l]) := fun W K w hK H =>
  (rlon_s rb a c l ad ha hl he W K w hK H).mono fun e' w' h => by
    obtain ⟨u, L', ⟨b2, n2, h1, h2, h3⟩, h5, h6⟩ := h
    obtain ⟨rfl, rfl⟩ := lon_one hk h1
    exact ⟨u, L', ⟨h2, h3⟩, h5, h6⟩
theorem rget_o (rb : Nat) (a : Option Addr) (c : Nat) (l : List Ent) (p : Pf) (o : Option Int) (ho : getL l p = o) (hl : l.length ≤ 1000000) : Pact Try.prog 23 #[.pointer (some ⟨rb, 0, none⟩), .agg (pfC p).toArray] (fun _ => True) [pts rb [.slice a l.length c] 39, Ar 72 3 enC (.slice a l.length c) l] (fun u L' => u = optV o ∧ L' = [pts rb [.slice a l.length c] 39, Ar 72 3 enC (.slice a l.length c) l]) := by
  subst ho
  exact rget_s rb a c l p hl
structure Bt where
  i : Nat
  t : Tr
  ad : Option Addr
  c : Nat
theorem trok_nil : TrOk .nil := ⟨trivial, Nat.zero_le _⟩
end Go.Proofs.Ytmimfjgnmmfhdaa
