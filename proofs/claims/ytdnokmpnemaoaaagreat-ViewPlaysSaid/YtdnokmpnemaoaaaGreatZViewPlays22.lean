/-
  Aq10, Aq11: merged.
-/
import Derived.Test.YtdnokmpnemaoaaaGreatZViewPlays21
namespace Go.Proofs.YtdnokmpnemaoaaaGreat
set_option linter.unusedSimpArgs false
set_option linter.unusedVariables false
set_option maxRecDepth 20000
set_option maxHeartbeats 4000000
open Go.RowKit Go.Pm

abbrev Tl := Int × Int × List Int
def tlB (t : Tl) : List Int := putB t.1 t.2.1 t.2.2
def tlsB (l : List Tl) : List Int := l.flatMap tlB
theorem tlsB_append (l m : List Tl) : tlsB (l ++ m) = tlsB l ++ tlsB m := by simp [tlsB]
def medT (x : Nf) : List Tl := match x.med with | none => [] | some m => [(128, 4, num4 m)]
def atomT (x : Nf) : List Tl := if x.atomic then [(64, 6, [])] else []
def makT (x : Nf) : List Tl := match x.maker with | none => [] | some m => [(192, 7, num4 m.1 ++ num4 m.2)]
def comT (x : Nf) : List Tl := if x.comms.length = 0 then [] else [(192, 8, asB x.comms)]
structure Lq where
  q : List Bs
  ad : Option Addr
  c : Nat
theorem partsNil (w : World) : PartsV w none 0 [] := ⟨Vw.nil w 1, fun _ h => absurd h List.not_mem_nil⟩
theorem parts1 {K : Hl} {R R1 R2 : List HP} {w : World} {g n c : Nat} {a : Option Addr} {l : List Int} {T : TypeId} (hr : Rdw K R w) (t1 : Tk R (pts g [.slice a n c] T) R1) (t2 : Tk R (Ar 5 1 byC (.slice a n c) l) R2) (hn : l.length = n) : PartsV w (some ⟨g, 0, none⟩) 1 [⟨a, c, l⟩] := by
  subst hn
  refine ⟨Src.lit (sz := 1) (m := 1) t1 rfl (by decide) w hr, fun s hs => ?_⟩
  obtain rfl := List.mem_singleton.1 hs
  exact Src.ar t2 w hr
theorem parts2 {K : Hl} {R R1 R2 R3 : List HP} {w : World} {g n c n' c' : Nat} {a a' : Option Addr} {l l' : List Int} {T : TypeId} (hr : Rdw K R w) (t1 : Tk R (pts g [.slice a n c, .slice a' n' c'] T) R1) (t2 : Tk R (Ar 5 1 byC (.slice a n c) l) R2) (t3 : Tk R (Ar 5 1 byC (.slice a' n' c') l') R3) (hn : l.length = n) (hn' : l'.length = n') : PartsV w (some ⟨g, 0, none⟩) 2 [⟨a, c, l⟩, ⟨a', c', l'⟩] := by
  subst hn hn'
  refine ⟨Src.lit (sz := 1) (m := 2) t1 rfl (by decide) w hr, fun s hs => ?_⟩
  rcases List.mem_cons.1 hs with rfl | hs
  · exact Src.ar t2 w hr
  · obtain rfl := List.mem_singleton.1 hs
    exact Src.ar t3 w hr
theorem tlsB_len (l : List Tl) : (tlsB l).length ≤ (l.map fun t => 4 + t.2.2.length).sum := by
  induction l with
  | nil => exact Nat.le_refl _
  | cons t l ih =>
    have : tlsB (t :: l) = tlB t ++ tlsB l := rfl
    rw [this, List.length_append, List.map_cons, List.sum_cons]
    have : (tlB t).length ≤ 4 + t.2.2.length := by
      unfold tlB putB
      split <;> simp <;> omega
    omega
theorem sys_s (n : Int) (hn : U32 n) : Pact Tryz.prog 180 #[.int .u32 n, .bool true] (fun _ => True) [] (fun u L' => ∃ b, u = .slice (some ⟨b, 0, none⟩) 4 4 ∧ L' = [Ar4 b n]) := by
  refine pact Tryz.func180 rfl Tryz.ntmps180 rfl ?_
  intro W K _
  (repeat' (first | ((with_reducible apply gL); (first | refine yL0 ?_ | refine yL ?_ | ((with_reducible apply gL_go); (first | (refine JL_goq (num_s n hn) (hφ := xF) (h := ?_); rintro _ _ ⟨b, rfl, rfl⟩; try simp only [List.cons_append, List.nil_append]) | fail)) | fail)) | refine yJ ?_ | ((with_reducible apply gJ_if); (first | (refine J_if xR ?_ ?_ <;> intro _ <;> (try (exfalso; first | contradiction | omega))) | (refine J_ifb xR ?_ ?_ <;> (intro hgb; subst hgb)) | (refine J_ifb xR ?_ ?_ <;> intro _) | fail)) | fail))
  exact J_ret1 rfl (by rfl) fun w H => ⟨_, ⟨_, rfl, rfl⟩, H.sel xZ⟩
theorem medT_len (x : Nf) : (tlsB (medT x)).length ≤ 100 := by
  refine Nat.le_trans (tlsB_len _) ?_
  unfold medT
  split <;> simp [num4]
theorem atomT_len (x : Nf) : (tlsB (atomT x)).length ≤ 100 := by
  refine Nat.le_trans (tlsB_len _) ?_
  unfold atomT
  split <;> simp
theorem makT_len (x : Nf) : (tlsB (makT x)).length ≤ 100 := by
  refine Nat.le_trans (tlsB_len _) ?_
  unfold makT
  split <;> simp [num4]
theorem perhaps_s (wb : Nat) (l : List Int) (d : At) (hd : AtF d) (hl : l.length ≤ 1000000) : Pact Tryz.prog 165 #[.pointer (some ⟨wb, 0, none⟩), .agg (atC d).toArray, .bool true] (fun w => AtV w d) [wrO wb l] (fun u L' => L' = [wrO wb (l ++ tlsB (medT d.nf ++ atomT d.nf ++ makT d.nf ++ comT d.nf))]) := by
  refine pact Tryz.func165 rfl Tryz.ntmps165 rfl ?_
  intro W K hK
  have hd2 := hd.comms
  have hc : Kn K (fun w => Vw w (.slice d.ca d.comms.length d.cc) 1 d.comms.length (flat u32C d.comms)) := hK.imp fun _ h => h.comms
  obtain ⟨l1, hl1⟩ : ∃ l1, l ++ tlsB (medT d.nf) = l1 := ⟨_, rfl⟩
  have hn1 : l1.length ≤ 1000000 + 100 := by have := medT_len d.nf; rw [← hl1, List.length_append]; omega
  obtain ⟨l2, hl2⟩ : ∃ l2, l1 ++ tlsB (atomT d.nf) = l2 := ⟨_, rfl⟩
  have hn2 : l2.length ≤ 1000000 + 200 := by have := atomT_len d.nf; rw [← hl2, List.length_append]; omega
  obtain ⟨l3, hl3⟩ : ∃ l3, l2 ++ tlsB (makT d.nf) = l3 := ⟨_, rfl⟩
  have hn3 : l3.length ≤ 1000000 + 300 := by have := makT_len d.nf; rw [← hl3, List.length_append]; omega
  have hfin : l ++ tlsB (medT d.nf ++ atomT d.nf ++ makT d.nf ++ comT d.nf) = l3 ++ tlsB (comT d.nf) := by
    rw [← hl3, ← hl2, ← hl1]
    simp [tlsB_append]
  rw [hfin]
  (iterate 4 (first | ((with_reducible apply gL); (first | refine yL0 ?_ | refine yL ?_ | (refine yM ?_; intro _) | (refine yA ?_; intro _ _ _ _) | fail)) | ((with_reducible apply gD); (first | (refine JD_nil ?_; try simp only [List.cons_append, List.nil_append]) | (refine JD_bar ?_; try simp only [List.cons_append, List.nil_append]) | refine yD ?_ | (refine yE ?_; intro _) | fail)) | refine yJ ?_ | ((with_reducible apply gJ_if); (first | (refine J_if xR ?_ ?_ <;> intro _ <;> (try (exfalso; first | contradiction | omega))) | (refine J_ifb xR ?_ ?_ <;> (intro hgb; subst hgb)) | (refine J_ifb xR ?_ ?_ <;> intro _) | fail)) | refine J_draw (id := 6) [0, 1, 2, 3, 5, 6, 4, 7, 8] [9] mixed xC xD xD ?_ | fail))
  rename_i b0
  refine J_seq ?_
  refine J_cut (α := Unit) (fun _ => True) (fun _ => [(0, .pointer (some ⟨wb, 0, none⟩)), (2, .bool true), (4, .pointer (some ⟨b0, 0, none⟩))]) (fun _ => [pts b0 (atC d) 35, wrO wb l1]) ?_ (fun _ _ => ?_)
  · (repeat' (first | ((with_reducible apply gL); (first | refine yL0 ?_ | refine yL ?_ | ((with_reducible apply gL_go); (first | (refine JL_goq (num_s d.med hd.num.med) (hφ := xF) (h := ?_); rintro _ _ ⟨b1, rfl, rfl⟩; try simp only [List.cons_append, List.nil_append]) | (refine JL_goq (usual_s wb l 4 _ 1 [⟨some ⟨b1, 0, none⟩, 4, num4 d.med⟩] (by decide) (by decide) (by simp) (by simp [catB, num4]) (by omega)) (hφ := (by (try simp only [List.cons_append, List.nil_append]); exact fun w hr => parts1 (n := 4) hr xA xA rfl)) (h := ?_); rintro _ _ rfl; try simp only [List.cons_append, List.nil_append]) | fail)) | (refine yM ?_; intro _) | (refine yA ?_; intro _ _ _ _) | fail)) | ((with_reducible apply gD); (first | (refine JD_nil ?_; try simp only [List.cons_append, List.nil_append]) | (refine JD_bar ?_; try simp only [List.cons_append, List.nil_append]) | refine yD ?_ | ((with_reducible apply gD_go); (first | (refine JD_goq (num_s d.med hd.num.med) (hφ := xF) (h := ?_); rintro _ _ ⟨b1, rfl, rfl⟩; try simp only [List.cons_append, List.nil_append]) | (refine JD_goq (usual_s wb l 4 _ 1 [⟨some ⟨b1, 0, none⟩, 4, num4 d.med⟩] (by decide) (by decide) (by simp) (by simp [catB, num4]) (by omega)) (hφ := (by (try simp only [List.cons_append, List.nil_append]); exact fun w hr => parts1 (n := 4) hr xA xA rfl)) (h := ?_); rintro _ _ rfl; try simp only [List.cons_append, List.nil_append]) | fail)) | (refine yE ?_; intro _) | fail)) | refine yJ ?_ | ((with_reducible apply gJ_if); (first | (refine J_if xR ?_ ?_ <;> intro _ <;> (try (exfalso; first | contradiction | omega))) | (refine J_ifb xR ?_ ?_ <;> (intro hgb; subst hgb)) | (refine J_ifb xR ?_ ?_ <;> intro _) | fail)) | refine J_draw (id := 6) [0, 1, 2, 3, 5, 6, 4, 7, 8] [9] mixed xC xD xD ?_ | fail))
    · refine J_meet () trivial ⟨rfl, rfl, rfl, trivial⟩ (fun w H => ?_)
      have e : l ++ putB (fl 4) 4 (catB [⟨some ⟨b1, 0, none⟩, 4, num4 d.med⟩]) = l1 := by
        rw [← hl1]
        simp_all [medT, At.nf, tlsB, tlB, catB, fl]
      rw [e] at H
      exact H.sel xZ
    · refine J_meet () trivial ⟨rfl, rfl, rfl, trivial⟩ (fun w H => ?_)
      have e : l = l1 := by
        rw [← hl1]
        simp_all [medT, At.nf, tlsB]
      rw [e] at H
      exact H.sel xZ
  refine J_seq ?_
  refine J_cut (α := Unit) (fun _ => True) (fun _ => [(0, .pointer (some ⟨wb, 0, none⟩)), (2, .bool true), (4, .pointer (some ⟨b0, 0, none⟩))]) (fun _ => [pts b0 (atC d) 35, wrO wb l2]) ?_ (fun _ _ => ?_)
  · (repeat' (first | ((with_reducible apply gL); (first | refine yL0 ?_ | refine yL ?_ | ((with_reducible apply gL_go); (first | (refine JL_goq (usual_s wb l1 6 none 0 [] (by decide) (by decide) (by simp) (by simp [catB]) (by omega)) (hφ := (by (try simp only [List.cons_append, List.nil_append]); exact fun w hr => partsNil w)) (h := ?_); rintro _ _ rfl; try simp only [List.cons_append, List.nil_append]) | fail)) | (refine yM ?_; intro _) | (refine yA ?_; intro _ _ _ _) | fail)) | ((with_reducible apply gD); (first | (refine JD_nil ?_; try simp only [List.cons_append, List.nil_append]) | (refine JD_bar ?_; try simp only [List.cons_append, List.nil_append]) | refine yD ?_ | ((with_reducible apply gD_go); (first | (refine JD_goq (usual_s wb l1 6 none 0 [] (by decide) (by decide) (by simp) (by simp [catB]) (by omega)) (hφ := (by (try simp only [List.cons_append, List.nil_append]); exact fun w hr => partsNil w)) (h := ?_); rintro _ _ rfl; try simp only [List.cons_append, List.nil_append]) | fail)) | (refine yE ?_; intro _) | fail)) | refine yJ ?_ | ((with_reducible apply gJ_if); (first | (refine J_if xR ?_ ?_ <;> intro _ <;> (try (exfalso; first | contradiction | omega))) | (refine J_ifb xR ?_ ?_ <;> (intro hgb; subst hgb)) | (refine J_ifb xR ?_ ?_ <;> intro _) | fail)) | refine J_draw (id := 6) [0, 1, 2, 3, 5, 6, 4, 7, 8] [9] mixed xC xD xD ?_ | fail))
    · refine J_meet () trivial ⟨rfl, rfl, rfl, trivial⟩ (fun w H => ?_)
      have e : l1 ++ putB (fl 6) 6 (catB []) = l2 := by
        rw [← hl2]
        simp_all [atomT, At.nf, tlsB, tlB, catB, fl]
      rw [e] at H
      exact H.sel xZ
    · refine J_meet () trivial ⟨rfl, rfl, rfl, trivial⟩ (fun w H => ?_)
      have e : l1 = l2 := by
        rw [← hl2]
        simp_all [atomT, At.nf, tlsB]
      rw [e] at H
      exact H.sel xZ
  refine J_seq ?_
  refine J_cut (α := Unit) (fun _ => True) (fun _ => [(0, .pointer (some ⟨wb, 0, none⟩)), (2, .bool true), (4, .pointer (some ⟨b0, 0, none⟩))]) (fun _ => [pts b0 (atC d) 35, wrO wb l3]) ?_ (fun _ _ => ?_)
  · (repeat' (first | ((with_reducible apply gL); (first | refine yL0 ?_ | refine yL ?_ | ((with_reducible apply gL_go); (first | (refine JL_goq (sys_s d.makerAS hd.num.makerAS) (hφ := xF) (h := ?_); rintro _ _ ⟨b1, rfl, rfl⟩; try simp only [List.cons_append, List.nil_append]) | (refine JL_goq (num_s d.maker hd.num.maker) (hφ := xF) (h := ?_); rintro _ _ ⟨b2, rfl, rfl⟩; try simp only [List.cons_append, List.nil_append]) | (refine JL_goq (usual_s wb l2 7 _ 2 [⟨some ⟨b1, 0, none⟩, 4, num4 d.makerAS⟩, ⟨some ⟨b2, 0, none⟩, 4, num4 d.maker⟩] (by decide) (by decide) (by simp) (by simp [catB, num4]) (by omega)) (hφ := (by (try simp only [List.cons_append, List.nil_append]); exact fun w hr => parts2 (n := 4) (n' := 4) hr xA xA xA rfl rfl)) (h := ?_); rintro _ _ rfl; try simp only [List.cons_append, List.nil_append]) | fail)) | (refine yM ?_; intro _) | (refine yA ?_; intro _ _ _ _) | fail)) | ((with_reducible apply gD); (first | (refine JD_nil ?_; try simp only [List.cons_append, List.nil_append]) | (refine JD_bar ?_; try simp only [List.cons_append, List.nil_append]) | refine yD ?_ | ((with_reducible apply gD_go); (first | (refine JD_goq (sys_s d.makerAS hd.num.makerAS) (hφ := xF) (h := ?_); rintro _ _ ⟨b1, rfl, rfl⟩; try simp only [List.cons_append, List.nil_append]) | (refine JD_goq (num_s d.maker hd.num.maker) (hφ := xF) (h := ?_); rintro _ _ ⟨b2, rfl, rfl⟩; try simp only [List.cons_append, List.nil_append]) | (refine JD_goq (usual_s wb l2 7 _ 2 [⟨some ⟨b1, 0, none⟩, 4, num4 d.makerAS⟩, ⟨some ⟨b2, 0, none⟩, 4, num4 d.maker⟩] (by decide) (by decide) (by simp) (by simp [catB, num4]) (by omega)) (hφ := (by (try simp only [List.cons_append, List.nil_append]); exact fun w hr => parts2 (n := 4) (n' := 4) hr xA xA xA rfl rfl)) (h := ?_); rintro _ _ rfl; try simp only [List.cons_append, List.nil_append]) | fail)) | (refine yE ?_; intro _) | fail)) | refine yJ ?_ | ((with_reducible apply gJ_if); (first | (refine J_if xR ?_ ?_ <;> intro _ <;> (try (exfalso; first | contradiction | omega))) | (refine J_ifb xR ?_ ?_ <;> (intro hgb; subst hgb)) | (refine J_ifb xR ?_ ?_ <;> intro _) | fail)) | refine J_draw (id := 6) [0, 1, 2, 3, 5, 6, 4, 7, 8] [9] mixed xC xD xD ?_ | fail))
    · refine J_meet () trivial ⟨rfl, rfl, rfl, trivial⟩ (fun w H => ?_)
      have e : l2 ++ putB (fl 7) 7 (catB [⟨some ⟨b1, 0, none⟩, 4, num4 d.makerAS⟩, ⟨some ⟨b2, 0, none⟩, 4, num4 d.maker⟩]) = l3 := by
        rw [← hl3]
        simp_all [makT, At.nf, tlsB, tlB, catB, fl]
      rw [e] at H
      exact H.sel xZ
    · refine J_meet () trivial ⟨rfl, rfl, rfl, trivial⟩ (fun w H => ?_)
      have e : l2 = l3 := by
        rw [← hl3]
        simp_all [makT, At.nf, tlsB]
      rw [e] at H
      exact H.sel xZ
  clear hl3 hl2 hl1 hfin
  (repeat' (first | ((with_reducible apply gL); (first | refine yL0 ?_ | refine yL ?_ | (refine yM ?_; intro _) | (refine yA ?_; intro _ _ _ _) | fail)) | ((with_reducible apply gD); (first | (refine JD_nil ?_; try simp only [List.cons_append, List.nil_append]) | (refine JD_bar ?_; try simp only [List.cons_append, List.nil_append]) | refine yD ?_ | (refine yE ?_; intro _) | fail)) | refine yJ ?_ | ((with_reducible apply gJ_if); (first | (refine J_if xR ?_ ?_ <;> intro _ <;> (try (exfalso; first | contradiction | omega))) | (refine J_ifb xR ?_ ?_ <;> (intro hgb; subst hgb)) | (refine J_ifb xR ?_ ?_ <;> intro _) | fail)) | refine J_draw (id := 6) [0, 1, 2, 3, 5, 6, 4, 7, 8] [9] mixed xC xD xD ?_ | fail))
  · refine J_loop (α := Lq) ⟨[], none, 0⟩ (fun x => d.comms.length - x.q.length) (fun x => x.q.length ≤ d.comms.length ∧ x.q.map (·.l) = (d.comms.take x.q.length).map num4) (fun x => [(0, .pointer (some ⟨wb, 0, none⟩)), (38, .slice d.ca d.comms.length d.cc), (39, .int .i64 d.comms.length), (40, .int .i64 x.q.length), (6, .slice x.ad x.q.length x.c)])
      (fun x => [Ar 77 1 bsC (.slice x.ad x.q.length x.c) x.q, has (fun w => ∀ s ∈ x.q, bsV w s), wrO wb l3]) ⟨Nat.zero_le _, rfl⟩ ⟨rfl, rfl, rfl, rfl, rfl, trivial⟩ (fun w H => (Ow.hasTrue (φ := fun w => ∀ s ∈ ([] : List Bs), bsV w s) (Ow.arNil (e := 77) (sz := 1) (enc := bsC) H) (by intro _ _ h; exact absurd h List.not_mem_nil)).sel xZ) ?_
    rintro ⟨q, ad, cc⟩ ⟨hq, hsame⟩
    dsimp only at hq hsame ⊢
    by_cases hlt : q.length < d.comms.length
    · obtain ⟨x, hx⟩ : ∃ x, d.comms[q.length]? = some x := ⟨_, List.getElem?_eq_getElem hlt⟩
      have hxn := hd.num.comms x (List.mem_of_getElem? hx)
      (repeat' (first | ((with_reducible apply gL); (first | refine yL0 ?_ | ((with_reducible apply gL_c_append); (first | (refine JL_ap1 (z := Bs.mk (some ⟨b3, 0, none⟩) 4 (num4 x)) (tabE etab_ok xR) xR xR xA xA xC xR xL xR (by omega) xR xR ?_; intro ad3 c3 _ _) | fail)) | refine yL ?_ | ((with_reducible apply gL_go); (first | (refine JL_goq (num_s x hxn) (hφ := xF) (h := ?_); rintro _ _ ⟨b3, rfl, rfl⟩; try simp only [List.cons_append, List.nil_append]) | fail)) | (refine yM ?_; intro _) | (refine yA ?_; intro _ _ _ _) | fail)) | ((with_reducible apply gD); (first | (refine JD_nil ?_; try simp only [List.cons_append, List.nil_append]) | (refine JD_bar ?_; try simp only [List.cons_append, List.nil_append]) | refine yD ?_ | ((with_reducible apply gD_go); (first | (refine JD_goq (num_s x hxn) (hφ := xF) (h := ?_); rintro _ _ ⟨b3, rfl, rfl⟩; try simp only [List.cons_append, List.nil_append]) | fail)) | (refine yE ?_; intro _) | fail)) | refine yJ ?_ | ((with_reducible apply gJ_if); (first | (refine J_if xR ?_ ?_ <;> intro _ <;> (try (exfalso; first | contradiction | omega))) | (refine J_ifb xR ?_ ?_ <;> (intro hgb; subst hgb)) | (refine J_ifb xR ?_ ?_ <;> intro _) | fail)) | refine J_draw (id := 6) [0, 1, 2, 3, 5, 6, 4, 7, 8] [9] mixed xC xD xD ?_ | fail))
      refine J_again ⟨q ++ [Bs.mk (some ⟨b3, 0, none⟩) 4 (num4 x)], ad3, c3⟩ (by simp; omega) ⟨by simp; omega, ?_⟩ ⟨rfl, rfl, rfl, ?_, ?_, trivial⟩ (fun w H => ?_)
      · simp only [List.length_append, List.length_cons, List.length_nil]
        rw [take_snoc hx, List.map_append, List.map_append, hsame]
        rfl
      · show some _ = some _
        simp
      · show some _ = some _
        simp
      · simp only [List.length_append, List.length_cons, List.length_nil]
        refine (Ow.has (M := [Ar4 b3 x, has (fun w => ∀ s ∈ q, bsV w s)]) (φ := fun w => ∀ s ∈ q ++ [Bs.mk (some ⟨b3, 0, none⟩) 4 (num4 x)], bsV w s) H xZ ?_).sel xZ
        intro w hr s hs
        rcases List.mem_append.1 hs with hs | hs
        · exact hr.has (.there .here) s hs
        · obtain rfl := List.mem_singleton.1 hs
          exact Src.ar .here w hr
    · have hql : q.length = d.comms.length := by omega
      have hcat : catB q = asB d.comms := by
        rw [hql, List.take_length] at hsame
        unfold catB asB
        rw [List.flatMap_def, List.flatMap_def, hsame]
      have hcl : (catB q).length ≤ 65535 := by rw [hcat, asB_len]; omega
      (repeat' (first | ((with_reducible apply gL); (first | refine yL0 ?_ | refine yL ?_ | ((with_reducible apply gL_go); (first | (refine JL_goq (usual_s wb l3 8 ad cc q (by decide) (by decide) (by omega) hcl (by omega)) (hφ := (by (try simp only [List.cons_append, List.nil_append]); exact fun w hr => ⟨Src.ar xA w hr, fun s hs => hr.has (φ := fun w => ∀ s ∈ q, bsV w s) xA s hs⟩)) (h := ?_); rintro _ _ rfl; try simp only [List.cons_append, List.nil_append]) | fail)) | (refine yM ?_; intro _) | (refine yA ?_; intro _ _ _ _) | fail)) | ((with_reducible apply gD); (first | (refine JD_nil ?_; try simp only [List.cons_append, List.nil_append]) | (refine JD_bar ?_; try simp only [List.cons_append, List.nil_append]) | refine yD ?_ | ((with_reducible apply gD_go); (first | (refine JD_goq (usual_s wb l3 8 ad cc q (by decide) (by decide) (by omega) hcl (by omega)) (hφ := (by (try simp only [List.cons_append, List.nil_append]); exact fun w hr => ⟨Src.ar xA w hr, fun s hs => hr.has (φ := fun w => ∀ s ∈ q, bsV w s) xA s hs⟩)) (h := ?_); rintro _ _ rfl; try simp only [List.cons_append, List.nil_append]) | fail)) | (refine yE ?_; intro _) | fail)) | refine yJ ?_ | ((with_reducible apply gJ_if); (first | (refine J_if xR ?_ ?_ <;> intro _ <;> (try (exfalso; first | contradiction | omega))) | (refine J_ifb xR ?_ ?_ <;> (intro hgb; subst hgb)) | (refine J_ifb xR ?_ ?_ <;> intro _) | fail)) | refine J_draw (id := 6) [0, 1, 2, 3, 5, 6, 4, 7, 8] [9] mixed xC xD xD ?_ | fail))
      refine J_end0 rfl fun w H => ⟨_, rfl, ?_⟩
      have e : tlsB (comT d.nf) = putB (fl 8) 8 (catB q) := by
        have : ¬ d.nf.comms.length = 0 := by show ¬ d.comms.length = 0; omega
        unfold comT
        rw [if_neg this, hcat]
        simp [tlsB, tlB, fl, At.nf]
      rw [e]
      exact H.sel xZ
  · refine J_end0 rfl fun w H => ⟨_, rfl, ?_⟩
    have e : tlsB (comT d.nf) = [] := by
      have : d.nf.comms.length = 0 := by show d.comms.length = 0; omega
      unfold comT
      rw [if_pos this]
      rfl
    rw [e, List.append_nil]
    exact H.sel xZ
end Go.Proofs.YtdnokmpnemaoaaaGreat
namespace Go.Proofs.YtdnokmpnemaoaaaGreat
set_option linter.unusedSimpArgs false
set_option linter.unusedVariables false
set_option maxRecDepth 20000
set_option maxHeartbeats 4000000
open Go.RowKit Go.Pm

def oT (o : Int × List Int) : Tl := (224, o.1, o.2)
def attrT (x : Nf) : List Tl := [(64, 1, [x.origin]), (64, 2, pB x.path), (64, 3, num4 x.next)] ++ (medT x ++ atomT x ++ makT x ++ comT x) ++ x.others.map oT
def attrB (x : Nf) : List Int := tlsB (attrT x)
theorem ckO_all : ∀ (l : List (Int × List Int)) (n : Int), ckO l n = true → ∀ o ∈ l, n < o.1 ∧ o.1 ≤ 255 ∧ kno o.1 = false ∧ o.2.length ≤ 255
  | [], _, _, o, ho => absurd ho List.not_mem_nil
  | x :: l, n, h, o, ho => by
    unfold ckO at h
    split at h
    · cases h
    · rename_i hn
      rcases List.mem_cons.1 ho with rfl | ho
      · refine ⟨by omega, by omega, ?_, by omega⟩
        rcases hb : kno o.1 with _ | _
        · rfl
        · exact absurd (.inr (.inr (.inl hb))) hn
      · have := ckO_all l x.1 h o ho
        exact ⟨by omega, this.2⟩
theorem putB_len (f k : Int) (d : List Int) : (putB f k d).length ≤ 4 + d.length := by
  unfold putB
  split <;> simp <;> omega
theorem oT_len (l : List (Int × List Int)) (h : ∀ o ∈ l, o.2.length ≤ 255) : (tlsB (l.map oT)).length ≤ 259 * l.length := by
  induction l with
  | nil => exact Nat.le_refl _
  | cons o l ih =>
    have e : tlsB ((o :: l).map oT) = putB 224 o.1 o.2 ++ tlsB (l.map oT) := rfl
    have h1 := ih (fun x hx => h x (List.mem_cons_of_mem _ hx))
    have h2 := putB_len 224 o.1 o.2
    have h3 := h o (List.mem_cons_self ..)
    rw [e, List.length_append, List.length_cons]
    omega
theorem usual_e (wb : Nat) (l l' : List Int) (k : Int) (a : Option Addr) (c : Nat) (p : List Bs) (D : List Int) (hD : catB p = D) (hl' : l ++ putB (fl k) k D = l') (hk : 0 ≤ k ∧ k ≤ 255) (hkn : kno k = true) (hp : p.length ≤ 1000) (hd : D.length ≤ 65535) (hl : l.length ≤ 1000000000) : Pact Tryz.prog 163 #[.pointer (some ⟨wb, 0, none⟩), .int .i64 k, .slice a p.length c] (fun w => PartsV w a c p) [wrO wb l] (fun u L' => L' = [wrO wb l']) := by
  subst hD hl'
  exact usual_s wb l k a c p hk hkn hp hd hl
theorem perhaps_e (wb : Nat) (l l' : List Int) (d : At) (hd : AtF d) (hl' : l ++ tlsB (medT d.nf ++ atomT d.nf ++ makT d.nf ++ comT d.nf) = l') (hl : l.length ≤ 1000000) : Pact Tryz.prog 165 #[.pointer (some ⟨wb, 0, none⟩), .agg (atC d).toArray, .bool true] (fun w => AtV w d) [wrO wb l] (fun u L' => L' = [wrO wb l']) := by
  subst hl'
  exact perhaps_s wb l d hd hl
theorem put_e (wb : Nat) (l l' : List Int) (f k : Int) (a : Option Addr) (c : Nat) (p : List Bs) (D : List Int) (hD : catB p = D) (hl' : l ++ putB f k D = l') (hk : 0 ≤ k ∧ k ≤ 255) (hp : p.length ≤ 1000) (hd : D.length ≤ 65535) (hl : l.length ≤ 1000000000) : Pact Tryz.prog 167 #[.pointer (some ⟨wb, 0, none⟩), .int .u8 f, .int .i64 k, .slice a p.length c] (fun w => PartsV w a c p) [wrO wb l] (fun u L' => L' = [wrO wb l']) := by
  subst hD hl'
  exact put_s wb l f k a c p hk hp hd hl
theorem partsL {K : Hl} {R R1 R2 : List HP} {w : World} {g n b : Nat} {l : List Int} {cs : List Value} {T T' : TypeId} (hr : Rdw K R w) (t1 : Tk R (pts g [.slice (some ⟨b, 0, none⟩) n n] T) R1) (t2 : Tk R (pts b cs T') R2) (hy : NumsOf cs l) (hn : l.length = n) (hm : Nat.ble n 1000000 = true) : PartsV w (some ⟨g, 0, none⟩) 1 [⟨some ⟨b, 0, none⟩, n, l⟩] := by
  subst hn
  refine ⟨Src.lit (sz := 1) (m := 1) t1 rfl (by decide) w hr, fun s hs => ?_⟩
  obtain rfl := List.mem_singleton.1 hs
  exact Src.nums t2 hy (Nat.beq_refl _) hm w hr
theorem partsK {K : Hl} {R R1 : List HP} {w : World} {g n c : Nat} {a : Option Addr} {l : List Int} {T : TypeId} (hr : Rdw K R w) (t1 : Tk R (pts g [.slice a n c] T) R1) (hv : Vw w (.slice a n c) 1 n (flat byC l)) (hn : l.length = n) : PartsV w (some ⟨g, 0, none⟩) 1 [⟨a, c, l⟩] := by
  subst hn
  refine ⟨Src.lit (sz := 1) (m := 1) t1 rfl (by decide) w hr, fun s hs => ?_⟩
  obtain rfl := List.mem_singleton.1 hs
  exact hv
theorem okN_at {d : At} (h : okN d.nf = true) : (0 ≤ d.origin ∧ d.origin ≤ 2) ∧ ckP (pN d.path) 0 = true ∧ (d.next ≠ 0 ∧ d.next < 3758096384) ∧ (d.hasMaker = true → d.makerAS ≠ 0) ∧ d.comms.length ≤ 32 ∧ d.others.length ≤ 8 ∧ ckO (oN d.others) (-1) = true := by
  rcases Classical.em ((0 ≤ d.origin ∧ d.origin ≤ 2) ∧ ckP (pN d.path) 0 = true ∧ (d.next ≠ 0 ∧ d.next < 3758096384) ∧ (d.hasMaker = true → d.makerAS ≠ 0) ∧ d.comms.length ≤ 32 ∧ d.others.length ≤ 8 ∧ ckO (oN d.others) (-1) = true) with h1 | h1
  · exact h1
  · rw [okN_f h1] at h
    cases h
structure PutR (d : At) (v : Value) (L' : List HP) : Prop where
  ex : ∃ a c l, v = .tuple #[.slice a l.length c, .int .i64 (er (okN d.nf))] ∧ (okN d.nf = true → l = attrB d.nf) ∧ l.length ≤ 1000000 ∧ L' = [Ar 5 1 byC (.slice a l.length c) l]
theorem Put_s (d : At) (hd : AtF d) : Pact Tryz.prog 144 #[.agg (atC d).toArray, .bool true] (fun w => AtV w d) [] (PutR d) := by
  refine pact Tryz.func144 rfl Tryz.ntmps144 rfl ?_
  intro W K hK
  have hck := check_s d hd
  rcases hok : okN d.nf with _ | _
  · rw [hok] at hck
    (repeat' (first | ((with_reducible apply gL); (first | refine yL0 ?_ | refine yL ?_ | ((with_reducible apply gL_go); (first | (refine JL_goq (hck) (hφ := (by (try simp only [List.cons_append, List.nil_append]); exact fun w hr => hK w hr.1)) (h := ?_); rintro _ _ ⟨rfl, rfl⟩; try simp only [List.cons_append, List.nil_append]) | fail)) | (refine yM ?_; intro _) | ((with_reducible apply gL_gd); (first | (refine JL_guard xR xR ?_ ?_ <;> intro _ <;> (try (exfalso; first | contradiction | omega))) | (refine JL_guardb xR xR ?_ ?_ <;> (intro hgb; subst hgb)) | (refine JL_guardb xR xR ?_ ?_ <;> (intro hgb; fail_if_success (have : type_of% hgb := rfl))) | fail)) | fail)) | ((with_reducible apply gD); (first | (refine JD_nil ?_; try simp only [List.cons_append, List.nil_append]) | (refine JD_bar ?_; try simp only [List.cons_append, List.nil_append]) | refine yD ?_ | ((with_reducible apply gD_go); (first | (refine JD_goq (hck) (hφ := (by (try simp only [List.cons_append, List.nil_append]); exact fun w hr => hK w hr.1)) (h := ?_); rintro _ _ ⟨rfl, rfl⟩; try simp only [List.cons_append, List.nil_append]) | fail)) | (refine yE ?_; intro _) | fail)) | refine yJ ?_ | ((with_reducible apply gJ_if); (first | (refine J_if xR ?_ ?_ <;> intro _ <;> (try (exfalso; first | contradiction | omega))) | (refine J_ifb xR ?_ ?_ <;> (intro hgb; subst hgb)) | (refine J_ifb xR ?_ ?_ <;> intro _) | fail)) | refine J_draw (id := 14) [0, 1, 2, 4, 5, 3, 6, 7] [8] mixed xC xD xD ?_ | fail))
    refine J_ret2 rfl (by rfl) (by rfl) fun w H => ⟨_, ⟨none, 0, [], by rw [hok]; rfl, (by rw [hok]; exact fun h => absurd h (by decide)), by simp, rfl⟩, (Ow.arNil (e := 5) (sz := 1) (enc := byC) H).sel xZ⟩
  · rw [hok] at hck
    have hd1 := hd.path
    have hd3 := hd.others
    obtain ⟨⟨ho1, ho2⟩, hcp, _, _, _, _, hco⟩ := okN_at hok
    obtain ⟨hos, h64⟩ := (ckP_iff (pN d.path) 0 (by omega)).1 hcp
    have hall := ckO_all _ _ hco
    have hpl := pB_len (pN d.path)
    have hpn : (pN d.path).length = d.path.length := by simp [pN]
    obtain ⟨Pb, hPb⟩ : ∃ Pb, pB (pN d.path) = Pb := ⟨_, rfl⟩
    have hpp := pPut_s d.pa d.pc d.path (by omega) hd.num.path hcp
    rw [hPb] at hpl hpp
    have hpl2 : Pb.length ≤ 300 := by omega
    have hov : Kn K (fun w => Vw w (.slice d.oa d.others.length d.oc) 2 d.others.length (flat rwC d.others)) := hK.imp fun _ h => h.others.vw
    obtain ⟨l1, hl1⟩ : ∃ l1, [] ++ putB (fl 1) 1 [d.origin] = l1 := ⟨_, rfl⟩
    obtain ⟨l2, hl2⟩ : ∃ l2, l1 ++ putB (fl 2) 2 Pb = l2 := ⟨_, rfl⟩
    obtain ⟨l3, hl3⟩ : ∃ l3, l2 ++ putB (fl 3) 3 (num4 d.next) = l3 := ⟨_, rfl⟩
    obtain ⟨l4, hl4⟩ : ∃ l4, l3 ++ tlsB (medT d.nf ++ atomT d.nf ++ makT d.nf ++ comT d.nf) = l4 := ⟨_, rfl⟩
    have hn1 : l1.length ≤ 5 := by rw [← hl1, List.nil_append]; exact putB_len _ _ _
    have hn2 : l2.length ≤ 400 := by have := putB_len (fl 2) 2 Pb; rw [← hl2, List.length_append]; omega
    have hn3 : l3.length ≤ 500 := by have := putB_len (fl 3) 3 (num4 d.next); rw [← hl3, List.length_append]; have : (num4 d.next).length = 4 := rfl; omega
    have hn4 : l4.length ≤ 2000 := by
      have h1 := medT_len d.nf
      have h2 := atomT_len d.nf
      have h3 := makT_len d.nf
      have h4 : (tlsB (comT d.nf)).length ≤ 200 := by
        unfold comT
        split
        · exact Nat.zero_le _
        · have : tlsB [((192 : Int), (8 : Int), asB d.nf.comms)] = putB 192 8 (asB d.nf.comms) ++ [] := rfl
          have h5 := putB_len 192 8 (asB d.nf.comms)
          have h6 := asB_len d.nf.comms
          have h7 : d.nf.comms.length ≤ 40 := hd.comms
          rw [this, List.append_nil]
          omega
      rw [← hl4]
      simp only [tlsB_append, List.length_append]
      omega
    (repeat' (first | ((with_reducible apply gL); (first | refine yL0 ?_ | refine yL ?_ | ((with_reducible apply gL_go); (first | (refine JL_goq (hck) (hφ := (by (try simp only [List.cons_append, List.nil_append]); exact fun w hr => hK w hr.1)) (h := ?_); rintro _ _ ⟨rfl, rfl⟩; try simp only [List.cons_append, List.nil_append]) | (refine JL_goq (hpp) (hφ := (by (try simp only [List.cons_append, List.nil_append]); exact fun w hr => (hK w hr.1).path)) (h := ?_); rintro _ _ ⟨a1, c1, rfl, rfl⟩; try simp only [List.cons_append, List.nil_append]) | fail)) | (refine yM ?_; intro _) | ((with_reducible apply gL_gd); (first | (refine JL_guard xR xR ?_ ?_ <;> intro _ <;> (try (exfalso; first | contradiction | omega))) | (refine JL_guardb xR xR ?_ ?_ <;> (intro hgb; subst hgb)) | (refine JL_guardb xR xR ?_ ?_ <;> (intro hgb; fail_if_success (have : type_of% hgb := rfl))) | fail)) | fail)) | ((with_reducible apply gD); (first | (refine JD_nil ?_; try simp only [List.cons_append, List.nil_append]) | (refine JD_bar ?_; try simp only [List.cons_append, List.nil_append]) | refine yD ?_ | ((with_reducible apply gD_go); (first | (refine JD_goq (hck) (hφ := (by (try simp only [List.cons_append, List.nil_append]); exact fun w hr => hK w hr.1)) (h := ?_); rintro _ _ ⟨rfl, rfl⟩; try simp only [List.cons_append, List.nil_append]) | (refine JD_goq (hpp) (hφ := (by (try simp only [List.cons_append, List.nil_append]); exact fun w hr => (hK w hr.1).path)) (h := ?_); rintro _ _ ⟨a1, c1, rfl, rfl⟩; try simp only [List.cons_append, List.nil_append]) | fail)) | (refine yE ?_; intro _) | fail)) | refine yJ ?_ | ((with_reducible apply gJ_if); (first | (refine J_if xR ?_ ?_ <;> intro _ <;> (try (exfalso; first | contradiction | omega))) | (refine J_ifb xR ?_ ?_ <;> (intro hgb; subst hgb)) | (refine J_ifb xR ?_ ?_ <;> intro _) | fail)) | refine J_draw (id := 14) [0, 1, 2, 4, 5, 3, 6, 7] [8] mixed xC xD xD ?_ | fail))
    rename_i b0 wb _ _
    refine JL_heap (fun w H => wrShut (l := []) (Ow.arNil (e := 5) (sz := 1) (enc := byC) H) xZ rfl) ?_
    (repeat' (first | ((with_reducible apply gL); (first | refine yL0 ?_ | refine yL ?_ | ((with_reducible apply gL_go); (first | (refine JL_goq (usual_e wb [] l1 1 _ 1 [⟨some ⟨_, 0, none⟩, 1, [d.origin]⟩] [d.origin] rfl hl1 (by decide) (by decide) (by simp) (by simp) (by simp)) (hφ := (by (try simp only [List.cons_append, List.nil_append]); exact fun w hr => partsL (n := 1) hr xA xA (.cons .nil) rfl rfl)) (h := ?_); rintro _ _ rfl; try simp only [List.cons_append, List.nil_append]) | (refine JL_goq (usual_e wb l1 l2 2 _ 1 [⟨a1, c1, Pb⟩] Pb (by simp [catB]) hl2 (by decide) (by decide) (by simp) (by omega) (by omega)) (hφ := (by (try simp only [List.cons_append, List.nil_append]); exact fun w hr => parts1 (n := Pb.length) hr xA xA rfl)) (h := ?_); rintro _ _ rfl; try simp only [List.cons_append, List.nil_append]) | (refine JL_goq (num_s d.next hd.num.next) (hφ := xF) (h := ?_); rintro _ _ ⟨b4, rfl, rfl⟩; try simp only [List.cons_append, List.nil_append]) | (refine JL_goq (usual_e wb l2 l3 3 _ 1 [⟨some ⟨b4, 0, none⟩, 4, num4 d.next⟩] (num4 d.next) (by simp [catB]) hl3 (by decide) (by decide) (by simp) (by simp [num4]) (by omega)) (hφ := (by (try simp only [List.cons_append, List.nil_append]); exact fun w hr => parts1 (n := 4) hr xA xA rfl)) (h := ?_); rintro _ _ rfl; try simp only [List.cons_append, List.nil_append]) | (refine JL_goq (perhaps_e wb l3 l4 d hd hl4 (by omega)) (hφ := (by (try simp only [List.cons_append, List.nil_append]); exact fun w hr => hK w hr.1)) (h := ?_); rintro _ _ rfl; try simp only [List.cons_append, List.nil_append]) | fail)) | (refine yM ?_; intro _) | ((with_reducible apply gL_gd); (first | (refine JL_guard xR xR ?_ ?_ <;> intro _ <;> (try (exfalso; first | contradiction | omega))) | (refine JL_guardb xR xR ?_ ?_ <;> (intro hgb; subst hgb)) | (refine JL_guardb xR xR ?_ ?_ <;> (intro hgb; fail_if_success (have : type_of% hgb := rfl))) | fail)) | fail)) | ((with_reducible apply gD); (first | (refine JD_nil ?_; try simp only [List.cons_append, List.nil_append]) | (refine JD_bar ?_; try simp only [List.cons_append, List.nil_append]) | refine yD ?_ | ((with_reducible apply gD_go); (first | (refine JD_goq (usual_e wb [] l1 1 _ 1 [⟨some ⟨_, 0, none⟩, 1, [d.origin]⟩] [d.origin] rfl hl1 (by decide) (by decide) (by simp) (by simp) (by simp)) (hφ := (by (try simp only [List.cons_append, List.nil_append]); exact fun w hr => partsL (n := 1) hr xA xA (.cons .nil) rfl rfl)) (h := ?_); rintro _ _ rfl; try simp only [List.cons_append, List.nil_append]) | (refine JD_goq (usual_e wb l1 l2 2 _ 1 [⟨a1, c1, Pb⟩] Pb (by simp [catB]) hl2 (by decide) (by decide) (by simp) (by omega) (by omega)) (hφ := (by (try simp only [List.cons_append, List.nil_append]); exact fun w hr => parts1 (n := Pb.length) hr xA xA rfl)) (h := ?_); rintro _ _ rfl; try simp only [List.cons_append, List.nil_append]) | (refine JD_goq (num_s d.next hd.num.next) (hφ := xF) (h := ?_); rintro _ _ ⟨b4, rfl, rfl⟩; try simp only [List.cons_append, List.nil_append]) | (refine JD_goq (usual_e wb l2 l3 3 _ 1 [⟨some ⟨b4, 0, none⟩, 4, num4 d.next⟩] (num4 d.next) (by simp [catB]) hl3 (by decide) (by decide) (by simp) (by simp [num4]) (by omega)) (hφ := (by (try simp only [List.cons_append, List.nil_append]); exact fun w hr => parts1 (n := 4) hr xA xA rfl)) (h := ?_); rintro _ _ rfl; try simp only [List.cons_append, List.nil_append]) | (refine JD_goq (perhaps_e wb l3 l4 d hd hl4 (by omega)) (hφ := (by (try simp only [List.cons_append, List.nil_append]); exact fun w hr => hK w hr.1)) (h := ?_); rintro _ _ rfl; try simp only [List.cons_append, List.nil_append]) | fail)) | (refine yE ?_; intro _) | fail)) | refine yJ ?_ | ((with_reducible apply gJ_if); (first | (refine J_if xR ?_ ?_ <;> intro _ <;> (try (exfalso; first | contradiction | omega))) | (refine J_ifb xR ?_ ?_ <;> (intro hgb; subst hgb)) | (refine J_ifb xR ?_ ?_ <;> intro _) | fail)) | refine J_draw (id := 14) [0, 1, 2, 4, 5, 3, 6, 7] [8] mixed xC xD xD ?_ | fail))
    refine J_loop (α := Nat) 0 (fun x => d.others.length - x) (fun x => x ≤ d.others.length) (fun x => [(7, .pointer (some ⟨wb, 0, none⟩)), (85, .slice d.oa d.others.length d.oc), (86, .int .i64 d.others.length), (87, .int .i64 x)]) (fun x => [wrO wb (l4 ++ tlsB ((oN (d.others.take x)).map oT))]) (Nat.zero_le _) ⟨rfl, rfl, rfl, rfl, trivial⟩ (fun w H => by simp only [List.take_zero, oN, List.map_nil, tlsB, List.flatMap_nil, List.append_nil]; exact H.sel xZ) ?_
    intro k hk
    have hlk : ∀ j, (l4 ++ tlsB ((oN (d.others.take j)).map oT)).length ≤ 10000 := by
      intro j
      have h1 := oT_len (oN (d.others.take j)) (fun o ho => (hall o (by
        obtain ⟨r, hr, rfl⟩ := List.mem_map.1 ho
        exact List.mem_map.2 ⟨r, List.take_subset _ _ hr, rfl⟩)).2.2.2)
      have h2 : (oN (d.others.take j)).length ≤ 9 := by simp only [oN, List.length_map, List.length_take]; omega
      rw [List.length_append]
      omega
    obtain ⟨lk, hlke⟩ : ∃ lk, l4 ++ tlsB ((oN (d.others.take k)).map oT) = lk := ⟨_, rfl⟩
    have hlk1 := hlk k
    rw [hlke] at hlk1 ⊢
    by_cases hlt : k < d.others.length
    · obtain ⟨s, hs⟩ : ∃ s, d.others[k]? = some s := ⟨_, List.getElem?_eq_getElem hlt⟩
      have hm := List.mem_of_getElem? hs
      have hsn1 := (hd.num.others s hm).2.1
      obtain ⟨hk1, hk2, _, hk3⟩ := hall (s.kind, s.data) (List.mem_map.2 ⟨s, hm, rfl⟩)
      dsimp only at hk1 hk2 hk3
      have hu : Kn K (fun w => Vw w (.slice s.a s.data.length s.c) 1 s.data.length (flat byC s.data)) := hK.imp fun _ h => h.others.raws s hm
      have he : lk ++ putB 224 s.kind s.data = l4 ++ tlsB ((oN (d.others.take (k + 1))).map oT) := by
        rw [← hlke, take_snoc hs]
        simp [oN, tlsB, tlB, oT]
      (repeat' (first | ((with_reducible apply gL); (first | refine yL0 ?_ | refine yL ?_ | ((with_reducible apply gL_go); (first | (refine JL_goq (put_e wb lk _ 224 s.kind _ 1 [⟨s.a, s.c, s.data⟩] s.data (by simp [catB]) he (by omega) (by simp) (by omega) (by omega)) (hφ := (by (try simp only [List.cons_append, List.nil_append]); exact fun w hr => partsK (n := s.data.length) hr xA (hu w hr.1) rfl)) (h := ?_); rintro _ _ rfl; try simp only [List.cons_append, List.nil_append]) | fail)) | (refine yM ?_; intro _) | ((with_reducible apply gL_gd); (first | (refine JL_guard xR xR ?_ ?_ <;> intro _ <;> (try (exfalso; first | contradiction | omega))) | (refine JL_guardb xR xR ?_ ?_ <;> (intro hgb; subst hgb)) | (refine JL_guardb xR xR ?_ ?_ <;> (intro hgb; fail_if_success (have : type_of% hgb := rfl))) | fail)) | fail)) | ((with_reducible apply gD); (first | (refine JD_nil ?_; try simp only [List.cons_append, List.nil_append]) | (refine JD_bar ?_; try simp only [List.cons_append, List.nil_append]) | refine yD ?_ | ((with_reducible apply gD_go); (first | (refine JD_goq (put_e wb lk _ 224 s.kind _ 1 [⟨s.a, s.c, s.data⟩] s.data (by simp [catB]) he (by omega) (by simp) (by omega) (by omega)) (hφ := (by (try simp only [List.cons_append, List.nil_append]); exact fun w hr => partsK (n := s.data.length) hr xA (hu w hr.1) rfl)) (h := ?_); rintro _ _ rfl; try simp only [List.cons_append, List.nil_append]) | fail)) | (refine yE ?_; intro _) | fail)) | refine yJ ?_ | ((with_reducible apply gJ_if); (first | (refine J_if xR ?_ ?_ <;> intro _ <;> (try (exfalso; first | contradiction | omega))) | (refine J_ifb xR ?_ ?_ <;> (intro hgb; subst hgb)) | (refine J_ifb xR ?_ ?_ <;> intro _) | fail)) | refine J_draw (id := 14) [0, 1, 2, 4, 5, 3, 6, 7] [8] mixed xC xD xD ?_ | fail))
      exact J_again (k + 1) (by omega) (by omega) ⟨rfl, rfl, rfl, rfl, trivial⟩ (fun w H => H.sel xZ)
    · have hke : k = d.others.length := by omega
      have hl : lk = attrB d.nf := by
        rw [← hlke, hke, List.take_length, ← hl4, ← hl3, ← hl2, ← hl1, ← hPb]
        unfold attrB attrT
        simp only [tlsB_append, List.append_assoc]
        simp [tlsB, tlB, fl, At.nf]
      refine J_open (fun w H => wrOpen H .here) ?_
      rintro ⟨ad, cc⟩
      dsimp only
      (repeat' (first | ((with_reducible apply gL); (first | refine yL0 ?_ | refine yL ?_ | (refine yM ?_; intro _) | ((with_reducible apply gL_gd); (first | (refine JL_guard xR xR ?_ ?_ <;> intro _ <;> (try (exfalso; first | contradiction | omega))) | (refine JL_guardb xR xR ?_ ?_ <;> (intro hgb; subst hgb)) | (refine JL_guardb xR xR ?_ ?_ <;> (intro hgb; fail_if_success (have : type_of% hgb := rfl))) | fail)) | fail)) | ((with_reducible apply gD); (first | (refine JD_nil ?_; try simp only [List.cons_append, List.nil_append]) | (refine JD_bar ?_; try simp only [List.cons_append, List.nil_append]) | refine yD ?_ | (refine yE ?_; intro _) | fail)) | refine yJ ?_ | ((with_reducible apply gJ_if); (first | (refine J_if xR ?_ ?_ <;> intro _ <;> (try (exfalso; first | contradiction | omega))) | (refine J_ifb xR ?_ ?_ <;> (intro hgb; subst hgb)) | (refine J_ifb xR ?_ ?_ <;> intro _) | fail)) | refine J_draw (id := 14) [0, 1, 2, 4, 5, 3, 6, 7] [8] mixed xC xD xD ?_ | fail))
      exact J_ret2 rfl (by rfl) (by rfl) fun w H => ⟨_, ⟨ad, cc, lk, by rw [hok]; rfl, fun _ => hl, by omega, rfl⟩, H.sel xZ⟩
def locB (x : Nf) : List Int := match x.loc with | none => [0] | some n => num4 n ++ [1]
def keyB (x : Nf) : List Int := attrB x ++ locB x
theorem locB_t {d : At} (h : d.hasLocal = true) : locB d.nf = num4 d.loc ++ [1] := by simp [locB, At.nf, h]
theorem locB_f {d : At} (h : d.hasLocal = false) : locB d.nf = [0] := by simp [locB, At.nf, h]
theorem keyOf_s (d : At) (hd : AtF d) : Pact Tryz.prog 109 #[.agg (atC d).toArray] (fun w => AtV w d) [] (fun u L' => ∃ k, u = .tuple #[.string k, .int .i64 (er (okN d.nf))] ∧ (okN d.nf = true → k = strOfNums (keyB d.nf)) ∧ L' = []) := by
  refine pact Tryz.func109 rfl Tryz.ntmps109 rfl ?_
  intro W K hK
  obtain ⟨hc0, hc1⟩ := hd.num.loc
  (repeat' (first | ((with_reducible apply gL); (first | refine yL0 ?_ | ((with_reducible apply gL_c_append); (first | (refine JL_apN (tabE etab_ok xR) xR xR xA xA (by first | exact .cons (.cons (.cons (.cons (.cons .nil)))) | exact .cons .nil) rfl rfl xC (by omega) xR xR ?_; intro ad4 cc4 _ _) | fail)) | ((with_reducible apply gL_convert); (first | (refine JL_p rfl xR xR (pe_str xR xC xC (Src.ar xA)) ?_) | fail)) | refine yL ?_ | ((with_reducible apply gL_go); (first | (refine JL_goq (Put_s d hd) (hφ := (by (try simp only [List.cons_append, List.nil_append]); exact fun w hr => hK w hr.1)) (h := ?_); rintro _ _ ⟨a1, c1, l, rfl, hl, hl2, rfl⟩; try simp only [List.cons_append, List.nil_append]) | fail)) | (refine yM ?_; intro _) | (refine yA ?_; intro _ _ _ _) | fail)) | refine yJ ?_ | ((with_reducible apply gJ_if); (first | (refine J_if xR ?_ ?_ <;> intro _ <;> (try (exfalso; first | contradiction | omega))) | (refine J_ifb xR ?_ ?_ <;> (intro hgb; subst hgb)) | (refine J_ifb xR ?_ ?_ <;> intro _) | fail)) | fail))
  · rename_i hb _ _ _
    refine J_ret2 rfl (by rfl) (by rfl) fun w H => ⟨_, ⟨_, rfl, fun h => ?_, rfl⟩, H.sel .nil⟩
    rw [hl h]
    unfold keyB
    rw [locB_t hb]
    rfl
  · rename_i hb _ _ _
    refine J_ret2 rfl (by rfl) (by rfl) fun w H => ⟨_, ⟨_, rfl, fun h => ?_, rfl⟩, H.sel .nil⟩
    rw [hl h]
    unfold keyB
    rw [locB_f hb]
end Go.Proofs.YtdnokmpnemaoaaaGreat
